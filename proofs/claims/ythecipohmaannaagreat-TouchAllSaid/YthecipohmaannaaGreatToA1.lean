/-
  What is proved here: part 1 of the road to the claim (Par, Par1, Par2, Par3, Step, Wp, Types, Mir, MirTree, MirFlat, Nums, Codes0, Have0, Codes1, Have1, Codes2, Have2, Codes3, Have3).
  No conditions.
-/
import Derived.Test.YthecipohmaannaaGreatToA0
import Derived.Attr
import Derived.Test.YthecipohmaannaaGreatProg
import Derived.KernelRfl

set_option linter.unusedSimpArgs false
set_option linter.unusedVariables false

/-! Par -/

namespace Go.Abs
theorem X.bH {x:X} {tm bA:Tm} (h : ∀ t∈x.reads,tm.get t=bA.get t):x.ev tm=x.ev bA:=by
 cases x with
 | s t=>exact h t (by simp [X.reads])
 | k d=>rfl
theorem oi {t:Nat} {x:X} : ∀ {l:List X},x∈l→t∈x.reads→t∈la l
 | [],h,_=>by cases h
 | y::r,h,ht=>by
  simp only [la,List.mem_append]
  rcases List.mem_cons.1 h with rfl | h
  ·exact .inl ht
  ·exact .inr (oi h ht)
theorem rS {x:Option X} {tm bA:Tm} (h : ∀ t∈ve x,tm.get t=bA.get t):x.map (·.ev tm)=x.map (·.ev bA):=by
 cases x with
 | none=>rfl
 | some y=>simp only [Option.map_some];rw [X.bH h]
theorem w7 {o:AO} {tm bA:Tm} {s:St} (h : ∀ t∈o.reads,tm.get t=bA.get t):aN o tm s=aN o bA s:=by
 cases o with
 | mv x=>
  have hx:x.ev tm=x.ev bA:=X.bH fun t ht=>h t (by simp [AO.reads,ht])
  simp only [aN,hx]
 | pick c a b=>
  have hc:c.ev tm=c.ev bA:=X.bH fun t ht=>h t (by simp [AO.reads,ht])
  have ha:a.ev tm=a.ev bA:=X.bH fun t ht=>h t (by simp [AO.reads,ht])
  have hb:b.ev tm=b.ev bA:=X.bH fun t ht=>h t (by simp [AO.reads,ht])
  simp only [aN,hc,ha,hb]
 | alloc z=>
  rfl
 | pL z T=>rfl
 | va x T=>
  have hx:x.ev tm=x.ev bA:=X.bH fun t ht=>h t (by simp [AO.reads,ht])
  simp only [aN,hx]
 | vb x y=>
  have hx:x.ev tm=x.ev bA:=X.bH fun t ht=>h t (by simp [AO.reads,ht])
  have hy:y.ev tm=y.ev bA:=X.bH fun t ht=>h t (by simp [AO.reads,ht])
  simp only [aN,hx,hy]
 | apps x y=>
  have hx:x.ev tm=x.ev bA:=X.bH fun t ht=>h t (by simp [AO.reads,ht])
  have hy:y.ev tm=y.ev bA:=X.bH fun t ht=>h t (by simp [AO.reads,ht])
  simp only [aN,hx,hy]
 | box x=>
  have hx:x.ev tm=x.ev bA:=X.bH fun t ht=>h t (by simp [AO.reads,ht])
  simp only [aN,hx]
 | u9 x=>
  have hx:x.ev tm=x.ev bA:=X.bH fun t ht=>h t (by simp [AO.reads,ht])
  simp only [aN,hx]
 | load x g n=>
  have hx:x.ev tm=x.ev bA:=X.bH fun t ht=>h t (by simp [AO.reads,ht])
  simp only [aN,hx]
 | store p x n=>
  have hp:p.ev tm=p.ev bA:=X.bH fun t ht=>h t (by simp [AO.reads,ht])
  have hx:x.ev tm=x.ev bA:=X.bH fun t ht=>h t (by simp [AO.reads,ht])
  simp only [aN,hp,hx]
 | gT x=>
  have hx:x.ev tm=x.ev bA:=X.bH fun t ht=>h t (by simp [AO.reads,ht])
  simp only [aN,hx]
 | bin op x y=>
  have hx:x.ev tm=x.ev bA:=X.bH fun t ht=>h t (by simp [AO.reads,ht])
  have hy:y.ev tm=y.ev bA:=X.bH fun t ht=>h t (by simp [AO.reads,ht])
  simp only [aN,hx,hy]
 | x4 n x y=>
  have hx:x.ev tm=x.ev bA:=X.bH fun t ht=>h t (by simp [AO.reads,ht])
  have hy:y.ev tm=y.ev bA:=X.bH fun t ht=>h t (by simp [AO.reads,ht])
  simp only [aN,hx,hy]
 | eqs n ks x y=>
  have hx:x.ev tm=x.ev bA:=X.bH fun t ht=>h t (by simp [AO.reads,ht])
  have hy:y.ev tm=y.ev bA:=X.bH fun t ht=>h t (by simp [AO.reads,ht])
  simp only [aN,hx,hy]
 | B1 n x y=>
  have hx:x.ev tm=x.ev bA:=X.bH fun t ht=>h t (by simp [AO.reads,ht])
  have hy:y.ev tm=y.ev bA:=X.bH fun t ht=>h t (by simp [AO.reads,ht])
  simp only [aN,hx,hy]
 | un op x=>
  have hx:x.ev tm=x.ev bA:=X.bH fun t ht=>h t (by simp [AO.reads,ht])
  simp only [aN,hx]
 | conv k x=>
  have hx:x.ev tm=x.ev bA:=X.bH fun t ht=>h t (by simp [AO.reads,ht])
  simp only [aN,hx]
 | x5 x=>
  have hx:x.ev tm=x.ev bA:=X.bH fun t ht=>h t (by simp [AO.reads,ht])
  simp only [aN,hx]
 | sW x=>
  have hx:x.ev tm=x.ev bA:=X.bH fun t ht=>h t (by simp [AO.reads,ht])
  simp only [aN,hx]
 | aw x n=>
  have hx:x.ev tm=x.ev bA:=X.bH fun t ht=>h t (by simp [AO.reads,ht])
  simp only [aN,hx]
 | x6 x n g m=>
  have hx:x.ev tm=x.ev bA:=X.bH fun t ht=>h t (by simp [AO.reads,ht])
  simp only [aN,hx]
 | bM x i n=>
  have hx:x.ev tm=x.ev bA:=X.bH fun t ht=>h t (by simp [AO.reads,ht])
  have hi:i.ev tm=i.ev bA:=X.bH fun t ht=>h t (by simp [AO.reads,ht])
  simp only [aN,hx,hi]
 | qU x i=>
  have hx:x.ev tm=x.ev bA:=X.bH fun t ht=>h t (by simp [AO.reads,ht])
  have hi:i.ev tm=i.ev bA:=X.bH fun t ht=>h t (by simp [AO.reads,ht])
  simp only [aN,hx,hi]
 | ext x i=>
  have hx:x.ev tm=x.ev bA:=X.bH fun t ht=>h t (by simp [AO.reads,ht])
  simp only [aN,hx]
 | len x=>
  have hx:x.ev tm=x.ev bA:=X.bH fun t ht=>h t (by simp [AO.reads,ht])
  simp only [aN,hx]
 | oX x=>
  have hx:x.ev tm=x.ev bA:=X.bH fun t ht=>h t (by simp [AO.reads,ht])
  simp only [aN,hx]
 | app a b x y=>
  have hx:x.ev tm=x.ev bA:=X.bH fun t ht=>h t (by simp [AO.reads,ht])
  have hy:y.ev tm=y.ev bA:=X.bH fun t ht=>h t (by simp [AO.reads,ht])
  simp only [aN,hx,hy]
 | mm b x y=>
  have hx:x.ev tm=x.ev bA:=X.bH fun t ht=>h t (by simp [AO.reads,ht])
  have hy:y.ev tm=y.ev bA:=X.bH fun t ht=>h t (by simp [AO.reads,ht])
  simp only [aN,hx,hy]
 | build z ps=>
  have hp:(ps.map fun p=>(p.1,p.2.1,p.2.2.ev tm))=ps.map fun p=>(p.1,p.2.1,p.2.2.ev bA):=List.map_congr_left fun p hp=>by
   have:p.2.2.ev tm=p.2.2.ev bA:=X.bH fun t ht=>h t (by simp only [AO.reads];exact oi (List.mem_map_of_mem hp) ht)
   rw [this]
  simp only [aN,hp]
 | cR z m n ps=>
  have hp:(ps.map fun p=>(p.1,p.2.ev tm))=ps.map fun p=>(p.1,p.2.ev bA):=List.map_congr_left fun p hp=>by
   have:p.2.ev tm=p.2.ev bA:=X.bH fun t ht=>h t (by simp only [AO.reads];exact oi (List.mem_map_of_mem hp) ht)
   rw [this]
  simp only [aN,hp]
 | qT z m n ps=>
  have hp:(ps.map fun p=>(p.1,p.2.ev tm))=ps.map fun p=>(p.1,p.2.ev bA):=List.map_congr_left fun p hp=>by
   have:p.2.ev tm=p.2.ev bA:=X.bH fun t ht=>h t (by simp only [AO.reads];exact oi (List.mem_map_of_mem hp) ht)
   rw [this]
  simp only [aN,hp]
 | B2 n x lo hi=>
  have hx:x.ev tm=x.ev bA:=X.bH fun t ht=>h t (by simp [AO.reads,ht])
  have hl:lo.map (·.ev tm)=lo.map (·.ev bA):=rS fun t ht=>h t (by simp [AO.reads,ht])
  have hh:hi.map (·.ev tm)=hi.map (·.ev bA):=rS fun t ht=>h t (by simp [AO.reads,ht])
  simp only [aN,hx,hl,hh]
 | B3 x lo hi=>
  have hx:x.ev tm=x.ev bA:=X.bH fun t ht=>h t (by simp [AO.reads,ht])
  have hl:lo.map (·.ev tm)=lo.map (·.ev bA):=rS fun t ht=>h t (by simp [AO.reads,ht])
  have hh:hi.map (·.ev tm)=hi.map (·.ev bA):=rS fun t ht=>h t (by simp [AO.reads,ht])
  simp only [aN,hx,hl,hh]
 | qD f xs=>
  have hp:(xs.map fun x=>x.ev tm)=xs.map fun x=>x.ev bA:=List.map_congr_left fun x hx=>X.bH fun t ht=>h t (by simp only [AO.reads];exact oi hx ht)
  simp only [aN,hp]
 | rH=>rfl
 | vd m k v=>
  have hm:m.ev tm=m.ev bA:=X.bH fun t ht=>h t (by simp [AO.reads,ht])
  have hk:k.ev tm=k.ev bA:=X.bH fun t ht=>h t (by simp [AO.reads,ht])
  have hv:v.ev tm=v.ev bA:=X.bH fun t ht=>h t (by simp [AO.reads,ht])
  simp only [aN,hm,hk,hv]
 | tA m k z=>
  have hm:m.ev tm=m.ev bA:=X.bH fun t ht=>h t (by simp [AO.reads,ht])
  have hk:k.ev tm=k.ev bA:=X.bH fun t ht=>h t (by simp [AO.reads,ht])
  simp only [aN,hm,hk]
theorem D1 {o:AO} (ho:fv o.kind=false) {tm:Tm} {s s':St} {d:D} (h:aN o tm s=some (d,s')):s'=s:=by
 cases o <;> simp only [AO.kind,fv]at ho <;> first | cases ho | skip
 all_goals
  simp only [aN]at h
  first
   | (cases h;rfl)
   | (repeat' (split at h)) <;> first | (cases h;rfl) | cases h
theorem FI {o:AO} (ho:o.kind = .pure) {tm:Tm} {s s':St} : (aN o tm s).map (·.1)=(aN o tm s').map (·.1):=by
 cases o <;> simp only [AO.kind]at ho <;> first | cases ho | skip
 all_goals
  simp only [aN]
  first
   | rfl
   | (repeat' split) <;> rfl
def gY (ai:AI) (tm:Tm) (s:St):Option D:=
 match ai with
 | .op _ none o=>(aN o tm s).map (·.1)
 | .op _ (some (t,want)) o=>
  match tm.get t with
  | .bool b=>if b=want then(aN o tm s).map (·.1)else some (.tuple [])
  | .tuple _=>some (.tuple [])
  | _=>none
 | _=>none
def px (P:Program) (ai:AI) (tm:Tm) (s:St) (d:D) (s':St):Prop:=
 match ai with
 | .op _ g o=>guarded g tm (aN o tm s=some (d,s')) (d = .tuple []∧s'=s)
 | .call _ g f xs=>guarded g tm (ef P f (xs.map (·.ev tm)) s fun x y=>x=d∧y=s') (d = .tuple []∧s'=s)
 | .nil .. =>False
 | .gC .. =>False
def iR (P:Program) (is:List AI) (K:Tm→St→Prop):List (Nat×Nat)→List St→Tm→St→Prop
 | [],_,tm,s=>K tm s
 | (q,b)::r,bn,tm,s=>
  match is[q]? with
  | none=>False
  | some ai=>
   match fv ai.kind with
   | true=>∃ d s',px P ai tm s d s'∧iR P is K r (s::bn) (tm.put ai.dst d) s'
   | false=>∃ d,gY ai tm s=some d∧(ai.kind = .load→∀ s'∈bn.take b,gY ai tm s'=some d)∧iR P is K r bn (tm.put ai.dst d) s
def Tm.eqv (a b:Tm):Prop:=∀ t,a.get t=b.get t
theorem Tm.jj (tm:Tm) (dst:Option Nat) (d:D) (t:Nat):(tm.put dst d).get t=if dst=some t then d else tm.get t:=by
 cases dst with
 | none=>simp [Tm.put]
 | some u=>
  simp only [Tm.put,Tm.zq,Option.some.injEq]
  by_cases h:t=u
  ·subst h;simp
  ·rw [if_neg h,if_neg (fun e=>h e.symm)]
theorem Tm.eqv.put {a b:Tm} (h:a.eqv b) (dst:Option Nat) (d:D):(a.put dst d).eqv (b.put dst d):=fun t=>by
 rw [Tm.jj,Tm.jj,h t]
theorem Tm.Cv (tm:Tm) {x y:Option Nat} (h : ∀ t,x=some t→y≠some t) (d e:D):((tm.put x d).put y e).eqv ((tm.put y e).put x d):=fun t=>by
 simp only [Tm.jj]
 by_cases h1:x=some t
 ·simp only [h1,h t h1,if_true,if_false]
 ·simp only [h1,if_false]
theorem uE {g:Option (Nat×Bool)} {tm bA:Tm} {A A' C:Prop} (h : ∀ t∈qV g,tm.get t=bA.get t) (ha:A→A') (hh:guarded g tm A C):guarded g bA A' C:=by
 cases g with
 | none=>exact ha hh
 | some p=>
  obtain⟨t,want⟩:=p
  unfold guarded at *
  simp only at *
  rw [← h t (by simp [qV])]
  split
  ·rename_i b hb
   rw [hb]at hh
   exact⟨fun e=>ha (hh.1 e),hh.2⟩
  ·rename_i hb
   rw [hb]at hh
   exact hh
  ·rename_i x h1 h2
   split at hh
   ·exact h1 _ ‹_›
   ·exact h2 _ ‹_›
   ·exact hh
theorem AG {tm bA:Tm} : ∀ {l:List X},(∀ t∈la l,tm.get t=bA.get t)→l.map (·.ev tm)=l.map (·.ev bA)
 | [],_=>rfl
 | x::r,h=>by
  simp only [List.map_cons]
  rw [X.bH fun t ht=>h t (by simp [la,ht]),AG (l:=r) fun t ht=>h t (by simp [la,ht])]
theorem sE {P:Program} {ai:AI} {tm bA:Tm} {s s':St} {d:D} (h : ∀ t∈ai.reads,tm.get t=bA.get t) (hh:px P ai tm s d s'):px P ai bA s d s':=by
 cases ai with
 | op dst g o=>
  simp only [AI.reads,List.mem_append]at h
  exact uE (fun t ht=>h t (.inl ht)) (fun e=>by rw [← w7 fun t ht=>h t (.inr ht)];exact e) hh
 | call dst g f xs=>
  simp only [AI.reads,List.mem_append]at h
  exact uE (fun t ht=>h t (.inl ht)) (fun e=>by rw [← AG fun t ht=>h t (.inr ht)];exact e) hh
 | nil dst g n x=>exact hh
 | gC dst g t xs=>exact hh
theorem n3 {ai:AI} {tm bA:Tm} {s:St} (h : ∀ t∈ai.reads,tm.get t=bA.get t):gY ai tm s=gY ai bA s:=by
 cases ai with
 | op dst g o=>
  simp only [AI.reads,List.mem_append]at h
  have he:=w7 (s:=s) fun t ht=>h t (.inr ht)
  cases g with
  | none=>simp only [gY,he]
  | some p=>
   obtain⟨t,want⟩:=p
   simp only [gY,he,h t (.inl (by simp [qV]))]
 | call dst g f xs=>rfl
 | nil dst g n x=>rfl
 | gC dst g t xs=>rfl
theorem EL {dst:Option Nat} {g:Option (Nat×Bool)} {o:AO} (h:fv (AI.op dst g o).kind=false):(AI.op dst g o).kind=o.kind:=by
 unfold AI.kind at *
 split at h
 ·cases h
 ·rename_i heq;cases heq;rfl
 ·cases h
theorem KI {ai:AI} (hk:ai.kind = .pure) {tm:Tm} {s s':St} : gY ai tm s=gY ai tm s':=by
 cases ai with
 | op dst g o=>
  have ho:o.kind = .pure:=by rw [← hk];exact(EL (by rw [hk];rfl)).symm
  have he:=FI ho (tm:=tm) (s:=s) (s':=s')
  cases g with
  | none=>simp only [gY,he]
  | some p=>simp only [gY,he]
 | call dst g f xs=>rfl
 | nil dst g n x=>rfl
 | gC dst g t xs=>rfl
theorem apart_spec {a q:AI} (h:a.apart q=true):(∀ t,a.dst=some t→t∉q.reads)∧(∀ t,q.dst=some t→t∉a.reads)∧(∀ t,a.dst=some t→q.dst≠some t):=by
 unfold AI.apart at h
 simp only [Bool.and_eq_true]at h
 obtain⟨⟨h1,h2⟩,h3⟩:=h
 refine⟨fun t e=> ?_,fun t e=> ?_,fun t e e'=> ?_⟩
 ·rw [e]at h1;simpa [x8]using h1
 ·rw [e]at h2;simpa [x8]using h2
 ·rw [e,e']at h3;simp at h3
theorem py {tm:Tm} {dst:Option Nat} {d:D} {l:List Nat} (h : ∀ t,dst=some t→t∉l) : ∀ t∈l,tm.get t=(tm.put dst d).get t:=fun t ht=>by
 rw [Tm.jj,if_neg fun e=>h t e ht]
section
variable {P:Program} {is:List AI} {K:Tm→St→Prop}
theorem pz (hK : ∀ tm bA s,Tm.eqv tm bA→K tm s→K bA s) : ∀ (R:List (Nat×Nat)) (bn:List St) (tm bA:Tm) (s:St),tm.eqv bA→iR P is K R bn tm s→iR P is K R bn bA s
 | [],_,tm,bA,s,e,h=>hK tm bA s e h
 | (q,b)::R,bn,tm,bA,s,e,h=>by
  unfold iR at *
  split at h
  ·exact h.elim
  ·rename_i ai rQ
   split at h
   ·rename_i hc
    obtain⟨d,s',h1,h2⟩:=h
    exact⟨d,s',sE (fun t _=>e t) h1,pz hK R _ _ _ _ (e.put _ d) h2⟩
   ·rename_i hc
    obtain⟨d,h1,h2,h3⟩:=h
    refine⟨d, ?_,fun hl s' l8=> ?_,pz hK R _ _ _ _ (e.put _ d) h3⟩
    ·rw [← n3 fun t _=>e t];exact h1
    ·rw [← n3 fun t _=>e t];exact h2 hl s' l8
theorem Cw (i:Nat) (l:List Nat):gJ is (i::l)=(if fv (gD is i)then 1 else 0)+gJ is l:=by
 unfold gJ
 rw [List.filter_cons]
 split <;> simp <;> omega
theorem sF (hK : ∀ tm bA s,Tm.eqv tm bA→K tm s→K bA s) {q b:Nat} {ai:AI} (hq:is[q]? = some ai) (hm:fv ai.kind=false) (Y:List (Nat×Nat)) :
 ∀ (X:List (Nat×Nat)) (bn:List St) (tm:Tm) (s:St),(∀ a∈X,jf is a.1 q=true)→(ai.kind = .load→gJ is (X.map (·.1))≤b)→
  iR P is K (X++(q,b)::Y) bn tm s→
  ∃ d,gY ai tm s=some d∧(ai.kind = .load→∀ s'∈bn.take (b - gJ is (X.map (·.1))),gY ai tm s'=some d)∧iR P is K (X++Y) bn (tm.put ai.dst d) s
 | [],bn,tm,s,_,_,h=>by
  simp only [List.nil_append,iR,hq,hm]at h
  obtain⟨d,h1,h2,h3⟩:=h
  exact⟨d,h1,fun hl s' l8=>h2 hl s' (by simpa [gJ]using l8),h3⟩
 | (a,c)::X,bn,tm,s,cU,hb,h=>by
  have FJ:=cU (a,c) (by simp)
  unfold jf at FJ
  split at FJ
  ·rename_i ia iq VL qy
   rw [hq]at qy
   cases qy
   obtain⟨p1,p2,p3⟩:=apart_spec FJ
   have Ih:gD is a=ia.kind:=by simp [gD,VL]
   have Nl : ∀ x∈X,jf is x.1 q=true:=fun x hx=>cU x (List.mem_cons_of_mem _ hx)
   rw [List.map_cons,Cw,Ih]at hb ⊢
   simp only [List.cons_append,iR,VL]at h ⊢
   cases hc:fv ia.kind
   ·simp only [hc,Bool.false_eq_true,if_false,Nat.zero_add]at h hb ⊢
    obtain⟨d,h1,h2,h3⟩:=h
    obtain⟨e,g1,g2,g3⟩:=sF hK hq hm Y X bn _ s Nl hb h3
    have cg : ∀ s,gY ai tm s=gY ai (tm.put ia.dst d) s:=fun s=>n3 (py p1)
    have VM : ∀ s,gY ia tm s=gY ia (tm.put ai.dst e) s:=fun s=>n3 (py p2)
    refine⟨e,by rw [cg];exact g1,fun hl s' l8=>by rw [cg];exact g2 hl s' l8,d,by rw [← VM];exact h1,fun hl s' l8=>by rw [← VM];exact h2 hl s' l8, ?_⟩
    exact pz hK _ _ _ _ _ (Tm.Cv tm p3 d e) g3
   ·simp only [hc,if_true]at h hb ⊢
    obtain⟨d,s1,h1,h3⟩:=h
    obtain⟨e,g1,g2,g3⟩:=sF hK hq hm Y X (s::bn) _ s1 Nl (fun hl=>by have:=hb hl;omega) h3
    have cg : ∀ s,gY ai tm s=gY ai (tm.put ia.dst d) s:=fun s=>n3 (py p1)
    have nF:gY ai tm s=some e:=by
     cases hk:ai.kind with
     | pure=>rw [cg,KI hk (s':=s1)];exact g1
     | load=>
      have:=hb hk
      rw [cg]
      refine g2 hk s ?_
      rw [show b - gJ is (X.map (·.1))=(b - (1+gJ is (X.map (·.1))))+1 by omega,List.take_succ_cons]
      exact List.mem_cons_self
     | alloc=>rw [hk]at hm;cases hm
     | core=>rw [hk]at hm;cases hm
    refine⟨e,nF,fun hl s' l8=> ?_,d,s1,sE (py p2) h1,pz hK _ _ _ _ _ (Tm.Cv tm p3 d e) g3⟩
    have:=hb hl
    rw [cg]
    refine g2 hl s' ?_
    rw [show b - gJ is (X.map (·.1))=(b - (1+gJ is (X.map (·.1))))+1 by omega,List.take_succ_cons]
    exact List.mem_cons_of_mem _ l8
  ·cases FJ
end
end Go.Abs

/-! Par1 -/

namespace Go.Abs
section
variable {P:Program}
theorem Iy {o:Oper} {z:List D} (h:x9 P o=some (.alloc z)) : ∃ t,o.op = .alloc t∧zeroOf P t=some z:=by
 obtain⟨dst,op,type,pos,after,guard⟩:=o
 unfold x9 at h
 simp only at h
 split at h
 case h_4 t=>
  split at h
  ·obtain⟨z',h1,h2⟩:=map_some h;cases h2
  ·obtain⟨z',h1,h2⟩:=map_some h;cases h2;exact⟨t,rfl,h1⟩
 all_goals
  first
   | (rw [Option.map_eq_some_iff]at h;obtain⟨_,_,h⟩:=h;cases h)
   | skip
 all_goals
  (repeat' (split at h)) <;> first | (cases h;done) | (rw [Option.map_eq_some_iff]at h;obtain⟨_,_,h⟩:=h;cases h)
theorem vB {nt:Nat} {ops:Array Oper} {o:Oper} {ai:AI} (h:cI P nt ops o=some ai) :
 ∃ g,qW ops o.guard=some g∧(∀ t,o.dst=some t→t<nt)∧pk P ops o g=some ai:=by
 have h2:=s8 h
 unfold cI at h
 split at h
 ·cases h
 ·rename_i g hg
  split at h
  ·exact⟨g,hg,h2,h⟩
  ·cases h
theorem pS {ops:Array Oper} {o:Oper} {g:Option (Nat×Bool)} {ai:AI} (h:pk P ops o g=some ai):ai.dst=o.dst:=by
 unfold pk at h
 split at h
 ·split at h
  ·obtain⟨xs,_,rfl⟩:=map_some h;rfl
  ·cases h
 ·obtain⟨xs,_,rfl⟩:=map_some h;rfl
 ·split at h
  ·cases h;rfl
  ·split at h
   ·cases h;rfl
   ·cases h;rfl
   ·cases h
theorem pT {nt:Nat} {ops:Array Oper} {o:Oper} {ai:AI} (h:cI P nt ops o=some ai):ai.dst=o.dst:=by
 obtain⟨g,_,_,h⟩:=vB h
 exact pS h
theorem sG {nt:Nat} {ops:Array Oper} {i:Nat} {o:Oper} {ai:AI} (hi:ops[i]? = some o) (hc:cI P nt ops o=some ai)
 {M:Map} {s:St} {w:World} {tm:Tm} {act:Act} (r:Rel M s w) (jw:Laid M s w) (ht:jJ M s tm act.tmps) {K':Tm→St→Prop} (h:gj P [ai] K' tm s)
 {K:Act→World→Prop} {Q:Exit→Act→World→Prop}
 (hK : ∀ d v s1 w1 M1,K' (tm.put ai.dst d) s1→Ext M s w M1 s1 w1→Rel M1 s1 w1→RD M1 s1 d v→K (act.put o.dst v) w1):wpOp P ops Q i K act w:=by
 obtain⟨g,hg,_,hb⟩:=vB hc
 rw [pS hb]at hK
 simp only [wpOp,hi]
 have skip:K' (tm.put o.dst (.tuple [])) s→K (act.put o.dst Go.undef) w:=fun hk=>hK _ _ _ _ _ hk (Ext.refl M s w) r .undef
 unfold pk at hb
 split at hb
 ·rename_i f args lf ke
  split at hb
  ·rename_i tL
   obtain⟨xs,lN,rfl⟩:=map_some hb
   simp only [gj]at h
   rcases iw hg ht h with ⟨hw,hA⟩ | ⟨hw,hB⟩
   ·simp only [hw,if_true]
    left
    have hex:(execOp act.eval o).run P w = .ok (.enter f (args.map act.eval)) w:=by
     obtain⟨dst,op,type,pos,after,guard⟩:=o
     simp only at ke
     subst ke
     exact sB act.eval dst f args lf type pos after guard rfl tL w
    obtain⟨c1,c2⟩:=rP ht lN
    unfold Oper.wp
    rw [hex,Oper.upon_enter]
    refine(hA M w (args.map act.eval) r jw (by simp [c1]) (fun i d v e1 e2=>c2 i d v e1 (by simpa using e2))).mono ?_
    rintro en w' ⟨M',d,v,s',rfl,hk,e',r',hv⟩
    exact hK _ _ _ _ _ hk e' r' hv
   ·simp only [hw]
    exact skip hB
  ·cases hb
 ·rename_i t args lf ke
  obtain⟨xs,lN,rfl⟩:=map_some hb
  simp only [gj]at h
  rcases iw hg ht h with ⟨hw,hA⟩ | ⟨hw,hB⟩
  ·simp only [hw,if_true]
   left
   split at hA
   ·rename_i f kS Cl
    obtain⟨tL,hA⟩:=hA
    have Ik:=ht t
    rw [Cl]at Ik
    obtain⟨vs,ma,hlen,yq⟩:=Ik.EC
    have hex:(execOp act.eval o).run P w = .ok (.enter f (args.map act.eval++vs)) w:=by
     obtain⟨dst,op,type,pos,after,guard⟩:=o
     simp only at ke
     subst ke
     exact vv act.eval dst (.tmp t) f vs args lf type pos after guard ma tL w
    have cc:=Ay lN ht hlen yq
    unfold Oper.wp
    rw [hex,Oper.upon_enter]
    refine(hA M w (args.map act.eval++vs) r jw cc.1 cc.2).mono ?_
    rintro en w' ⟨M',d,v,s',rfl,hk,e',r',hv⟩
    exact hK _ _ _ _ _ hk e' r' hv
   ·exact hA.elim
  ·simp only [hw]
   exact skip hB
 ·split at hb
  ·rename_i neg x Cm
   cases hb
   simp only [gj]at h
   rcases iw hg ht h with ⟨hw,hA⟩ | ⟨hw,hB⟩
   ·simp only [hw,if_true]
    left
    split at hA
    ·rename_i g' z rows hx
     obtain⟨b,hb,hex⟩:=uB (w:=w) Cm ht hx
     unfold Oper.wp
     rw [hex,Oper.upon_value]
     exact hK _ _ _ _ _ (hA b hb) (Ext.refl M s w) r (.bool _)
    ·exact hA.elim
   ·simp only [hw]
    exact skip hB
  ·have fin : ∀ ao,ai = .op o.dst g ao→(∀ d s',aN ao tm s=some (d,s')→cL P M s w (execOp act.eval o) d s')→
    (if Region.wanted o (yielded ops act.tmps)=true then o.wp P act w K Q∨(o.asks P act w∧LetsOut Q)else K (act.put o.dst Go.undef) w):=by
    intro ao rQ Qi
    subst rQ
    simp only [gj]at h
    rcases iw hg ht h with ⟨hw,hA⟩ | ⟨hw,hB⟩
    ·simp only [hw,if_true]
     left
     split at hA
     ·rename_i d s' nZ
      obtain⟨v,w',M',dF,r',hv,e'⟩:=Qi d s' nZ
      unfold Oper.wp
      rcases dF with dF | ⟨dF,rfl⟩
      ·rw [dF,Oper.upon_value]
       exact hK _ _ _ _ _ hA e' r' hv
      ·rw [dF,Oper.upon_skip]
       exact hK _ _ _ _ _ hA e' r' hv
     ·exact hA.elim
    ·simp only [hw]
     exact skip hB
   split at hb
   ·rename_i z k n ps lg
    cases hb
    refine fin _ rfl (fun d s' nZ=> ?_)
    split at nZ
    ·exact tJ lg r ht nZ
    ·exact pw lg r ht nZ
   ·rename_i ao lg
    cases hb
    exact fin _ rfl (fun d s' nZ=>pw lg r ht nZ)
   ·cases hb
structure EM (M:Map) (s:St) (b:Nat):Prop where
 o : ∀ o,o<s.av.length→M.mu o≠b
 t : ∀ t c z,s.live t→M.be t≠some (b,c,z)
 g : ∀ off,M.G b off=none
theorem EM.mono {M M':Map} {s s':St} {w w':World} {b:Nat} (h:EM M s b) (e:Ext M s w M' s' w') (hb:b<w.heap.size):EM M' s' b:=by
 refine⟨fun o ho=> ?_,fun t c z hl he=> ?_,fun off=> ?_⟩
 ·rcases Nat.lt_or_ge o s.av.length with h1 | h1
  ·rw [e.le.mu o h1];exact h.o o h1
  ·have:=e.n6 o h1 ho;omega
 ·rcases e.n7 t b c z hl he with ⟨h1,c',z',h2⟩ | h1
  ·exact h.t t c' z' h1 h2
  ·omega
 ·by_cases hg:M'.G b off=M.G b off
  ·rw [hg];exact h.g off
  ·rcases e.qc b off hg with h1 | ⟨t,c,z,h1,h2⟩
   ·omega
   ·exact(h.t t c z h1 h2).elim
theorem Rel.idle {M:Map} {s:St} {w:World} (r:Rel M s w) (x:Obj):Rel M s (w.alloc x)∧Ext M s w M s (w.alloc x)∧EM M s w.heap.size:=by
 refine⟨⟨fun b o v e=> ?_,fun o ds e=> ?_,r.jk,r.inj,fun t n e=> ?_,r.ez,r.ff⟩, ?_,⟨fun o ho=> ?_,fun t c z hl e=> ?_,fun off=>r.MT (Nat.le_refl _) off⟩⟩
 ·obtain⟨h3,h4⟩:=r.comm b o v e
  refine⟨?_,h4⟩
  rw [World.cell?_alloc_lt]
  ·exact h3
  ·exact r.zn e
 ·obtain⟨vs,T,h3,h4,h5,h6⟩:=r.obj o ds e
  exact⟨vs,T,by rw [heap_alloc_old w _ _ h3.lt];exact h3,h4,h5,h6⟩
 ·rcases r.tok t n e with h3 | ⟨b,cap,size,eR,T',h3,h4,h5⟩
  ·exact .inl h3
  ·exact .inr ⟨b,cap,size,eR,T',h3,by rw [heap_alloc_old w _ _ (jH h4)];exact h4,h5⟩
 ·exact⟨Le.refl M s,fun b hb _ _=>heap_alloc_old w _ b hb,fun o h3 h4=>by omega,fun t b c z h e=> .inl ⟨h,c,z,e⟩,fun _ _ h=>(h rfl).elim,by simp,rfl,rfl,rfl⟩
 ·have:=r.oa ho;omega
 ·have:=r.qE hl e;omega
theorem Rel.Td {M:Map} {s:St} {w:World} (r:Rel M s w) {B:fO} (e:Ext B.M B.s B.w M s w) {b:Nat} (u:EM M s b) (hb:B.w.heap.size≤b)
 (ds:List D) (vs:Array Value) (T:TypeId) (hh:w.heap[b]? = some (.cells vs T (0,0))) (hl:vs.size=ds.length) (h1 : ∀ v∈vs,v.oneCell'=true)
 (h2 : ∀ (i:Nat) (d:D) (v:Value),ds[i]? = some d→vs[i]? = some v→RD M s d v) :
 Rel (M.dr s.av.length b) {s with av:=s.av++ [ds]} w∧Ext B.M B.s B.w (M.dr s.av.length b) {s with av:=s.av++ [ds]} w∧
 Le M s (M.dr s.av.length b) {s with av:=s.av++ [ds]}:=by
 have le:=qX (M:=M) s b ds
 have nX : ∀ o,o<s.av.length→(M.dr s.av.length b).mu o=M.mu o:=le.mu
 have dI:(M.dr s.av.length b).mu s.av.length=b:=by simp [Map.dr,Map.mu]
 refine⟨⟨r.comm,fun o lK e'=> ?_,fun o ho off=> ?_,fun o o' ho kP e'=> ?_,r.tok,fun t b' c z o hl e' ho=> ?_,r.ff⟩, ?_,le⟩
 ·rcases Nat.lt_or_ge o s.av.length with ho | ho
  ·rw [List.getElem?_append_left ho]at e'
   obtain⟨eR,T',h3,h4,h5,h6⟩:=r.obj o lK e'
   refine⟨eR,T', ?_,h4,⟨h5.1,by rw [le.ty o ho];exact h5.2⟩,fun i d v e1 e2=>(h6 i d v e1 e2).mono le⟩
   rw [nX o ho,le.ob o ho];exact h3
  ·rw [List.getElem?_append_right ho]at e'
   have:o=s.av.length:=by
    have:=(List.getElem?_eq_some_iff.1 e').1
    simp at this;omega
   subst this
   simp at e';subst e'
   refine⟨vs,T, ?_,hl,⟨h1,fun T' h=>by simp [Map.dr,Map.ty,Ob.ty?]at h⟩,fun i d v e1 e2=>(h2 i d v e1 e2).mono le⟩
   rw [dI];exact kl.of hh (by simp [Map.dr,Map.ob])
 ·simp at ho
  rcases Nat.lt_or_ge o s.av.length with h3 | h3
  ·rw [nX o h3];exact r.jk o h3 off
  ·have:o=s.av.length:=by omega
   subst this
   rw [dI];exact u.g off
 ·simp at ho kP
  rcases Nat.lt_or_ge o s.av.length with h3 | h3 <;> rcases Nat.lt_or_ge o' s.av.length with h4 | h4
  ·rw [nX o h3,nX o' h4]at e';exact r.inj o o' h3 h4 e'
  ·have:o'=s.av.length:=by omega
   subst this
   rw [nX o h3,dI]at e'
   exact(u.o o h3 e').elim
  ·have:o=s.av.length:=by omega
   subst this
   rw [nX o' h4,dI]at e'
   exact(u.o o' h4 e'.symm).elim
  ·omega
 ·simp at ho
  rcases Nat.lt_or_ge o s.av.length with h3 | h3
  ·rw [nX o h3];exact r.ez t b' c z o hl e' h3
  ·have:o=s.av.length:=by omega
   subst this
   rw [dI]
   intro he
   subst he
   exact u.t t c z hl e'
 ·refine⟨e.le.trans le,e.kept,fun o h3 h4=> ?_,e.n7,e.qc,e.size,e.os,e.tape,e.output⟩
  simp at h4
  rcases Nat.lt_or_ge o s.av.length with h5 | h5
  ·rw [nX o h5];exact e.n6 o h3 h5
  ·have:o=s.av.length:=by omega
   subst this
   rw [dI];exact hb
theorem D2 {nt:Nat} {ops:Array Oper} {i:Nat} {o:Oper} {t:Nat} {z:List D} (hi:ops[i]? = some o) (hc:cI P nt ops o=some (.op (some t) none (.alloc z)))
 {w:World} {act:Act} {K:Act→World→Prop} {Q:Exit→Act→World→Prop}
 (hK : ∀ vs T,vs.size=z.length→(∀ v∈vs,v.oneCell'=true)→(∀ (M:Map) (s:St) (i:Nat) (d:D) (v:Value),z[i]? = some d→vs[i]? = some v→RD M s d v)→
  K (act.put (some t) (.pointer (some ⟨w.heap.size,0,none⟩))) (w.alloc (.cells vs T))):wpOp P ops Q i K act w:=by
 obtain⟨g,hg,_,hb⟩:=vB hc
 have nP:=pS hb
 simp only [AI.dst]at nP
 simp only [wpOp,hi]
 have ke:g=none∧x9 P o=some (.alloc z):=by
  unfold pk at hb
  split at hb
  ·split at hb
   ·obtain⟨xs,_,h⟩:=map_some hb;cases h
   ·cases hb
  ·obtain⟨xs,_,h⟩:=map_some hb;cases h
  ·split at hb
   ·cases hb
   ·split at hb
    ·rename_i lg
     simp only [Option.some.injEq,AI.op.injEq]at hb
     obtain⟨_,_,h⟩:=hb
     split at h <;> cases h
    ·rename_i ao lg
     simp only [Option.some.injEq,AI.op.injEq]at hb
     obtain⟨_,h1,h2⟩:=hb
     subst h2
     exact⟨h1,lg⟩
    ·cases hb
 obtain⟨rfl,lg⟩:=ke
 obtain⟨T,hT,hz⟩:=Iy lg
 have hw:Region.wanted o (yielded ops act.tmps)=true:=by
  have:o.guard=none:=by
   cases Au:o.guard with
   | none=>rfl
   | some p=>
    obtain⟨j,b⟩:=p
    rw [Au]at hg
    unfold qW at hg
    simp only at hg
    split at hg <;> cases hg
  simp [Region.wanted,this]
 simp only [hw,if_true]
 left
 unfold zeroOf at hz
 split at hz
 ·rename_i inf KA
  split at hz
  ·rename_i v hv
   split at hz
   ·have dF:(execOp act.eval o).run P w = .ok (.value (.pointer (some ⟨w.heap.size,0,none⟩))) (w.alloc (.cells v.cells T)):=by
     obtain⟨dst,op,type,pos,after,guard⟩:=o
     simp only at hT
     subst hT
     simp [execOp,Instr.alloc,zeroValue,fS P KA,hv,newVar,newRow]
    have h3:=fun M s=>ji (M:=M) (s:=s) hz
    obtain⟨h1,h2,_⟩:=h3 ⟨fun _ _=>none,fun _=>(0, .any),fun _=>none⟩ ⟨[],[]⟩
    unfold Oper.wp
    rw [dF,Oper.upon_value, ← nP]
    exact hK _ _ (by rw [h1];simp) (fun u hu=>h2 u (by simpa using hu)) (fun M s i d u e1 e2=>(h3 M s).2.2 i d u e1 (by simpa using e2))
   ·cases hz
  ·cases hz
 ·cases hz
end
end Go.Abs

/-! Par2 -/

namespace Go.Abs
section
variable {is:List AI} {af pt:List (List Nat)}
theorem uF {pq:List Nat} {l l':List Nat} (h:l'.Sublist l) (hb:iZ is pq l=true):iZ is pq l'=true:=by
 induction h with
 | slnil=>rfl
 | cons a h ih=>
  simp only [iZ,Bool.and_eq_true]at hb
  exact ih hb.2
 | cons_cons a h ih=>
  simp only [iZ,Bool.and_eq_true,Bool.or_eq_true]at hb ⊢
  refine⟨hb.1.imp id fun h1=> ?_,ih hb.2⟩
  rw [List.all_eq_true]at h1 ⊢
  exact fun x hx=>h1 x (h.subset hx)
theorem wC {f:Nat→Bool} {l l':List Nat} (h:l'.Sublist l) (ha:l.all f=true):l'.all f=true:=by
 rw [List.all_eq_true]at ha ⊢
 exact fun x hx=>ha x (h.subset hx)
theorem D3 {l l':List Nat} (h:l'.Sublist l):gJ is l'≤gJ is l:=(h.filter _).length_le
theorem FK {pre zz:List Nat} {q b:Nat} (h:zz.Sublist pre) (hs:l5 is pt pre q b=true):l5 is pt zz q b=true:=by
 unfold l5 at *
 split at hs
 ·exact wC h hs
 ·exact wC h hs
 ·simp only [Bool.and_eq_true]at hs ⊢
  exact⟨wC h hs.1,uF h hs.2⟩
 ·simp only [Bool.and_eq_true,decide_eq_true_eq]at hs ⊢
  exact⟨⟨wC h hs.1.1,uF h hs.1.2⟩,Nat.le_trans (D3 (h.filter _)) hs.2⟩
theorem Cx : ∀ {R:List (Nat×Nat)} {pre zz:List Nat},zz.Sublist pre→qx is af pt pre R=true→qx is af pt zz R=true
 | [],_,_,_,_=>rfl
 | (q,b)::R,pre,zz,h,ho=>by
  simp only [qx,Bool.and_eq_true,Bool.not_eq_true']at ho ⊢
  obtain⟨⟨⟨h1,h2⟩,h3⟩,h4⟩:=ho
  refine⟨⟨⟨FK h h1, ?_⟩,h3⟩,Cx (h.cons_cons q) h4⟩
  rw [← Bool.not_eq_true,List.contains_iff_mem]at h2 ⊢
  exact fun hm=>h2 (h.subset hm)
theorem zA : ∀ {X:List (Nat×Nat)} {e:Nat×Nat} {Y:List (Nat×Nat)} {pre:List Nat},qx is af pt pre (X++e::Y)=true→qx is af pt pre (X++Y)=true
 | [],(q,b),Y,pre,h=>by
  simp only [List.nil_append,qx,Bool.and_eq_true]at h
  exact Cx (List.sublist_cons_self q pre) h.2
 | (a,c)::X,e,Y,pre,h=>by
  simp only [List.cons_append,qx,Bool.and_eq_true]at h ⊢
  obtain⟨⟨⟨h1,h2⟩,h3⟩,h4⟩:=h
  refine⟨⟨⟨h1,h2⟩, ?_⟩,zA h4⟩
  rw [List.all_eq_true]at h3 ⊢
  intro j hj
  have:=h3 j hj
  simp only [Bool.and_eq_true,Bool.not_eq_true']at this ⊢
  refine⟨this.1, ?_⟩
  have h5:=this.2
  rw [← Bool.not_eq_true,List.contains_iff_mem]at h5 ⊢
  refine fun hm=>h5 ?_
  simp only [List.map_append,List.map_cons,List.mem_append,List.mem_cons]at hm ⊢
  exact hm.imp id .inr
theorem pU : ∀ {X:List (Nat×Nat)} {q b:Nat} {Y:List (Nat×Nat)} {pre:List Nat},qx is af pt pre (X++(q,b)::Y)=true→
 l5 is pt ((X.map (·.1)).reverse++pre) q b=true∧q∉X.map (·.1)∧q∉pre∧(∀ j∈fE af q,j≠q∧j∉Y.map (·.1))∧qx is af pt (q::((X.map (·.1)).reverse++pre)) Y=true
 | [],q,b,Y,pre,h=>by
  simp only [List.nil_append,qx,Bool.and_eq_true,Bool.not_eq_true']at h
  obtain⟨⟨⟨h1,h2⟩,h3⟩,h4⟩:=h
  rw [← Bool.not_eq_true,List.contains_iff_mem]at h2
  refine⟨h1,by simp,h2,fun j hj=> ?_,h4⟩
  rw [List.all_eq_true]at h3
  have:=h3 j hj
  simp only [Bool.and_eq_true,bne_iff_ne,Bool.not_eq_true', ← Bool.not_eq_true,List.contains_iff_mem]at this
  exact this
 | (a,c)::X,q,b,Y,pre,h=>by
  simp only [List.cons_append,qx,Bool.and_eq_true]at h
  obtain⟨_,h4⟩:=h
  obtain⟨g1,g2,g3,g4,g5⟩:=pU h4
  simp only [List.map_cons,List.reverse_cons,List.append_assoc,List.singleton_append]
  refine⟨g1, ?_,fun h=>g3 (List.mem_cons_of_mem _ h),g4,g5⟩
  intro hm
  rcases List.mem_cons.1 hm with rfl | hm
  ·exact g3 (by simp)
  ·exact g2 hm
theorem wD : ∀ {Y:List (Nat×Nat)} {pre:List Nat},qx is af pt pre Y=true→∀ x∈Y,x.1∉pre∧(gD is x.1 = .alloc→∀ a∈pre,jf is a x.1=true)
 | [],_,_,x,hx=>by cases hx
 | (q,b)::Y,pre,h,x,hx=>by
  simp only [qx,Bool.and_eq_true,Bool.not_eq_true']at h
  obtain⟨⟨⟨h1,h2⟩,_⟩,h4⟩:=h
  rw [← Bool.not_eq_true,List.contains_iff_mem]at h2
  rcases List.mem_cons.1 hx with rfl | hx
  ·refine⟨h2,fun hk a ha=> ?_⟩
   unfold l5 at h1
   simp only [hk]at h1
   rw [List.all_eq_true]at h1
   exact h1 a ha
  ·obtain⟨g1,g2⟩:=wD h4 x hx
   exact⟨fun h=>g1 (List.mem_cons_of_mem _ h),fun hk a ha=>g2 hk a (List.mem_cons_of_mem _ ha)⟩
theorem w8 : ∀ {n:Nat},sX af pt n=true→∀ i,i<n→∀ j∈fE pt i,j∈fE af i∨∃ k∈fE af i,j∈fE pt k
 | 0,_,i,hi=>by omega
 | n+1,h,i,hi=>by
  simp only [sX,Bool.and_eq_true]at h
  rcases Nat.lt_or_ge i n with h1 | h1
  ·exact w8 h.2 i h1
  ·have:i=n:=by omega
   subst this
   intro j hj
   have:=h.1
   rw [List.all_eq_true]at this
   have:=this j hj
   simp only [Bool.or_eq_true,List.contains_iff_mem,List.any_eq_true]at this
   exact this
theorem tc {pq:List Nat} : ∀ {l:List Nat},iZ is pq l=true→∀ (x:Nat) (l1 l2:List Nat),l=l1++x::l2→gD is x = .alloc→x∈pq→∀ y∈l2,y∈pq
 | [],_,x,l1,l2,h=>by simp at h
 | a::l,hb,x,l1,l2,h=>by
  simp only [iZ,Bool.and_eq_true,Bool.or_eq_true,Bool.not_eq_true',Bool.and_eq_false_iff]at hb
  intro hk hx y hy
  cases l1 with
  | nil=>
   simp only [List.nil_append,List.cons.injEq]at h
   obtain⟨rfl,rfl⟩:=h
   rcases hb.1 with h1 | h1
   ·rcases h1 with h1 | h1
    ·simp [hk]at h1
    ·rw [← Bool.not_eq_true,List.contains_iff_mem]at h1
     exact(h1 hx).elim
   ·rw [List.all_eq_true]at h1
    have:=h1 y hy
    rwa [List.contains_iff_mem]at this
  | cons b l1=>
   simp only [List.cons_append,List.cons.injEq]at h
   exact tc hb.2 x l1 l2 h.2 hk hx y hy
end
structure Pd where
 q:Nat
 t:Nat
 z:List D
 b:Nat
structure Qo (is:List AI) (R:List (Nat×Nat)) (B:fO) (M:Map) (s:St) (act:Act) (w:World) (p:Pd):Prop where
 mem:p.q∈R.map (·.1)
 ai:is[p.q]? = some (.op (some p.t) none (.alloc p.z))
 cells : ∃ (vs:Array Value) (T:TypeId),w.heap[p.b]? = some (.cells vs T (0,0))∧vs.size=p.z.length∧(∀ v∈vs,v.oneCell'=true)∧
  ∀ (M:Map) (s:St) (i:Nat) (d:D) (v:Value),p.z[i]? = some d→vs[i]? = some v→RD M s d v
 unk:EM M s p.b
 base:B.w.heap.size≤p.b
 slot:act.tmps.getD p.t Go.undef = .pointer (some ⟨p.b,0,none⟩)
def tO (P:Program) (is:List AI) (K:Tm→St→Prop) (B:fO) (nt:Nat) (R:List (Nat×Nat)) (dm:List Pd) (act:Act) (w:World):Prop:=
 ∃ (M:Map) (s:St) (tm pV:Tm) (bn:List St),Ext B.M B.s B.w M s w∧Rel M s w∧jJ M s pV act.tmps∧(∀ t,(∀ p∈dm,p.t≠t)→pV.get t=tm.get t)∧
  act.tmps.size=nt∧act.defers = []∧iR P is K R bn tm s∧(∀ p∈dm,Qo is R B M s act w p)∧
  (∀ p∈dm,∀ p'∈dm,p.q=p'.q∨p.t=p'.t∨p.b=p'.b→p=p')
structure oj (is:List AI) (af pt:List (List Nat)) (ct:Array Bool) (R:List (Nat×Nat)) (dm:List Pd):Prop where
 ok:qx is af pt [] R=true
 AH : ∀ i,i<is.length→(ct.getD i false=true↔(i∉R.map (·.1)∨∃ p∈dm,p.q=i))
 cl : ∀ i,i<is.length→ct.getD i false=true→∀ j∈fE pt i,ct.getD j false=true
 size:ct.size=is.length
 lt : ∀ x∈R,x.1<is.length
section
variable {P:Program} {is:List AI} {af pt:List (List Nat)} {K:Tm→St→Prop} {B:fO} {nt:Nat}
theorem Qp {ct:Array Bool} {q b:Nat} {R:List (Nat×Nat)} {dm:List Pd} {act:Act} {w:World} (hs:oj is af pt ct ((q,b)::R) dm) (h:tO P is K B nt ((q,b)::R) dm act w)
 {p:Pd} (hp:p∈dm) (qz:p.q=q) :
 oj is af pt ct R (dm.filter fun p'=>decide (p'.q≠q))∧tO P is K B nt R (dm.filter fun p'=>decide (p'.q≠q)) act w:=by
 have lD : ∀ p',p'∈(dm.filter fun p'=>decide (p'.q≠q))↔p'∈dm∧p'.q≠q:=fun p'=>by simp
 constructor
 ·have AA:=hs.ok
  have xw:=pU (X:= []) AA
  refine⟨zA (X:= []) AA,fun i hi=> ?_,hs.cl,hs.size,fun x hx=>hs.lt x (List.mem_cons_of_mem _ hx)⟩
  rw [hs.AH i hi]
  simp only [List.map_cons,List.mem_cons,not_or]
  have Qq:q∉R.map (·.1):=fun hm=>by
   obtain⟨x,hx,rfl⟩:=List.mem_map.1 hm
   exact(wD xw.2.2.2.2 x hx).1 (by simp)
  constructor
  ·rintro(⟨h1,h2⟩ | ⟨p',h1,h2⟩)
   ·exact .inl h2
   ·by_cases hq:i=q
    ·subst hq;exact .inl Qq
    ·exact .inr ⟨p',(lD p').2 ⟨h1,by rw [h2];exact hq⟩,h2⟩
  ·rintro(h1 | ⟨p',h1,h2⟩)
   ·by_cases hq:i=q
    ·subst hq;exact .inr ⟨p,hp,qz⟩
    ·exact .inl ⟨hq,h1⟩
   ·exact .inr ⟨p',((lD p').1 h1).1,h2⟩
 ·obtain⟨M,s,tm,pV,bn,e,r,ht,nF,hn,hd,hg,rT,pA⟩:=h
  have hk:=rT p hp
  obtain⟨vs,T,hh,hl,h1,h2⟩:=hk.cells
  have rQ:=hk.ai
  rw [qz]at rQ
  simp only [iR,rQ,AI.kind,fv]at hg
  obtain⟨d,s',wS,hg⟩:=hg
  have nZ:aN (.alloc p.z) tm s=some (d,s'):=wS
  simp only [aN,Option.some.injEq,Prod.mk.injEq]at nZ
  obtain⟨rfl,rfl⟩:=nZ
  obtain⟨r',e',le⟩:=r.Td e hk.unk hk.base p.z vs T hh hl h1 (h2 M s)
  refine⟨_,_,_,pV.put (some p.t) (.ptr s.av.length 0),_,e',r',fun u=> ?_,fun t Qr=> ?_,hn,hd,hg,fun p' lP=> ?_,fun p1 h1 p2 h2=>pA p1 ((lD p1).1 h1).1 p2 ((lD p2).1 h2).1⟩
  ·rw [Tm.jj]
   split
   ·rename_i heq
    cases heq
    rw [hk.slot]
    have:(M.dr s.av.length p.b).mu s.av.length=p.b:=by simp [Map.dr,Map.mu]
    have h5:=RD.ptr (M:=M.dr s.av.length p.b) (s:= {s with av:=s.av++ [p.z]}) s.av.length 0 (by simp) (by simp [Map.dr,Map.ob])
    rw [this]at h5
    exact h5
   ·exact(ht u).mono le
  ·simp only [AI.dst]
   rw [Tm.jj,Tm.jj]
   split
   ·rfl
   ·rename_i eI
    refine nF t fun p' lP=> ?_
    by_cases hq:p'.q=q
    ·have:=pA p' lP p hp (.inl (hq.trans qz.symm))
     subst this
     exact fun h=>eI (by rw [h])
    ·exact Qr p' ((lD p').2 ⟨lP,hq⟩)
  ·obtain⟨VN,VO⟩:=(lD p').1 lP
   have w9:=rT p' VN
   refine⟨?_,w9.ai,w9.cells,⟨fun o ho=> ?_,w9.unk.t,w9.unk.g⟩,w9.base,w9.slot⟩
   ·have:=w9.mem
    simp only [List.map_cons,List.mem_cons]at this
    exact this.resolve_left VO
   ·simp at ho
    rcases Nat.lt_or_ge o s.av.length with h5 | h5
    ·rw [le.mu o h5];exact w9.unk.o o h5
    ·have:o=s.av.length:=by omega
     subst this
     have:(M.dr s.av.length p.b).mu s.av.length=p.b:=by simp [Map.dr,Map.mu]
     rw [this]
     intro hb
     have:=pA p hp p' VN (.inr (.inr hb))
     subst this
     exact VO qz
theorem norm {ct:Array Bool} {act:Act} {w:World} : ∀ (R:List (Nat×Nat)) (dm:List Pd),oj is af pt ct R dm→tO P is K B nt R dm act w→
 ∃ R' rU,oj is af pt ct R' rU∧tO P is K B nt R' rU act w∧∀ x l,R'=x::l→∀ p∈rU,p.q≠x.1
 | [],dm,hs,h=>⟨[],dm,hs,h,fun _ _ he=>by cases he⟩
 | (q,b)::R,dm,hs,h=>by
  by_cases hp : ∃ p∈dm,p.q=q
  ·obtain⟨p,hp,qz⟩:=hp
   obtain⟨h1,h2⟩:=Qp hs h hp qz
   exact norm R _ h1 h2
  ·refine⟨(q,b)::R,dm,hs,h,fun x l he p Qs qz=>hp ⟨p,Qs, ?_⟩⟩
   cases he
   exact qz
theorem Nn {ops:Array Oper} {q:Nat} {o:Oper} {ai:AI} (hi:ops[q]? = some o) (hc:cI P nt ops o=some ai) {R R':List (Nat×Nat)} {dm:List Pd} {act:Act} {w:World} {M:Map} {s s1:St} {tm pV:Tm} {d:D} {No:List St}
 (e:Ext B.M B.s B.w M s w) (r:Rel M s w) (ht:jJ M s pV act.tmps) (nF : ∀ t,(∀ p∈dm,p.t≠t)→pV.get t=tm.get t) (hn:act.tmps.size=nt) (hd:act.defers = [])
 (rT : ∀ p∈dm,Qo is R B M s act w p) (pA : ∀ p∈dm,∀ p'∈dm,p.q=p'.q∨p.t=p'.t∨p.b=p'.b→p=p')
 (hv:gj P [ai] (fun a b=>a=pV.put ai.dst d∧b=s1) pV s) (hg:iR P is K R' No (tm.put ai.dst d) s1)
 (lD : ∀ p∈dm,p.q∈R'.map (·.1)) (nP : ∀ p∈dm,ai.dst≠some p.t) {Q:Exit→Act→World→Prop} :
 wpOp P ops Q q (tO P is K B nt R' dm) act w:=by
 refine sG hi hc r (B.laid.ext e) ht hv fun d' v s2 w1 M1 hk e1 r1 nk=> ?_
 obtain⟨wV,rfl⟩:=hk
 have VP:=pT hc
 have hD : ∀ t,o.dst=some t→t<act.tmps.size:=fun t h=>by rw [hn];exact s8 hc t h
 refine⟨M1,s2,tm.put ai.dst d,pV.put ai.dst d,No,e.trans e1,r1, ?_,fun t Qr=> ?_, ?_, ?_,hg,fun p hp=> ?_,pA⟩
 ·rw [← wV,VP]
  exact(ht.mono e1.le).put hD nk
 ·rw [Tm.jj,Tm.jj,nF t Qr]
 ·cases ho:o.dst <;> simp [Act.put,hn]
 ·cases ho:o.dst <;> simp [Act.put,hd]
 ·have hk:=rT p hp
  obtain⟨vs,T,hh,hl,h1,h2⟩:=hk.cells
  have hb:=jH hh
  refine⟨lD p hp,hk.ai,⟨vs,T,by rw [e1.kept p.b hb hk.unk.o hk.unk.t];exact hh,hl,h1,h2⟩,hk.unk.mono e1 hb,hk.base, ?_⟩
  rw [← hk.slot]
  have:=nP p hp
  rw [VP]at this
  cases ho:o.dst with
  | none=>rfl
  | some t=>
   rw [ho]at this
   have eI:t≠p.t:=fun h=>this (by rw [h])
   simp [Act.put,Array.getElem?_setIfInBounds_ne eI]
theorem FL {ai:AI} (hm:fv ai.kind=false) {tm:Tm} {s:St} {d:D} (h:gY ai tm s=some d):gj P [ai] (fun a b=>a=tm.put ai.dst d∧b=s) tm s:=by
 cases ai with
 | op dst g o=>
  have hko:=EL hm
  have key : ∀ {d},(aN o tm s).map (·.1)=some d→aN o tm s=some (d,s):=by
   intro d h
   cases he:aN o tm s with
   | none=>rw [he]at h;cases h
   | some p=>
    obtain⟨d',s'⟩:=p
    rw [he]at h
    simp only [Option.map_some,Option.some.injEq]at h
    subst h
    rw [D1 (by rw [← hko];exact hm) he]
  simp only [gj,AI.dst]
  cases g with
  | none=>
   simp only [gY]at h
   simp only [guarded,key h,and_self]
  | some p=>
   obtain⟨t,want⟩:=p
   simp only [gY]at h
   simp only [guarded]
   split at h
   ·rename_i b hb
    simp only [hb]
    split at h
    ·rename_i heq
     refine⟨fun _=>by simp only [key h,and_self],fun eI=> ?_⟩
     subst heq
     cases b <;> cases eI
    ·rename_i eI
     cases h
     exact⟨fun heq=>(eI heq).elim,fun _=>by simp⟩
   ·rename_i ds hb
    cases h
    simp only [hb,and_self]
   ·cases h
 | call dst g f xs=>cases hm
 | nil dst g n x=>cases hm
 | gC dst g t xs=>cases hm
theorem vC {g:Option (Nat×Bool)} {tm:Tm} {A A' C C':Prop} (ha:A→A') (hc:C→C') (hh:guarded g tm A C):guarded g tm A' C':=by
 cases g with
 | none=>exact ha hh
 | some p=>
  obtain⟨t,want⟩:=p
  unfold guarded at *
  simp only at *
  split
  ·rename_i b hb;rw [hb]at hh;exact⟨fun e=>ha (hh.1 e),fun e=>hc (hh.2 e)⟩
  ·rename_i hb;rw [hb]at hh;exact hc hh
  ·rename_i x h1 h2
   split at hh
   ·exact h1 _ ‹_›
   ·exact h2 _ ‹_›
   ·exact hh
theorem Cy {ai:AI} {tm:Tm} {s s1:St} {d:D} (h:px P ai tm s d s1):gj P [ai] (fun a b=>a=tm.put ai.dst d∧b=s1) tm s:=by
 cases ai with
 | op dst g o=>
  refine vC (fun e=> ?_) (fun e=> ?_) h
  ·rw [e];exact⟨rfl,rfl⟩
  ·obtain⟨rfl,rfl⟩:=e;exact⟨rfl,rfl⟩
 | call dst g f xs=>
  refine vC (fun e=> ?_) (fun e=> ?_) h
  ·exact e.mono fun x y hxy=>by obtain⟨rfl,rfl⟩:=hxy;exact⟨rfl,rfl⟩
  ·obtain⟨rfl,rfl⟩:=e;exact⟨rfl,rfl⟩
 | nil dst g n x=>exact h.elim
 | gC dst g t xs=>exact h.elim
end
end Go.Abs

/-! Par3 -/

namespace Go.Abs
section
variable {P:Program} {is:List AI} {af pt:List (List Nat)} {K:Tm→St→Prop} {B:fO} {nt:Nat}
theorem wE {ops:Array Oper} : ∀ {ol:List Oper} {is:List AI},n9 P nt ops ol=some is→is.length=ol.length∧∀ (i:Nat) (o:Oper),ol[i]? = some o→∃ ai,is[i]? = some ai∧cI P nt ops o=some ai
 | [],is,h=>by cases h;exact⟨rfl,by simp⟩
 | o::ol,is,h=>by
  unfold n9 at h
  split at h
  ·rename_i ai Ij h1 h2
   cases h
   obtain⟨g1,g2⟩:=wE h2
   refine⟨by simp [g1],fun i o' ho=> ?_⟩
   cases i with
   | zero=>simp at ho;subst ho;exact⟨ai,rfl,h1⟩
   | succ i=>exact g2 i o' (by simpa using ho)
  ·cases h
theorem pB {ct:Array Bool} {i:Nat} (h:i<ct.size):ct.getD i true=ct.getD i false:=by
 simp [h]
theorem oj.done {ct:Array Bool} {X Y:List (Nat×Nat)} {q b:Nat} {dm:List Pd} (hs:oj is af pt ct (X++(q,b)::Y) dm) (hq:q<is.length)
 (AJ : ∀ j∈fE pt q,ct.getD j false=true):oj is af pt (ct.setIfInBounds q true) (X++Y) dm:=by
 obtain⟨g1,g2,g3,g4,g5⟩:=pU hs.ok
 have hqY:q∉Y.map (·.1):=fun hm=>by
  obtain⟨x,hx,rfl⟩:=List.mem_map.1 hm
  exact(wD g5 x hx).1 (by simp)
 refine⟨zA hs.ok,fun i hi=> ?_,fun i hi hl j hj=> ?_,by simp [hs.size],fun x hx=>hs.lt x (by simp at hx ⊢;exact hx.imp id .inr)⟩
 ·by_cases qy:i=q
  ·subst qy
   have:i<ct.size:=by rw [hs.size];exact hq
   simp only [List.map_append,List.mem_append,g2,hqY,or_self,not_false_eq_true,true_or,iff_true]
   simp [this]
  ·rw [getD_set_ne false (Ne.symm qy),hs.AH i hi]
   simp [qy]
 ·by_cases qy:i=q
  ·subst qy;exact getD_set_true (AJ j hj)
  ·rw [getD_set_ne false (Ne.symm qy)]at hl
   exact getD_set_true (hs.cl i hi hl j hj)
theorem oj.flag {ct:Array Bool} {R:List (Nat×Nat)} {dm:List Pd} (hs:oj is af pt ct R dm) {p:Pd} (hq:p.q<is.length)
 (AJ : ∀ j∈fE pt p.q,ct.getD j false=true):oj is af pt (ct.setIfInBounds p.q true) R (p::dm):=by
 refine⟨hs.ok,fun i hi=> ?_,fun i hi hl j hj=> ?_,by simp [hs.size],hs.lt⟩
 ·by_cases qy:i=p.q
  ·subst qy
   have:p.q<ct.size:=by rw [hs.size];exact hq
   simp [this]
  ·rw [getD_set_ne false (Ne.symm qy),hs.AH i hi]
   have eI:p.q≠i:=fun h=>qy h.symm
   simp [eI]
 ·by_cases qy:i=p.q
  ·subst qy;exact getD_set_true (AJ j hj)
  ·rw [getD_set_ne false (Ne.symm qy)]at hl
   exact getD_set_true (hs.cl i hi hl j hj)
theorem FM {ai:AI} (h:ai.kind = .alloc) : ∃ t z,ai = .op (some t) none (.alloc z):=by
 cases ai with
 | op dst g o=>
  unfold AI.kind at h
  split at h
  ·rename_i heq;cases heq;exact⟨_,_,rfl⟩
  ·rename_i heq
   cases heq
   exfalso
   revert h
   cases o <;> simp [AO.kind]
  ·cases h
 | call dst g f xs=>cases h
 | nil dst g n x=>cases h
 | gC dst g t xs=>cases h
theorem FN {ops:Array Oper} (sH:n9 P nt ops ops.toList=some is) (FO:sX af pt is.length=true)
 (hK : ∀ tm bA s,Tm.eqv tm bA→K tm s→K bA s) {ct:Array Bool} {R:List (Nat×Nat)} {dm:List Pd} {act:Act} {w:World} (hs:oj is af pt ct R dm) (h:tO P is K B nt R dm act w)
 (Te : ∀ x l,R=x::l→∀ p∈dm,p.q≠x.1) {q:Nat} (hq:q<is.length) (yw:ct.getD q false=false) (nk : ∀ j∈fE af q,j<is.length∧ct.getD j false=true)
 {Q:Exit→Act→World→Prop} {K2:Act→World→Prop} (Qu : ∀ R' rU a' w',oj is af pt (ct.setIfInBounds q true) R' rU→tO P is K B nt R' rU a' w'→K2 a' w'):wpOp P ops Q q K2 act w:=by
 obtain⟨hlen,hF⟩:=wE sH
 have Nc:q<ops.size:=by rw [hlen]at hq;simpa using hq
 obtain⟨ai,rQ,IA⟩:=hF q ops[q] (by simp [Nc])
 have hi:ops[q]? = some ops[q]:=by simp [Nc]
 have AJ : ∀ j∈fE pt q,ct.getD j false=true:=fun j hj=>by
  rcases w8 FO q hq j hj with h1 | ⟨k,h1,h2⟩
  ·exact(nk j h1).2
  ·exact hs.cl k (nk k h1).1 (nk k h1).2 j h2
 have IB : ∀ p∈dm,p.q≠q:=fun p hp qz=>by
  have:=(hs.AH q hq).2 (.inr ⟨p,hp,qz⟩)
  rw [yw]at this;cases this
 have Qq:q∈R.map (·.1):=by
  by_cases hm:q∈R.map (·.1)
  ·exact hm
  ·have:=(hs.AH q hq).2 (.inl hm)
   rw [yw]at this;cases this
 obtain⟨⟨q',b⟩,hx,VQ⟩:=List.mem_map.1 Qq
 simp only at VQ
 subst VQ
 obtain⟨X,Y,rfl⟩:=List.append_of_mem hx
 obtain⟨g1,g2,g3,g4,g5⟩:=pU hs.ok
 rw [List.append_nil]at g1 g5
 obtain⟨M,s,tm,pV,bn,e,r,ht,nF,hn,hd,hg,rT,pA⟩:=h
 have IC:gD is q'=ai.kind:=by simp [gD,rQ]
 -- what must have come up ahead of it, is not here any more, but for what was allocated early
 have Np : ∀ a∈X.map (·.1),a∈fE pt q'→∃ p∈dm,p.q=a:=fun a ha cU=>by
  have h1:=AJ a cU
  obtain⟨x,VR,rfl⟩:=List.mem_map.1 ha
  rcases(hs.AH x.1 (hs.lt x (by simp [VR]))).1 h1 with h2 | h2
  ·exact(h2 (by simp;exact .inl ⟨x.2,VR⟩)).elim
  ·exact h2
 have Nq : ∀ x l,X=x::l→x.1∉fE pt q':=fun x l hX hxp=>by
  obtain⟨p,hp,qz⟩:=Np x.1 (by simp [hX]) hxp
  exact Te x (l++(q',b)::Y) (by simp [hX]) p hp qz
 have VS : ∀ p∈dm,gD is p.q = .alloc:=fun p hp=>by simp [gD,(rT p hp).ai,AI.kind]
 have xw : ∀ p∈dm,(p.q∈X.map (·.1)→jf is p.q q'=true)→(∀ t,ai.dst=some t→t≠p.t)∧p.t∉ai.reads:=fun p hp hX=>by
  have hk:=rT p hp
  have hm:=hk.mem
  simp only [List.map_append,List.map_cons,List.mem_append,List.mem_cons]at hm
  rcases hm with hm | hm | hm
  ·have:=hX hm
   simp only [jf,hk.ai,rQ]at this
   obtain⟨p1,p2,p3⟩:=apart_spec this
   exact⟨fun t ht he=>p3 p.t rfl (by rw [ht,he]),p1 p.t rfl⟩
  ·exact(IB p hp hm).elim
  ·obtain⟨x,hxY,Nr⟩:=List.mem_map.1 hm
   have:=(wD g5 x hxY).2 (by rw [Nr];exact VS p hp) q' (by simp)
   rw [Nr]at this
   simp only [jf,hk.ai,rQ]at this
   obtain⟨p1,p2,p3⟩:=apart_spec this
   exact⟨fun t ht he=>p3 t ht (by rw [he];rfl),p2 p.t rfl⟩
 have ID:(∀ p∈dm,p.t∉ai.reads)→∀ t∈ai.reads,tm.get t=pV.get t:=fun hp t ht=>(nF t fun p Qs he=>hp p Qs (by rw [he];exact ht)).symm
 have Ns : ∀ p∈dm,p.q∈(X++Y).map (·.1):=fun p hp=>by
  have hm:=(rT p hp).mem
  have:=IB p hp
  simp only [List.map_append,List.map_cons,List.mem_append,List.mem_cons]at hm ⊢
  rcases hm with hm | hm | hm
  ·exact .inl hm
  ·exact(this hm).elim
  ·exact .inr hm
 by_cases Cz:ai.kind = .alloc
 ·-- an allocation
  obtain⟨t,z,rfl⟩:=FM Cz
  have cU : ∀ a∈X.map (·.1),jf is a q'=true:=fun a ha=>by
   unfold l5 at g1
   rw [IC,Cz]at g1
   simp only [List.all_reverse,List.all_eq_true]at g1
   exact g1 a ha
  have AL:=fun p hp=>xw p hp (cU p.q)
  refine D2 hi IA fun vs T hl h1 h2=> ?_
  obtain⟨r1,e1,u1⟩:=r.idle (.cells vs T)
  have Qv:t<act.tmps.size:=by
   rw [hn]
   exact s8 IA t (by rw [← pT IA];rfl)
  have:=hs.flag (p:=⟨q',t,z,w.heap.size⟩) hq AJ
  refine Qu _ _ _ _ this ⟨M,s,tm,pV.put (some t) .junk,bn,e.trans e1,r1,jJ.put ht (dst:=some t) (fun u hu=>by cases hu;exact Qv) (.junk _),fun u hu=> ?_,by simp [Act.put,hn],by simp [Act.put,hd],hg,fun p hp=> ?_,fun p hp p' lP he=> ?_⟩
  ·have h3:=hu ⟨q',t,z,w.heap.size⟩ (by simp)
   rw [Tm.jj,if_neg (by simpa using h3)]
   exact nF u fun p hp=>hu p (List.mem_cons_of_mem _ hp)
  ·rcases List.mem_cons.1 hp with rfl | hp
   ·refine⟨by simp,rQ,⟨vs,T,heap_alloc_new w _,hl,h1,h2⟩,u1,e.size, ?_⟩
    simp [Act.put,Qv]
   ·have hk:=rT p hp
    obtain⟨eR,T',jM,mM,mN,pR⟩:=hk.cells
    refine⟨hk.mem,hk.ai,⟨eR,T',by rw [heap_alloc_old w _ _ (jH jM)];exact jM,mM,mN,pR⟩,hk.unk,hk.base, ?_⟩
    rw [← hk.slot]
    have eI:t≠p.t:=(AL p hp).1 t rfl
    simp [Act.put,Array.getElem?_setIfInBounds_ne eI]
  ·have dI : ∀ p∈dm,¬ (q'=p.q∨t=p.t∨w.heap.size=p.b):=fun p hp h=>by
    rcases h with h | h | h
    ·exact IB p hp h.symm
    ·exact(AL p hp).1 t rfl h
    ·obtain⟨eR,T',jM,_⟩:=(rT p hp).cells
     have:=jH jM
     omega
   rcases List.mem_cons.1 hp with rfl | hp <;> rcases List.mem_cons.1 lP with rfl | lP
   ·rfl
   ·exact(dI p' lP he).elim
   ·exact(dI p hp (he.imp Eq.symm (Or.imp Eq.symm Eq.symm))).elim
   ·exact pA p hp p' lP he
 ·by_cases lg:fv ai.kind=true
  ·-- a step that changes something: it stands first
   have hkc:ai.kind = .core:=by
    cases hk:ai.kind <;> simp_all [fv]
   have hX:X = []:=by
    cases X with
    | nil=>rfl
    | cons x l=>
     refine(Nq x l rfl ?_).elim
     unfold l5 at g1
     rw [IC,hkc]at g1
     simp only [List.all_reverse,List.all_eq_true]at g1
     have:=g1 x.1 (by simp)
     rwa [List.contains_iff_mem]at this
   subst hX
   have AL:=fun p hp=>xw p hp (fun h=>by simp at h)
   simp only [List.nil_append,iR,rQ,lg]at hg
   obtain⟨d,s1,wS,hg⟩:=hg
   have WC:=sE (ID fun p hp=>(AL p hp).2) wS
   refine wpOp_mono (fun a' w' hr=>Qu _ _ _ _ (hs.done hq AJ) hr) ?_
   exact Nn hi IA e r ht nF hn hd rT pA (Cy WC) hg Ns (fun p hp he=>(AL p hp).1 _ he rfl)
  ·-- a step that changes nothing
   have hm:fv ai.kind=false:=by simpa using lg
   have mf : ∀ a∈X.map (·.1),a∉fE pt q':=fun a ha cU=>by
    obtain⟨p,hp,qz⟩:=Np a ha cU
    have Ih:gD is a = .alloc:=by rw [← qz];exact VS p hp
    have iL:iZ is (fE pt q') (X.map (·.1)).reverse=true:=by
     unfold l5 at g1
     rw [IC]at g1
     cases hk:ai.kind with
     | pure=>simp only [hk,Bool.and_eq_true]at g1;exact g1.2
     | load=>simp only [hk,Bool.and_eq_true]at g1;exact g1.1.2
     | alloc=>exact(Cz hk).elim
     | core=>rw [hk]at hm;cases hm
    cases X with
    | nil=>simp at ha
    | cons x l=>
     have ha2:a∈((x::l).map (·.1)).reverse:=List.mem_reverse.2 ha
     obtain⟨l1,l2,mg⟩:=List.append_of_mem ha2
     have xy:=tc iL a l1 l2 mg Ih cU
     refine Nq x l rfl ?_
     cases lM:l2.reverse with
     | nil=>
      have h3:l2 = []:=by simpa using lM
      subst h3
      have:=congrArg List.reverse mg
      simp at this
      rw [this.1];exact cU
     | cons y l3=>
      have:=congrArg List.reverse mg
      simp only [List.reverse_reverse,List.map_cons,List.reverse_append,List.reverse_cons,List.reverse_nil,List.append_assoc,lM,List.cons_append,List.nil_append,List.cons.injEq]at this
      rw [this.1]
      exact xy y (by rw [← List.mem_reverse,lM];simp)
   have cU : ∀ a∈X,jf is a.1 q'=true:=fun a ha=>by
    have h3 : ∀ x∈(X.map (·.1)).reverse,((fE pt q').contains x || jf is x q')=true:=by
     unfold l5 at g1
     rw [IC]at g1
     cases hk:ai.kind with
     | pure=>simp only [hk,Bool.and_eq_true]at g1;exact List.all_eq_true.1 g1.1
     | load=>simp only [hk,Bool.and_eq_true]at g1;exact List.all_eq_true.1 g1.1.1
     | alloc=>exact(Cz hk).elim
     | core=>rw [hk]at hm;cases hm
    have:=h3 a.1 (List.mem_reverse.2 (List.mem_map_of_mem ha))
    simp only [Bool.or_eq_true,List.contains_iff_mem]at this
    exact this.resolve_left (mf a.1 (List.mem_map_of_mem ha))
   have Qw:ai.kind = .load→gJ is (X.map (·.1))≤b:=fun hk=>by
    unfold l5 at g1
    rw [IC,hk]at g1
    simp only [Bool.and_eq_true,decide_eq_true_eq]at g1
    have h3:=g1.2
    have h4:(X.map (·.1)).reverse.filter (fun a=> !(fE pt q').contains a)=(X.map (·.1)).reverse:=by
     rw [List.filter_eq_self]
     intro a ha
     have:=mf a (List.mem_reverse.1 ha)
     simpa using this
    rw [h4]at h3
    unfold gJ at h3 ⊢
    rw [List.filter_reverse,List.length_reverse]at h3
    exact h3
   have AL:=fun p hp=>xw p hp (fun h=>by
    obtain⟨x,hx,Nr⟩:=List.mem_map.1 h
    rw [← Nr];exact cU x hx)
   obtain⟨d,h1,_,Nt⟩:=sF hK rQ hm Y X bn tm s cU Qw hg
   have mN:gY ai pV s=some d:=by rw [← n3 (ID fun p hp=>(AL p hp).2)];exact h1
   refine wpOp_mono (fun a' w' hr=>Qu _ _ _ _ (hs.done hq AJ) hr) ?_
   exact Nn hi IA e r ht nF hn hd rT pA (FL hm mN) Nt Ns (fun p hp he=>(AL p hp).1 _ he rfl)
theorem xa {o:Oper} {j:Nat} : j∈kp o↔∃ e∈o.after,Region.binds .any e=true∧e.on=j:=by
 simp only [kp,List.mem_map,List.mem_filter,Array.mem_toList_iff]
 constructor
 ·rintro⟨e,⟨h1,h2⟩,h3⟩;exact⟨e,h1,h2,h3⟩
 ·rintro⟨e,h1,h2,h3⟩;exact⟨e,⟨h1,h2⟩,h3⟩
theorem FP {ops:Array Oper} (sH:n9 P nt ops ops.toList=some is) (FO:sX (ops.toList.map kp) pt is.length=true)
 (Qx : ∀ i,i<is.length→∀ j∈fE (ops.toList.map kp) i,j<is.length) {Q:Exit→Tm→St→Prop} (hK : ∀ tm bA s,Tm.eqv tm bA→K tm s→K bA s)
 (hKQ : ∀ tm s act w,K tm s→Holds B nt tm s act w→mQ B nt Q .normal act w) :
 ∀ (fuel:Nat) (ct:Array Bool) (R:List (Nat×Nat)) (dm:List Pd) (act:Act) (w:World) (U:List Nat),U.length≤fuel→(∀ j,j<is.length→ct.getD j false=false→j∈U)→
  oj is (ops.toList.map kp) pt ct R dm→tO P is K B nt R dm act w→wpAny P .any ops (mQ B nt Q) fuel ct act w:=by
 obtain⟨hlen,_⟩:=wE sH
 have rV:is.length=ops.size:=by rw [hlen];simp
 have Qy : ∀ (j:Nat) (o:Oper),ops[j]? = some o→fE (ops.toList.map kp) j=kp o:=fun j o h=>by
  simp [fE,List.getD,h]
 have fin : ∀ {ct:Array Bool} {dm:List Pd} {act:Act} {w:World},tO P is K B nt [] dm act w→mQ B nt Q .normal act w:=by
  intro ct dm act w h
  obtain⟨M,s,tm,pV,bn,e,r,ht,nF,hn,hd,hg,rT,pA⟩:=h
  have Cm : ∀ p∈dm,False:=fun p hp=>by have:=(rT p hp).mem;simp at this
  exact hKQ pV s act w (hK tm pV s (fun t=>(nF t fun p hp=>(Cm p hp).elim).symm) hg) ⟨M,e,r,ht,hn,hd⟩
 have IF : ∀ {ct:Array Bool} {R:List (Nat×Nat)} {dm:List Pd} {x:Nat×Nat} {l:List (Nat×Nat)},oj is (ops.toList.map kp) pt ct R dm→R=x::l→(∀ p∈dm,p.q≠x.1)→
  x.1∈Region.ready .any ops ct:=by
  intro ct R dm x l hs hR IB
  subst hR
  have hx:=hs.lt x (by simp)
  rw [mem_ready]
  have yw:ct.getD x.1 false=false:=by
   cases hl:ct.getD x.1 false with
   | false=>rfl
   | true=>
    rcases(hs.AH x.1 hx).1 hl with h1 | ⟨p,hp,qz⟩
    ·exact(h1 (by simp)).elim
    ·exact(IB p hp qz).elim
  have VT:x.1<ops.size:=by rw [← rV];exact hx
  refine⟨by rw [pB (by rw [hs.size];exact hx)];exact yw,ops[x.1],by simp [VT],fun e he hb=> ?_⟩
  have hm:e.on∈fE (ops.toList.map kp) x.1:=by rw [Qy x.1 ops[x.1] (by simp [VT])];exact xa.2 ⟨e,he,hb,rfl⟩
  obtain⟨_,_,_,g4,_⟩:=pU (X:= []) (q:=x.1) (b:=x.2) hs.ok
  obtain⟨h1,h2⟩:=g4 _ hm
  refine(hs.AH e.on (Qx x.1 hx _ hm)).2 (.inl ?_)
  simp only [List.map_cons,List.mem_cons,not_or]
  exact⟨h1,h2⟩
 intro fuel
 induction fuel with
 | zero=>
  intro ct R dm act w U hU yw hs h
  obtain⟨R',rU,l8,h',hn⟩:=norm R dm hs h
  have hUn:U = []:=List.length_eq_zero_iff.1 (by omega)
  have xy : ∀ j,j<is.length→ct.getD j false=true:=fun j hj=>by
   cases hl:ct.getD j false with
   | true=>rfl
   | false=>have:=yw j hj hl;rw [hUn]at this;cases this
  have hR:R' = []:=by
   cases hR:R' with
   | nil=>rfl
   | cons x l=>
    have hx:=l8.lt x (by simp [hR])
    have:=IF l8 hR (hn x l hR)
    rw [mem_ready,pB (by rw [l8.size];exact hx),xy x.1 hx]at this
    cases this.1
  subst hR
  refine⟨?_,fin (ct:=ct) h'⟩
  cases hr:Region.ready .any ops ct with
  | nil=>rfl
  | cons j js=>
   have hj:j∈Region.ready .any ops ct:=by rw [hr];simp
   rw [mem_ready]at hj
   obtain⟨h1,o,ho,_⟩:=hj
   have xb:j<is.length:=by rw [rV];exact(Array.getElem?_eq_some_iff.1 ho).1
   rw [pB (by rw [hs.size];exact xb),xy j xb]at h1
   cases h1
 | succ fuel ih=>
  intro ct R dm act w U hU yw hs h
  obtain⟨R',rU,l8,h',hn⟩:=norm R dm hs h
  refine⟨fun hr=> ?_,fun i hi=> ?_⟩
  ·cases hR:R' with
   | nil=>subst hR;exact fin (ct:=ct) h'
   | cons x l=>
    have:=IF l8 hR (hn x l hR)
    rw [hr]at this
    cases this
  ·rw [mem_ready]at hi
   obtain⟨h1,o,ho,WD⟩:=hi
   have np:i<is.length:=by rw [rV];exact(Array.getElem?_eq_some_iff.1 ho).1
   rw [pB (by rw [hs.size];exact np)]at h1
   refine FN sH FO hK l8 h' hn np h1 (fun j hj=>⟨Qx i np j hj, ?_⟩) fun R2 Tg a2 w2 EE h2=> ?_
   ·rw [Qy i o ho]at hj
    obtain⟨e,he,hb,rfl⟩:=xa.1 hj
    exact WD e he hb
   ·refine ih _ R2 Tg a2 w2 (U.erase i) ?_ (fun j hj hl=> ?_) EE h2
    ·have:=List.length_erase_of_mem (yw i np h1)
     omega
    ·have VU:j≠i:=fun e=>by
      subst e
      have:j<ct.size:=by rw [hs.size];exact np
      simp [this]at hl
     rw [getD_set_ne false (Ne.symm VU)]at hl
     exact(List.mem_erase_of_ne VU).2 (yw j hj hl)
theorem Sem.par {is:List AI} {jD:List (Nat×Nat)} {Q:Exit→Tm→St→Prop} {tm:Tm} {s:St} (h:iR P is (Q .normal) jD [] tm s):Sem P B nt (.par is jD) Q tm s:=by
 intro c hc act w hh
 obtain⟨id,ops,rfl,hi,hm,pt,hp⟩:=jL hc
 simp only [B4,Bool.and_eq_true,List.all_eq_true,List.mem_range,List.contains_iff_mem,decide_eq_true_eq]at hp
 obtain⟨⟨⟨⟨h1,h2⟩,h3⟩,h4⟩,h5⟩:=hp
 obtain⟨hlen,_⟩:=wE hi
 have rV:is.length=ops.size:=by rw [hlen];simp
 refine wp_region_any hm ?_
 obtain⟨M,e,r,ht,hn,hd⟩:=hh
 have key : ∀ (R:List (Nat×Nat)) (bn:List St) (tm:Tm) (s:St),iR P is (Q .normal) R bn tm s→iR P is (fun tm s=>∃ bA,tm.eqv bA∧Q .normal bA s) R bn tm s:=by
  intro R
  induction R with
  | nil=>intro bn tm s h;exact⟨tm,fun _=>rfl,h⟩
  | cons x R ih=>
   obtain⟨q,b⟩:=x
   intro bn tm s h
   unfold iR at h ⊢
   split at h
   ·exact h.elim
   ·split at h
    ·obtain⟨d,s',h1,h2⟩:=h;exact⟨d,s',h1,ih _ _ _ h2⟩
    ·obtain⟨d,h1,h2,h3⟩:=h;exact⟨d,h1,h2,ih _ _ _ h3⟩
 have hg:=key _ _ _ _ h
 refine FP (K:=fun tm s=>∃ bA,tm.eqv bA∧Q .normal bA s) hi h1 h5 (fun tm bA s he ⟨t2,h3,h4⟩=>⟨t2,fun t=>(he t).symm.trans (h3 t),h4⟩)
  (fun tm s act w ⟨t2,h3,h4⟩ ⟨M,e,r,ht,hn,hd⟩=>⟨t2,s,h4,M,e,r,fun t=>by rw [← h3 t];exact ht t,hn,hd⟩) ops.size _ jD [] act _ (List.range is.length) (by simp [rV]) (fun j hj _=>by simpa using hj)
  ⟨h2,fun i hi=> ?_,fun i hi hl=> ?_,by simp [rV],h4⟩ ⟨M,s,tm,tm,[],⟨e.le,e.kept,e.n6,e.n7,e.qc,e.size,e.os,e.tape,e.output⟩,r.of_heap rfl,ht,fun _ _=>rfl,hn,hd,hg,by simp,by simp⟩
 ·have:i<ops.size:=by rw [← rV];exact hi
  have h6:=h3 i hi
  simp only [List.not_mem_nil,false_and,exists_false,or_false]
  rw [show(Array.replicate ops.size false).getD i false=false by simp [this]]
  simp [h6]
 ·have:i<ops.size:=by rw [← rV];exact hi
  rw [show(Array.replicate ops.size false).getD i false=false by simp [this]]at hl
  cases hl
end
end Go.Abs

/-! Step -/

namespace Go.Abs
theorem OB (k:IntKind) (n:Int):D.row (.int k n)=some [.int k n]:=rfl
theorem KM (b:Bool):D.row (.bool b)=some [.bool b]:=rfl
theorem OC (l:List UInt8):D.row (.str l)=some [.str l]:=rfl
theorem KN:D.row .eJ=some [.eJ]:=rfl
theorem OD (o f:Nat):D.row (.ptr o f)=some [.ptr o f]:=rfl
theorem KO (r:List D) (f:Nat):D.row (.dE r f)=some [.dE r f]:=rfl
theorem IG (g:Tag) (z:Nat) (r:List (List D)):D.row (.slice g z r)=some [.slice g z r]:=rfl
theorem OE (cs:List D):D.row (.agg cs)=some cs:=rfl
theorem OF (v:Value):D.row (.val v)=some [.val v]:=rfl
theorem II (T:TypeId) (o:Nat):D.row (.eO T o)=some [.eO T o]:=rfl
theorem OG (f:Nat) (cs:List D):D.row (.fA f cs)=some [.fA f cs]:=rfl
theorem KP (o:Nat):D.row (.fL o)=some [.fL o]:=rfl
theorem KQ (w:Bool):Tag.cut .full w=if w then .full else .shared:=rfl
theorem FQ (w:Bool):Tag.cut .shared w = .shared:=rfl
theorem KR (t:Nat) (y:Bool) (w:Bool):Tag.cut (.tok t y) w = .tok t y:=rfl
section
variable {P:Program}
def KC (P:Program) (r:List AI) (K:Tm→St→Prop) (tm:Tm) (dst:Option Nat) (d:D) (s:St):Prop:=gj P r K (tm.put dst d) s
def GI (P:Program) (g:D) (want:Bool) (i:AI) (r:List AI) (K:Tm→St→Prop) (tm:Tm) (s:St):Prop:=
 match g with
 | .bool b=>(b=want→gj P (i::r) K tm s)∧(b=(!want)→gj P r K (tm.put i.dst (.tuple [])) s)
 | .tuple _=>gj P r K (tm.put i.dst (.tuple [])) s
 | _=>False
def NI (P:Program) (dst:Option Nat) (neg:Bool) (x:D) (r:List AI) (K:Tm→St→Prop) (tm:Tm) (s:St):Prop:=
 match x with
 | .slice _ _ rows=>∀ b:Bool,(rows≠ []→b=false)→gj P r K (tm.put dst (.bool (if neg then !b else b))) s
 | _=>False
def qJ (d:D) (A C:Prop):Prop:=
 match d with
 | .bool b=>(b=true→A)∧(b=false→C)
 | _=>False
theorem Sem.Ti {B:fO} {nt:Nat} {Q:Exit→Tm→St→Prop} {tm:Tm} {s:St} {x:X} {a b:AC} (h:qJ (x.ev tm) (Sem P B nt a Q tm s) (Sem P B nt b Q tm s)):Sem P B nt (.cond x a b) Q tm s:=by
 unfold qJ at h
 split at h
 ·rename_i t ht
  exact Sem.cond ht h.1 h.2
 ·exact h.elim
def fx (P:Program) (K:Tm→St→Prop):List (AI×Nat)→List St→Tm→St→Prop
 | [],_,tm,s=>K tm s
 | (ai,b)::r,bn,tm,s=>
  match fv ai.kind with
  | true=>∃ d s',px P ai tm s d s'∧fx P K r (s::bn) (tm.put ai.dst d) s'
  | false=>∃ d,gY ai tm s=some d∧(ai.kind = .load→∀ s'∈bn.take b,gY ai tm s'=some d)∧fx P K r bn (tm.put ai.dst d) s
def kv (is:List AI):List (Nat×Nat)→Option (List (AI×Nat))
 | []=>some []
 | (q,b)::r=>match is[q]?,kv is r with
  | some ai,some l=>some ((ai,b)::l)
  | _,_=>none
theorem zB {is:List AI} {K:Tm→St→Prop} : ∀ {jD:List (Nat×Nat)} {items:List (AI×Nat)} {bn:List St} {tm:Tm} {s:St},kv is jD=some items→fx P K items bn tm s→iR P is K jD bn tm s
 | [],items,bn,tm,s,h,g=>by cases h;exact g
 | (q,b)::r,items,bn,tm,s,h,g=>by
  simp only [kv]at h
  split at h
  ·rename_i ai l h1 h2
   cases h
   simp only [fx]at g
   simp only [iR,h1]
   split at g
   ·rename_i hk
    obtain⟨d,s',g1,g2⟩:=g
    try simp only [hk]
    exact⟨d,s',g1,zB h2 g2⟩
   ·rename_i hk
    obtain⟨d,g1,g2,g3⟩:=g
    try simp only [hk]
    exact⟨d,g1,g2,zB h2 g3⟩
  ·cases h
theorem Sem.WE {B:fO} {nt:Nat} {Q:Exit→Tm→St→Prop} {tm:Tm} {s:St} {is:List AI} {jD:List (Nat×Nat)} {items:List (AI×Nat)} (hi:kv is jD=some items) (h:fx P (Q .normal) items [] tm s):Sem P B nt (.par is jD) Q tm s:=
 Sem.par (zB hi h)
def AI.free:AI→AI
 | .op d _ o=> .op d none o
 | .call d _ f xs=> .call d none f xs
 | .nil d _ n x=> .nil d none n x
 | .gC d _ t xs=> .gC d none t xs
def GL (P:Program) (g:D) (want:Bool) (i:AI) (b:Nat) (r:List (AI×Nat)) (K:Tm→St→Prop) (bn:List St) (tm:Tm) (s:St):Prop:=
 match g with
 | .bool v=>(v=want→fx P K ((i,b)::r) bn tm s)∧(v=(!want)→fx P K r (if fv i.kind then s::bn else bn) (tm.put i.dst (.tuple [])) s)
 | .tuple _=>fx P K r (if fv i.kind then s::bn else bn) (tm.put i.dst (.tuple [])) s
 | _=>False
def CL (P:Program) (f:Nat) (args:List D) (s:St) (K:D→St→Prop):Prop:=∃ d s',aA P f args s d s'∧K d s'
def KL (P:Program) (K:Tm→St→Prop) (r:List (AI×Nat)) (bn:List St) (tm:Tm) (dst:Option Nat) (d:D) (s:St):Prop:=fx P K r bn (tm.put dst d) s
def lk (i:AI) (tm:Tm) (d:D):List St→Prop
 | []=>True
 | s::r=>gY i tm s=some d∧lk i tm d r
theorem yx {i:AI} {tm:Tm} {d:D} : ∀ {l:List St},lk i tm d l→∀ s∈l,gY i tm s=some d
 | [],_,s,h=>by cases h
 | a::l,h,s,hs=>by
  rcases List.mem_cons.1 hs with rfl | hs
  ·exact h.1
  ·exact yx h.2 s hs
def PL (P:Program) (o:AO) (dst:Option Nat) (b:Nat) (r:List (AI×Nat)) (K:Tm→St→Prop) (bn:List St) (tm:Tm) (s:St):Prop:=
 match aN o tm s with
 | some (d,_)=>lk (.op dst none o) tm d (bn.take b)∧fx P K r bn (tm.put dst d) s
 | none=>False
def ML (P:Program) (o:AO) (dst:Option Nat) (r:List (AI×Nat)) (K:Tm→St→Prop) (bn:List St) (tm:Tm) (s:St):Prop:=
 match aN o tm s with
 | some (d,s')=>fx P K r (s::bn) (tm.put dst d) s'
 | none=>False
def AO.core:AO→Bool
 | .alloc _=>true
 | .box _=>true
 | .qT .. =>true
 | .u9 _=>true
 | .store .. =>true
 | .app .. =>true
 | .pL .. =>true
 | .va .. =>true
 | .vb .. =>true
 | .apps .. =>true
 | .rH=>true
 | .vd .. =>true
 | _=>false
theorem pW (dst:Option Nat) (g:Option (Nat×Bool)) (o:AO):fv (AI.op dst g o).kind=o.core:=by
 cases dst <;> cases g <;> cases o <;> rfl
def OL (P:Program) (o:AO) (dst:Option Nat) (b:Nat) (r:List (AI×Nat)) (K:Tm→St→Prop) (bn:List St) (tm:Tm) (s:St):Prop:=
 match o.core with
 | true=>ML P o dst r K bn tm s
 | false=>PL P o dst b r K bn tm s
theorem CA {K:Tm→St→Prop} {dst:Option Nat} {o:AO} {b:Nat} {r:List (AI×Nat)} {bn:List St} {tm:Tm} {s:St} (h:OL P o dst b r K bn tm s) :
 fx P K ((.op dst none o,b)::r) bn tm s:=by
 unfold OL at h
 simp only [fx,pW]
 cases hc:o.core with
 | true=>
  simp only [hc,ML]at h
  simp only []
  split at h
  ·rename_i d s' he
   exact⟨d,s',by simpa [px,guarded]using he,h⟩
  ·exact h.elim
 | false=>
  simp only [hc,PL]at h
  simp only []
  split at h
  ·rename_i d s' he
   exact⟨d,by simp [gY,he],fun _=>yx h.1,h.2⟩
  ·exact h.elim
theorem FT {K:Tm→St→Prop} {dst:Option Nat} {f:Nat} {xs:List X} {b:Nat} {r:List (AI×Nat)} {bn:List St} {tm:Tm} {s:St} (h:CL P f (xs.map (·.ev tm)) s (KL P K r (s::bn) tm dst)) :
 fx P K ((.call dst none f xs,b)::r) bn tm s:=by
 obtain⟨d,s',h1,h2⟩:=h
 exact⟨d,s',h1,h2⟩
theorem Qz {K:Tm→St→Prop} {i:AI} {t:Nat} {w:Bool} {b:Nat} {r:List (AI×Nat)} {bn:List St} {tm:Tm} {s:St} {j:AI} (hf:(∃ d o,i = .op d none o∧j = .op d (some (t,w)) o)∨(∃ d f xs,i = .call d none f xs∧j = .call d (some (t,w)) f xs))
 (hg:tm.get t = .bool w) (h:fx P K ((i,b)::r) bn tm s):fx P K ((j,b)::r) bn tm s:=by
 rcases hf with ⟨d,o,rfl,rfl⟩ | ⟨d,f,xs,rfl,rfl⟩
 ·simp only [fx,pW]at h ⊢
  cases hc:o.core <;> simp only [hc]at h ⊢
  ·obtain⟨x,h1,h2,h3⟩:=h
   refine⟨x,by simpa [gY,hg]using h1,fun hk s' l8=> ?_,h3⟩
   have w9:(AI.op d none o).kind = .load:=by
    cases d <;> cases o <;> first | exact hk | (cases hc;done) | (cases hk;done)
   simpa [gY,hg]using h2 w9 s' l8
  ·obtain⟨x,s',h1,h2⟩:=h
   exact⟨x,s',by simpa [px,guarded,hg]using h1,h2⟩
 ·obtain⟨x,s',h1,h2⟩:=h
  exact⟨x,s',by simpa [px,guarded,hg]using h1,h2⟩
theorem IJ {K:Tm→St→Prop} {i:AI} {t:Nat} {w:Bool} {b:Nat} {r:List (AI×Nat)} {bn:List St} {tm:Tm} {s:St} {j:AI} (hf:(∃ d o,i = .op d none o∧j = .op d (some (t,w)) o)∨(∃ d f xs,i = .call d none f xs∧j = .call d (some (t,w)) f xs))
 (hg:tm.get t = .bool (!w)∨∃ l,tm.get t = .tuple l) (h:fx P K r (if fv i.kind then s::bn else bn) (tm.put i.dst (.tuple [])) s):fx P K ((j,b)::r) bn tm s:=by
 rcases hf with ⟨d,o,rfl,rfl⟩ | ⟨d,f,xs,rfl,rfl⟩
 ·simp only [fx,pW]at h ⊢
  cases hc:o.core <;> simp only [hc]at h ⊢
  ·refine⟨.tuple [], ?_,fun hk s' l8=> ?_,h⟩
   ·rcases hg with hg | ⟨l,hg⟩ <;> simp [gY,hg]
   ·rcases hg with hg | ⟨l,hg⟩ <;> simp [gY,hg]
  ·refine⟨.tuple [],s, ?_,h⟩
   rcases hg with hg | ⟨l,hg⟩ <;> simp [px,guarded,hg]
 ·refine⟨.tuple [],s, ?_,h⟩
  rcases hg with hg | ⟨l,hg⟩ <;> simp [px,guarded,hg]
theorem EN {K:Tm→St→Prop} {i j:AI} {t:Nat} {w:Bool} {b:Nat} {r:List (AI×Nat)} {bn:List St} {tm:Tm} {s:St} (hf:(∃ d o,i = .op d none o∧j = .op d (some (t,w)) o)∨(∃ d f xs,i = .call d none f xs∧j = .call d (some (t,w)) f xs))
 (h:GL P (tm.get t) w i b r K bn tm s):fx P K ((j,b)::r) bn tm s:=by
 unfold GL at h
 split at h
 ·rename_i v hv
  by_cases e:v=w
  ·exact Qz hf (by rw [hv,e]) (h.1 e)
  ·exact IJ hf (.inl (by rw [hv];cases v <;> cases w <;> simp_all)) (h.2 (by cases v <;> cases w <;> simp_all))
 ·rename_i l hl
  exact IJ hf (.inr ⟨l,hl⟩) h
 ·exact h.elim
theorem AN {K:Tm→St→Prop} {dst:Option Nat} {o:AO} {t:Nat} {w:Bool} {b:Nat} {r:List (AI×Nat)} {bn:List St} {tm:Tm} {s:St} (h:GL P (tm.get t) w (.op dst none o) b r K bn tm s) :
 fx P K ((.op dst (some (t,w)) o,b)::r) bn tm s:=EN (.inl ⟨dst,o,rfl,rfl⟩) h
theorem D4 {K:Tm→St→Prop} {dst:Option Nat} {f:Nat} {xs:List X} {t:Nat} {w:Bool} {b:Nat} {r:List (AI×Nat)} {bn:List St} {tm:Tm} {s:St} (h:GL P (tm.get t) w (.call dst none f xs) b r K bn tm s) :
 fx P K ((.call dst (some (t,w)) f xs,b)::r) bn tm s:=EN (.inr ⟨dst,f,xs,rfl,rfl⟩) h
theorem CU {f:Nat} {args:List D} {s:St} {d:D} {s':St} {K:D→St→Prop} (h:aA P f args s d s') (hk:K d s'):CL P f args s K:=⟨d,s',h,hk⟩
end
end Go.Abs

/-! Wp -/

namespace Go.Abs
theorem nd {α:Type} {a b:α} (h:a=b):a=b:=h
def GJ (g:D) (w:Bool) (A C:Prop):Prop:=
 match g with
 | .bool b=>(b=w→A)∧(b=(!w)→C)
 | .tuple _=>C
 | _=>False
class VV where
 a:Prop
 c:Prop
def CB (d:D) [b:VV] : Prop:=qJ d b.a b.c
def GB (d:D) (w:Bool) [b:VV] : Prop:=GJ d w b.a b.c
def kx (g:Option (Nat×Bool)) (tm:Tm) (A C:Prop):Prop:=
 match g with
 | none=>A
 | some (t,w)=>GJ (tm.get t) w A C
def iN (P:Program):List AI→(Tm→St→Prop)→Tm→St→Prop
 | [],K,tm,s=>K tm s
 | .op dst g o::r,K,tm,s=>kx g tm (match aN o tm s with | some (d,s')=>iN P r K (tm.put dst d) s' | none=>False) (iN P r K (tm.put dst (.tuple [])) s)
 | .call dst g f xs::r,K,tm,s=>kx g tm (CL P f (xs.map (·.ev tm)) s fun d s'=>iN P r K (tm.put dst d) s') (iN P r K (tm.put dst (.tuple [])) s)
 | .nil dst g neg x::r,K,tm,s=>
  kx g tm (match x.ev tm with
   | .slice _ _ rows=>∀ b:Bool,(rows≠ []→b=false)→iN P r K (tm.put dst (.bool (if neg then !b else b))) s
   | _=>False) (iN P r K (tm.put dst (.tuple [])) s)
 | .gC dst g t xs::r,K,tm,s=>
  kx g tm (match tm.get t with
   | .fA f kS=>enters P f=true∧CL P f (xs.map (·.ev tm)++kS) s fun d s'=>iN P r K (tm.put dst d) s'
   | _=>False) (iN P r K (tm.put dst (.tuple [])) s)
theorem pC {g:Option (Nat×Bool)} {tm:Tm} {A C A' C':Prop} (h:kx g tm A C) (ha:A→A') (hc:C→C'):guarded g tm A' C':=by
 unfold kx at h
 unfold guarded
 cases g with
 | none=>exact ha h
 | some p=>
  obtain⟨t,w⟩:=p
  simp only [GJ]at h ⊢
  split at h
  ·rename_i hb;try simp only [hb]
   exact⟨fun e=>ha (h.1 e),fun e=>hc (h.2 e)⟩
  ·rename_i hb;try simp only [hb]
   exact hc h
  ·exact h.elim
theorem lx {P:Program} {K:Tm→St→Prop} : ∀ {is:List AI} {tm:Tm} {s:St},iN P is K tm s→gj P is K tm s
 | [],tm,s,h=>h
 | .op dst g o::r,tm,s,h=>by
  refine pC h (fun h=> ?_) lx
  split at h
  ·rename_i he;try simp only [he]
   exact lx h
  ·exact h.elim
 | .call dst g f xs::r,tm,s,h=>pC h (fun⟨d,s',h1,h2⟩=>h1.use (lx h2)) lx
 | .nil dst g neg x::r,tm,s,h=>by
  refine pC h (fun h=> ?_) lx
  split at h
  ·rename_i he;try simp only [he]
   exact fun b hb=>lx (h b hb)
  ·exact h.elim
 | .gC dst g t xs::r,tm,s,h=>by
  refine pC h (fun h=> ?_) lx
  split at h
  ·rename_i he;try simp only [he]
   obtain⟨h0,d,s',h1,h2⟩:=h
   exact⟨h0,h1.use (lx h2)⟩
  ·exact h.elim
def e9 (P:Program) (K:Tm→St→Prop):List (AI×Nat)→List St→Tm→St→Prop
 | [],_,tm,s=>K tm s
 | (.op dst g o,b)::r,bn,tm,s=>
  match o.core with
  | true=>kx g tm (match aN o tm s with | some (d,s')=>e9 P K r (s::bn) (tm.put dst d) s' | none=>False) (e9 P K r (s::bn) (tm.put dst (.tuple [])) s)
  | false=>kx g tm (match aN o tm s with | some (d,_)=>lk (.op dst none o) tm d (bn.take b)∧e9 P K r bn (tm.put dst d) s | none=>False) (e9 P K r bn (tm.put dst (.tuple [])) s)
 | (.call dst g f xs,_)::r,bn,tm,s=>kx g tm (CL P f (xs.map (·.ev tm)) s fun d s'=>e9 P K r (s::bn) (tm.put dst d) s') (e9 P K r (s::bn) (tm.put dst (.tuple [])) s)
 | (.nil ..,_)::_,_,_,_=>False
 | (.gC ..,_)::_,_,_,_=>False
theorem vE {P:Program} {t:Nat} {w:Bool} {tm:Tm} {i:AI} {b:Nat} {r:List (AI×Nat)} {K:Tm→St→Prop} {bn:List St} {s:St} {A C:Prop} (h:kx (some (t,w)) tm A C) (ha:A→fx P K ((i,b)::r) bn tm s)
 (hc:C→fx P K r (if fv i.kind then s::bn else bn) (tm.put i.dst (.tuple [])) s):GL P (tm.get t) w i b r K bn tm s:=by
 simp only [kx,GJ]at h
 unfold GL
 split at h
 ·rename_i hb;try simp only [hb]
  exact⟨fun e=>ha (h.1 e),fun e=>hc (h.2 e)⟩
 ·rename_i hb;try simp only [hb]
  exact hc h
 ·exact h.elim
theorem j6 {P:Program} {K:Tm→St→Prop} : ∀ {l:List (AI×Nat)} {bn:List St} {tm:Tm} {s:St},e9 P K l bn tm s→fx P K l bn tm s
 | [],bn,tm,s,h=>h
 | (.op dst g o,b)::r,bn,tm,s,h=>by
  simp only [e9]at h
  cases hc:o.core with
  | true=>
   simp only [hc]at h
   have ha:(match aN o tm s with | some (d,s')=>e9 P K r (s::bn) (tm.put dst d) s' | none=>False)→fx P K ((.op dst none o,b)::r) bn tm s:=by
    intro h
    refine CA ?_
    simp only [OL,hc,ML]
    split at h
    ·rename_i he;try simp only [he]
     exact j6 h
    ·exact h.elim
   cases g with
   | none=>exact ha h
   | some p=>
    obtain⟨t,w⟩:=p
    refine AN (vE h ha fun h=> ?_)
    simp only [pW,hc,if_true]
    exact j6 h
  | false=>
   simp only [hc]at h
   have ha:(match aN o tm s with | some (d,_)=>lk (.op dst none o) tm d (bn.take b)∧e9 P K r bn (tm.put dst d) s | none=>False)→fx P K ((.op dst none o,b)::r) bn tm s:=by
    intro h
    refine CA ?_
    simp only [OL,hc,PL]
    split at h
    ·rename_i he;try simp only [he]
     exact⟨h.1,j6 h.2⟩
    ·exact h.elim
   cases g with
   | none=>exact ha h
   | some p=>
    obtain⟨t,w⟩:=p
    refine AN (vE h ha fun h=> ?_)
    simp only [pW,hc]
    exact j6 h
 | (.call dst g f xs,b)::r,bn,tm,s,h=>by
  simp only [e9]at h
  have ha:(CL P f (xs.map (·.ev tm)) s fun d s'=>e9 P K r (s::bn) (tm.put dst d) s')→fx P K ((.call dst none f xs,b)::r) bn tm s:=
   fun⟨d,s',h1,h2⟩=>FT ⟨d,s',h1,j6 h2⟩
  cases g with
  | none=>exact ha h
  | some p=>
   obtain⟨t,w⟩:=p
   exact D4 (vE h ha fun h=>j6 h)
 | (.nil ..,_)::_,bn,tm,s,h=>h.elim
 | (.gC ..,_)::_,bn,tm,s,h=>h.elim
section
variable {P:Program} {B:fO} {nt:Nat}
def jq (P:Program) (B:fO) (nt:Nat):AC→(Exit→Tm→St→Prop)→Tm→St→Prop
 | .skip,Q,tm,s=>Q .normal tm s
 | .run is,Q,tm,s=>iN P is (Q .normal) tm s
 | .par is jD,Q,tm,s=>match kv is jD with | some l=>e9 P (Q .normal) l [] tm s | none=>False
 | .seq a b,Q,tm,s=>jq P B nt a (og (jq P B nt b Q) Q) tm s
 | .cond x a b,Q,tm,s=>qJ (x.ev tm) (jq P B nt a Q tm s) (jq P B nt b Q tm s)
 | .block id a,Q,tm,s=>jq P B nt a (mb id Q) tm s
 | .loop a,Q,tm,s=>bj P B nt a Q tm s
 | .exit id,Q,tm,s=>Q (.exit id) tm s
 | .scope a,Q,tm,s=>Fy P B nt a a Q tm s
 | .label _,Q,tm,s=>Q .normal tm s
 | .goto l,Q,tm,s=>Q (.goto l) tm s
 | .ret,Q,tm,s=>Q .ret tm s
theorem gP : ∀ {ac:AC} {Q:Exit→Tm→St→Prop} {tm:Tm} {s:St},jq P B nt ac Q tm s→Sem P B nt ac Q tm s:=by
 intro ac
 induction ac with
 | skip=>exact fun h=>Sem.skip h
 | run is=>exact fun h=>Sem.run (lx h)
 | par is jD=>
  intro Q tm s h
  simp only [jq]at h
  split at h
  ·exact Sem.WE ‹_› (j6 h)
  ·exact h.elim
 | seq a b QB QC=>
  intro Q tm s h
  refine Sem.seq ((QB h).mono fun e tm s hq=> ?_)
  cases e with
  | normal=>exact QC hq
  | _=>exact hq
 | cond x a b QB QC=>
  intro Q tm s h
  refine Sem.Ti ?_
  simp only [jq]at h
  unfold qJ at h ⊢
  split at h
  ·exact⟨fun e=>QB (h.1 e),fun e=>QC (h.2 e)⟩
  ·exact h.elim
 | block id a ih=>exact fun h=>Sem.block (ih h)
 | loop a ih=>exact fun h=>Sem.loop h
 | exit id=>exact fun h=>Sem.exit h
 | scope a ih=>exact fun h=>Sem.scope h
 | label l=>exact fun h=>Sem.label h
 | goto l=>exact fun h=>Sem.goto h
 | ret=>exact fun h=>Sem.ret h
section
variable (Q:Exit→Tm→St→Prop) (N:Tm→St→Prop) (tm:Tm) (s:St) (a b:AC) (is:List AI) (x:X)
theorem KS:jq P B nt .skip Q tm s=Q .normal tm s:=nd rfl
theorem OI:jq P B nt (.run is) Q tm s=iN P is (Q .normal) tm s:=nd rfl
theorem OM (jD:List (Nat×Nat)):jq P B nt (.par is jD) Q tm s=match kv is jD with | some l=>e9 P (Q .normal) l [] tm s | none=>False:=nd rfl
theorem ON:jq P B nt (.seq a b) Q tm s=jq P B nt a (og (jq P B nt b Q) Q) tm s:=nd rfl
theorem KT:jq P B nt (.cond x a b) Q tm s = @CB (x.ev tm) ⟨jq P B nt a Q tm s,jq P B nt b Q tm s⟩:=nd rfl
theorem IK (id:Nat):jq P B nt (.block id a) Q tm s=jq P B nt a (mb id Q) tm s:=nd rfl
theorem KU:jq P B nt (.loop a) Q tm s=bj P B nt a Q tm s:=nd rfl
theorem IL:jq P B nt (.scope a) Q tm s=Fy P B nt a a Q tm s:=nd rfl
theorem KV (id:Nat):jq P B nt (.exit id) Q tm s=Q (.exit id) tm s:=nd rfl
theorem IM (id:Nat):jq P B nt (.label id) Q tm s=Q .normal tm s:=nd rfl
theorem KW (id:Nat):jq P B nt (.goto id) Q tm s=Q (.goto id) tm s:=nd rfl
theorem OO:jq P B nt .ret Q tm s=Q .ret tm s:=nd rfl
theorem OP:og N Q .normal tm s=N tm s:=nd rfl
theorem OQ:og N Q .ret tm s=Q .ret tm s:=nd rfl
theorem OR (id:Nat):og N Q (.exit id) tm s=Q (.exit id) tm s:=nd rfl
theorem OS (id:Nat):og N Q (.goto id) tm s=Q (.goto id) tm s:=nd rfl
theorem KX (id:Nat):mb id Q .normal tm s=Q .normal tm s:=nd rfl
theorem KY (id:Nat):mb id Q .ret tm s=Q .ret tm s:=nd rfl
theorem KZ (id l:Nat):mb id Q (.goto l) tm s=Q (.goto l) tm s:=nd rfl
theorem K0 (id i:Nat):mb id Q (.exit i) tm s=if i=id then Q .normal tm s else Q (.exit i) tm s:=nd rfl
end
theorem bj.tP {a:AC} {Q:Exit→Tm→St→Prop} {tm:Tm} {s:St} (h:jq P B nt a (og (bj P B nt a Q) Q) tm s):bj P B nt a Q tm s:=bj.once (gP h)
def rW (tm:Tm) (n m:Nat):Tm→Prop
 | []=>True
 | (k,d)::r=>Wk ((tm.get k).fg n m) d∧rW tm n m r
theorem rW.get {tm:Tm} {n m:Nat} : ∀ {bA:Tm},rW tm n m bA→∀ t,Wk ((tm.get t).fg n m) (bA.get t)
 | [],_,t=>Wk.junk _
 | (k,d)::r,h,t=>by
  simp only [Tm.get]
  split
  ·rename_i hk;subst hk;exact h.1
  ·exact rW.get h.2 t
theorem Holds.re {Q:Exit→Tm→St→Prop} {tm bA:Tm} {s:St} {kn:List (List D)} {act:Act} {w:World} (n m:Nat) (hn:B.s.av.length≤n) (hm:B.s.ax.length≤m) (ht:rW tm n m bA) (ho:gv (s.cut n m).av kn)
 (h:Holds B nt tm s act w):Holds B nt bA ⟨kn,(s.cut n m).ax⟩ act w:=by
 obtain⟨M,e,r,hr,h1,h2⟩:=h
 obtain⟨r',le⟩:=(r.cut n m).Cu ho
 have e':=e.cut hn hm
 refine⟨M,e'.trans ⟨le,fun _ _ _ _=>rfl,fun o h1 h2=> ?_,fun t b c z hl e=> .inl ⟨hl,c,z,e⟩,fun _ _ h=>(h rfl).elim,Nat.le_refl _,rfl,rfl,rfl⟩,r',fun k=>((ht.get k) _ _ _ ((hr k).fg n m)).mono le,h1,h2⟩
 rw [← ho.len]at h2
 exact absurd h2 (Nat.not_lt.2 h1)
theorem bj.re {a:AC} {Q:Exit→Tm→St→Prop} {tm:Tm} {s:St} (bA:Tm) (kn:List (List D)) (n m:Nat) (hn:B.s.av.length≤n) (hm:B.s.ax.length≤m) (ht:rW tm n m bA) (ho:gv (s.cut n m).av kn)
 (h:bj P B nt a Q bA ⟨kn,(s.cut n m).ax⟩):bj P B nt a Q tm s:=
 fun c hc act w hh=>h c hc act w (hh.re (Q:=Q) n m hn hm ht ho)
theorem bj.ind {ι:Type} {a:AC} {Q:Exit→Tm→St→Prop} (I:ι→Prop) (μ:ι→Nat) (TM:ι→Tm) (ST:ι→St)
 (step : ∀ i,I i→(∀ j,I j→μ j<μ i→bj P B nt a Q (TM j) (ST j))→jq P B nt a (og (bj P B nt a Q) Q) (TM i) (ST i)) : ∀ i,I i→bj P B nt a Q (TM i) (ST i):=by
 have key : ∀ n i,μ i<n→I i→bj P B nt a Q (TM i) (ST i):=by
  intro n
  induction n with
  | zero=>intro i h;exact absurd h (Nat.not_lt_zero _)
  | succ n ih=>exact fun i h hi=>bj.tP (step i hi fun j hj hD=>ih j (by omega) hj)
 exact fun i hi=>key (μ i+1) i (Nat.lt_succ_self _) hi
theorem drop_cons {α:Type} {l rest:List α} {k:Nat} {x:α} (h:l.drop k=x::rest):l[k]? = some x∧l.drop (k+1)=rest∧decide ((k:Int)<(l.length:Int))=true∧k<l.length:=by
 have h1:l[k]? = some x:=by
  have:(l.drop k)[0]? = some x:=by rw [h];rfl
  simpa using this
 have h2:=(List.getElem?_eq_some_iff.1 h1).1
 refine⟨h1, ?_,by simpa using h2,h2⟩
 have:l.drop (k+1)=(l.drop k).drop 1:=by rw [List.drop_drop]
 rw [this,h];rfl
theorem drop_nil {α:Type} {l:List α} {k:Nat} (h:l.drop k = []):decide ((k:Int)<(l.length:Int))=false:=by
 have:=List.drop_eq_nil_iff.1 h
 simp;omega
theorem bj.mh {a:AC} {Q:Exit→Tm→St→Prop} {tm:Tm} {s:St} (t z':Nat) {z:Nat} (hw:tm.get t = .slice .full z [])
 (h:bj P B nt a Q (tm.set t (.slice (.tok s.ax.length) z' [])) {s with ax:=s.ax++ [some 0]}):bj P B nt a Q tm s:=by
 intro c hc act w ⟨M,e,r,ht,h1,h2⟩
 obtain⟨r',le⟩:=r.blank
 refine h c hc act w ⟨_,AE e le,r',fun k=> ?_,h1,h2⟩
 rw [Tm.zq]
 split
 ·rename_i hk;subst hk;have:=ht k;rw [hw]at this;exact this.own
 ·exact(ht k).mono le
theorem bj.K1 {a:AC} {Q:Exit→Tm→St→Prop} {tm:Tm} {s:St} (o i z':Nat) {z:Nat} {cs:List D} (hc:s.av[o]? = some cs) (hi:cs[i]? = some (.slice .full z []))
 (h:bj P B nt a Q tm ⟨s.av.set o (cs.set i (.slice (.tok s.ax.length) z' [])),s.ax++ [some 0]⟩):bj P B nt a Q tm s:=by
 intro c Qc act w hh
 obtain⟨M,e,r,ht,h1,h2⟩:=hh
 obtain⟨r',le⟩:=r.blank
 have VW:Le M s (M.dP s.ax.length none) ⟨s.av.set o (cs.set i (.slice (.tok s.ax.length) z' [])),s.ax++ [some 0]⟩:=⟨le.G,by simp,le.loc,le.t,le.tk⟩
 have QD:Le (M.dP s.ax.length none) {s with ax:=s.ax++ [some 0]} (M.dP s.ax.length none) ⟨s.av.set o (cs.set i (.slice (.tok s.ax.length) z' [])),s.ax++ [some 0]⟩:=
  ⟨fun _ _ _ h=>h,by simp,fun _ _=>rfl,Nat.le_refl _,fun t n' _ e=>⟨n',e,Nat.le_refl _,fun _=>rfl⟩⟩
 have r2:Rel (M.dP s.ax.length none) ⟨s.av.set o (cs.set i (.slice (.tok s.ax.length) z' [])),s.ax++ [some 0]⟩ w:=by
  refine⟨r'.comm,fun o' ds e=> ?_,fun o ho=>r'.jk o (by simpa using ho),fun o o' ho kP=>r'.inj o o' (by simpa using ho) (by simpa using kP),r'.tok,
   fun t b c z o hv e ho=>r'.ez t b c z o hv e (by simpa using ho),r'.ff⟩
  simp only [List.getElem?_set]at e
  split at e
  ·rename_i ho
   subst ho
   split at e
   ·cases e
    obtain⟨vs,T,g1,g2,g3,g4⟩:=r.obj o cs hc
    refine⟨vs,T,g1,by simpa using g2,g3,fun j d v e1 e2=> ?_⟩
    rw [List.getElem?_set]at e1
    split at e1
    ·rename_i hj
     subst hj
     split at e1
     ·cases e1
      exact((g4 i _ v hi e2).own (z':=z')).mono QD
     ·cases e1
    ·exact(g4 j d v e1 e2).mono VW
   ·cases e
  ·obtain⟨vs,T,g1,g2,g3,g4⟩:=r'.obj o' ds e
   exact⟨vs,T,g1,g2,g3,fun i d v e1 e2=>(g4 i d v e1 e2).mono QD⟩
 have ee:Ext B.M B.s B.w (M.dP s.ax.length none) ⟨s.av.set o (cs.set i (.slice (.tok s.ax.length) z' [])),s.ax++ [some 0]⟩ w:=by
  refine(AE e le).trans ⟨QD,fun _ _ _ _=>rfl,fun o h1 h2=> ?_,fun t b c z hl e=> .inl ⟨hl,c,z,e⟩,fun _ _ h=>(h rfl).elim,Nat.le_refl _,rfl,rfl,rfl⟩
  simp at h2
  exact absurd h2 (Nat.not_lt.2 h1)
 exact h c Qc act w ⟨_,ee,r2,fun k=>(ht k).mono VW,h1,h2⟩
theorem Sem.kX {a b:AC} {Q:Exit→Tm→St→Prop} {tm:Tm} {s:St} (h:jq P B nt a (og (Sem P B nt b Q) Q) tm s):Sem P B nt (.seq a b) Q tm s:=Sem.seq (gP h)
theorem Sem.re {a:AC} {Q:Exit→Tm→St→Prop} {tm:Tm} {s:St} (bA:Tm) (kn:List (List D)) (n m:Nat) (hn:B.s.av.length≤n) (hm:B.s.ax.length≤m) (ht:rW tm n m bA) (ho:gv (s.cut n m).av kn)
 (h:Sem P B nt a Q bA ⟨kn,(s.cut n m).ax⟩):Sem P B nt a Q tm s:=
 fun c hc act w hh=>h c hc act w (hh.re (Q:=Q) n m hn hm ht ho)
def Has (P:Program) (f nt:Nat) (res:List (Nat×Option (Bool×Nat))) (body:AC):Prop:=∃ fn,P.funcs[f]? = some fn∧cF P fn=some ⟨nt,res,body⟩
theorem aA.go {f:FuncId} {res:List (Nat×Option (Bool×Nat))} {body:AC} {args:List D} {s:St} {d:D} {s':St} (h0:Has P f nt res body) (hl:Nat.ble args.length nt=true)
 (h : ∀ (B:fO) (Q:Exit→Tm→St→Prop),B.s=s→ku s.av.length s.ax.length res d s'=Q→jq P B nt body Q (lO 0 args) s):aA P f args s d s':=by
 obtain⟨fn,hf,hc⟩:=h0
 exact aA.intro ⟨fn,hf,hc⟩ (Nat.le_of_ble_eq_true hl) fun B hB=>gP (h B _ hB rfl)
theorem aA.FU {f:FuncId} {pre post:List D} {rows po:List (List D)} {z z' k k':Nat} (h:aA P f (pre++ .slice (.tok 0) z rows::post) ⟨[],[some k]⟩ (.slice (.tok 0) z' po) ⟨[],[some k']⟩)
 (hp:D.bN 0 0 pre=true) (ha:D.bN 0 0 post=true) (hw:D.jb 0 0 rows=true) (hw':D.jb 0 0 po=true)
 {s:St} {t:Nat} (ht:s.ax[t]? = some (some k)):aA P f (pre++ .slice (.tok t) z rows::post) s (.slice (.tok t) z' po) ⟨s.av,s.ax.set t (some k')⟩:=by
 refine ef.frame [] [t] h (by simp) (by simp) (by simp) (by simpa using (List.getElem?_eq_some_iff.1 ht).1) rfl (fun i o' ds e1 e2=>by simp at e1) rfl (fun i t' e1=> ?_)
  ?_ ?_ ?_
 ·cases i with
  | zero=>simp at e1;subst e1;simp [ht]
  | succ i=>simp at e1
 ·have h1:=fG [] [t] _ hp
  have h2:=fG [] [t] _ ha
  rw [e8]at h1 h2
  simp [e8,D.dD,Tag.dD,h1,h2,kQ _ _ _ hw]
 ·have h1:=iI (n':=0) (m':=1) (Nat.le_refl 0) (Nat.zero_le 1) _ hp
  have h2:=iI (n':=0) (m':=1) (Nat.le_refl 0) (Nat.zero_le 1) _ ha
  rw [Cn]at h1 h2 ⊢
  simp only [List.length_nil,List.length_cons,List.all_append,h1,Bool.true_and,List.all_cons,h2,Bool.and_true,D.ok,Tag.ok,nR (Nat.zero_le 0) (Nat.zero_le 1) _ hw]
  rfl
 ·rintro _ _ ⟨rfl,rfl⟩
  refine⟨by simp [D.back,D.dD,Tag.dD,jE,kQ _ _ _ hw'], ?_⟩
  simp [St.back,jo]
theorem WI (A C:Prop) : @CB (.bool true) ⟨A,C⟩=A:=by simp [CB,qJ]
theorem WJ (A C:Prop) : @CB (.bool false) ⟨A,C⟩=C:=by simp [CB,qJ]
theorem QE (b:Bool) (A C:Prop) : @CB (.bool (!b)) ⟨A,C⟩ = @CB (.bool b) ⟨C,A⟩:=by
 cases b <;> simp [CB,qJ]
theorem CC {b:Bool} {A C:Prop} (h1:b=true→A) (h2:b=false→C) : @CB (.bool b) ⟨A,C⟩:=⟨h1,h2⟩
theorem QF {b:Bool} {A C:Prop} (h:b=true) (h1:b=true→A) : @CB (.bool b) ⟨A,C⟩:=CC h1 (fun h'=>by rw [h]at h';cases h')
theorem QG {b:Bool} {A C:Prop} (h:b=false) (h1:b=false→C) : @CB (.bool b) ⟨A,C⟩:=CC (fun h'=>by rw [h]at h';cases h') h1
theorem Tl {n m:Nat} {res:List (Nat×Option (Bool×Nat))} {d:D} {s':St} {tm:Tm} {s:St} {Q:Exit→Tm→St→Prop} (hQ:ku n m res d s'=Q)
 (h : ∃ l,az res tm s=some l∧Wk ((aB l).fg n m) d∧gv (s.cut n m).av s'.av∧(s.cut n m).ax=s'.ax):Q .ret tm s:=hQ ▸ h
theorem Tn {n m:Nat} {res:List (Nat×Option (Bool×Nat))} {d:D} {s':St} {tm:Tm} {s:St} {Q:Exit→Tm→St→Prop} (hQ:ku n m res d s'=Q)
 (h : ∃ l,az res tm s=some l∧Wk ((aB l).fg n m) d∧gv (s.cut n m).av s'.av∧(s.cut n m).ax=s'.ax):Q .normal tm s:=hQ ▸ h
end
attribute [go_sem] KS OI OM ON KT IK KU IL KV IM KW OO OP OQ OR OS KX KY KZ K0
theorem IN : ∀ (tm:Tm) (s:St) (x:X),aN (AO.mv x) tm s=some (X.ev tm x,s):=
 fun tm s x=>nd (aN.eq_1 tm s x)
theorem IP : ∀ (tm:Tm) (s:St) (c a b:X),
 aN (AO.pick c a b) tm s =
  match X.ev tm c with
  | D.bool t=>some (if t=true then X.ev tm a else X.ev tm b,s)
  | x=>none:=
 fun tm s c a b=>nd (aN.eq_2 tm s c a b)
theorem IQ : ∀ (tm:Tm) (s:St) (zero:List D),
 aN (AO.alloc zero) tm s=some (D.ptr s.av.length 0,{av:=s.av++ [zero],ax:=s.ax}):=
 fun tm s zero=>nd (aN.eq_3 tm s zero)
theorem IS : ∀ (tm:Tm) (s:St) (x:X),
 aN (AO.box x) tm s =
  match (X.ev tm x).row with
  | some r=>some (D.ptr s.av.length 0,{av:=s.av++ [r],ax:=s.ax})
  | none=>none:=
 fun tm s x=>nd (aN.eq_4 tm s x)
theorem IT : ∀ (tm:Tm) (s:St) (zero:List D) (parts:List (Nat×Nat×X)),
 aN (AO.build zero parts) tm s =
  match n8 zero (List.map (fun(p:Nat×Nat×X)=>(p.fst,p.snd.fst,X.ev tm p.snd.snd)) parts)with
  | some cs=>some (D.agg cs,s)
  | none=>none:=
 fun tm s zero parts=>nd (aN.eq_5 tm s zero parts)
theorem IU : ∀ (tm:Tm) (s:St) (zero:List D) (size n:Nat) (parts:List (Nat×X)),
 aN (AO.cR zero size n parts) tm s =
  match ib size (gk zero n) (List.map (fun(p:Nat×X)=>(p.fst,X.ev tm p.snd)) parts)with
  | some rows=>some (D.slice Tag.full size rows,s)
  | none=>none:=
 fun tm s zero size n parts=>nd (aN.eq_6 tm s zero size n parts)
theorem IV : ∀ (tm:Tm) (s:St) (zero:List D) (size n:Nat) (parts:List (Nat×X)),
 aN (AO.qT zero size n parts) tm s =
  match ib size (gk zero n) (List.map (fun(p:Nat×X)=>(p.fst,X.ev tm p.snd)) parts)with
  | some rows=>
   some (D.slice (Tag.tok s.ax.length) size rows,{av:=s.av,ax:=s.ax++ [some rows.length]})
  | none=>none:=
 fun tm s zero size n parts=>nd (aN.eq_7 tm s zero size n parts)
theorem IW : ∀ (tm:Tm) (s:St) (x:X),
 aN (AO.u9 x) tm s =
  match X.ev tm x with
  | D.slice (Tag.tok t _) z rows=>
   if rows≠ []∧s.ax[t]? = some (some rows.length)then
    some (D.slice Tag.shared z rows,{av:=s.av,ax:=s.ax.set t none})
   else none
  | x=>none:=
 fun tm s x=>nd (aN.eq_8 tm s x)
theorem IX : ∀ (tm:Tm) (s:St) (x:X) (agg:Bool) (size:Nat),
 aN (AO.load x agg size) tm s =
  match X.ev tm x with
  | D.ptr o off=>
   match s.av[o]? with
   | some cs=>
    match part cs off agg size with
    | some d=>some (d,s)
    | none=>none
   | none=>none
  | D.dE row off=>
   match part row off agg size with
   | some d=>some (d,s)
   | none=>none
  | x=>none:=
 fun tm s x agg size=>nd (aN.eq_9 tm s x agg size)
theorem FV : ∀ (tm:Tm) (s:St) (p x:X) (size:Nat),
 aN (AO.store p x size) tm s =
  match X.ev tm p,(X.ev tm x).row with
  | D.ptr o off,some r=>
   match s.av[o]? with
   | some cs=>
    if r.length=size∧off+size≤cs.length then
     some (D.tuple [],{av:=s.av.set o (gW cs off r),ax:=s.ax})
    else none
   | none=>none
  | x,eo=>none:=
 fun tm s p x size=>nd (aN.eq_10 tm s p x size)
theorem FW : ∀ (tm:Tm) (s:St) (x:X),
 aN (AO.gT x) tm s =
  match X.ev tm x with
  | D.ptr o off=>some (D.ptr o off,s)
  | D.dE row off=>some (D.dE row off,s)
  | x=>none:=
 fun tm s x=>nd (aN.eq_11 tm s x)
theorem FX : ∀ (tm:Tm) (s:St) (op:BinOp) (x y:X),
 aN (AO.bin op x y) tm s =
  match sx op (X.ev tm x) (X.ev tm y)with
  | some d=>some (d,s)
  | none=>none:=
 fun tm s op x y=>nd (aN.eq_12 tm s op x y)
theorem FY : ∀ (tm:Tm) (s:St) (neg:Bool) (x y:X),
 aN (AO.x4 neg x y) tm s =
  match X.ev tm x,X.ev tm y with
  | D.bool a,D.bool b=>some (D.bool (if neg=true then !a==b else a==b),s)
  | x,eo=>none:=
 fun tm s neg x y=>nd (aN.eq_13 tm s neg x y)
theorem FZ : ∀ (tm:Tm) (s:St) (neg:Bool) (ks:List Nat) (x y:X),
 aN (AO.eqs neg ks x y) tm s =
  match X.ev tm x,X.ev tm y with
  | D.agg a,D.agg b=>
   match jg ks a b with
   | some e=>some (D.bool (if neg=true then !e else e),s)
   | none=>none
  | x,eo=>none:=
 fun tm s neg ks x y=>nd (aN.eq_14 tm s neg ks x y)
theorem F0 : ∀ (tm:Tm) (s:St) (neg:Bool) (x y:X),
 aN (AO.B1 neg x y) tm s =
  match X.ev tm x,X.ev tm y with
  | D.eJ,D.eJ=>some (D.bool !neg,s)
  | D.ptr o off,D.eJ=>some (D.bool neg,s)
  | D.dE row off,D.eJ=>some (D.bool neg,s)
  | x,eo=>none:=
 fun tm s neg x y=>nd (aN.eq_15 tm s neg x y)
theorem F1 : ∀ (tm:Tm) (s:St) (op:UnOp) (x:X),
 aN (AO.un op x) tm s =
  match B6 op (X.ev tm x)with
  | some d=>some (d,s)
  | none=>none:=
 fun tm s op x=>nd (aN.eq_16 tm s op x)
theorem F2 : ∀ (tm:Tm) (s:St) (k:IntKind) (x:X),
 aN (AO.conv k x) tm s =
  match X.ev tm x with
  | D.int k_1 n=>some (D.int k (k.wrap n),s)
  | x=>none:=
 fun tm s k x=>nd (aN.eq_17 tm s k x)
theorem F3 : ∀ (tm:Tm) (s:St) (x:X),
 aN (AO.x5 x) tm s =
  match X.ev tm x with
  | D.slice g size rows=>
   match lu rows with
   | some b=>some (D.str b,s)
   | none=>none
  | x=>none:=
 fun tm s x=>nd (aN.eq_18 tm s x)
theorem F4 : ∀ (tm:Tm) (s:St) (x:X),
 aN (AO.sW x) tm s =
  match X.ev tm x with
  | D.str l=>some (D.slice Tag.shared 1 (List.map (fun(c:UInt8)=> [D.int IntKind.u8 ↑c.toNat]) l),s)
  | x=>none:=
 fun tm s x=>nd (aN.eq_19 tm s x)
theorem F5 : ∀ (tm:Tm) (s:St) (size:Nat) (x:X) (lo hi:Option X),
 aN (AO.B2 size x lo hi) tm s =
  match X.ev tm x with
  | D.slice g z rows=>
   match vf (Option.map (fun(x:X)=>X.ev tm x) lo),
    vg (Option.map (fun(x:X)=>X.ev tm x) hi) rows.length with
   | some l,some h=>
    if(rows = []∨z=size)∧0≤l∧l≤h∧h≤ ↑rows.length then
     some
      (D.slice (if l=0 then g.cut (decide (h = ↑rows.length))else Tag.shared) z
       (List.drop l.toNat (List.take h.toNat rows)),
       s)
    else none
   | x,eo=>none
  | x=>none:=
 fun tm s size x lo hi=>nd (aN.eq_20 tm s size x lo hi)
theorem F6 : ∀ (tm:Tm) (s:St) (x:X) (lo hi:Option X),
 aN (AO.B3 x lo hi) tm s =
  match X.ev tm x with
  | D.str t=>
   match vf (Option.map (fun(x:X)=>X.ev tm x) lo),vg (Option.map (fun(x:X)=>X.ev tm x) hi) t.length with
   | some l,some h=>
    if 0≤l∧l≤h∧h≤ ↑t.length then some (D.str (List.drop l.toNat (List.take h.toNat t)),s)else none
   | x,eo=>none
  | x=>none:=
 fun tm s x lo hi=>nd (aN.eq_21 tm s x lo hi)
theorem F7 : ∀ (tm:Tm) (s:St) (x:X) (off:Nat),
 aN (AO.aw x off) tm s =
  match X.ev tm x with
  | D.ptr o k=>some (D.ptr o (k+off),s)
  | D.dE row k=>some (D.dE row (k+off),s)
  | x=>none:=
 fun tm s x off=>nd (aN.eq_22 tm s x off)
theorem F8 : ∀ (tm:Tm) (s:St) (x:X) (off:Nat) (agg:Bool) (size:Nat),
 aN (AO.x6 x off agg size) tm s =
  match X.ev tm x with
  | D.agg cs=>
   match part cs off agg size with
   | some d=>some (d,s)
   | none=>none
  | x=>none:=
 fun tm s x off agg size=>nd (aN.eq_23 tm s x off agg size)
theorem F9 : ∀ (tm:Tm) (s:St) (x i:X) (size:Nat),
 aN (AO.bM x i size) tm s =
  match X.ev tm x,X.ev tm i with
  | D.slice g z rows,D.int k n=>
   if 0≤n∧z=size then
    match rows[n.toNat]? with
    | some row=>some (D.dE row 0,s)
    | none=>none
   else none
  | x,eo=>none:=
 fun tm s x i size=>nd (aN.eq_24 tm s x i size)
theorem Ga : ∀ (tm:Tm) (s:St) (x i:X),
 aN (AO.qU x i) tm s =
  match X.ev tm x,X.ev tm i with
  | D.str t,D.int k n=>
   if 0≤n then
    match t[n.toNat]? with
    | some c=>some (D.int IntKind.u8 ↑c.toNat,s)
    | none=>none
   else none
  | x,eo=>none:=
 fun tm s x i=>nd (aN.eq_25 tm s x i)
theorem Gb : ∀ (tm:Tm) (s:St) (x:X) (i:Nat),
 aN (AO.ext x i) tm s =
  match X.ev tm x with
  | D.tuple ds=>
   match ds[i]? with
   | some d=>some (d,s)
   | none=>none
  | x=>none:=
 fun tm s x i=>nd (aN.eq_26 tm s x i)
theorem Gc : ∀ (tm:Tm) (s:St) (x:X),
 aN (AO.oX x) tm s =
  match X.ev tm x with
  | D.str t=>some (D.int IntKind.i64 ↑t.length,s)
  | x=>none:=
 fun tm s x=>nd (aN.eq_27 tm s x)
theorem Gd : ∀ (tm:Tm) (s:St) (x:X),
 aN (AO.len x) tm s =
  match X.ev tm x with
  | D.slice g size rows=>some (D.int IntKind.i64 ↑rows.length,s)
  | x=>none:=
 fun tm s x=>nd (aN.eq_28 tm s x)
theorem Ge : ∀ (tm:Tm) (s:St) (size bytes:Nat) (x y:X),
 aN (AO.app size bytes x y) tm s=gl size bytes (X.ev tm x) (X.ev tm y) s:=
 fun tm s size bytes x y=>nd (aN.eq_29 tm s size bytes x y)
theorem Gf : ∀ (tm:Tm) (s:St) (isMax:Bool) (x y:X),
 aN (AO.mm isMax x y) tm s =
  match X.ev tm x,X.ev tm y with
  | D.int k a,D.int k' b=>
   if k=k' then some (D.int k (if isMax=true then if b > a then b else a else if b<a then b else a),s)
   else none
  | x,eo=>none:=
 fun tm s isMax x y=>nd (aN.eq_30 tm s isMax x y)
theorem Gg (tm:Tm) (s:St) (r:List D) (T:TypeId):aN (AO.pL (.eJ::r) T) tm s=some (.ptr s.av.length 0,{av:=s.av++ [.eO T s.av.length::r],ax:=s.ax}):=nd rfl
theorem Gh (tm:Tm) (s:St) (x:X) (T:TypeId):aN (AO.va x T) tm s =
 match (x.ev tm).row with
 | some (.eJ::r)=>some (.ptr s.av.length 0,{av:=s.av++ [.eO T s.av.length::r],ax:=s.ax})
 | _=>none:=nd rfl
theorem Gi (tm:Tm) (s:St) (x y:X):aN (AO.apps x y) tm s =
 match y.ev tm with
 | .str l=>vh (x.ev tm) (.slice .shared 1 (l.map fun c=> [.int .u8 c.toNat])) s
 | _=>none:=nd rfl
theorem Gj (tm:Tm) (s:St) (x y:X):aN (AO.vb x y) tm s=vh (x.ev tm) (y.ev tm) s:=nd rfl
theorem Gk (tm:Tm) (s:St) (f:Nat) (xs:List X):aN (AO.qD f xs) tm s=some (.fA f (xs.map fun x=>x.ev tm),s):=nd rfl
theorem Gl (tm:Tm) (s:St):aN AO.rH tm s=some (.fL s.av.length,{av:=s.av++ [[]],ax:=s.ax}):=nd rfl
theorem Gm (tm:Tm) (s:St) (m k v:X):aN (AO.vd m k v) tm s =
 match m.ev tm,k.ev tm,v.ev tm with
 | .fL o, .str key, .slice g z rows=>
  match s.av[o]? with
  | some cs=>match xj key (.slice g z rows) cs with | some gN=>some (.tuple [],{av:=s.av.set o gN,ax:=s.ax}) | none=>none
  | none=>none
 | _,_,_=>none:=nd rfl
theorem Gn (tm:Tm) (s:St) (m k:X) (zero:D):aN (AO.tA m k zero) tm s =
 match m.ev tm,k.ev tm with
 | .fL o, .str key=>
  match s.av[o]? with
  | some cs=>match xi key zero cs with | some d=>some (d,s) | none=>none
  | none=>none
 | _,_=>none:=nd rfl
theorem CD (f:Nat) (xs:List X):(AO.qD f xs).core=false:=nd rfl
theorem CF:AO.rH.core=true:=nd rfl
theorem CG (m k v:X):(AO.vd m k v).core=true:=nd rfl
theorem CH (m k:X) (zero:D):(AO.tA m k zero).core=false:=nd rfl
theorem IY (n m f:Nat) (cs:List D):D.fg n m (.fA f cs) = .fA f (D.fV n m cs):=nd (by simp only [D.fg])
theorem IZ (n m:Nat) (o:Nat):D.fg n m (.fL o)=if o<n then .fL o else .junk:=nd (by simp only [D.fg])
theorem Gp (d:Option Nat) (g:Option (Nat×Bool)) (t:Nat) (xs:List X):(AI.gC d g t xs).dst=d:=nd rfl
theorem CI (x y:X):(AO.vb x y).core=true:=nd rfl
theorem CJ (z:List D) (T:TypeId):(AO.pL z T).core=true:=nd rfl
theorem CK (x:X) (T:TypeId):(AO.va x T).core=true:=nd rfl
theorem CM (x y:X):(AO.apps x y).core=true:=nd rfl
theorem I0 (n m:Nat) (v:Value):D.fg n m (.val v) = .val v:=nd (by simp only [D.fg])
theorem I1 (n m:Nat) (T:TypeId) (o:Nat):D.fg n m (.eO T o)=if o<n then .eO T o else .junk:=nd (by simp only [D.fg])
theorem K3 : ∀ (tm:Tm) (t:Nat),X.ev tm (X.s t)=tm.get t:=
 fun tm t=>nd (X.ev.eq_1 tm t)
theorem K4 : ∀ (tm:Tm) (d:D),X.ev tm (X.k d)=d:=
 fun tm d=>nd (X.ev.eq_2 tm d)
theorem Gq : ∀ (tm:Tm) (d:D) (t:Nat),tm.put (some t) d=tm.set t d:=
 fun tm d t=>nd (Tm.put.eq_1 tm d t)
theorem Gr : ∀ (tm:Tm) (d:D),tm.put none d=tm:=
 fun tm d=>nd (Tm.put.eq_2 tm d)
theorem Gs : ∀ (x:Nat) (eo:D),Tm.set [] x eo = [(x,eo)]:=
 fun x eo=>nd (Tm.set.eq_1 x eo)
theorem Gt : ∀ (x:Nat) (eo:D) (k:Nat) (e:D) (r:List (Nat×D)),
 Tm.set ((k,e)::r) x eo=if k=x then(k,eo)::r else(k,e)::Tm.set r x eo:=
 fun x eo k e r=>nd (Tm.set.eq_2 x eo k e r)
theorem Gu : ∀ (x:Nat),Tm.get [] x=D.junk:=
 fun x=>nd (Tm.get.eq_1 x)
theorem Gv : ∀ (x k:Nat) (d:D) (r:List (Nat×D)),Tm.get ((k,d)::r) x=if k=x then d else Tm.get r x:=
 fun x k d r=>nd (Tm.get.eq_2 x k d r)
theorem I2 : ∀ (x:Nat),lO x [] = []:=
 fun x=>nd (lO.eq_1 x)
theorem I3 : ∀ (x:Nat) (d:D) (r:List D),lO x (d::r)=(x,d)::lO (x+1) r:=
 fun x d r=>nd (lO.eq_2 x d r)
theorem Gw : ∀ (d:Option Nat) (g:Option (Nat×Bool)) (o:AO),(AI.op d g o).dst=d:=
 fun d g o=>nd (AI.dst.eq_1 d g o)
theorem Gx : ∀ (d:Option Nat) (g:Option (Nat×Bool)) (f:Nat) (xs:List X),(AI.call d g f xs).dst=d:=
 fun d g f xs=>nd (AI.dst.eq_2 d g f xs)
theorem Gy : ∀ (d:Option Nat) (g:Option (Nat×Bool)) (neg:Bool) (eo:X),(AI.nil d g neg eo).dst=d:=
 fun d g neg eo=>nd (AI.dst.eq_3 d g neg eo)
theorem K5 : ∀ (cs:List D) (off size:Nat),
 part cs off true size=if off+size≤cs.length then some (D.agg (List.take size (List.drop off cs)))else none:=
 fun cs off size=>nd (part.eq_1 cs off size)
theorem K6 : ∀ (cs:List D) (off size:Nat),part cs off false size=cs[off]? :=
 fun cs off size=>nd (part.eq_2 cs off size)
theorem Gz : ∀ (cs:List D) (off:Nat) (r:List D),
 gW cs off r=List.take off cs++r++List.drop (off+r.length) cs:=
 fun cs off r=>nd (gW.eq_1 cs off r)
theorem I4 : ∀ (cells:List D),n8 cells [] = some cells:=
 fun cells=>nd (n8.eq_1 cells)
theorem I5 : ∀ (cells:List D) (off size:Nat) (d:D) (rest:List (Nat×Nat×D)),
 n8 cells ((off,size,d)::rest) =
  match d.row with
  | none=>none
  | some r=>if r.length=size∧off+size≤cells.length then n8 (gW cells off r) rest else none:=
 fun cells off size d rest=>nd (n8.eq_2 cells off size d rest)
theorem CN : ∀ (size:Nat) (rows:List (List D)),ib size rows [] = some rows:=
 fun size rows=>nd (ib.eq_1 size rows)
theorem CO : ∀ (size:Nat) (rows:List (List D)) (i:Nat) (d:D) (rest:List (Nat×D)),
 ib size rows ((i,d)::rest) =
  match d.row with
  | none=>none
  | some r=>if r.length=size∧i<rows.length then ib size (rows.set i r) rest else none:=
 fun size rows i d rest=>nd (ib.eq_2 size rows i d rest)
theorem CP : ∀ (zero:List D),gk zero 0 = []:=
 fun zero=>nd (gk.eq_1 zero)
theorem CQ : ∀ (zero:List D) (i:Nat),gk zero i.succ=zero::gk zero i:=
 fun zero i=>nd (gk.eq_2 zero i)
theorem K7 : ∀ (op:BinOp) (k:IntKind) (a:Int) (k':IntKind) (b:Int),
 sx op (D.int k a) (D.int k' b)=if k=k' then eZ op k a b else none:=
 fun op k a k' b=>nd (sx.eq_1 op k a k' b)
theorem K8 : ∀ (op:BinOp) (a b:List UInt8),sx op (D.str a) (D.str b)=lb op a b:=
 fun op a b=>nd (sx.eq_2 op a b)
theorem GC : ∀ (k:IntKind) (a b:Int),eZ BinOp.add k a b=some (D.int k (k.wrap (a+b))):=
 fun k a b=>nd (eZ.eq_1 k a b)
theorem GD : ∀ (k:IntKind) (a b:Int),eZ BinOp.sub k a b=some (D.int k (k.wrap (a - b))):=
 fun k a b=>nd (eZ.eq_2 k a b)
theorem GF : ∀ (k:IntKind) (a b:Int),eZ BinOp.mul k a b=some (D.int k (k.wrap (a*b))):=
 fun k a b=>nd (eZ.eq_3 k a b)
theorem GG : ∀ (k:IntKind) (a b:Int),
 eZ BinOp.quo k a b=if b=0 then none else some (D.int k (k.wrap (a.tdiv b))):=
 fun k a b=>nd (eZ.eq_4 k a b)
theorem GH : ∀ (k:IntKind) (a b:Int),eZ BinOp.rem k a b=if b=0 then none else some (D.int k (a.tmod b)):=
 fun k a b=>nd (eZ.eq_5 k a b)
theorem GK : ∀ (k:IntKind) (a b:Int),eZ BinOp.eql k a b=some (D.bool (a==b)):=
 fun k a b=>nd (eZ.eq_6 k a b)
theorem GM : ∀ (k:IntKind) (a b:Int),eZ BinOp.neq k a b=some (D.bool (a != b)):=
 fun k a b=>nd (eZ.eq_7 k a b)
theorem GN : ∀ (k:IntKind) (a b:Int),eZ BinOp.lss k a b=some (D.bool (decide (a<b))):=
 fun k a b=>nd (eZ.eq_8 k a b)
theorem GO : ∀ (k:IntKind) (a b:Int),eZ BinOp.leq k a b=some (D.bool (decide (a≤b))):=
 fun k a b=>nd (eZ.eq_9 k a b)
theorem D5 : ∀ (k:IntKind) (a b:Int),eZ BinOp.gtr k a b=some (D.bool (decide (a > b))):=
 fun k a b=>nd (eZ.eq_10 k a b)
theorem D6 : ∀ (k:IntKind) (a b:Int),eZ BinOp.geq k a b=some (D.bool (decide (a≥b))):=
 fun k a b=>nd (eZ.eq_11 k a b)
theorem GQ : ∀ (a b:List UInt8),
 lb BinOp.add a b=if a.length+b.length≤bf then some (D.str (a++b))else none:=
 fun a b=>nd (lb.eq_1 a b)
theorem GR : ∀ (a b:List UInt8),lb BinOp.eql a b=some (D.bool (a==b)):=
 fun a b=>nd (lb.eq_2 a b)
theorem GU : ∀ (a b:List UInt8),lb BinOp.neq a b=some (D.bool !a==b):=
 fun a b=>nd (lb.eq_3 a b)
theorem GV : ∀ (a b:List UInt8),lb BinOp.lss a b=some (D.bool (bytesLess a b)):=
 fun a b=>nd (lb.eq_4 a b)
theorem OT : ∀ (k:IntKind) (n:Int),B6 UnOp.neg (D.int k n)=some (D.int k (k.wrap (0 - n))):=
 fun k n=>nd (B6.eq_1 k n)
theorem OU : ∀ (b:Bool),B6 UnOp.not (D.bool b)=some (D.bool !b):=
 fun b=>nd (B6.eq_2 b)
theorem GX : ∀ (k:IntKind) (a:Int) (k':IntKind) (b:Int),
 kq 0 (D.int k a) (D.int k' b)=if k=k' then some (a==b)else none:=
 fun k a k' b=>nd (kq.eq_1 k a k' b)
theorem GY : ∀ (a b:Bool),kq 1 (D.bool a) (D.bool b)=some (a==b):=
 fun a b=>nd (kq.eq_2 a b)
theorem GZ : ∀ (a b:List UInt8),kq 2 (D.str a) (D.str b)=some (a==b):=
 fun a b=>nd (kq.eq_3 a b)
theorem D7:jg [] [] [] = some true:=
 nd (jg.eq_1)
theorem D8 : ∀ (k:Nat) (ks:List Nat) (Nu:D) (xs:List D) (y:D) (ys:List D),
 jg (k::ks) (Nu::xs) (y::ys) =
  match kq k Nu y with
  | none=>none
  | some true=>jg ks xs ys
  | some false=>some false:=
 fun k ks Nu xs y ys=>nd (jg.eq_2 k ks Nu xs y ys)
theorem OV:vf none=some 0:=
 nd (vf.eq_1)
theorem OW : ∀ (k:IntKind) (n:Int),vf (some (D.int k n))=some n:=
 fun k n=>nd (vf.eq_2 k n)
theorem OX : ∀ (len:Nat),vg none len=some ↑len:=
 fun len=>nd (vg.eq_1 len)
theorem OY : ∀ (len:Nat) (k:IntKind) (n:Int),vg (some (D.int k n)) len=some n:=
 fun len k n=>nd (vg.eq_2 len k n)
theorem D9 : ∀ (zero:List D),(AO.alloc zero).core=true:=
 fun zero=>nd (AO.core.eq_1 zero)
theorem Ea : ∀ (eo:X),(AO.box eo).core=true:=
 fun eo=>nd (AO.core.eq_2 eo)
theorem Eb : ∀ (zero:List D) (size n:Nat) (parts:List (Nat×X)),(AO.qT zero size n parts).core=true:=
 fun zero size n parts=>nd (AO.core.eq_3 zero size n parts)
theorem Ec : ∀ (eo:X),(AO.u9 eo).core=true:=
 fun eo=>nd (AO.core.eq_4 eo)
theorem Ed : ∀ (p eo:X) (size:Nat),(AO.store p eo size).core=true:=
 fun p eo size=>nd (AO.core.eq_5 p eo size)
theorem Ee : ∀ (size bytes:Nat) (eo y:X),(AO.app size bytes eo y).core=true:=
 fun size bytes eo y=>nd (AO.core.eq_6 size bytes eo y)
theorem Ef : ∀ (val:Nat) (zero:List D),(AI.op (some val) none (AO.alloc zero)).kind=AK.alloc:=
 fun val zero=>nd (AI.kind.eq_1 val zero)
theorem Eg : ∀ (zero:List D),(AO.alloc zero).kind=AK.core:=
 fun zero=>nd (AO.kind.eq_1 zero)
theorem Eh : ∀ (eo:X),(AO.box eo).kind=AK.core:=
 fun eo=>nd (AO.kind.eq_2 eo)
theorem Ei : ∀ (zero:List D) (size n:Nat) (parts:List (Nat×X)),(AO.qT zero size n parts).kind=AK.core:=
 fun zero size n parts=>nd (AO.kind.eq_3 zero size n parts)
theorem Ej : ∀ (eo:X),(AO.u9 eo).kind=AK.core:=
 fun eo=>nd (AO.kind.eq_4 eo)
theorem Ek : ∀ (p eo:X) (size:Nat),(AO.store p eo size).kind=AK.core:=
 fun p eo size=>nd (AO.kind.eq_5 p eo size)
theorem El : ∀ (size bytes:Nat) (eo y:X),(AO.app size bytes eo y).kind=AK.core:=
 fun size bytes eo y=>nd (AO.kind.eq_6 size bytes eo y)
theorem Em : ∀ (eo:X) (agg:Bool) (size:Nat),(AO.load eo agg size).kind=AK.load:=
 fun _ _ _=>nd rfl
theorem G0:fv AK.core=true:=
 nd (fv.eq_1)
theorem G1:fv AK.alloc=true:=
 nd (fv.eq_2)
theorem G2 : ∀ (i:AI) (tm:Tm) (d:D),lk i tm d [] = True:=
 fun i tm d=>nd (lk.eq_1 i tm d)
theorem G3 : ∀ (i:AI) (tm:Tm) (d:D) (s:St) (r:List St),
 lk i tm d (s::r)=(gY i tm s=some d∧lk i tm d r):=
 fun i tm d s r=>nd (lk.eq_2 i tm d s r)
theorem OZ : ∀ (tm:Tm) (s:St) (dst:Option Nat) (o:AO),
 gY (AI.op dst none o) tm s=Option.map (fun(x:D×St)=>x.fst) (aN o tm s):=
 fun tm s dst o=>nd (gY.eq_1 tm s dst o)
theorem O0 : ∀ (tm:Tm) (s:St) (dst:Option Nat) (t:Nat) (want:Bool) (o:AO),
 gY (AI.op dst (some (t,want)) o) tm s =
  match tm.get t with
  | D.bool b=>if b=want then Option.map (fun(x:D×St)=>x.fst) (aN o tm s)else some (D.tuple [])
  | D.tuple vs=>some (D.tuple [])
  | x=>none:=
 fun tm s dst t want o=>nd (gY.eq_2 tm s dst t want o)
theorem En : ∀ (is:List AI),kv is [] = some []:=
 fun is=>nd (kv.eq_1 is)
theorem Eo : ∀ (is:List AI) (q b:Nat) (r:List (Nat×Nat)),
 kv is ((q,b)::r) =
  match is[q]?,kv is r with
  | some ai,some l=>some ((ai,b)::l)
  | x,eo=>none:=
 fun is q b r=>nd (kv.eq_2 is q b r)
theorem O1 : ∀ (tm:Tm) (n m:Nat),rW tm n m [] = True:=
 fun tm n m=>nd (rW.eq_1 tm n m)
theorem O2 : ∀ (tm:Tm) (n m k:Nat) (d:D) (r:List (Nat×D)),
 rW tm n m ((k,d)::r)=(Wk (D.fg n m (tm.get k)) d∧rW tm n m r):=
 fun tm n m k d r=>nd (rW.eq_2 tm n m k d r)
theorem K9 : ∀ (n m o off:Nat),D.fg n m (D.ptr o off)=if o<n then D.ptr o off else D.junk:=
 fun n m o off=>nd (D.fg.eq_1 n m o off)
theorem La : ∀ (n m:Nat) (row:List D) (off:Nat),D.fg n m (D.dE row off)=D.dE (D.fV n m row) off:=
 fun n m row off=>nd (D.fg.eq_2 n m row off)
theorem Lb : ∀ (n m:Nat) (g:Tag) (z:Nat) (rows:List (List D)),
 D.fg n m (D.slice g z rows)=D.slice (Tag.fg m g) z (D.iM n m rows):=
 fun n m g z rows=>nd (D.fg.eq_3 n m g z rows)
theorem Lc : ∀ (n m:Nat) (cs:List D),D.fg n m (D.agg cs)=D.agg (D.fV n m cs):=
 fun n m cs=>nd (D.fg.eq_4 n m cs)
theorem Ld : ∀ (n m:Nat) (ds:List D),D.fg n m (D.tuple ds)=D.tuple (D.fV n m ds):=
 fun n m ds=>nd (D.fg.eq_5 n m ds)
theorem Lf : ∀ (n m:Nat),D.fg n m D.junk=D.junk:=
 fun n m=>nd (D.fg.eq_6 n m)
theorem Lg : ∀ (n m:Nat) (k:IntKind) (eo:Int),D.fg n m (D.int k eo)=D.int k eo:=
 fun n m k eo=>nd (D.fg.eq_7 n m k eo)
theorem Lh : ∀ (n m:Nat) (b:Bool),D.fg n m (D.bool b)=D.bool b:=
 fun n m b=>nd (D.fg.eq_8 n m b)
theorem Li : ∀ (n m:Nat) (l:List UInt8),D.fg n m (D.str l)=D.str l:=
 fun n m l=>nd (D.fg.eq_9 n m l)
theorem I6 : ∀ (n m:Nat),D.fg n m D.eJ=D.eJ:=
 fun n m=>nd (D.fg.eq_10 n m)
theorem I7 : ∀ (n m:Nat),D.fV n m [] = []:=
 fun n m=>nd (D.fV.eq_1 n m)
theorem I8 : ∀ (n m:Nat) (d:D) (r:List D),D.fV n m (d::r)=D.fg n m d::D.fV n m r:=
 fun n m d r=>nd (D.fV.eq_2 n m d r)
theorem I9 : ∀ (n m:Nat),D.iM n m [] = []:=
 fun n m=>nd (D.iM.eq_1 n m)
theorem Ja : ∀ (n m:Nat) (d:List D) (r:List (List D)),D.iM n m (d::r)=D.fV n m d::D.iM n m r:=
 fun n m d r=>nd (D.iM.eq_2 n m d r)
theorem G4 : ∀ (m t:Nat) (y:Bool),Tag.fg m (Tag.tok t y)=if t<m then Tag.tok t y else Tag.shared:=
 fun _ _ _=>nd rfl
theorem G5 : ∀ (s:St) (n m:Nat),
 s.cut n m = {av:=List.map (D.fV n m) (List.take n s.av),ax:=List.take m s.ax}:=
 fun s n m=>nd (St.cut.eq_1 s n m)
theorem Lj : ∀ (d:D),aB [d] = d:=
 fun d=>nd (aB.eq_1 d)
theorem Lk (size bytes t:Nat) (rows:List (List D)) (g:Tag) (r:List D) (s:St):gl size bytes (.slice (.tok t) size rows) (.slice g size [r]) s =
 if(rows.length+1)*(bytes+1)≤bf∧s.ax[t]? = some (some rows.length)then some (.slice (.tok t) size (rows++ [r]),⟨s.av,s.ax.set t (some (rows.length+1))⟩)else none:=by
 simp only [gl,List.length_singleton]
 by_cases h1:(rows.length+1)*(bytes+1)≤bf <;> by_cases h2:s.ax[t]? = some (some rows.length) <;> simp [h1,h2]
theorem xA {size bytes t:Nat} {rows new:List (List D)} {g:Tag} {s:St} (h1:(rows.length+new.length)*(bytes+1)≤bf) (h2:s.ax[t]? = some (some rows.length)) :
 gl size bytes (.slice (.tok t) size rows) (.slice g size new) s=some (.slice (.tok t) size (rows++new),⟨s.av,s.ax.set t (some (rows.length+new.length))⟩):=by
 cases new with
 | nil=>
  have:s.ax.set t (some rows.length)=s.ax:=by
   apply List.ext_getElem?
   intro i
   rw [List.getElem?_set]
   split
   ·rename_i hi;subst hi;rw [h2,if_pos (List.getElem?_eq_some_iff.1 h2).1]
   ·rfl
  simp only [List.length_nil,Nat.add_zero]at h1
  simp [gl,h1,this]
 | cons x l=>
  simp only [gl,h1,h2]
  simp
theorem Jb (size bytes z:Nat) (g:Tag) (r:List D) (s:St):gl size bytes (.slice .full z []) (.slice g size [r]) s =
 if bytes+1≤bf then some (.slice (.tok s.ax.length) size [r],⟨s.av,s.ax++ [some 1]⟩)else none:=by
 simp [gl]
theorem O3 {P:Program} {B:fO} {nt:Nat} (ac:AC) (Q:Exit→Tm→St→Prop) (tm:Tm) (s:St):Fz P B nt ac Q .normal tm s=Q .normal tm s:=nd rfl
theorem O4 {P:Program} {B:fO} {nt:Nat} (ac:AC) (Q:Exit→Tm→St→Prop) (tm:Tm) (s:St):Fz P B nt ac Q .ret tm s=Q .ret tm s:=nd rfl
theorem O5 {P:Program} {B:fO} {nt:Nat} (ac:AC) (Q:Exit→Tm→St→Prop) (tm:Tm) (s:St) (i:Nat):Fz P B nt ac Q (.exit i) tm s=Q (.exit i) tm s:=nd rfl
theorem O6 (m:Nat):Tag.fg m .full = .full:=nd rfl
theorem Jc (m:Nat):Tag.fg m .shared = .shared:=nd rfl
theorem To {P:Program} (K:Tm→St→Prop) (tm:Tm) (s:St):iN P [] K tm s=K tm s:=nd rfl
theorem s_op {P:Program} (dst:Option Nat) (o:AO) (r:List AI) (K:Tm→St→Prop) (tm:Tm) (s:St) :
 iN P (.op dst none o::r) K tm s=(match aN o tm s with | some (d,s')=>iN P r K (tm.put dst d) s' | none=>False):=nd rfl
def KJ (P:Program) (r:List AI) (K:Tm→St→Prop) (tm:Tm) (dst:Option Nat) (d:D) (s:St):Prop:=iN P r K (tm.put dst d) s
theorem WL {P:Program} (r:List AI) (K:Tm→St→Prop) (tm:Tm) (dst:Option Nat) (d:D) (s:St):KJ P r K tm dst d s=iN P r K (tm.put dst d) s:=nd rfl
theorem s_call {P:Program} (dst:Option Nat) (f:Nat) (xs:List X) (r:List AI) (K:Tm→St→Prop) (tm:Tm) (s:St) :
 iN P (.call dst none f xs::r) K tm s=CL P f (xs.map (·.ev tm)) s (KJ P r K tm dst):=nd rfl
def NJ (P:Program) (dst:Option Nat) (neg:Bool) (x:D) (r:List AI) (K:Tm→St→Prop) (tm:Tm) (s:St):Prop:=
 match x with
 | .slice _ _ rows=>∀ b:Bool,(rows≠ []→b=false)→iN P r K (tm.put dst (.bool (if neg then !b else b))) s
 | _=>False
theorem QH {P:Program} (dst:Option Nat) (neg:Bool) (x:X) (r:List AI) (K:Tm→St→Prop) (tm:Tm) (s:St) :
 iN P (.nil dst none neg x::r) K tm s=NJ P dst neg (x.ev tm) r K tm s:=nd rfl
theorem O7 {P:Program} (dst:Option Nat) (neg:Bool) (g:Tag) (z:Nat) (d:List D) (l:List (List D)) (r:List AI) (K:Tm→St→Prop) (tm:Tm) (s:St) :
 NJ P dst neg (.slice g z (d::l)) r K tm s=iN P r K (tm.put dst (.bool neg)) s:=by
 simp only [NJ,ne_eq,reduceCtorEq,not_false_eq_true,true_imp_iff,eq_iff_iff]
 refine⟨fun h=>by have:=h false rfl;cases neg <;> exact this,fun h b hb=> ?_⟩
 subst hb;cases neg <;> exact h
theorem Tp {P:Program} (dst:Option Nat) (t:Nat) (w:Bool) (o:AO) (r:List AI) (K:Tm→St→Prop) (tm:Tm) (s:St) :
 iN P (.op dst (some (t,w)) o::r) K tm s = @GB (tm.get t) w ⟨(iN P (.op dst none o::r) K tm s),(iN P r K (tm.put dst (.tuple [])) s)⟩:=nd rfl
def CV (P:Program) (x:D) (Tq:List D) (s:St) (K:D→St→Prop):Prop:=
 match x with
 | .fA f kS=>enters P f=true∧CL P f (Tq++kS) s K
 | _=>False
theorem O8 {P:Program} (dst:Option Nat) (t:Nat) (xs:List X) (r:List AI) (K:Tm→St→Prop) (tm:Tm) (s:St) :
 iN P (.gC dst none t xs::r) K tm s=CV P (tm.get t) (xs.map (·.ev tm)) s (KJ P r K tm dst):=nd rfl
theorem CV.use {P:Program} {f:Nat} {kS Tq:List D} {s s':St} {d:D} {K:D→St→Prop} (he:enters P f=true) (h:aA P f (Tq++kS) s d s') (k:K d s'):CV P (.fA f kS) Tq s K:=⟨he,d,s',h,k⟩
theorem Ll {P:Program} (dst:Option Nat) (t:Nat) (w:Bool) (u:Nat) (xs:List X) (r:List AI) (K:Tm→St→Prop) (tm:Tm) (s:St) :
 iN P (.gC dst (some (t,w)) u xs::r) K tm s = @GB (tm.get t) w ⟨(iN P (.gC dst none u xs::r) K tm s),(iN P r K (tm.put dst (.tuple [])) s)⟩:=nd rfl
theorem O9 {P:Program} (dst:Option Nat) (t:Nat) (w:Bool) (f:Nat) (xs:List X) (r:List AI) (K:Tm→St→Prop) (tm:Tm) (s:St) :
 iN P (.call dst (some (t,w)) f xs::r) K tm s = @GB (tm.get t) w ⟨(iN P (.call dst none f xs::r) K tm s),(iN P r K (tm.put dst (.tuple [])) s)⟩:=nd rfl
theorem QJ {P:Program} (dst:Option Nat) (t:Nat) (w:Bool) (neg:Bool) (x:X) (r:List AI) (K:Tm→St→Prop) (tm:Tm) (s:St) :
 iN P (.nil dst (some (t,w)) neg x::r) K tm s = @GB (tm.get t) w ⟨(iN P (.nil dst none neg x::r) K tm s),(iN P r K (tm.put dst (.tuple [])) s)⟩:=nd rfl
theorem WN (b:Bool) (A C:Prop) : @GB (.bool b) true ⟨A,C⟩ = @CB (.bool b) ⟨A,C⟩:=nd rfl
theorem WO (b:Bool) (A C:Prop) : @GB (.bool b) false ⟨A,C⟩ = @CB (.bool b) ⟨C,A⟩:=by
 cases b <;> simp [GB,CB,GJ,qJ]
theorem WQ (l:List D) (w:Bool) (A C:Prop) : @GB (.tuple l) w ⟨A,C⟩=C:=nd rfl
theorem Tr {P:Program} {K:Tm→St→Prop} (bn:List St) (tm:Tm) (s:St):e9 P K [] bn tm s=K tm s:=nd rfl
def OJ (P:Program) (o:AO) (dst:Option Nat) (b:Nat) (r:List (AI×Nat)) (K:Tm→St→Prop) (bn:List St) (tm:Tm) (s:St):Bool→Prop
 | true=>match aN o tm s with | some (d,s')=>e9 P K r (s::bn) (tm.put dst d) s' | none=>False
 | false=>match aN o tm s with | some (d,_)=>lk (.op dst none o) tm d (bn.take b)∧e9 P K r bn (tm.put dst d) s | none=>False
theorem WS {P:Program} {K:Tm→St→Prop} (dst:Option Nat) (o:AO) (b:Nat) (r:List (AI×Nat)) (bn:List St) (tm:Tm) (s:St) :
 e9 P K ((.op dst none o,b)::r) bn tm s=OJ P o dst b r K bn tm s o.core:=by
 simp only [e9,kx]
 cases o.core <;> rfl
theorem WT {P:Program} (o:AO) (dst:Option Nat) (b:Nat) (r:List (AI×Nat)) (K:Tm→St→Prop) (bn:List St) (tm:Tm) (s:St) :
 OJ P o dst b r K bn tm s true=match aN o tm s with | some (d,s')=>e9 P K r (s::bn) (tm.put dst d) s' | none=>False:=nd rfl
theorem WU {P:Program} (o:AO) (dst:Option Nat) (b:Nat) (r:List (AI×Nat)) (K:Tm→St→Prop) (bn:List St) (tm:Tm) (s:St) :
 OJ P o dst b r K bn tm s false=match aN o tm s with | some (d,_)=>lk (.op dst none o) tm d (bn.take b)∧e9 P K r bn (tm.put dst d) s | none=>False:=nd rfl
theorem Ts {P:Program} {K:Tm→St→Prop} (dst:Option Nat) (t:Nat) (w:Bool) (o:AO) (b:Nat) (r:List (AI×Nat)) (bn:List St) (tm:Tm) (s:St) :
 e9 P K ((.op dst (some (t,w)) o,b)::r) bn tm s = @GB (tm.get t) w ⟨(e9 P K ((.op dst none o,b)::r) bn tm s),(e9 P K r (if o.core then s::bn else bn) (tm.put dst (.tuple [])) s)⟩:=by
 simp only [GB,e9,kx]
 cases o.core <;> rfl
def KG (P:Program) (K:Tm→St→Prop) (r:List (AI×Nat)) (bn:List St) (tm:Tm) (dst:Option Nat) (d:D) (s:St):Prop:=e9 P K r bn (tm.put dst d) s
theorem WV {P:Program} (K:Tm→St→Prop) (r:List (AI×Nat)) (bn:List St) (tm:Tm) (dst:Option Nat) (d:D) (s:St):KG P K r bn tm dst d s=e9 P K r bn (tm.put dst d) s:=nd rfl
theorem g_call {P:Program} {K:Tm→St→Prop} (dst:Option Nat) (f:Nat) (xs:List X) (b:Nat) (r:List (AI×Nat)) (bn:List St) (tm:Tm) (s:St) :
 e9 P K ((.call dst none f xs,b)::r) bn tm s=CL P f (xs.map (·.ev tm)) s (KG P K r (s::bn) tm dst):=nd rfl
theorem Pa {P:Program} {K:Tm→St→Prop} (dst:Option Nat) (t:Nat) (w:Bool) (f:Nat) (xs:List X) (b:Nat) (r:List (AI×Nat)) (bn:List St) (tm:Tm) (s:St) :
 e9 P K ((.call dst (some (t,w)) f xs,b)::r) bn tm s = @GB (tm.get t) w ⟨(e9 P K ((.call dst none f xs,b)::r) bn tm s),(e9 P K r (s::bn) (tm.put dst (.tuple [])) s)⟩:=nd rfl
class Ok (p:Prop):Prop where
 out:p
instance:Ok True:=⟨trivial⟩
instance {p q:Prop} [Ok p] [Ok q] : Ok (p∧q):=⟨⟨Ok.out,Ok.out⟩⟩
instance {α:Type} (a:α):Ok (a=a):=⟨rfl⟩
instance (d:D):Ok (Wk d .junk):=⟨Wk.junk d⟩
instance {l l':List D} [Ok (kr l l')] : Ok (Wk (.tuple l) (.tuple l')):=⟨Wk.tuple Ok.out⟩
instance {l l':List D} [Ok (kr l l')] : Ok (Wk (.agg l) (.agg l')):=⟨Wk.agg Ok.out⟩
instance {g:Tag} {z:Nat} {l l':List (List D)} [Ok (gv l l')] : Ok (Wk (.slice g z l) (.slice g z l')):=⟨Wk.rows Ok.out⟩
instance {g:Tag} {z:Nat} {l l':List (List D)} [Ok (gv l l')] : Ok (Wk (.slice g z l) (.slice .shared z l')):=⟨Wk.slice Ok.out⟩
instance (z z':Nat):Ok (Wk (.slice .full z []) (.slice .full z' [])):=⟨Wk.WB z z'⟩
instance (g:Tag) (z z':Nat):Ok (Wk (.slice g z []) (.slice .shared z' [])):=⟨Wk.nil g z z'⟩
instance (d:D):Ok (Wk d d):=⟨Wk.refl d⟩
instance:Ok (kr [] []):=⟨.nil⟩
instance {d d':D} {l l':List D} [Ok (Wk d d')] [Ok (kr l l')] : Ok (kr (d::l) (d'::l')):=⟨.cons Ok.out Ok.out⟩
instance (l:List D):Ok (kr l l):=⟨kr.refl l⟩
instance:Ok (gv [] []):=⟨.nil⟩
instance {d d':List D} {l l':List (List D)} [Ok (kr d d')] [Ok (gv l l')] : Ok (gv (d::l) (d'::l')):=⟨.cons Ok.out Ok.out⟩
instance {a a' b b':List (List D)} [Ok (gv a a')] [Ok (gv b b')] : Ok (gv (a++b) (a'++b')):=⟨gv.append Ok.out Ok.out⟩
instance (l:List (List D)):Ok (gv l l):=⟨gv.refl l⟩
theorem bs:(∀ b,(true || b)=true)∧(∀ b,(false || b)=b)∧(∀ b,(b || true)=true)∧(∀ b,(b || false)=b)∧(∀ b,(true && b)=b)∧(∀ b,(false && b)=false)∧(∀ b,(b && true)=b)∧(∀ b,(b && false)=false)∧
 (!true)=false∧(!false)=true∧(∀ b,(!!b)=b)∧((false=true)=False)∧(∀ (α β:Type) (a:α) (f:α→Option β),(some a).bind f=f a)∧
 (∀ (α β γ:Type) (x:Option α) (f:α→Option β) (g:β→Option γ),(x.bind f).bind g=x.bind fun y=>(f y).bind g):=
 ⟨Bool.true_or,Bool.false_or,Bool.or_true,Bool.or_false,Bool.true_and,Bool.false_and,Bool.and_true,Bool.and_false,rfl,rfl,Bool.not_not,by simp,fun _ _ _ _=>rfl,fun _ _ _ x f g=>Option.bind_assoc x f g⟩
attribute [go_sem] QE WI WJ To s_op WL s_call QH O7 Tp O9 QJ WN WO WQ Tr WS WT WU Ts WV g_call Pa AO.core AI.kind AO.kind fv
attribute [go_sem] O8 Ll Gk Gl Gm Gn CD CF CG CH IY IZ Gp OG KP
attribute [go_sem] Gj CI Gg Gh Gi CJ CK CM I0 I1 OF II OB KM OC KN OD KO IG OE KQ FQ KR
attribute [go_sem] IN IP IQ IS IT IU IV IW IX FV FW FX FY FZ F0 F1 F2 F3 F4 F5 F6 F7 F8 F9 Ga Gb Gc Gd Ge Gf K3 K4 Gq Gr Gs Gt Gu Gv I2 I3 Gw Gx Gy K5 K6 Gz I4 I5 CN CO CP CQ K7 K8 GC GD GF GG GH GK GM GN GO D5 D6 GQ GR GU GV OT OU GX GY GZ D7 D8 OV OW OX OY D9 Ea Eb Ec Ed Ee Ef Eg Eh Ei Ej Ek El Em G0 G1 G2 G3 OZ O0 En Eo O1 O2 K9 La Lb Lc Ld Lf Lg Lh Li I6 I7 I8 I9 Ja G4 G5 Lj Lk Jb O6 Jc O3 O4 O5
attribute [go_sem] List.map_cons List.map_nil List.getElem?_cons_zero List.getElem?_cons_succ List.length_cons List.length_nil List.set_cons_zero List.set_cons_succ List.take_succ_cons List.take_zero List.take_nil List.drop_succ_cons List.drop_zero List.drop_nil List.cons_append List.nil_append List.append_nil Nat.zero_add Nat.add_zero Option.map_some Option.map_none
attribute [go_sem] Bool.not_false Bool.not_true List.length_map List.getElem?_map Int.toNat_natCast Int.natCast_nonneg Int.toNat_zero and_self and_true true_and
attribute [go_sem_proc ↓] reduceIte
attribute [go_sem_proc] Int.reduceLE reduceCtorEq Nat.reduceEqDiff Nat.reduceLeDiff Nat.reduceAdd Nat.reduceMul Nat.reduceSub Nat.reduceLT
theorem aJ {b:Bool} {A C:Prop} (h1:b=true→A) (h:b=true:=by assumption) : @CB (.bool b) ⟨A,C⟩:=QF h h1
theorem aK {b:Bool} {A C:Prop} (h1:b=false→C) (h:b=false:=by assumption) : @CB (.bool b) ⟨A,C⟩:=QG h h1
theorem aL {b:Bool} {A C:Prop} (h1:b=true→A) (h2:b=false→C) : @CB (.bool b) ⟨A,C⟩:=⟨h1,h2⟩
theorem bO {a b:Prop} (x:a) (y:b):a∧b:=⟨x,y⟩
theorem bc {α:Type _} (a b:α):(some a=some b)=(a=b):=Option.some.injEq a b
theorem bd {α:Sort _} {p:α→Prop} {a:α} : (∃ x,a=x∧p x)↔p a:=exists_eq_left'
theorem lQ {n m:Nat} (h:Nat.ble n m=true):n≤m:=Nat.le_of_ble_eq_true h
theorem ay {n m:Nat} {res:List (Nat×Option (Bool×Nat))} {d:D} {s':St} {e:Exit} {tm:Tm} {s:St} {Q:Exit→Tm→St→Prop} (hQ:ku n m res d s'=Q) (h : ∃ l,az res tm s=some l∧Wk ((aB l).fg n m) d∧gv (s.cut n m).av s'.av∧(s.cut n m).ax=s'.ax) (he:e = .ret∨e = .normal:=by first | exact .inl rfl | exact .inr rfl):Q e tm s:=by cases he with | inl x=>cases x;exact Tl hQ h | inr x=>cases x;exact Tn hQ h
theorem br {p:Prop} (h:p:=by repeat' (first | exact Ok.out | with_reducible refine bO ?_ ?_ | (simp;done))):p:=h
theorem aZ {p:Prop} (h:p:=by repeat' (first | exact Ok.out | with_reducible refine bO ?_ ?_)):p:=h
theorem bT {p:Prop} (h:p:=by(try cases h);simp only [az,aB,bc,bd,go_sem,hD,hF,hJ,hP];repeat' (first | exact Ok.out | with_reducible refine bO ?_ ?_ | (simp;done))):p:=h
theorem VX {p:Prop} (h:p:=by simp only [go_sem,hD,hF,hJ,hP];repeat' (first | exact Ok.out | with_reducible refine bO ?_ ?_)):p:=h
theorem cV {P:Program} {B:fO} {nt:Nat} {a:AC} {Q:Exit→Tm→St→Prop} {tm bA:Tm} {s:St} {kn:List (List D)} (n m:Nat) (h:bj P B nt a Q bA ⟨kn,(s.cut n m).ax⟩) (hn:B.s.av.length≤n:=by rw [hB];exact lQ rfl) (hm:B.s.ax.length≤m:=by rw [hB];exact lQ rfl) (ht:rW tm n m bA:=by exact VX) (ho:gv (s.cut n m).av kn:=by exact VX):bj P B nt a Q tm s:=bj.re bA kn n m hn hm ht ho h
theorem cd {P:Program} {B:fO} {nt:Nat} {a:AC} {Q:Exit→Tm→St→Prop} {tm bA:Tm} {s:St} {kn:List (List D)} (n m:Nat) (ht:rW tm n m bA) (ho:gv (s.cut n m).av kn) (h:bj P B nt a Q bA ⟨kn,(s.cut n m).ax⟩) (hn:B.s.av.length≤n:=by rw [hB];exact lQ rfl) (hm:B.s.ax.length≤m:=by rw [hB];exact lQ rfl):bj P B nt a Q tm s:=bj.re bA kn n m hn hm ht ho h
theorem bI:0<1∧0<1∧0<1∧0<1:=⟨Nat.zero_lt_one,Nat.zero_lt_one,Nat.zero_lt_one,Nat.zero_lt_one⟩
end Go.Abs

/-! Types -/

namespace Go.Abs
mutual
theorem G6 (n m:Nat) : ∀ d,D.ok 0 0 d=true→D.fg n m d=d
 | .junk,_=>by simp [D.fg]
 | .int k n,_=>by simp [D.fg]
 | .bool b,_=>by simp [D.fg]
 | .str l,_=>by simp [D.fg]
 | .eJ,_=>by simp [D.fg]
 | .val v,_=>by simp [D.fg]
 | .eO T o,h=>by simp [D.ok]at h
 | .fL o,h=>by simp [D.ok]at h
 | .fA f cs,h=>by
  simp only [D.ok]at h
  simp only [D.fg,gw n m cs h]
 | .ptr o f,h=>by simp [D.ok]at h
 | .dE r f,h=>by
  simp only [D.ok]at h
  simp only [D.fg,gw n m r h]
 | .slice g z rows,h=>by
  simp only [D.ok,Bool.and_eq_true]at h
  simp only [D.fg,CR n m rows h.2]
  cases g with
  | tok t y=>simp [Tag.ok]at h
  | full=>rfl
  | shared=>rfl
 | .agg cs,h=>by
  simp only [D.ok]at h
  simp only [D.fg,gw n m cs h]
 | .tuple cs,h=>by
  simp only [D.ok]at h
  simp only [D.fg,gw n m cs h]
theorem gw (n m:Nat) : ∀ l,D.bN 0 0 l=true→D.fV n m l=l
 | [],_=>by simp [D.fV]
 | d::r,h=>by
  simp only [D.bN,Bool.and_eq_true]at h
  simp only [D.fV,G6 n m d h.1,gw n m r h.2]
theorem CR (n m:Nat) : ∀ l,D.jb 0 0 l=true→D.iM n m l=l
 | [],_=>by simp [D.iM]
 | d::r,h=>by
  simp only [D.jb,Bool.and_eq_true]at h
  simp only [D.iM,gw n m d h.1,CR n m r h.2]
end
theorem fX {α:Type} {f:α→List D} (h : ∀ x,D.bN 0 0 (f x)=true) (l:List α):D.jb 0 0 (l.map f)=true:=by
 simp [Co,h]
theorem ky {α:Type} {f:α→List D} (h : ∀ x,D.bN 0 0 (f x)=true) (n m:Nat) (l:List α):D.iM n m (l.map f)=l.map f:=CR n m _ (fX h l)
theorem EO (n m:Nat) : ∀ a b,D.iM n m (a++b)=D.iM n m a++D.iM n m b
 | [],b=>by simp [D.iM]
 | x::a,b=>by simp [D.iM,EO n m a b]
abbrev aE:=List UInt8
structure nq where
 kind:Int
 text:aE
 n:Int
 pos:Int
deriving DecidableEq
structure Ex where
 op:Int
 n:Int
 name:aE
 kids:List Ex
structure Ar where
 ref:Bool
 name:aE
 x:Ex
structure Sm where
 id:Int
 kind:Int
 labels:List aE
 name:aE
 proc:aE
 x:Ex
 has:Bool
 args:List Ar
 bk:List Sm
 aY:List Sm
structure Pm where
 name:aE
 ref:Bool
structure Pc where
 name:aE
 params:List Pm
 vars:List aE
 body:List Sm
 fin:List aE
structure Pg where
 globals:List aE
 procs:List Pc
def om:Ex:=⟨0,0,[],[]⟩
def ar0:Ar:=⟨false,[],om⟩
def Nv:Sm:=⟨0,0,[],[],[],om,false,[],[],[]⟩
def QK:Pg:=⟨[],[]⟩
def encStr (s:aE):List D:= [.str s]
def gZ (t:nq):List D:= [.int .i64 t.kind, .str t.text, .int .i64 t.n, .int .i64 t.pos]
def sl (z:Nat) (rows:List (List D)):D:= .slice .shared z rows
mutual
def bB:Ex→List D
 | ⟨op,n,name,kids⟩=> [.int .i64 op, .int .i64 n, .str name, .slice .shared 4 (ra kids)]
def ra:List Ex→List (List D)
 | []=> []
 | x::l=>bB x::ra l
end
theorem AP : ∀ l,ra l=l.map bB
 | []=>by simp [ra]
 | x::l=>by simp [ra,AP l]
theorem gm (x:Ex):bB x = [.int .i64 x.op, .int .i64 x.n, .str x.name, .slice .shared 4 (x.kids.map bB)]:=by
 cases x;simp [bB,AP]
def dG (a:Ar):List D:= [.bool a.ref, .str a.name, .int .i64 a.x.op, .int .i64 a.x.n, .str a.x.name, .slice .shared 4 (a.x.kids.map bB)]
mutual
def bp:Sm→List D
 | ⟨id,kind,labels,name,proc,x,has,args,bk,aY⟩=> [.int .i64 id, .int .i64 kind, .slice .shared 1 (labels.map encStr), .str name, .str proc,
  .int .i64 x.op, .int .i64 x.n, .str x.name, .slice .shared 4 (x.kids.map bB), .bool has, .slice .shared 6 (args.map dG), .slice .shared 13 (pX bk), .slice .shared 13 (pX aY)]
def pX:List Sm→List (List D)
 | []=> []
 | x::l=>bp x::pX l
end
theorem AQ : ∀ l,pX l=l.map bp
 | []=>by simp [pX]
 | x::l=>by simp [pX,AQ l]
theorem cY (s:Sm):bp s = [.int .i64 s.id, .int .i64 s.kind, .slice .shared 1 (s.labels.map encStr), .str s.name, .str s.proc,
 .int .i64 s.x.op, .int .i64 s.x.n, .str s.x.name, .slice .shared 4 (s.x.kids.map bB), .bool s.has, .slice .shared 6 (s.args.map dG), .slice .shared 13 (s.bk.map bp), .slice .shared 13 (s.aY.map bp)]:=by
 cases s;simp [bp,AQ]
def fW (p:Pm):List D:= [.str p.name, .bool p.ref]
def bV (p:Pc):List D:= [.str p.name, .slice .shared 2 (p.params.map fW), .slice .shared 1 (p.vars.map encStr), .slice .shared 13 (p.body.map bp), .slice .shared 1 (p.fin.map encStr)]
def bP (p:Pg):List D:= [.slice .shared 1 (p.globals.map encStr), .slice .shared 5 (p.procs.map bV)]
theorem QL (x:nq):(gZ x).length=4:=nd rfl
theorem Pb (x:nq):List.take 4 (gZ x)=gZ x:=nd rfl
theorem Pe (x:nq):List.drop 4 (gZ x) = []:=nd rfl
theorem Jd (x:nq):(gZ x)[0]? = some (.int .i64 x.kind):=nd rfl
theorem Je (x:nq):(gZ x)[1]? = some (.str x.text):=nd rfl
theorem Jf (x:nq):(gZ x)[2]? = some (.int .i64 x.n):=nd rfl
theorem Jg (x:nq):(gZ x)[3]? = some (.int .i64 x.pos):=nd rfl
theorem Tt (yy:Int) (Nw:aE) (n_:Int) (QN:Int):gZ ⟨yy,Nw,n_,QN⟩ = [.int .i64 yy, .str Nw, .int .i64 n_, .int .i64 QN]:=by simp only [gZ]
theorem Nx (x:Ex):(bB x).length=4:=by simp only [gm];rfl
theorem QO (x:Ex):List.take 4 (bB x)=bB x:=by simp only [gm];rfl
theorem QP (x:Ex):List.drop 4 (bB x) = []:=by simp only [gm];rfl
theorem Lm (x:Ex):(bB x)[0]? = some (.int .i64 x.op):=by simp only [gm];rfl
theorem Ln (x:Ex):(bB x)[1]? = some (.int .i64 x.n):=by simp only [gm];rfl
theorem Lo (x:Ex):(bB x)[2]? = some (.str x.name):=by simp only [gm];rfl
theorem Lp (x:Ex):(bB x)[3]? = some (.slice .shared 4 (x.kids.map bB)):=by simp only [gm];rfl
theorem WW (VY:Int) (n_:Int) (lR:aE) (Ny:List Ex):bB ⟨VY,n_,lR,Ny⟩ = [.int .i64 VY, .int .i64 n_, .str lR, .slice .shared 4 (Ny.map bB)]:=by simp only [gm]
theorem Tv (x:Ar):(dG x).length=6:=nd rfl
theorem QQ (x:Ar):List.take 6 (dG x)=dG x:=nd rfl
theorem QR (x:Ar):List.drop 6 (dG x) = []:=nd rfl
theorem Lq (x:Ar):(dG x)[0]? = some (.bool x.ref):=nd rfl
theorem Lr (x:Ar):(dG x)[1]? = some (.str x.name):=nd rfl
theorem Ls (x:Ar):(dG x)[2]? = some (.int .i64 x.x.op):=nd rfl
theorem Lt (x:Ar):(dG x)[3]? = some (.int .i64 x.x.n):=nd rfl
theorem Lu (x:Ar):(dG x)[4]? = some (.str x.x.name):=nd rfl
theorem Lv (x:Ar):(dG x)[5]? = some (.slice .shared 4 (x.x.kids.map bB)):=nd rfl
theorem Lw (x:Ar):List.take 4 (List.drop 2 (dG x))=bB x.x:=by simp only [dG,gm];rfl
theorem WX (CS:Bool) (lR:aE) (x_:Ex):dG ⟨CS,lR,x_⟩ = [.bool CS, .str lR, .int .i64 x_.op, .int .i64 x_.n, .str x_.name, .slice .shared 4 (x_.kids.map bB)]:=by simp only [dG]
theorem BU (x:Sm):(bp x).length=13:=by simp only [cY];rfl
theorem QS (x:Sm):List.take 13 (bp x)=bp x:=by simp only [cY];rfl
theorem QT (x:Sm):List.drop 13 (bp x) = []:=by simp only [cY];rfl
theorem Lx (x:Sm):(bp x)[0]? = some (.int .i64 x.id):=by simp only [cY];rfl
theorem Ly (x:Sm):(bp x)[1]? = some (.int .i64 x.kind):=by simp only [cY];rfl
theorem Lz (x:Sm):(bp x)[2]? = some (.slice .shared 1 (x.labels.map encStr)):=by simp only [cY];rfl
theorem LA (x:Sm):(bp x)[3]? = some (.str x.name):=by simp only [cY];rfl
theorem LB (x:Sm):(bp x)[4]? = some (.str x.proc):=by simp only [cY];rfl
theorem LC (x:Sm):(bp x)[5]? = some (.int .i64 x.x.op):=by simp only [cY];rfl
theorem LD (x:Sm):(bp x)[6]? = some (.int .i64 x.x.n):=by simp only [cY];rfl
theorem LF (x:Sm):(bp x)[7]? = some (.str x.x.name):=by simp only [cY];rfl
theorem LG (x:Sm):(bp x)[8]? = some (.slice .shared 4 (x.x.kids.map bB)):=by simp only [cY];rfl
theorem LH (x:Sm):(bp x)[9]? = some (.bool x.has):=by simp only [cY];rfl
theorem Jh (x:Sm):(bp x)[10]? = some (.slice .shared 6 (x.args.map dG)):=by simp only [cY];rfl
theorem Ji (x:Sm):(bp x)[11]? = some (.slice .shared 13 (x.bk.map bp)):=by simp only [cY];rfl
theorem Jj (x:Sm):(bp x)[12]? = some (.slice .shared 13 (x.aY.map bp)):=by simp only [cY];rfl
theorem LI (x:Sm):List.take 4 (List.drop 5 (bp x))=bB x.x:=by simp only [cY,gm];rfl
theorem WY (VZ:Int) (yy:Int) (EP:List aE) (lR:aE) (Nz:aE) (x_:Ex) (QU:Bool) (NA:List Ar) (QV:List Sm) (QW:List Sm):bp ⟨VZ,yy,EP,lR,Nz,x_,QU,NA,QV,QW⟩ = [.int .i64 VZ, .int .i64 yy, .slice .shared 1 (EP.map encStr), .str lR, .str Nz, .int .i64 x_.op, .int .i64 x_.n, .str x_.name, .slice .shared 4 (x_.kids.map bB), .bool QU, .slice .shared 6 (NA.map dG), .slice .shared 13 (QV.map bp), .slice .shared 13 (QW.map bp)]:=by simp only [cY]
theorem Tw (x:Pm):(fW x).length=2:=nd rfl
theorem QX (x:Pm):List.take 2 (fW x)=fW x:=nd rfl
theorem QY (x:Pm):List.drop 2 (fW x) = []:=nd rfl
theorem LJ (x:Pm):(fW x)[0]? = some (.str x.name):=nd rfl
theorem LK (x:Pm):(fW x)[1]? = some (.bool x.ref):=nd rfl
theorem WZ (lR:aE) (CS:Bool):fW ⟨lR,CS⟩ = [.str lR, .bool CS]:=by simp only [fW]
theorem Tx (x:Pc):(bV x).length=5:=nd rfl
theorem QZ (x:Pc):List.take 5 (bV x)=bV x:=nd rfl
theorem Q1 (x:Pc):List.drop 5 (bV x) = []:=nd rfl
theorem LL (x:Pc):(bV x)[0]? = some (.str x.name):=nd rfl
theorem LM (x:Pc):(bV x)[1]? = some (.slice .shared 2 (x.params.map fW)):=nd rfl
theorem LN (x:Pc):(bV x)[2]? = some (.slice .shared 1 (x.vars.map encStr)):=nd rfl
theorem LO (x:Pc):(bV x)[3]? = some (.slice .shared 13 (x.body.map bp)):=nd rfl
theorem LP (x:Pc):(bV x)[4]? = some (.slice .shared 1 (x.fin.map encStr)):=nd rfl
theorem W0 (lR:aE) (ER:List Pm) (NB:List aE) (NC:List Sm) (Q2:List aE):bV ⟨lR,ER,NB,NC,Q2⟩ = [.str lR, .slice .shared 2 (ER.map fW), .slice .shared 1 (NB.map encStr), .slice .shared 13 (NC.map bp), .slice .shared 1 (Q2.map encStr)]:=by simp only [bV]
theorem Ty (x:Pg):(bP x).length=2:=nd rfl
theorem Q3 (x:Pg):List.take 2 (bP x)=bP x:=nd rfl
theorem Q4 (x:Pg):List.drop 2 (bP x) = []:=nd rfl
theorem LQ (x:Pg):(bP x)[0]? = some (.slice .shared 1 (x.globals.map encStr)):=nd rfl
theorem LR (x:Pg):(bP x)[1]? = some (.slice .shared 5 (x.procs.map bV)):=nd rfl
theorem W1 (CT:List aE) (Jk:List Pc):bP ⟨CT,Jk⟩ = [.slice .shared 1 (CT.map encStr), .slice .shared 5 (Jk.map bV)]:=by simp only [bP]
attribute [go_sem] QL Pb Pe Jd Je Jf Jg Tt Nx QO QP Lm Ln Lo Lp WW Tv QQ QR Lq Lr Ls Lt Lu Lv Lw WX BU QS QT Lx Ly Lz LA LB LC LD LF LG LH Jh Ji Jj LI WY Tw QX QY LJ LK WZ Tx QZ Q1 LL LM LN LO LP W0 Ty Q3 Q4 LQ LR W1
theorem yz (s:aE):D.bN 0 0 (encStr s)=true:=rfl
theorem ND (t:nq):D.bN 0 0 (gZ t)=true:=rfl
mutual
theorem iA : ∀ x,D.bN 0 0 (bB x)=true
 | ⟨op,n,name,kids⟩=>by simp [bB,D.bN,D.ok,Tag.ok,NF kids]
theorem NF : ∀ l,D.jb 0 0 (ra l)=true
 | []=>rfl
 | x::l=>by simp [ra,D.jb,iA x,NF l]
end
theorem CW (a:Ar):D.bN 0 0 (dG a)=true:=by simp [dG,D.bN,D.ok,Tag.ok,fX iA]
mutual
theorem qh : ∀ x,D.bN 0 0 (bp x)=true
 | ⟨id,kind,labels,name,proc,x,has,args,bk,aY⟩=>by simp [bp,D.bN,D.ok,Tag.ok,G7 bk,G7 aY,fX yz,fX iA,fX CW]
theorem G7 : ∀ l,D.jb 0 0 (pX l)=true
 | []=>rfl
 | x::l=>by simp [pX,D.jb,qh x,G7 l]
end
theorem LS (p:Pm):D.bN 0 0 (fW p)=true:=rfl
theorem rb (p:Pc):D.bN 0 0 (bV p)=true:=by simp [bV,D.bN,D.ok,Tag.ok,fX LS,fX yz,fX qh]
theorem ie (p:Pg):D.bN 0 0 (bP p)=true:=by simp [bP,D.bN,D.ok,Tag.ok,fX yz,fX rb]
theorem Q5 (n m:Nat) (x:nq):D.fV n m (gZ x)=gZ x:=gw n m _ (ND x)
theorem Tz (n m:Nat) (x:Ex):D.fV n m (bB x)=bB x:=gw n m _ (iA x)
theorem TA (n m:Nat) (x:Ar):D.fV n m (dG x)=dG x:=gw n m _ (CW x)
theorem TB (n m:Nat) (x:Sm):D.fV n m (bp x)=bp x:=gw n m _ (qh x)
theorem TC (n m:Nat) (x:Pm):D.fV n m (fW x)=fW x:=gw n m _ (LS x)
theorem TD (n m:Nat) (x:Pc):D.fV n m (bV x)=bV x:=gw n m _ (rb x)
theorem TE (n m:Nat) (x:Pg):D.fV n m (bP x)=bP x:=gw n m _ (ie x)
attribute [go_sem] Q5 Tz TA TB TC TD TE
theorem dk (l:List aE):D.jb 0 0 (l.map encStr)=true:=fX yz l
theorem NG (l:List Ex):D.jb 0 0 (l.map bB)=true:=fX iA l
theorem G8 (l:List Ar):D.jb 0 0 (l.map dG)=true:=fX CW l
theorem qK (l:List Sm):D.jb 0 0 (l.map bp)=true:=fX qh l
theorem BV (l:List Pc):D.jb 0 0 (l.map bV)=true:=fX rb l
theorem Jl (n m:Nat) (l:List aE):D.iM n m (l.map encStr)=l.map encStr:=ky yz n m l
theorem Q6 (n m:Nat) (l:List nq):D.iM n m (l.map gZ)=l.map gZ:=ky ND n m l
theorem TF (n m:Nat) (l:List Ex):D.iM n m (l.map bB)=l.map bB:=ky iA n m l
theorem TG (n m:Nat) (l:List Ar):D.iM n m (l.map dG)=l.map dG:=ky CW n m l
theorem TH (n m:Nat) (l:List Sm):D.iM n m (l.map bp)=l.map bp:=ky qh n m l
theorem TI (n m:Nat) (l:List Pm):D.iM n m (l.map fW)=l.map fW:=ky LS n m l
theorem NH (n m:Nat) (l:List Pc):D.iM n m (l.map bV)=l.map bV:=ky rb n m l
theorem Q7 (x:Ex) (r:List D):bB x++r = .int .i64 x.op:: .int .i64 x.n:: .str x.name:: .slice .shared 4 (x.kids.map bB)::r:=by rw [gm];rfl
theorem Pf (d:D) (x:Ex):d::bB x = [d, .int .i64 x.op, .int .i64 x.n, .str x.name, .slice .shared 4 (x.kids.map bB)]:=by rw [gm]
attribute [go_sem] Q7 Pf
theorem TJ:((0:Nat):Int)=0:=nd rfl
theorem TK:((1:Nat):Int)=1:=nd rfl
theorem TL:((2:Nat):Int)=2:=nd rfl
attribute [go_sem] TJ TK TL EO List.length_append List.map_append encStr om ar0 Nv QK Jl Q6 TF TG TH TI NH
theorem mx (a b:Nat):(if(b:Int) > (a:Int)then(b:Int)else(a:Int))=((max a b:Nat):Int):=by split <;> omega
theorem dt {x:Int} (h1 : -9223372036854775808≤x) (h2:x<9223372036854775808):IntKind.wrap .i64 x=x:=by
 rw [IntKind.wrap_i64];omega
@[go_sem] theorem au {n:Nat} (h:n<4611686018427387904):IntKind.wrap .i64 ((n:Int)+1)=((n+1:Nat):Int):=by
 rw [dt] <;> omega
def inc (n:Nat):Option Nat:=if n<4611686018427387904 then some (n+1)else none
def W2 (n:Int):Option Int:=if -4611686018427387904<n∧n<4611686018427387904 then some (n+1)else none
@[go_sem] theorem V0 {n:Nat} (h:n+1<4611686018427387904):IntKind.wrap .i64 ((n:Int)+1)=((n+1:Nat):Int):=by
 rw [dt] <;> omega
@[go_sem] theorem V1 {n:Nat} (h:n<4611686018427387904):IntKind.wrap .i64 ((n:Int)+2)=((n+2:Nat):Int):=by
 rw [dt] <;> omega
def Q8 {α:Type} (l:List α) (i:Nat):Option α:=if i<4611686018427387904 then l[i]? else none
def push {α:Type} (k:Nat) (l:List α) (x:α):Option (List α):=if(l.length+1)*k≤bf then some (l++ [x])else none
end Go.Abs

/-! Mir -/

namespace Go.Abs
mutual
def Ex.size:Ex→Nat
 | ⟨_,_,_,kids⟩=>1+Ex.aP kids
def Ex.aP:List Ex→Nat
 | []=>0
 | x::l=>1+x.size+Ex.aP l
end
mutual
def Ex.depth:Ex→Nat
 | ⟨_,_,_,kids⟩=>Ex.iO kids+1
def Ex.iO:List Ex→Nat
 | []=>0
 | x::l=>max x.depth (Ex.iO l)
end
def Q9 (x:Ex):Option Int:=if x.size<4611686018427387904 then some (x.depth:Int)else none
theorem Ex.bS {x:Ex} : ∀ {l:List Ex},x∈l→x.size<Ex.aP l
 | y::l,h=>by
  simp only [Ex.aP]
  rcases List.mem_cons.1 h with rfl | h
  ·omega
  ·have:=Ex.bS h;omega
theorem Ex.dc : ∀ (l:List Ex),l.length≤Ex.aP l
 | []=>Nat.le_refl _
 | x::l=>by simp only [Ex.aP,List.length_cons];have:=Ex.dc l;omega
def G9 (t:nq):Int×Int:=
 if t.kind != 4 then(0,0)
 else if t.text == [124,124]then(17,1)
 else if t.text == [38,38]then(16,2)
 else if t.text == [61,61]then(14,3)
 else if t.text == [33,61]then(15,3)
 else if t.text == [60]then(10,4)
 else if t.text == [60,61]then(11,4)
 else if t.text == [62]then(12,4)
 else if t.text == [62,61]then(13,4)
 else if t.text == [43]then(8,5)
 else if t.text == [45]then(9,5)
 else if t.text == [42]then(5,6)
 else if t.text == [47]then(6,6)
 else if t.text == [37]then(7,6)
 else(0,0)
structure Rd where
 l:List nq
 i:Nat
 code:Int
 CX:Int
 n:Nat
abbrev Rd.good (r:Rd):Bool:=r.code==0
def Rd.rf (r:Rd):Option nq:=(Q8 r.l r.i).bind fun t=>if decide (0≤t.kind) && decide (t.kind≤4)then some t else none
def Rd.bad (c:Int) (r:Rd):Option Rd:=if r.good then r.rf.bind fun t=>some {r with code:=c,CX:=t.pos}else some r
def Rd.is (text:aE) (r:Rd):Option Bool:=r.rf.bind fun t=>some ((t.kind==3 || t.kind==4) && t.text==text)
def Rd.take (text:aE) (r:Rd):Option (Bool×Rd):=
 if !r.good then some (false,r)else(r.is text).bind fun b=>if !b then some (false,r)else some (true,{r with i:=r.i+1})
def Rd.want (text:aE) (r:Rd):Option Rd:=(r.take text).bind fun p=>if !p.1 then p.2.bad 3 else some p.2
def Rd.name (room:Bool) (r:Rd):Option (aE×Rd):=
 r.rf.bind fun t=>if !r.good || t.kind != 1 then(r.bad 3).bind fun r=>some ([],r)else if !room then(r.bad 4).bind fun r=>some ([],r)else some (t.text,{r with i:=r.i+1})
def Rd.on (r:Rd):Rd:= {r with i:=r.i+1}
mutual
def Rd.one:Nat→Rd→Option (Ex×Rd)
 | 0,_=>none
 | n+1,r=>r.rf.bind fun t=>
  if !r.good then some (om,r)
  else if t.kind==2 then some (⟨1,t.n,[],[]⟩,{r with i:=r.i+1})
  else if t.kind==1 then some (⟨2,0,t.text,[]⟩,{r with i:=r.i+1})
  else(r.take [40]).bind fun p=>
   if p.1 then(Rd.two n 1 p.2).bind fun x=>(x.2.want [41]).bind fun r=>some (x.1,r)
   else(p.2.take [45]).bind fun p=>
    if p.1 then(Rd.one n p.2).bind fun x=>some (⟨3,0,[],[x.1]⟩,x.2)
    else(p.2.take [33]).bind fun p=>
     if p.1 then(Rd.one n p.2).bind fun x=>some (⟨4,0,[],[x.1]⟩,x.2)
     else(p.2.bad 3).bind fun r=>some (om,r)
def Rd.two:Nat→Int→Rd→Option (Ex×Rd)
 | 0,_,_=>none
 | n+1,least,r=>(Rd.one n r).bind fun x=>Rd.Ra n least x.1 x.2
def Rd.Ra:Nat→Int→Ex→Rd→Option (Ex×Rd)
 | 0,_,_,_=>none
 | n+1,least,x,r=>
  if r.good then r.rf.bind fun t=>
   if decide ((G9 t).2<least) || (G9 t).1==0 then some (x,r)
   else(Rd.two n ((G9 t).2+1) {r with i:=r.i+1}).bind fun y=>Rd.Ra n least ⟨(G9 t).1,0,[],[x,y.1]⟩ y.2
  else some (x,r)
end
def Rd.whole (n:Nat) (r:Rd):Option (Ex×Rd):=
 r.rf.bind fun t=>(Rd.two n 1 r).bind fun x=>
  if x.2.good then(Q9 x.1).bind fun d=>if decide (d > 20)then some (x.1,{x.2 with code:=4,CX:=t.pos})else some (x.1,x.2)
  else some (x.1,x.2)
def Rd.names:Nat→List aE→Int→Rd→Option (List aE×Rd)
 | 0,_,_,_=>none
 | n+1,l,gE,r=>
  if r.good then(r.name (decide ((l.length:Int)<gE))).bind fun p=>(push 17 l p.1).bind fun l=>(p.2.take [44]).bind fun q=>
   if !q.1 then(q.2.want [59]).bind fun r=>some (l,r)else Rd.names n l gE q.2
  else some (l,r)
def Rd.ahead (sign:aE) (r:Rd):Option Bool:=
 if r.good then r.rf.bind fun t=>if t.kind==1 then(Q8 r.l (r.i+1)).bind fun u=>some (u.kind==4 && u.text==sign)else some false
 else some false
def Rd.labels:Nat→List aE→Rd→Option (List aE×Rd)
 | 0,_,_=>none
 | n+1,l,r=>(r.ahead [58]).bind fun b=>if b then r.rf.bind fun t=>(push 17 l t.text).bind fun l=>Rd.labels n l {r with i:=r.i+2}else some (l,r)
def Rd.Rb (r:Rd):Option Bool:=
 r.rf.bind fun t=>some (if t.kind==1 then true else if t.kind != 3 then false
  else t.text == [105,102] || t.text == [119,104,105,108,101] || t.text == [98,114,101,97,107] || t.text == [99,111,110,116,105,110,117,101] || t.text == [114,101,116,117,114,110] || t.text == [103,111,116,111] || t.text == [114,101,97,100] || t.text == [112,114,105,110,116])
def Rd.Ha (m:Nat):Nat→List Ar→Rd→Option (List Ar×Rd)
 | 0,_,_=>none
 | n+1,l,r=>
  if r.good then(r.take [114,101,102]).bind fun p=>
   if p.1 then(p.2.name true).bind fun x=>(push 81 l ⟨true,x.1,om⟩).bind fun l=>(x.2.take [44]).bind fun c=>if !c.1 then some (l,c.2)else Rd.Ha m n l c.2
   else(Rd.whole m p.2).bind fun x=>(push 81 l ⟨false,[],x.1⟩).bind fun l=>(x.2.take [44]).bind fun c=>if !c.1 then some (l,c.2)else Rd.Ha m n l c.2
  else some (l,r)
def Rd.other (sign:aE) (r:Rd):Option Bool:=if r.good then(r.is sign).bind fun b=>some !b else some false
def Rd.call (m:Nat) (name proc:aE) (r:Rd):Option (Sm×Rd):=
 (r.want [40]).bind fun r=>(r.other [41]).bind fun b=>
  if b then(Rd.Ha m m [] r).bind fun q=>(q.2.want [41]).bind fun r=>(r.want [59]).bind fun r=>some (⟨0,4,[],name,proc,om,false,q.1,[],[]⟩,r)
  else(r.want [41]).bind fun r=>(r.want [59]).bind fun r=>some (⟨0,4,[],name,proc,om,false,[],[],[]⟩,r)
def Rd.named (m:Nat) (r:Rd):Option (Sm×Rd):=
 (r.name true).bind fun x=>(x.2.is [40]).bind fun b=>
  if b then Rd.call m [] x.1 x.2
  else(x.2.want [61]).bind fun r=>(r.ahead [40]).bind fun b=>
   if b then(r.name true).bind fun y=>Rd.call m x.1 y.1 y.2
   else(Rd.whole m r).bind fun y=>(y.2.want [59]).bind fun r=>some (⟨0,1,[],x.1,[],y.1,false,[],[],[]⟩,r)
def Rd.plain (m:Nat) (word:aE) (r:Rd):Option (Sm×Rd):=
 if word == [98,114,101,97,107]then some (⟨0,7,[],[],[],om,false,[],[],[]⟩,r)
 else if word == [99,111,110,116,105,110,117,101]then some (⟨0,8,[],[],[],om,false,[],[],[]⟩,r)
 else if word == [114,101,116,117,114,110]then(r.is [59]).bind fun b=>
  if !b then(Rd.whole m r).bind fun x=>some (⟨0,9,[],[],[],x.1,true,[],[],[]⟩,x.2)else some (⟨0,9,[],[],[],om,false,[],[],[]⟩,r)
 else if word == [103,111,116,111]then(r.name true).bind fun x=>some (⟨0,10,[],x.1,[],om,false,[],[],[]⟩,x.2)
 else if word == [114,101,97,100]then(r.name true).bind fun x=>some (⟨0,2,[],x.1,[],om,false,[],[],[]⟩,x.2)
 else if word == [112,114,105,110,116]then(Rd.whole m r).bind fun x=>some (⟨0,3,[],[],[],x.1,false,[],[],[]⟩,x.2)
 else some (Nv,r)
def Rd.head (m:Nat) (r:Rd):Option (Ex×Rd):=(r.want [40]).bind fun r=>(Rd.whole m r).bind fun x=>(x.2.want [41]).bind fun r=>some (x.1,r)
mutual
def Rd.rows (m:Nat):Nat→Int→Bool→Rd→Option ((List Sm×List aE)×Rd)
 | 0,_,_,_=>none
 | n+1,nest,body,r=>Rd.NK m n nest body [] r
def Rd.NK (m:Nat):Nat→Int→Bool→List Sm→Rd→Option ((List Sm×List aE)×Rd)
 | 0,_,_,_,_=>none
 | n+1,nest,body,out,r=>
  if r.good then(Rd.labels m [] r).bind fun l=>(l.2.is [125]).bind fun b=>
   if b && (body || (l.1.length:Int)==0)then some ((out,l.1),{l.2 with i:=l.2.i+1})
   else(Rd.stmt m n nest l.2).bind fun s=>(push 209 out {s.1 with labels:=l.1}).bind fun out=>Rd.NK m n nest body out s.2
  else some (([],[]),r)
def Rd.stmt (m:Nat):Nat→Int→Rd→Option (Sm×Rd)
 | 0,_,_=>none
 | n+1,nest,r=>r.Rb.bind fun b=>
  if !b then(r.bad 3).bind fun r=>some (Nv,r)
  else(inc r.n).bind fun k=>
   if decide ((k:Int) > 200) || decide (nest > 12)then(({r with n:=k} : Rd).bad 4).bind fun r=>some (Nv,r)
   else({r with n:=k} : Rd).rf.bind fun t=>
    if t.kind==1 then Rd.named m {r with n:=k}
    else if t.text == [105,102]then Rd.choice m n nest {r with n:=k,i:=r.i+1}
    else if t.text == [119,104,105,108,101]then(Rd.head m {r with n:=k,i:=r.i+1}).bind fun x=>(Rd.block m n nest x.2).bind fun b=>some (⟨0,6,[],[],[],x.1,false,[],b.1,[]⟩,b.2)
    else(Rd.plain m t.text {r with n:=k,i:=r.i+1}).bind fun s=>(s.2.want [59]).bind fun r=>some (s.1,r)
def Rd.block (m:Nat):Nat→Int→Rd→Option (List Sm×Rd)
 | 0,_,_=>none
 | n+1,nest,r=>(r.want [123]).bind fun r=>(W2 nest).bind fun k=>(Rd.rows m n k false r).bind fun p=>some (p.1.1,p.2)
def Rd.choice (m:Nat):Nat→Int→Rd→Option (Sm×Rd)
 | 0,_,_=>none
 | n+1,nest,r=>(Rd.head m r).bind fun x=>(Rd.block m n nest x.2).bind fun t=>(t.2.take [101,108,115,101]).bind fun q=>
  if q.1 then(Rd.block m n nest q.2).bind fun e=>some (⟨0,5,[],[],[],x.1,false,[],t.1,e.1⟩,e.2)
  else some (⟨0,5,[],[],[],x.1,false,[],t.1,[]⟩,q.2)
end
def Rd.params:Nat→List Pm→Rd→Option (List Pm×Rd)
 | 0,_,_=>none
 | n+1,l,r=>
  if r.good then(r.take [114,101,102]).bind fun q=>(q.2.name (decide ((l.length:Int)<8))).bind fun x=>(push 25 l ⟨x.1,q.1⟩).bind fun l=>(x.2.take [44]).bind fun c=>
   if !c.1 then some (l,c.2)else Rd.params n l c.2
  else some (l,r)
def Rd.vars (m:Nat):Nat→List aE→Rd→Option (List aE×Rd)
 | 0,_,_=>none
 | n+1,l,r=>(r.take [118,97,114]).bind fun q=>if q.1 then(Rd.names m l 16 q.2).bind fun x=>Rd.vars m n x.1 x.2 else some (l,q.2)
def Rd.NL (m:Nat) (name:aE) (ps:List Pm) (r:Rd):Option (Pc×Rd):=
 (Rd.vars m m [] r).bind fun v=>(Rd.rows m m 1 true v.2).bind fun b=>some (⟨name,ps,v.1,b.1.1,b.1.2⟩,b.2)
def Rd.proc (m:Nat) (r:Rd):Option (Pc×Rd):=
 (r.name true).bind fun x=>(x.2.want [40]).bind fun r=>(r.other [41]).bind fun b=>
  if b then(Rd.params m [] r).bind fun q=>(q.2.want [41]).bind fun r=>(r.want [123]).bind fun r=>Rd.NL m x.1 q.1 r
  else(r.want [41]).bind fun r=>(r.want [123]).bind fun r=>Rd.NL m x.1 [] r
def Rd.globals (m:Nat):Nat→List aE→Rd→Option (List aE×Rd)
 | 0,_,_=>none
 | n+1,l,r=>(r.take [103,108,111,98,97,108]).bind fun q=>if q.1 then(Rd.names m l 16 q.2).bind fun x=>Rd.globals m n x.1 x.2 else some (l,q.2)
def Rd.Rc (r:Rd):Option Bool:=if r.good then r.is [112,114,111,99]else some false
def Rd.Jm (r:Rd):Option Bool:=if r.good then r.rf.bind fun t=>some (t.kind != 0)else some false
def Rd.procs (m:Nat):Nat→List Pc→Rd→Option (List Pc×Rd)
 | 0,_,_=>none
 | n+1,l,r=>r.Rc.bind fun b=>
  if b then
   if(l.length:Int)==16 then(r.bad 4).bind fun r=>some (l,r)
   else(Rd.proc m {r with i:=r.i+1}).bind fun x=>(push 113 l x.1).bind fun l=>Rd.procs m n l x.2
  else r.Jm.bind fun b=>if b then(r.bad 3).bind fun r=>some (l,r)else some (l,r)
def Rd.program (m:Nat) (r:Rd):Option (Pg×Rd):=(Rd.globals m m [] r).bind fun g=>(Rd.procs m m [] g.2).bind fun q=>some (⟨g.1,q.1⟩,q.2)
mutual
def Ex.beq:Ex→Ex→Bool
 | ⟨op,n,name,kids⟩,⟨op',n',Hb,NM⟩=>if op != op' || n != n' || !(name==Hb) || (kids.length:Int) != (NM.length:Int)then false else Ex.mS kids NM
def Ex.mS:List Ex→List Ex→Bool
 | [],_=>true
 | _::_,[]=>true
 | x::l,y::l'=>if !Ex.beq x y then false else Ex.mS l l'
end
end Go.Abs

/-! MirTree -/

namespace Go.Abs
def Ar.aP:List Ar→Nat
 | []=>0
 | a::l=>1+a.x.size+Ar.aP l
mutual
def Sm.size:Sm→Nat
 | ⟨_,_,labels,_,_,x,_,args,bk,aY⟩=>1+labels.length+x.size+Ar.aP args+Sm.aP bk+Sm.aP aY
def Sm.aP:List Sm→Nat
 | []=>0
 | s::l=>1+s.size+Sm.aP l
end
def Pc.size (f:Pc):Nat:=1+f.params.length+f.vars.length+f.fin.length+Sm.aP f.body
def Pc.aP:List Pc→Nat
 | []=>0
 | f::l=>1+f.size+Pc.aP l
def Pg.size (p:Pg):Nat:=1+p.globals.length+Pc.aP p.procs
mutual
def Sm.num (b:Bool) (n:Nat):Sm→Sm×Nat
 | ⟨id,kind,labels,name,proc,x,has,args,bk,aY⟩=>
  (⟨if b then((n+1:Nat):Int)else id,kind,labels,name,proc,x,has,args,(Sm.oo b (n+1) bk).1,(Sm.oo b (Sm.oo b (n+1) bk).2 aY).1⟩,(Sm.oo b (Sm.oo b (n+1) bk).2 aY).2)
def Sm.oo (b:Bool) (n:Nat):List Sm→List Sm×Nat
 | []=>([],n)
 | s::l=>((Sm.num b n s).1::(Sm.oo b (Sm.num b n s).2 l).1,(Sm.oo b (Sm.num b n s).2 l).2)
end
def Pc.oo (n:Nat):List Pc→List Pc
 | []=> []
 | f::l=> {f with body:=(Sm.oo true n f.body).1}::Pc.oo (Sm.oo true n f.body).2 l
def Pg.number (p:Pg):Pg:= {p with procs:=Pc.oo 0 p.procs}
def Pg.Ph (p:Pg):Option Pg:=if p.size<1073741824 then some p.number else none
theorem Sm.dc : ∀ (l:List Sm),l.length≤Sm.aP l
 | []=>Nat.le_refl _
 | x::l=>by simp only [Sm.aP,List.length_cons];have:=Sm.dc l;omega
theorem Ar.dc : ∀ (l:List Ar),l.length≤Ar.aP l
 | []=>Nat.le_refl _
 | x::l=>by simp only [Ar.aP,List.length_cons];have:=Ar.dc l;omega
theorem Pc.dc : ∀ (l:List Pc),l.length≤Pc.aP l
 | []=>Nat.le_refl _
 | x::l=>by simp only [Pc.aP,List.length_cons];have:=Pc.dc l;omega
theorem Ar.bS {x:Ar} : ∀ {l:List Ar},x∈l→x.x.size<Ar.aP l
 | y::l,h=>by
  simp only [Ar.aP]
  rcases List.mem_cons.1 h with rfl | h
  ·omega
  ·have:=Ar.bS h;omega
theorem Sm.bS {x:Sm} : ∀ {l:List Sm},x∈l→x.size<Sm.aP l
 | y::l,h=>by
  simp only [Sm.aP]
  rcases List.mem_cons.1 h with rfl | h
  ·omega
  ·have:=Sm.bS h;omega
theorem Pc.bS {x:Pc} : ∀ {l:List Pc},x∈l→x.size<Pc.aP l
 | y::l,h=>by
  simp only [Pc.aP]
  rcases List.mem_cons.1 h with rfl | h
  ·omega
  ·have:=Pc.bS h;omega
end Go.Abs

/-! MirFlat -/

namespace Go.Abs
structure Im where
 s:Sm
 proc:Int
 up:Int
 next:Int
 loop:Int
mutual
def Sm.im:Sm→Nat
 | ⟨_,_,_,_,_,_,_,_,bk,aY⟩=>1+Sm.gS bk+Sm.gS aY
def Sm.gS:List Sm→Nat
 | []=>0
 | s::l=>s.im+Sm.gS l
end
mutual
def Im.one (proc up next loop:Int) (out:List Im):Sm→List Im
 | ⟨id,kind,labels,name,pc,x,has,args,bk,aY⟩=>
  Im.rows proc ((out.length:Int)+1) (if kind==6 then(out.length:Int)+1 else next) (if kind==6 then(out.length:Int)+1 else loop)
   (Im.rows proc ((out.length:Int)+1) (if kind==6 then(out.length:Int)+1 else next) (if kind==6 then(out.length:Int)+1 else loop) (out++ [⟨⟨id,kind,labels,name,pc,x,has,args,bk,aY⟩,proc,up,next,loop⟩]) bk) aY
def Im.rows (proc up next loop:Int) (out:List Im):List Sm→List Im
 | []=>out
 | s::l=>Im.rows proc up next loop (Im.one proc up (if l.length=0 then next else(out.length:Int)+1+(s.im:Int)) loop out s) l
end
theorem Im.Re (proc up next loop:Int) (out:List Im) (s:Sm):Im.one proc up next loop out s =
 Im.rows proc ((out.length:Int)+1) (if s.kind==6 then(out.length:Int)+1 else next) (if s.kind==6 then(out.length:Int)+1 else loop)
  (Im.rows proc ((out.length:Int)+1) (if s.kind==6 then(out.length:Int)+1 else next) (if s.kind==6 then(out.length:Int)+1 else loop) (out++ [⟨s,proc,up,next,loop⟩]) s.bk) s.aY:=by
 cases s;simp only [Im.one]
mutual
theorem Pj (proc up next loop:Int) (out:List Im) : ∀ s:Sm,(Im.one proc up next loop out s).length=out.length+s.im
 | ⟨id,kind,labels,name,pc,x,has,args,bk,aY⟩=>by
  simp only [Im.one,Sm.im]
  rw [fq,fq]
  simp only [List.length_append,List.length_cons,List.length_nil];omega
theorem fq (proc up next loop:Int) (out:List Im) : ∀ l:List Sm,(Im.rows proc up next loop out l).length=out.length+Sm.gS l
 | []=>rfl
 | s::l=>by
  simp only [Im.rows,Sm.gS]
  rw [fq,Pj];omega
end
mutual
theorem xB : ∀ s:Sm,s.im≤s.size
 | ⟨_,_,labels,_,_,x,_,args,bk,aY⟩=>by
  have:=mj bk;have:=mj aY
  simp only [Sm.im,Sm.size];omega
theorem mj : ∀ l:List Sm,Sm.gS l≤Sm.aP l
 | []=>Nat.le_refl _
 | s::l=>by
  have:=xB s;have:=mj l
  simp only [Sm.gS,Sm.aP];omega
end
structure Sh where
 L:List Im
 lo:List Int
 hi:List Int
def Sh.go (i:Nat) (h:Sh):List Pc→Sh
 | []=>h
 | f::l=>Sh.go (i+1) ⟨Im.rows i 0 (-1) 0 h.L f.body,h.lo++ [(h.L.length:Int)+1],h.hi++ [((Im.rows i 0 (-1) 0 h.L f.body).length:Int)+1]⟩ l
def Pg.fQ (p:Pg):Sh:=Sh.go 0 ⟨[],[],[]⟩ p.procs
end Go.Abs

/-! Nums -/

namespace Go.Abs
def rX:Nat:=3
def Kf:Nat:=4
def LU:Nat:=5
def oq:Nat:=6
def sI:Nat:=7
def qi:Nat:=8
def kz:Nat:=9
def nG:Nat:=10
def rh:Nat:=11
def pD:Nat:=12
def qj:Nat:=13
def lS:Nat:=14
def pb:Nat:=15
def qk:Nat:=16
def Rf:Nat:=17
def ly:Nat:=18
def pE:Nat:=19
def kR:Nat:=20
def PQ:Nat:=21
def PR:Nat:=22
def PS:Nat:=23
def Rg:Nat:=24
def tQ:Nat:=25
def SU:Nat:=26
def TN:Nat:=27
def SV:Nat:=28
def Rh:Nat:=29
def Ri:Nat:=30
def sJ:Nat:=31
def gK:Nat:=32
def fa:Nat:=33
def iP:Nat:=34
def tR:Nat:=35
def ll:Nat:=36
def nH:Nat:=37
def kY:Nat:=38
def nr:Nat:=39
def ml:Nat:=40
def ou:Nat:=41
def pF:Nat:=42
def nI:Nat:=43
def jP:Nat:=44
def ko:Nat:=45
def ov:Nat:=46
def cA:Nat:=47
def gF:Nat:=48
def gU:Nat:=49
def pd:Nat:=50
def gx:Nat:=51
def ln:Nat:=52
def sK:Nat:=53
def eW:Nat:=54
def lT:Nat:=55
def nJ:Nat:=56
def PT:Nat:=57
def j7:Nat:=58
def ow:Nat:=59
def PU:Nat:=60
def Pk:Nat:=61
def Rj:Nat:=62
def jr:Nat:=63
def NN:Nat:=64
def kA:Nat:=65
def kZ:Nat:=66
def iB:Nat:=67
def tT:Nat:=68
def SW:Nat:=69
def Rk:Nat:=70
def Rl:Nat:=71
def ox:Nat:=72
def jc:Nat:=73
def qL:Nat:=74
def ig:Nat:=75
def fy:Nat:=76
def lU:Nat:=77
def ij:Nat:=78
def qM:Nat:=79
def kB:Nat:=80
def kC:Nat:=81
def ql:Nat:=82
def sL:Nat:=83
def lp:Nat:=84
def e7:Nat:=85
def jx:Nat:=86
def oy:Nat:=87
def yA:Nat:=88
def NO:Nat:=89
def iT:Nat:=90
def ri:Nat:=91
def ES:Nat:=92
def CY:Nat:=93
def Bt:Nat:=94
def kD:Nat:=95
def ix:Nat:=96
def Rm:Nat:=97
def Rn:Nat:=98
def oz:Nat:=99
def vF:Nat:=100
def tU:Nat:=101
def qm:Nat:=102
def NP:Nat:=103
def j8:Nat:=104
def kE:Nat:=105
def gB:Nat:=106
def tV:Nat:=107
def mF:Nat:=108
def gh:Nat:=109
def vG:Nat:=110
def xY:Nat:=111
def vH:Nat:=112
def wN:Nat:=113
def wF:Nat:=114
def sV:Nat:=115
def Kg:Nat:=116
def u5:Nat:=117
def xC:Nat:=118
def Kh:Nat:=119
def Ki:Nat:=120
def SX:Nat:=121
def nu:Nat:=122
def nw:Nat:=123
def lq:Nat:=124
def Ro:Nat:=125
def sM:Nat:=126
def mn:Nat:=127
def oA:Nat:=128
def qn:Nat:=129
def oB:Nat:=130
def rj:Nat:=131
def sN:Nat:=132
def pG:Nat:=133
def tW:Nat:=134
def ny:Nat:=135
def xZ:Nat:=136
def DV:Nat:=137
def Ep:Nat:=138
def u6:Nat:=139
def zj:Nat:=140
def Jo:Nat:=141
def rk:Nat:=142
def sO:Nat:=143
def rl:Nat:=144
def sP:Nat:=145
def zk:Nat:=146
end Go.Abs

/-! Codes0 -/

namespace Go.Abs
abbrev AI.o (t:Nat) (a:AO):AI:= .op (some t) none a
abbrev AI.g (t c:Nat) (b:Bool) (a:AO):AI:= .op (some t) (some (c,b)) a
abbrev AI.c (t f:Nat) (l:List X):AI:= .call (some t) none f l
abbrev AI.d (t c:Nat) (b:Bool) (f:Nat) (l:List X):AI:= .call (some t) (some (c,b)) f l
abbrev AI.m (t:Nat) (x:X):AI:= .op (some t) none (.mv x)
abbrev bC:X:= .s 0
abbrev a8:X:= .s 1
abbrev cO:X:= .s 2
abbrev cP:X:= .s 3
abbrev dq:X:= .s 4
abbrev bF:X:= .s 5
abbrev cJ:X:= .s 6
abbrev bU:X:= .s 7
abbrev cu:X:= .s 8
abbrev cQ:X:= .s 9
abbrev cj:X:= .s 10
abbrev bZ:X:= .s 11
abbrev cf:X:= .s 12
abbrev cy:X:= .s 13
abbrev cB:X:= .s 14
abbrev da:X:= .s 15
abbrev cz:X:= .s 16
abbrev db:X:= .s 17
abbrev dd:X:= .s 18
abbrev du:X:= .s 19
abbrev dJ:X:= .s 20
abbrev dH:X:= .s 21
abbrev dQ:X:= .s 22
abbrev dY:X:= .s 23
abbrev eK:X:= .s 24
abbrev eQ:X:= .s 25
abbrev fu:X:= .s 26
abbrev fb:X:= .s 27
abbrev fH:X:= .s 28
abbrev fI:X:= .s 29
abbrev gn:X:= .s 30
abbrev fz:X:= .s 31
abbrev ga:X:= .s 32
abbrev gb:X:= .s 33
abbrev gG:X:= .s 34
abbrev gH:X:= .s 35
abbrev ik:X:= .s 36
abbrev il:X:= .s 37
abbrev jt:X:= .s 38
abbrev iU:X:= .s 39
abbrev lE:X:= .s 40
abbrev kF:X:= .s 41
abbrev lF:X:= .s 42
abbrev lG:X:= .s 43
abbrev lH:X:= .s 44
abbrev mT:X:= .s 45
abbrev mU:X:= .s 46
abbrev mV:X:= .s 47
abbrev mW:X:= .s 48
abbrev k6:X:= .s 49
abbrev mX:X:= .s 50
abbrev lI:X:= .s 51
abbrev mY:X:= .s 52
abbrev mZ:X:= .s 53
abbrev na:X:= .s 54
abbrev nc:X:= .s 55
abbrev oC:X:= .s 56
abbrev nf:X:= .s 57
abbrev oD:X:= .s 58
abbrev mq:X:= .s 59
abbrev qo:X:= .s 60
abbrev rm:X:= .s 61
abbrev rn:X:= .s 62
abbrev qp:X:= .s 63
abbrev qq:X:= .s 64
abbrev tX:X:= .s 65
abbrev vI:X:= .s 66
abbrev tY:X:= .s 67
abbrev tZ:X:= .s 68
abbrev vJ:X:= .s 69
abbrev vK:X:= .s 70
abbrev zC:X:= .s 71
abbrev xD:X:= .s 72
abbrev zD:X:= .s 73
abbrev xE:X:= .s 74
abbrev zE:X:= .s 75
abbrev ub:X:= .s 76
abbrev zF:X:= .s 77
abbrev vL:X:= .s 78
abbrev CZ:X:= .s 79
abbrev xF:X:= .s 80
abbrev C0:X:= .s 81
abbrev zG:X:= .s 82
abbrev C1:X:= .s 83
abbrev xG:X:= .s 84
abbrev C2:X:= .s 85
abbrev C3:X:= .s 86
abbrev C4:X:= .s 87
abbrev C5:X:= .s 88
abbrev C6:X:= .s 89
abbrev C7:X:= .s 90
abbrev C8:X:= .s 91
abbrev C9:X:= .s 92
abbrev Hc:X:= .s 93
abbrev Hd:X:= .s 94
abbrev He:X:= .s 95
abbrev LV:X:= .s 96
abbrev LW:X:= .s 97
abbrev LX:X:= .s 98
abbrev LY:X:= .s 99
abbrev Hf:X:= .s 100
abbrev Hg:X:= .s 101
abbrev Hh:X:= .s 102
abbrev Hi:X:= .s 103
abbrev Hj:X:= .s 104
abbrev Hk:X:= .s 105
abbrev Hl:X:= .s 106
abbrev Hm:X:= .s 107
abbrev Hn:X:= .s 108
abbrev Ho:X:= .s 109
abbrev NQ:X:= .s 110
abbrev NR:X:= .s 111
abbrev NS:X:= .s 112
abbrev NT:X:= .s 113
abbrev NU:X:= .s 114
abbrev NV:X:= .s 115
abbrev NW:X:= .s 116
abbrev NY:X:= .s 117
abbrev NZ:X:= .s 118
abbrev N0:X:= .s 119
abbrev N1:X:= .s 120
abbrev N2:X:= .s 121
abbrev N3:X:= .s 122
abbrev TO:X:= .s 123
abbrev TP:X:= .s 124
abbrev TQ:X:= .s 125
abbrev TR:X:= .s 126
abbrev TS:X:= .s 127
abbrev TT:X:= .s 128
abbrev TU:X:= .s 129
abbrev TV:X:= .s 130
abbrev TW:X:= .s 131
abbrev TX:X:= .s 132
abbrev TY:X:= .s 133
abbrev T4:X:= .s 134
abbrev T5:X:= .s 135
abbrev T6:X:= .s 136
abbrev T7:X:= .s 137
abbrev T8:X:= .s 138
abbrev T9:X:= .s 139
abbrev Ua:X:= .s 140
abbrev Ub:X:= .s 141
abbrev Uc:X:= .s 142
abbrev N4:X:= .s 143
abbrev Ud:X:= .s 144
abbrev Hp:X:= .s 145
abbrev Ue:X:= .s 146
abbrev Uf:X:= .s 147
abbrev Ug:X:= .s 148
abbrev Uh:X:= .s 149
abbrev Ui:X:= .s 150
abbrev Uj:X:= .s 151
abbrev Uk:X:= .s 152
abbrev Ul:X:= .s 153
abbrev Um:X:= .s 154
abbrev Un:X:= .s 155
abbrev Uo:X:= .s 156
abbrev Up:X:= .s 157
abbrev Uq:X:= .s 158
abbrev Ur:X:= .s 159
abbrev Us:X:= .s 160
abbrev Ut:X:= .s 161
abbrev Uu:X:= .s 162
abbrev Uv:X:= .s 163
abbrev Uw:X:= .s 164
abbrev Ux:X:= .s 165
abbrev Uy:X:= .s 166
abbrev Uz:X:= .s 167
abbrev UA:X:= .s 168
abbrev UB:X:= .s 169
abbrev UC:X:= .s 170
abbrev UD:X:= .s 171
abbrev UE:X:= .s 172
abbrev UF:X:= .s 173
abbrev UG:X:= .s 174
abbrev UH:X:= .s 175
abbrev UI:X:= .s 176
abbrev UJ:X:= .s 177
abbrev Q04:AC:= .cond bU (.seq (.run [.o 4 (.mv (.k (.bool false)))]) .ret) .skip
abbrev Q09:AC:= .cond cj (.seq (.run [.o 4 (.mv (.k (.bool true)))]) .ret) .skip
abbrev Q0C:AC:= .par [.o 14 (.load cO true 2), .m 15 bF, .c 16 nG [cB,da], .o 17 (.load cO true 2), .m 18 bF, .c 19 rh [db,dd], .c 20 kz [cz,du], .m 21 dJ, .g 22 21 true (.load cO true 2), .g 23 21 true (.mv bF), .d 24 21 true pD [dQ,dY], .g 25 21 true (.load cO true 2), .g 26 21 true (.mv bF), .d 27 21 true qj [eQ,fu], .d 28 21 true kz [eK,fb], .o 29 (.pick dH fH (.k (.bool false))), .m 30 fI, .g 31 30 true (.load cO true 2), .g 32 30 true (.mv bF), .d 33 30 true lS [fz,ga], .g 34 30 true (.load cO true 2), .g 35 30 true (.mv bF), .d 36 30 true pb [gG,gH], .d 37 30 true kz [gb,ik], .o 38 (.pick gn il (.k (.bool false))), .m 4 jt] [(0,0),(1,0),(2,0),(3,1),(4,0),(5,0),(6,0),(7,0),(8,0),(9,0),(10,0),(11,1),(12,0),(13,0),(14,0),(15,0),(16,0),(17,0),(18,0),(19,0),(20,1),(21,0),(22,0),(23,0),(24,0),(25,0)]
abbrev Q0H:AC:= .seq (.run [.o 2 (.box bC), .o 4 (.mv (.k (.bool false)))]) (.seq (.seq (.run [.c 6 oq [], .o 7 (.un .not cJ)]) Q04) (.seq (.seq (.run [.o 8 (.load cO true 2), .c 9 sI [cu], .o 10 (.un .not cQ)]) Q09) (.seq (.run [.o 11 (.load cO true 2), .m 12 a8, .c 13 qi [bZ,cf], .m 5 cy]) (.seq Q0C .ret))))
abbrev Q0M:AC:= .seq (.run [.c 2 sJ [], .o 1 (.alloc [(.slice .full 0 []),(.slice .full 0 [])]), .op none none (.store a8 cO 2)]) (.seq (.run [.o 3 (.load a8 true 2),(.c 4 pD [cP,(.k (.str [109,97,105,110]))]), .o 5 (.len dq), .o 6 (.bin .eql bF (.k (.int .i64 2))), .m 7 cJ, .g 8 7 true (.load a8 true 2),(.d 9 7 true lS [cu,(.k (.str [109,97,105,110]))]), .g 10 7 true (.len cQ), .g 11 7 true (.bin .eql cj (.k (.int .i64 1))), .o 12 (.pick bU bZ (.k (.bool false))), .m 13 cf, .g 14 13 true (.load a8 true 2),(.d 15 13 true nG [cB,(.k (.str [112]))]), .g 16 13 true (.len da), .g 17 13 true (.bin .eql cz (.k (.int .i64 0))), .o 18 (.pick cy db (.k (.bool false))), .m 0 dd]) .ret)
abbrev Q0N:AC:= .seq (.run [.o 0 (.mv (.k (.bool false)))]) Q0M
abbrev Q0V:AC:= .par [.o 26 (.aw bF 4), .o 27 (.load fu false 1), .o 28 (.aw bF 2), .o 29 (.load fH false 1), .o 30 (.aw bF 0), .o 31 (.load gn false 1), .m 32 cP, .c 33 fa [fz,ga], .c 34 gK [fI,gb], .c 35 gK [fb,gG], .m 3 gH] [(4,0),(5,0),(6,0),(7,0),(2,0),(3,1),(8,0),(0,0),(1,2),(9,0),(10,0)]
abbrev Q14:AC:= .seq (.seq (.run [.m 36 cJ, .o 37 (.aw bF 1), .o 38 (.load il false 1), .o 39 (.len jt), .o 40 (.bin .lss ik iU), .m 41 lE, .g 42 41 true (.mv cP), .g 43 41 true (.bin .leq lF (.k (.int .i64 20000))), .o 44 (.pick kF lG (.k (.bool false)))]) (.cond lH .skip (.exit 2))) (.seq (.block 3 (.run [.o 47 (.aw bF 1), .o 48 (.load mV false 1), .m 49 cJ, .o 50 (.bM mW k6 2), .o 51 (.aw mX 0), .o 52 (.load lI false 1), .m 53 cP, .c 54 fa [mY,mZ], .m 3 na])) (.run [.m 45 cJ, .o 46 (.bin .add mT (.k (.int .i64 1))), .m 6 mU]))
abbrev Q19:AC:= .seq (.seq (.run [.o 6 (.mv (.k (.int .i64 0)))]) (.block 2 (.loop Q14))) (.run [.o 55 (.aw bF 3), .o 56 (.load nc false 1), .m 57 cP, .c 58 iP [oC,nf], .m 3 oD])
abbrev Q1E:AC:= .seq (.block 1 (.seq (.run [.o 21 (.aw a8 1), .o 22 (.load dH false 1), .m 23 dq, .o 24 (.bM dQ dY 5), .o 25 (.load eK true 5), .o 5 (.alloc [(.str []),(.slice .full 0 []),(.slice .full 0 []),(.slice .full 0 []),(.slice .full 0 [])]), .op none none (.store bF eQ 5)]) (.seq Q0V Q19))) (.run [.m 19 dq, .o 20 (.bin .add du (.k (.int .i64 1))), .m 4 dJ])
abbrev Q1F:AC:= .seq (.seq (.run [.m 10 dq, .o 11 (.aw a8 1), .o 12 (.load bZ false 1), .o 13 (.len cf), .o 14 (.bin .lss cj cy), .m 15 cB, .g 16 15 true (.mv cP), .g 17 15 true (.bin .leq cz (.k (.int .i64 20000))), .o 18 (.pick da db (.k (.bool false)))]) (.cond dd .skip (.exit 0))) Q1E
abbrev Q1L:AC:= .seq (.seq (.run [.o 4 (.mv (.k (.int .i64 0)))]) (.block 0 (.loop Q1F))) (.seq (.run [.m 59 cP, .o 60 (.bin .leq mq (.k (.int .i64 20000))), .m 2 qo]) .ret)
abbrev Q1N:AC:= .seq (.run [.o 1 (.box bC), .o 2 (.mv (.k (.bool false)))]) (.seq (.run [.o 7 (.aw a8 0), .o 8 (.load bU false 1), .c 9 gK [cu,(.k (.int .i64 0))], .m 3 cQ]) Q1L)
abbrev Q1S:AC:= .cond cu (.seq (.run [.o 4 (.mv (.k (.str [])))]) .ret) .skip
abbrev Q1U:AC:= .par [.o 9 (.aw cO 1), .o 10 (.load cQ false 1), .m 11 a8, .o 12 (.aw cO 1), .o 13 (.load cf false 1), .o 14 (.len cy), .c 15 tR [bZ,cB], .o 16 (.bM cj da 5), .o 17 (.aw cz 0), .o 18 (.load db false 1), .m 4 dd] [(2,0),(3,0),(4,0),(5,0),(6,0),(0,0),(1,1),(7,0),(8,0),(9,0),(10,0)]
abbrev Q1W:AC:= .seq (.seq (.run [.o 5 (.aw cO 1), .o 6 (.load bF false 1), .o 7 (.len cJ), .o 8 (.bin .eql bU (.k (.int .i64 0)))]) Q1S) (.seq Q1U .ret)
abbrev Q1X:AC:= .seq (.run [.o 2 (.box bC), .o 4 (.mv (.k (.str [])))]) Q1W
abbrev Q22:AC:= .cond cj (.seq (.run [.o 4 (.mv (.k (.bool false)))]) .ret) .skip
abbrev Q28:AC:= .par [.m 16 bC, .m 17 bF, .o 18 (.bM cz db 1), .o 19 (.load dd false 1), .m 20 a8, .m 21 bF, .o 22 (.bM dJ dH 1), .o 23 (.load dQ false 1), .o 24 (.bin .neq du dY)] [(0,0),(1,0),(2,0),(3,0),(4,0),(5,0),(6,0),(7,0),(8,0)]
abbrev Q2B:AC:= .cond eK (.seq (.run [.o 4 (.mv (.k (.bool false)))]) .ret) .skip
abbrev Q2H:AC:= .seq (.cond cB .skip (.exit 0)) (.seq (.block 1 (.seq (.run [.m 15 cy, .m 5 da]) (.seq Q28 Q2B))) (.run [.o 25 (.bin .add cy (.k (.int .i64 1))), .m 13 eQ]))
abbrev Q2L:AC:= .seq (.run [.m 11 bC, .o 12 (.len bZ), .o 13 (.mv (.k (.int .i64 0)))]) (.block 0 (.loop (.seq (.run [.o 14 (.bin .lss cy cf)]) Q2H)))
abbrev Q2O:AC:= .seq Q2L (.seq (.run [.o 4 (.mv (.k (.bool true)))]) .ret)
abbrev Q2Q:AC:= .seq (.run [.o 4 (.mv (.k (.bool false)))]) (.seq (.seq (.run [.m 6 bC, .o 7 (.len cJ), .m 8 a8, .o 9 (.len cu), .o 10 (.bin .neq bU cQ)]) Q22) Q2O)
abbrev Q2V:AC:= .cond cu (.seq (.run [.o 4 (.mv (.k (.slice .full 0 [])))]) .ret) .skip
abbrev Q30:AC:= .seq (.run [.o 2 (.box bC), .o 4 (.mv (.k (.slice .full 0 [])))]) (.seq (.seq (.run [.o 5 (.load cO true 2), .m 6 a8, .c 7 ll [bF,cJ], .o 8 (.un .not bU)]) Q2V) (.seq (.run [.o 9 (.load cO true 2), .c 10 kY [cQ], .m 11 a8, .c 12 nH [cj,bZ], .m 4 cf]) .ret))
abbrev Q36:AC:= .cond dJ (.seq (.run [.o 4 (.mv (.k (.slice .full 0 [])))]) .ret) .skip
abbrev Q38:AC:= .seq (.run [.o 8 (.load cO true 2), .m 9 a8, .c 10 nr [cu,cQ], .m 7 cj, .o 11 (.ext bU 0), .o 12 (.ext bU 1), .o 5 (.alloc [(.str []),(.slice .full 0 []),(.slice .full 0 []),(.slice .full 0 []),(.slice .full 0 [])]), .op none none (.store bF bZ 5), .m 6 cf]) (.seq (.run [.m 13 cJ, .o 14 (.un .not cy), .m 15 cB, .g 16 15 false (.load cO true 2), .d 17 15 false ml [cz], .g 18 15 false (.x6 db 0 false 1), .g 19 15 false (.bin .neq dd (.k (.int .i64 0))), .o 20 (.pick da (.k (.bool true)) du)]) Q36)
abbrev Q3C:AC:= .seq (.run [.o 2 (.box bC), .o 4 (.mv (.k (.slice .full 0 [])))]) (.seq Q38 (.seq (.run [.o 21 (.load cO true 2), .m 22 a8, .c 23 ou [dH,dQ], .m 4 dY]) .ret))
abbrev Q3H:AC:= .cond cu (.seq (.run [.o 4 (.mv (.k (.slice .full 0 [])))]) .ret) .skip
abbrev Q3M:AC:= .seq (.run [.o 2 (.box bC), .o 4 (.mv (.k (.slice .full 0 [])))]) (.seq (.seq (.run [.o 5 (.load cO true 2), .m 6 a8, .c 7 ll [bF,cJ], .o 8 (.un .not bU)]) Q3H) (.seq (.run [.o 9 (.load cO true 2), .c 10 kY [cQ], .m 11 a8, .c 12 pF [cj,bZ], .m 4 cf]) .ret))
abbrev Q3S:AC:= .cond dJ (.seq (.run [.o 4 (.mv (.k (.slice .full 0 [])))]) .ret) .skip
abbrev Q3U:AC:= .seq (.run [.o 8 (.load cO true 2), .m 9 a8, .c 10 nr [cu,cQ], .m 7 cj, .o 11 (.ext bU 0), .o 12 (.ext bU 1), .o 5 (.alloc [(.str []),(.slice .full 0 []),(.slice .full 0 []),(.slice .full 0 []),(.slice .full 0 [])]), .op none none (.store bF bZ 5), .m 6 cf]) (.seq (.run [.m 13 cJ, .o 14 (.un .not cy), .m 15 cB, .g 16 15 false (.load cO true 2), .d 17 15 false ml [cz], .g 18 15 false (.x6 db 0 false 1), .g 19 15 false (.bin .neq dd (.k (.int .i64 0))), .o 20 (.pick da (.k (.bool true)) du)]) Q3S)
abbrev Q3Y:AC:= .seq (.run [.o 2 (.box bC), .o 4 (.mv (.k (.slice .full 0 [])))]) (.seq Q3U (.seq (.run [.o 21 (.load cO true 2), .m 22 a8, .c 23 nI [dH,dQ], .m 4 dY]) .ret))
abbrev Q43:AC:= .cond cz (.seq (.run [.o 4 (.mv (.k (.slice .full 0 [])))]) .ret) .skip
abbrev Q4N:AC:= .seq (.run [.o 43 (.bM iU kF 1), .o 44 (.load lG false 1), .m 12 lH]) (.seq (.run [.o 45 (.aw cO 0), .o 46 (.load mT false 1), .m 47 cf, .c 48 cA [mU,mV]]) (.cond mW (.run [.m 49 cJ, .m 50 cf, .o 51 (.cR [(.str [])] 1 1 [(0,mX)]), .o 52 (.app 1 16 k6 lI), .m 6 mY]) .skip))
abbrev Q4R:AC:= .seq (.cond lF .skip (.exit 4)) (.seq (.block 5 Q4N) (.run [.o 53 (.bin .add kF (.k (.int .i64 1))), .m 41 mZ]))
abbrev Q4V:AC:= .seq (.run [.o 37 (.aw cj 0), .o 38 (.load il true 13), .c 39 ov [jt], .o 40 (.len iU), .o 41 (.mv (.k (.int .i64 0)))]) (.block 4 (.loop (.seq (.run [.o 42 (.bin .lss kF lE)]) Q4R)))
abbrev Q4Z:AC:= .seq (.block 3 (.seq (.run [.o 35 (.bM fz gb 17), .o 36 (.load gH true 17), .o 10 (.alloc [(.int .i64 0),(.int .i64 0),(.slice .full 0 []),(.str []),(.str []),(.int .i64 0),(.int .i64 0),(.str []),(.slice .full 0 []),(.bool false),(.slice .full 0 []),(.slice .full 0 []),(.slice .full 0 []),(.int .i64 0),(.int .i64 0),(.int .i64 0),(.int .i64 0)]), .op none none (.store cj ik 17)]) Q4V)) (.run [.o 54 (.bin .add gb (.k (.int .i64 1))), .m 33 na])
abbrev Q53:AC:= .block 2 (.loop (.seq (.run [.o 34 (.bin .lss gb ga)]) (.seq (.cond gG .skip (.exit 2)) Q4Z)))
abbrev Q55:AC:= .seq (.run [.o 25 (.bM dH dY 1), .o 26 (.load eQ false 1), .m 8 fu]) (.seq (.run [.m 27 bF, .m 28 bF, .m 29 cu, .c 30 ko [fH,fI], .c 31 jP [fb,gn], .o 32 (.len fz), .o 33 (.mv (.k (.int .i64 0)))]) Q53)
abbrev Q59:AC:= .seq (.cond eK .skip (.exit 0)) (.seq (.block 1 Q55) (.run [.o 55 (.bin .add dY (.k (.int .i64 1))), .m 23 nc]))
abbrev Q5D:AC:= .seq (.run [.m 19 bF, .m 20 a8, .c 21 pF [du,dJ], .o 22 (.len dH), .o 23 (.mv (.k (.int .i64 0)))]) (.block 0 (.loop (.seq (.run [.o 24 (.bin .lss dY dQ)]) Q59)))
abbrev Q5K:AC:= .seq (.run [.o 17 (.load cO true 2), .c 18 kY [db], .m 5 dd]) (.seq (.run [.o 6 (.mv (.k (.slice .full 0 [])))]) (.seq Q5D (.seq (.run [.m 56 cJ, .c 57 gF [oC]]) (.seq (.run [.m 58 cJ, .c 59 gU [oD], .m 4 mq]) .ret))))
abbrev Q5M:AC:= .seq (.run [.o 2 (.box bC), .o 4 (.mv (.k (.slice .full 0 [])))]) (.seq (.seq (.run [.o 13 (.load cO true 2), .m 14 a8, .c 15 ll [cy,cB], .o 16 (.un .not da)]) Q43) Q5K)
abbrev Q5S:AC:= .cond dJ (.seq (.run [.o 4 (.mv (.k (.slice .full 0 [])))]) .ret) .skip
abbrev Q5U:AC:= .seq (.run [.o 8 (.load cO true 2), .m 9 a8, .c 10 nr [cu,cQ], .m 7 cj, .o 11 (.ext bU 0), .o 12 (.ext bU 1), .o 5 (.alloc [(.str []),(.slice .full 0 []),(.slice .full 0 []),(.slice .full 0 []),(.slice .full 0 [])]), .op none none (.store bF bZ 5), .m 6 cf]) (.seq (.run [.m 13 cJ, .o 14 (.un .not cy), .m 15 cB, .g 16 15 false (.load cO true 2), .d 17 15 false ml [cz], .g 18 15 false (.x6 db 0 false 1), .g 19 15 false (.bin .neq dd (.k (.int .i64 0))), .o 20 (.pick da (.k (.bool true)) du)]) Q5S)
abbrev Q5Y:AC:= .seq (.run [.o 2 (.box bC), .o 4 (.mv (.k (.slice .full 0 [])))]) (.seq Q5U (.seq (.run [.o 21 (.load cO true 2), .m 22 a8, .c 23 pd [dH,dQ], .m 4 dY]) .ret))
abbrev Q62:AC:= .seq (.run [(.o 16 (.build [(.int .i64 0),(.int .i64 0)] [(0,(1,(.k (.int .i64 1))))])), .op none none (.store cO cz 2)]) .ret
abbrev Q6E:AC:= .seq (.block 1 (.seq (.run [.o 22 (.bM dd dJ 5), .o 23 (.load dQ true 5), .o 5 (.alloc [(.str []),(.slice .full 0 []),(.slice .full 0 []),(.slice .full 0 []),(.slice .full 0 [])]), .op none none (.store bF dY 5)]) (.run [.m 24 cP, .o 25 (.aw bF 0), .o 26 (.load eQ false 1), .o 27 (.cR [(.str [])] 1 1 [(0,fu)]), .o 28 (.app 1 16 eK fb), .m 3 fH]))) (.run [.o 29 (.bin .add dJ (.k (.int .i64 1))), .m 20 fI])
abbrev Q6I:AC:= .block 0 (.loop (.seq (.run [.o 21 (.bin .lss dJ du)]) (.seq (.cond dH .skip (.exit 0)) Q6E)))
abbrev Q6N:AC:= .seq (.run [(.o 53 (.build [(.int .i64 0),(.int .i64 0)] [(0,(1,(.k (.int .i64 5))))])), .op none none (.store cO mZ 2)]) .ret
abbrev Q6Y:AC:= .seq (.run [(.o 73 (.build [(.int .i64 0),(.int .i64 0)] [(0,(1,(.k (.int .i64 5))))])), .op none none (.store cO zD 2)]) .ret
abbrev Q77:AC:= .seq (.run [.o 89 (.aw cf 0), .o 90 (.aw C6 0), .o 91 (.load C7 false 1),(.o 92 (.build [(.int .i64 0),(.int .i64 0)] [(0,(1,(.k (.int .i64 5)))),(1,(1,C8))])), .op none none (.store cO C9 2)]) .ret
abbrev Q7D:AC:= .seq (.block 5 (.seq (.run [.o 80 (.bM ub vL 17), .o 81 (.load xF true 17), .o 12 (.alloc [(.int .i64 0),(.int .i64 0),(.slice .full 0 []),(.str []),(.str []),(.int .i64 0),(.int .i64 0),(.str []),(.slice .full 0 []),(.bool false),(.slice .full 0 []),(.slice .full 0 []),(.slice .full 0 []),(.int .i64 0),(.int .i64 0),(.int .i64 0),(.int .i64 0)]), .op none none (.store cf C0 17)]) (.seq (.run [.o 82 (.load a8 true 2), .o 83 (.load cQ true 5), .m 84 cP, .o 85 (.aw cf 0), .o 86 (.load C2 true 13), .c 87 nJ [zG,C1,xG,C3], .o 88 (.un .not C4)]) (.cond C5 Q77 .skip)))) (.run [.o 93 (.bin .add vL (.k (.int .i64 1))), .m 78 Hc])
abbrev Q7H:AC:= .block 4 (.loop (.seq (.run [.o 79 (.bin .lss vL zF)]) (.seq (.cond CZ .skip (.exit 4)) Q7D)))
abbrev Q7J:AC:= .seq (.seq (.run [.m 66 cj, .c 67 ln [vI], .m 68 tY, .g 69 68 false (.mv cj), .g 70 68 false (.qD 55 [a8]), .d 71 68 false eW [vJ,vK], .o 72 (.pick tZ (.k (.bool true)) zC)]) (.cond xD Q6Y .skip)) (.seq (.run [.m 74 bU, .m 75 cu, .c 76 jP [xE,zE], .o 77 (.len ub), .o 78 (.mv (.k (.int .i64 0)))]) Q7H)
abbrev Q7O:AC:= .seq (.block 3 (.seq (.run [.m 61 mq, .o 62 (.bM nf mq 5), .o 63 (.load rn true 5), .o 9 (.alloc [(.str []),(.slice .full 0 []),(.slice .full 0 []),(.slice .full 0 []),(.slice .full 0 [])]), .m 8 rm, .op none none (.store cQ qp 5)]) (.seq (.run [.o 64 (.load cQ true 5), .c 65 sK [qq], .m 10 tX]) Q7J))) (.run [.o 94 (.bin .add mq (.k (.int .i64 1))), .m 59 Hd])
abbrev Q7S:AC:= .block 2 (.loop (.seq (.run [.o 60 (.bin .lss mq oD)]) (.seq (.cond qo .skip (.exit 2)) Q7O)))
abbrev Q7W:AC:= .seq (.seq (.run [.o 56 (.aw a8 1), .o 57 (.load oC false 1), .o 58 (.len nf), .o 59 (.mv (.k (.int .i64 0)))]) Q7S) (.seq (.run [.o 95 (.build [(.int .i64 0),(.int .i64 0)] []), .op none none (.store cO He 2)]) .ret)
abbrev Q7Y:AC:= .seq (.seq (.run [.o 32 (.aw a8 0), .o 33 (.load ga false 1), .c 34 ln [gb], .m 35 gG, .g 36 35 false (.mv cP), .d 37 35 false ln [ik], .o 38 (.pick gH (.k (.bool true)) il), .m 39 jt, .g 40 39 false (.mv cJ), .g 41 39 false (.bin .lss lE (.k (.int .i64 0))), .o 42 (.pick iU (.k (.bool true)) kF), .m 43 lF, .g 44 43 false (.aw a8 1), .g 45 43 false (.load lH false 1), .g 46 43 false (.mv cJ), .g 47 43 false (.bM mT mU 5), .g 48 43 false (.aw mV 1), .g 49 43 false (.load mW false 1), .g 50 43 false (.len k6), .g 51 43 false (.bin .gtr mX (.k (.int .i64 0))), .o 52 (.pick lG (.k (.bool true)) lI)]) (.cond mY Q6N .skip)) (.seq (.run [.o 54 (.load a8 true 2), .c 55 kY [na], .m 7 nc]) Q7W)
abbrev Q80:AC:= .seq (.seq (.run [.o 17 (.aw a8 1), .o 18 (.load db false 1), .o 19 (.len dd), .o 20 (.mv (.k (.int .i64 0)))]) Q6I) (.seq (.run [.m 30 cP,(.c 31 gx [gn,(.k (.str [109,97,105,110]))]), .m 6 fz]) Q7Y)
abbrev Q82:AC:= .seq (.seq (.run [.o 13 (.load a8 true 2), .c 14 tQ [cy], .o 15 (.un .not cB)]) (.cond da Q62 .skip)) (.seq (.run [.o 3 (.mv (.k (.slice .full 0 [])))]) Q80)
abbrev Q83:AC:= .seq (.run [.o 1 (.box bC), .o 2 (.alloc [(.int .i64 0),(.int .i64 0)])]) Q82
abbrev Q87:AC:= .seq (.run [.o 1 (.box bC), .o 2 (.mv (.k (.slice .full 0 [])))]) (.seq (.run [.o 3 (.aw a8 3), .o 4 (.load cP false 1),(.c 5 j7 [dq,(.k (.int .i64 1)),(.k (.int .i64 0)),(.k (.bool false)),(.k (.slice .full 0 []))]), .m 2 bF]) .ret)
abbrev Q8O:AC:= .seq (.seq (.run [.o 31 (.aw bF 0), .o 32 (.load fz false 1)]) (.cond ga (.run [.m 33 cP, .o 34 (.aw bF 1), .o 35 (.load gG false 1), .o 36 (.cR [(.str [])] 1 1 [(0,gH)]), .o 37 (.app 1 16 gb ik), .m 3 il]) .skip)) (.run [.m 38 cP, .o 39 (.aw bF 2), .o 40 (.load iU true 4), .c 41 ow [lE], .o 42 (.app 1 16 jt kF), .m 3 lF])
abbrev Q8S:AC:= .seq (.block 1 (.seq (.run [.o 29 (.bM eQ fb 6), .o 30 (.load fI true 6), .o 5 (.alloc [(.bool false),(.str []),(.int .i64 0),(.int .i64 0),(.str []),(.slice .full 0 [])]), .op none none (.store bF gn 6)]) Q8O)) (.run [.o 43 (.bin .add fb (.k (.int .i64 1))), .m 27 lG])
abbrev Q8W:AC:= .block 0 (.loop (.seq (.run [.o 28 (.bin .lss fb fu)]) (.seq (.cond fH .skip (.exit 0)) Q8S)))
abbrev Q90:AC:= .seq (.seq (.run [.o 24 (.aw a8 10), .o 25 (.load eK false 1), .o 26 (.len eQ), .o 27 (.mv (.k (.int .i64 0)))]) Q8W) (.seq (.run [.m 44 cP, .m 2 lH]) .ret)
abbrev Q92:AC:= .seq (.seq (.run [.o 6 (.aw a8 3), .o 7 (.load cJ false 1), .o 8 (.bin .neq bU (.k (.str []))), .m 9 cu, .g 10 9 true (.aw a8 1), .g 11 9 true (.load cj false 1), .g 12 9 true (.bin .neq bZ (.k (.int .i64 10))), .o 13 (.pick cQ cf (.k (.bool false)))]) (.cond cy (.run [.m 14 cP, .o 15 (.aw a8 3), .o 16 (.load da false 1), .o 17 (.cR [(.str [])] 1 1 [(0,cz)]), .o 18 (.app 1 16 cB db), .m 3 dd]) .skip)) (.seq (.run [.m 19 cP, .o 20 (.aw a8 5), .o 21 (.load dJ true 4), .c 22 ow [dH], .o 23 (.app 1 16 du dQ), .m 3 dY]) Q90)
abbrev Q94:AC:= .seq (.run [.o 1 (.box bC), .o 2 (.mv (.k (.slice .full 0 [])))]) (.seq (.run [.o 3 (.mv (.k (.slice .full 0 [])))]) Q92)
abbrev Q9D:AC:= .cond cz (.seq (.run [.o 4 (.mv (.k (.bool true)))]) .ret) .skip
abbrev Q9I:AC:= .seq (.block 1 (.seq (.run [.m 10 cu, .m 5 cj]) (.seq (.run [.m 11 bC, .m 12 bF, .o 13 (.bM bZ cf 1), .o 14 (.load cy false 1), .m 15 a8, .o 16 (.bin .eql cB da)]) Q9D))) (.run [.o 17 (.bin .add cu (.k (.int .i64 1))), .m 8 db])
abbrev Q9M:AC:= .block 0 (.loop (.seq (.run [.o 9 (.bin .lss cu bU)]) (.seq (.cond cQ .skip (.exit 0)) Q9I)))
abbrev Q9Q:AC:= .seq (.seq (.run [.m 6 bC, .o 7 (.len cJ), .o 8 (.mv (.k (.int .i64 0)))]) Q9M) (.seq (.run [.o 4 (.mv (.k (.bool false)))]) .ret)
abbrev Q9R:AC:= .seq (.run [.o 4 (.mv (.k (.bool false)))]) Q9Q
abbrev Q9W:AC:= .cond dY (.seq (.run [.o 2 (.mv (.k (.bool false)))]) .ret) .skip
abbrev QA3:AC:= .run [.o 33 (.aw bF 1), .o 34 (.load gb false 1), .o 35 (.len gG), .o 36 (.bin .gtr gH (.k (.int .i64 8))), .m 37 ik, .g 38 37 false (.aw bF 2), .g 39 37 false (.load jt false 1), .g 40 37 false (.len iU), .g 41 37 false (.bin .gtr lE (.k (.int .i64 16))), .o 42 (.pick il (.k (.bool true)) kF), .m 43 lF, .g 44 43 false (.aw bF 0), .g 45 43 false (.load lH false 1), .d 46 43 false kZ [mT], .g 47 43 false (.un .not mU), .o 48 (.pick lG (.k (.bool true)) mV), .m 49 mW, .g 50 49 false (.aw bF 2), .g 51 49 false (.load mX false 1), .d 52 49 false kA [lI], .g 53 49 false (.un .not mY), .o 54 (.pick k6 (.k (.bool true)) mZ), .m 55 na, .g 56 55 false (.aw bF 4), .g 57 55 false (.load oC false 1), .d 58 55 false kA [nf], .g 59 55 false (.un .not oD), .o 60 (.pick nc (.k (.bool true)) mq)]
abbrev QA6:AC:= .cond qo (.seq (.run [.o 2 (.mv (.k (.bool false)))]) .ret) .skip
abbrev QAF:AC:= .cond zC (.seq (.run [.o 2 (.mv (.k (.bool false)))]) .ret) .skip
abbrev QAK:AC:= .seq (.block 3 (.seq (.run [.o 66 (.bM rn qq 2), .o 67 (.load vI true 2), .o 7 (.alloc [(.str []),(.bool false)]), .op none none (.store bU tY 2)]) (.seq (.run [.o 68 (.aw bU 0), .o 69 (.load tZ false 1), .c 70 kZ [vJ], .o 71 (.un .not vK)]) QAF))) (.run [.o 72 (.bin .add qq (.k (.int .i64 1))), .m 64 xD])
abbrev QAO:AC:= .block 2 (.loop (.seq (.run [.o 65 (.bin .lss qq qp)]) (.seq (.cond tX .skip (.exit 2)) QAK)))
abbrev QAT:AC:= .cond zF (.seq (.run [.o 2 (.mv (.k (.bool false)))]) .ret) .skip
abbrev QAV:AC:= .seq (.seq (.run [.o 61 (.aw bF 1), .o 62 (.load rm false 1), .o 63 (.len rn), .o 64 (.mv (.k (.int .i64 0)))]) QAO) (.seq (.run [.m 73 cP, .o 74 (.aw bF 3), .o 75 (.load xE false 1), .c 76 iB [zD,zE,(.k (.int .i64 1))], .o 77 (.un .not ub)]) QAT)
abbrev QB0:AC:= .seq (.block 1 (.seq (.run [.o 31 (.bM fb fI 5), .o 32 (.load fz true 5), .o 5 (.alloc [(.str []),(.slice .full 0 []),(.slice .full 0 []),(.slice .full 0 []),(.slice .full 0 [])]), .op none none (.store bF ga 5)]) (.seq (.seq QA3 QA6) QAV))) (.run [.o 78 (.bin .add fI (.k (.int .i64 1))), .m 29 vL])
abbrev QB4:AC:= .block 0 (.loop (.seq (.run [.o 30 (.bin .lss fI fH)]) (.seq (.cond gn .skip (.exit 0)) QB0)))
abbrev QB8:AC:= .seq (.seq (.run [.o 26 (.aw a8 1), .o 27 (.load fu false 1), .o 28 (.len fb), .o 29 (.mv (.k (.int .i64 0)))]) QB4) (.seq (.run [.o 2 (.mv (.k (.bool true)))]) .ret)
abbrev QBA:AC:= .seq (.seq (.run [.o 8 (.aw a8 0), .o 9 (.load cu false 1), .o 10 (.len cQ), .o 11 (.bin .gtr cj (.k (.int .i64 16))), .m 12 bZ, .g 13 12 false (.aw a8 1), .g 14 12 false (.load cy false 1), .g 15 12 false (.len cB), .g 16 12 false (.bin .gtr da (.k (.int .i64 16))), .o 17 (.pick cf (.k (.bool true)) cz), .m 18 db, .g 19 18 false (.aw a8 0), .g 20 18 false (.load du false 1), .d 21 18 false kA [dJ], .g 22 18 false (.un .not dH), .o 23 (.pick dd (.k (.bool true)) dQ)]) Q9W) (.seq (.run [.o 24 (.build [(.int .i64 0)] []), .o 25 (.box eK), .m 3 eQ]) QB8)
abbrev QBB:AC:= .seq (.run [.o 1 (.box bC), .o 2 (.mv (.k (.bool false)))]) QBA
abbrev QBD:AC:= .run [(.o 3 (.cR [(.str [])] 1 1 [(0,(.k (.str [118])))])), .c 4 ox [(.k (.int .i64 2))],(.o 5 (.build [(.int .i64 0),(.int .i64 0),(.slice .full 0 []),(.str []),(.str []),(.int .i64 0),(.int .i64 0),(.str []),(.slice .full 0 []),(.bool false),(.slice .full 0 []),(.slice .full 0 []),(.slice .full 0 [])] [(0,(1,(.k (.int .i64 1)))),(1,(1,(.k (.int .i64 1)))),(3,(1,(.k (.str [118])))),(5,(4,dq))])), .c 6 ox [(.k (.int .i64 3))], .o 7 (.build [(.bool false),(.str []),(.int .i64 0),(.int .i64 0),(.str []),(.slice .full 0 [])] [(2,(4,cJ))]),(.o 8 (.build [(.bool false),(.str []),(.int .i64 0),(.int .i64 0),(.str []),(.slice .full 0 [])] [(0,(1,(.k (.bool true)))),(1,(1,(.k (.str [118]))))])), .o 9 (.cR [(.bool false),(.str []),(.int .i64 0),(.int .i64 0),(.str []),(.slice .full 0 [])] 6 2 [(0,bU),(1,cu)]),(.o 10 (.build [(.int .i64 0),(.int .i64 0),(.slice .full 0 []),(.str []),(.str []),(.int .i64 0),(.int .i64 0),(.str []),(.slice .full 0 []),(.bool false),(.slice .full 0 []),(.slice .full 0 []),(.slice .full 0 [])] [(0,(1,(.k (.int .i64 2)))),(1,(1,(.k (.int .i64 4)))),(3,(1,(.k (.str [103])))),(4,(1,(.k (.str [112])))),(10,(1,cQ))])),(.c 11 jc [(.k (.str [118]))]),(.o 12 (.build [(.int .i64 0),(.int .i64 0),(.slice .full 0 []),(.str []),(.str []),(.int .i64 0),(.int .i64 0),(.str []),(.slice .full 0 []),(.bool false),(.slice .full 0 []),(.slice .full 0 []),(.slice .full 0 [])] [(0,(1,(.k (.int .i64 3)))),(1,(1,(.k (.int .i64 3)))),(5,(4,bZ))])),(.c 13 jc [(.k (.str [103]))]),(.o 14 (.build [(.int .i64 0),(.int .i64 0),(.slice .full 0 []),(.str []),(.str []),(.int .i64 0),(.int .i64 0),(.str []),(.slice .full 0 []),(.bool false),(.slice .full 0 []),(.slice .full 0 []),(.slice .full 0 [])] [(0,(1,(.k (.int .i64 4)))),(1,(1,(.k (.int .i64 3)))),(5,(4,cy))])), .o 15 (.cR [(.int .i64 0),(.int .i64 0),(.slice .full 0 []),(.str []),(.str []),(.int .i64 0),(.int .i64 0),(.str []),(.slice .full 0 []),(.bool false),(.slice .full 0 []),(.slice .full 0 []),(.slice .full 0 [])] 13 4 [(0,bF),(1,cj),(2,cf),(3,cB)]),(.o 16 (.build [(.str []),(.slice .full 0 []),(.slice .full 0 []),(.slice .full 0 []),(.slice .full 0 [])] [(0,(1,(.k (.str [109,97,105,110])))),(2,(1,cP)),(3,(1,da))])), .o 1 (.alloc [(.str []),(.slice .full 0 []),(.slice .full 0 []),(.slice .full 0 []),(.slice .full 0 [])]), .op none none (.store a8 cz 5)]
abbrev QBE:AC:= .run [(.o 17 (.build [(.str []),(.bool false)] [(0,(1,(.k (.str [120]))))])),(.o 18 (.build [(.str []),(.bool false)] [(0,(1,(.k (.str [121])))),(1,(1,(.k (.bool true))))])), .o 19 (.cR [(.str []),(.bool false)] 2 2 [(0,db),(1,dd)]),(.o 20 (.cR [(.str [])] 1 1 [(0,(.k (.str [101])))])),(.c 21 jc [(.k (.str [121]))]),(.c 22 jc [(.k (.str [120]))]), .c 23 qL [(.k (.int .i64 8)),dH,dQ],(.o 24 (.build [(.int .i64 0),(.int .i64 0),(.slice .full 0 []),(.str []),(.str []),(.int .i64 0),(.int .i64 0),(.str []),(.slice .full 0 []),(.bool false),(.slice .full 0 []),(.slice .full 0 []),(.slice .full 0 [])] [(0,(1,(.k (.int .i64 5)))),(1,(1,(.k (.int .i64 1)))),(3,(1,(.k (.str [121])))),(5,(4,dY))])),(.c 25 jc [(.k (.str [121]))]), .c 26 ox [(.k (.int .i64 9))], .c 27 qL [(.k (.int .i64 12)),eQ,fu],(.o 28 (.build [(.int .i64 0),(.int .i64 0),(.slice .full 0 []),(.str []),(.str []),(.int .i64 0),(.int .i64 0),(.str []),(.slice .full 0 []),(.bool false),(.slice .full 0 []),(.slice .full 0 []),(.slice .full 0 [])] [(0,(1,(.k (.int .i64 7)))),(1,(1,(.k (.int .i64 10)))),(3,(1,(.k (.str [101]))))])), .o 29 (.cR [(.int .i64 0),(.int .i64 0),(.slice .full 0 []),(.str []),(.str []),(.int .i64 0),(.int .i64 0),(.str []),(.slice .full 0 []),(.bool false),(.slice .full 0 []),(.slice .full 0 []),(.slice .full 0 [])] 13 1 [(0,fH)]),(.o 30 (.build [(.int .i64 0),(.int .i64 0),(.slice .full 0 []),(.str []),(.str []),(.int .i64 0),(.int .i64 0),(.str []),(.slice .full 0 []),(.bool false),(.slice .full 0 []),(.slice .full 0 []),(.slice .full 0 [])] [(0,(1,(.k (.int .i64 6)))),(1,(1,(.k (.int .i64 5)))),(5,(4,fb)),(11,(1,fI))])),(.c 31 jc [(.k (.str [121]))]),(.o 32 (.build [(.int .i64 0),(.int .i64 0),(.slice .full 0 []),(.str []),(.str []),(.int .i64 0),(.int .i64 0),(.str []),(.slice .full 0 []),(.bool false),(.slice .full 0 []),(.slice .full 0 []),(.slice .full 0 [])] [(0,(1,(.k (.int .i64 8)))),(1,(1,(.k (.int .i64 9)))),(9,(1,(.k (.bool true)))),(5,(4,fz))])), .o 33 (.cR [(.int .i64 0),(.int .i64 0),(.slice .full 0 []),(.str []),(.str []),(.int .i64 0),(.int .i64 0),(.str []),(.slice .full 0 []),(.bool false),(.slice .full 0 []),(.slice .full 0 []),(.slice .full 0 [])] 13 3 [(0,eK),(1,gn),(2,ga)]),(.o 34 (.build [(.str []),(.slice .full 0 []),(.slice .full 0 []),(.slice .full 0 []),(.slice .full 0 [])] [(0,(1,(.k (.str [112])))),(1,(1,du)),(4,(1,dJ)),(3,(1,gb))])), .o 2 (.alloc [(.str []),(.slice .full 0 []),(.slice .full 0 []),(.slice .full 0 []),(.slice .full 0 [])]), .op none none (.store cO gG 5)]
abbrev QBG:AC:= .seq (.run [(.o 35 (.cR [(.str [])] 1 1 [(0,(.k (.str [103])))])), .o 36 (.load a8 true 5), .o 37 (.load cO true 5), .o 38 (.cR [(.str []),(.slice .full 0 []),(.slice .full 0 []),(.slice .full 0 []),(.slice .full 0 [])] 5 2 [(0,ik),(1,il)]), .o 39 (.build [(.slice .full 0 []),(.slice .full 0 [])] [(0,(1,gH)),(1,(1,jt))]), .op none none (.store bC iU 2)]) .ret
abbrev QBJ:AC:= .seq (.run [.o 0 (.alloc [(.slice .full 0 []),(.slice .full 0 [])])]) (.seq QBD (.seq QBE QBG))
abbrev QBT:AC:= .seq (.seq (.run [.m 6 bF, .m 7 bC, .o 8 (.len bU), .o 9 (.bin .lss cJ cu), .m 10 cQ, .g 11 10 true (.mv a8), .g 12 10 true (.bin .leq bZ (.k (.int .i64 20000))), .o 13 (.pick cj cf (.k (.bool false)))]) (.cond cy .skip (.exit 0))) (.seq (.block 1 (.run [.m 16 bC, .m 17 bF, .o 18 (.bM cz db 1), .o 19 (.load dd false 1), .m 20 a8, .c 21 fa [du,dJ], .m 1 dH])) (.run [.m 14 bF, .o 15 (.bin .add cB (.k (.int .i64 1))), .m 5 da]))
abbrev QBZ:AC:= .seq (.seq (.run [.o 5 (.mv (.k (.int .i64 0)))]) (.block 0 (.loop QBT))) (.seq (.run [.m 22 a8, .m 4 dQ]) .ret)
abbrev QC0:AC:= .seq (.run [.o 4 (.mv (.k (.int .i64 0)))]) QBZ
abbrev QC5:AC:= .cond cy (.seq (.run [.o 4 (.mv (.k (.int .i64 20001)))]) .ret) .skip
abbrev QC9:AC:= .seq (.seq (.run [.m 5 a8, .o 6 (.bin .gtr bF (.k (.int .i64 20000))), .m 7 cJ, .g 8 7 false (.mv bC), .g 9 7 false (.oX cu), .g 10 7 false (.mv a8), .g 11 7 false (.bin .sub (.k (.int .i64 20000)) cj), .g 12 7 false (.bin .geq cQ bZ), .o 13 (.pick bU (.k (.bool true)) cf)]) QC5) (.seq (.run [.m 14 a8, .o 15 (.bin .add cB (.k (.int .i64 1))), .m 16 bC, .o 17 (.oX cz), .o 18 (.bin .add da db), .m 4 dd]) .ret)
abbrev QCA:AC:= .seq (.run [.o 4 (.mv (.k (.int .i64 0)))]) QC9
abbrev QCH:AC:= .par [.o 22 (.aw cJ 4), .o 23 (.load dQ false 1), .o 24 (.aw cJ 3), .o 25 (.load eK false 1), .o 26 (.aw cJ 2), .o 27 (.load fu false 1), .o 28 (.aw cJ 5), .o 29 (.load fH true 4), .m 30 a8, .c 31 ig [fI,gn], .c 32 gK [fb,fz], .c 33 fa [eQ,ga], .c 34 fa [dY,gb], .m 1 gG] [(6,0),(7,0),(8,0),(9,0),(4,0),(5,1),(10,0),(2,0),(3,2),(11,0),(0,0),(1,3),(12,0),(13,0)]
abbrev QCM:AC:= .par [.o 46 (.aw cJ 10), .o 47 (.load mU false 1), .m 48 bU, .o 49 (.bM mV mW 6), .o 50 (.aw k6 1), .o 51 (.load mX false 1), .o 52 (.aw cJ 10), .o 53 (.load mY false 1), .m 54 bU, .o 55 (.bM mZ na 6), .o 56 (.aw nc 2), .o 57 (.load oC true 4), .m 58 a8, .c 59 ig [nf,oD], .c 60 fa [lI,mq], .m 1 qo] [(6,0),(7,0),(8,0),(9,0),(10,0),(11,0),(12,0),(13,0),(0,0),(1,1),(2,0),(3,0),(4,0),(5,1),(14,0),(15,0)]
abbrev QCQ:AC:= .seq (.seq (.run [.m 35 bU, .o 36 (.aw cJ 10), .o 37 (.load ik false 1), .o 38 (.len il), .o 39 (.bin .lss gH jt), .m 40 iU, .g 41 40 true (.mv a8), .g 42 40 true (.bin .leq kF (.k (.int .i64 20000))), .o 43 (.pick lE lF (.k (.bool false)))]) (.cond lG .skip (.exit 2))) (.seq (.block 3 QCM) (.run [.m 44 bU, .o 45 (.bin .add lH (.k (.int .i64 1))), .m 7 mT]))
abbrev QCU:AC:= .par [.o 61 (.aw cJ 12), .o 62 (.load rm false 1), .o 63 (.aw cJ 11), .o 64 (.load qp false 1), .m 65 a8, .c 66 iP [qq,tX], .c 67 iP [rn,vI], .m 1 tY] [(2,0),(3,0),(4,0),(5,0),(0,0),(1,1),(6,0),(7,0)]
abbrev QCV:AC:= .seq (.seq (.run [.o 7 (.mv (.k (.int .i64 0)))]) (.block 2 (.loop QCQ))) QCU
abbrev QD0:AC:= .seq (.block 1 (.seq (.run [.m 18 bC, .m 19 bF, .o 20 (.bM dd du 13), .o 21 (.load dJ true 13), .o 6 (.alloc [(.int .i64 0),(.int .i64 0),(.slice .full 0 []),(.str []),(.str []),(.int .i64 0),(.int .i64 0),(.str []),(.slice .full 0 []),(.bool false),(.slice .full 0 []),(.slice .full 0 []),(.slice .full 0 [])]), .op none none (.store cJ dH 13)]) (.seq QCH QCV))) (.run [.m 16 bF, .o 17 (.bin .add cz (.k (.int .i64 1))), .m 5 db])
abbrev QD1:AC:= .seq (.seq (.run [.m 8 bF, .m 9 bC, .o 10 (.len cQ), .o 11 (.bin .lss cu cj), .m 12 bZ, .g 13 12 true (.mv a8), .g 14 12 true (.bin .leq cy (.k (.int .i64 20000))), .o 15 (.pick cf cB (.k (.bool false)))]) (.cond da .skip (.exit 0))) QD0
abbrev QD7:AC:= .seq (.seq (.run [.o 5 (.mv (.k (.int .i64 0)))]) (.block 0 (.loop QD1))) (.seq (.run [.m 68 a8, .m 4 tZ]) .ret)
abbrev QD8:AC:= .seq (.run [.o 4 (.mv (.k (.int .i64 0)))]) QD7
abbrev QDD:AC:= .cond cJ (.seq (.run [.o 4 (.mv (.k (.int .i64 0)))]) .ret) .skip
abbrev QDN:AC:= .seq (.seq (.run [.m 10 bC, .o 11 (.bin .lss cj (.k (.int .i64 0)))]) (.cond bZ (.seq (.run [.m 12 bC, .m 13 a8, .o 14 (.bin .add cf cy), .m 4 cB]) .ret) .skip)) (.seq (.run [.m 15 bC, .m 4 da]) .ret)
abbrev QDP:AC:= .seq (.seq (.run [.m 5 a8, .o 6 (.bin .lss bF (.k (.int .i64 1)))]) QDD) (.seq (.run [.m 7 bC, .m 8 a8, .o 9 (.bin .rem bU cu), .m 0 cQ]) QDN)
abbrev QDQ:AC:= .seq (.run [.o 4 (.mv (.k (.int .i64 0)))]) QDP
abbrev QDU:AC:= .seq (.run [.o 2 (.box bC), .o 3 (.box a8), .o 4 (.mv (.k (.bool false)))]) (.seq (.run [.o 5 (.load cO true 2), .c 6 qk [bF], .o 7 (.x6 cJ 0 false 1), .o 8 (.bin .eql bU (.k (.int .i64 0))), .m 9 cu, .g 10 9 true (.aw cO 1), .g 11 9 true (.load cj false 1), .g 12 9 true (.qD 77 [cP]), .d 13 9 true fy [bZ,cf], .o 14 (.pick cQ cy (.k (.bool false))), .m 4 cB]) .ret)
abbrev QE5:AC:= .seq (.run [.o 16 (.bM cf cB 17), .o 17 (.load cz true 17), .o 7 (.alloc [(.int .i64 0),(.int .i64 0),(.slice .full 0 []),(.str []),(.str []),(.int .i64 0),(.int .i64 0),(.str []),(.slice .full 0 []),(.bool false),(.slice .full 0 []),(.slice .full 0 []),(.slice .full 0 []),(.int .i64 0),(.int .i64 0),(.int .i64 0),(.int .i64 0)]), .op none none (.store bU db 17)]) (.seq (.run [.o 18 (.aw bU 0), .o 19 (.aw dd 1), .o 20 (.load du false 1), .o 21 (.bin .eql dJ (.k (.int .i64 4)))]) (.cond dH (.run [.m 22 bF, .o 23 (.aw bU 0), .o 24 (.aw dY 4), .o 25 (.load eK false 1), .o 26 (.cR [(.str [])] 1 1 [(0,eQ)]), .o 27 (.app 1 16 dQ fu), .m 5 fb]) .skip))
abbrev QE9:AC:= .seq (.cond da .skip (.exit 0)) (.seq (.block 1 QE5) (.run [.o 28 (.bin .add cB (.k (.int .i64 1))), .m 14 fH]))
abbrev QED:AC:= .seq (.run [.m 8 bC, .m 9 bC, .m 10 a8, .c 11 ko [cQ,cj], .c 12 jP [cu,bZ], .o 13 (.len cf), .o 14 (.mv (.k (.int .i64 0)))]) (.block 0 (.loop (.seq (.run [.o 15 (.bin .lss cB cy)]) QE9)))
abbrev QEK:AC:= .seq (.run [.o 4 (.mv (.k (.slice .full 0 [])))]) (.seq (.run [.o 5 (.mv (.k (.slice .full 0 [])))]) (.seq QED (.seq (.run [.m 29 bF, .c 30 gF [fI]]) (.seq (.run [.m 31 bF, .c 32 gU [fz], .m 4 ga]) .ret))))
abbrev QER:AC:= .par [.m 17 cP, .m 18 cP, .o 19 (.gT dd), .o 20 (.aw du 3), .o 21 (.load dJ false 1), .m 22 cP, .o 23 (.gT dQ), .o 24 (.aw dY 2), .o 25 (.load eK false 1), .o 26 (.len eQ), .o 27 (.bin .add fu (.k (.int .i64 1))), .o 28 (.cR [(.int .i64 0)] 1 1 [(0,fb)]), .o 29 (.app 1 8 dH fH), .o 30 (.gT db), .o 31 (.aw gn 3), .op none none (.store fz fI 1)] [(1,0),(2,0),(3,0),(4,0),(5,0),(6,0),(7,0),(8,0),(9,0),(10,0),(11,0),(12,0),(0,0),(13,0),(14,0),(15,0)]
abbrev QET:AC:= .par [.m 38 cP, .m 39 cP, .o 40 (.gT iU), .o 41 (.aw lE 4), .o 42 (.load kF false 1), .m 43 cP, .o 44 (.gT lG), .o 45 (.aw lH 2), .o 46 (.load mT false 1), .o 47 (.len mU), .o 48 (.bin .add mV (.k (.int .i64 1))), .o 49 (.cR [(.int .i64 0)] 1 1 [(0,mW)]), .o 50 (.app 1 8 lF k6), .o 51 (.gT jt), .o 52 (.aw lI 4), .op none none (.store mY mX 1)] [(1,0),(2,0),(3,0),(4,0),(5,0),(6,0),(7,0),(8,0),(9,0),(10,0),(11,0),(12,0),(0,0),(13,0),(14,0),(15,0)]
abbrev QEU:AC:= .seq (.run [.m 32 cP, .o 33 (.aw bF 3), .o 34 (.load gb false 1), .m 35 dq,(.o 36 (.build [(.int .i64 0),(.int .i64 0),(.slice .full 0 []),(.str []),(.str []),(.int .i64 0),(.int .i64 0),(.str []),(.slice .full 0 []),(.bool false),(.slice .full 0 []),(.slice .full 0 []),(.slice .full 0 []),(.int .i64 0),(.int .i64 0),(.int .i64 0),(.int .i64 0)] [(13,(1,gH)),(15,(1,(.k (.int .i64 (-1)))))])), .c 37 ij [ga,gG,ik]]) QET
abbrev QEZ:AC:= .seq (.block 1 (.seq (.run [.m 14 cf, .o 15 (.bM cj cf 5), .o 16 (.load da true 5), .o 5 (.alloc [(.str []),(.slice .full 0 []),(.slice .full 0 []),(.slice .full 0 []),(.slice .full 0 [])]), .m 4 cB, .op none none (.store bF cz 5)]) (.seq QER QEU))) (.run [.o 53 (.bin .add cf (.k (.int .i64 1))), .m 12 mZ])
abbrev QF3:AC:= .block 0 (.loop (.seq (.run [.o 13 (.bin .lss cf bZ)]) (.seq (.cond cy .skip (.exit 0)) QEZ)))
abbrev QF7:AC:= .seq (.seq (.run [.o 9 (.aw a8 1), .o 10 (.load cQ false 1), .o 11 (.len cj), .o 12 (.mv (.k (.int .i64 0)))]) QF3) (.seq (.run [.m 54 cP, .m 2 na]) .ret)
abbrev QF9:AC:= .seq (.run [.o 1 (.box bC), .o 2 (.mv (.k .eJ))]) (.seq (.run [.o 6 (.load a8 true 2), .o 7 (.build [(.slice .full 0 []),(.slice .full 0 []),(.slice .full 0 []),(.slice .full 0 []),(.slice .full 0 [])] [(0,(2,cJ))]), .o 8 (.box bU), .m 3 cu]) QF7)
end Go.Abs

/-! Have0 -/

namespace Go.Abs
open Go.Proofs
theorem qA:Has Tryz.prog rX 39 [(4,none)] Q0H:=⟨Tryz.f3,by kernel_rfl,by kernel_rfl⟩
theorem wO:Has Tryz.prog oq 19 [(0,none)] Q0N:=⟨Tryz.f6,by kernel_rfl,by kernel_rfl⟩
theorem Bu:Has Tryz.prog sI 61 [(2,none)] Q1N:=⟨Tryz.f7,by kernel_rfl,by kernel_rfl⟩
theorem rY:Has Tryz.prog qi 19 [(4,none)] Q1X:=⟨Tryz.f8,by kernel_rfl,by kernel_rfl⟩
theorem xH:Has Tryz.prog kz 26 [(4,none)] Q2Q:=⟨Tryz.f9,by kernel_rfl,by kernel_rfl⟩
theorem rZ:Has Tryz.prog nG 13 [(4,none)] Q30:=⟨Tryz.f10,by kernel_rfl,by kernel_rfl⟩
theorem mH:Has Tryz.prog rh 24 [(4,none)] Q3C:=⟨Tryz.f11,by kernel_rfl,by kernel_rfl⟩
theorem uG:Has Tryz.prog pD 13 [(4,none)] Q3M:=⟨Tryz.f12,by kernel_rfl,by kernel_rfl⟩
theorem lV:Has Tryz.prog qj 24 [(4,none)] Q3Y:=⟨Tryz.f13,by kernel_rfl,by kernel_rfl⟩
theorem qB:Has Tryz.prog lS 60 [(4,none)] Q5M:=⟨Tryz.f14,by kernel_rfl,by kernel_rfl⟩
theorem k7:Has Tryz.prog pb 24 [(4,none)] Q5Y:=⟨Tryz.f15,by kernel_rfl,by kernel_rfl⟩
theorem sa:Has Tryz.prog qk 96 [(2,(some (true,2)))] Q83:=⟨Tryz.f16,by kernel_rfl,by kernel_rfl⟩
theorem Bv:Has Tryz.prog ly 6 [(2,none)] Q87:=⟨Tryz.f18,by kernel_rfl,by kernel_rfl⟩
theorem Bw:Has Tryz.prog pE 45 [(2,none)] Q94:=⟨Tryz.f19,by kernel_rfl,by kernel_rfl⟩
theorem Er:Has Tryz.prog kR 18 [(4,none)] Q9R:=⟨Tryz.f20,by kernel_rfl,by kernel_rfl⟩
theorem Da:Has Tryz.prog tQ 79 [(2,none)] QBB:=⟨Tryz.f25,by kernel_rfl,by kernel_rfl⟩
theorem Bx:Has Tryz.prog sJ 40 [(0,(some (true,2)))] QBJ:=⟨Tryz.f31,by kernel_rfl,by kernel_rfl⟩
theorem uV:Has Tryz.prog gK 23 [(4,none)] QC0:=⟨Tryz.f32,by kernel_rfl,by kernel_rfl⟩
theorem mr:Has Tryz.prog fa 19 [(4,none)] QCA:=⟨Tryz.f33,by kernel_rfl,by kernel_rfl⟩
theorem oV:Has Tryz.prog iP 69 [(4,none)] QD8:=⟨Tryz.f34,by kernel_rfl,by kernel_rfl⟩
theorem vM:Has Tryz.prog tR 16 [(4,none)] QDQ:=⟨Tryz.f35,by kernel_rfl,by kernel_rfl⟩
theorem sb:Has Tryz.prog ll 15 [(4,none)] QDU:=⟨Tryz.f36,by kernel_rfl,by kernel_rfl⟩
theorem yB:Has Tryz.prog nH 33 [(4,none)] QEK:=⟨Tryz.f37,by kernel_rfl,by kernel_rfl⟩
theorem Db:Has Tryz.prog kY 55 [(2,none)] QF9:=⟨Tryz.f38,by kernel_rfl,by kernel_rfl⟩
end Go.Abs

/-! Codes1 -/

namespace Go.Abs
abbrev QFJ:AC:= .cond dJ (.seq (.run [.o 21 (.load bU true 5), .op none none (.store dq dH 5), .o 5 (.mv (.k (.bool true)))]) .ret) .skip
abbrev QFO:AC:= .seq (.block 1 (.seq (.run [.o 15 (.bM bZ cy 5), .o 16 (.load da true 5), .o 7 (.alloc [(.str []),(.slice .full 0 []),(.slice .full 0 []),(.slice .full 0 []),(.slice .full 0 [])]), .op none none (.store bU cz 5)]) (.seq (.run [.o 17 (.aw bU 0), .o 18 (.load db false 1), .m 19 a8, .o 20 (.bin .eql dd du)]) QFJ))) (.run [.o 22 (.bin .add cy (.k (.int .i64 1))), .m 13 dQ])
abbrev QFS:AC:= .block 0 (.loop (.seq (.run [.o 14 (.bin .lss cy cf)]) (.seq (.cond cB .skip (.exit 0)) QFO)))
abbrev QFU:AC:= .cond cQ (.seq (.run [.o 10 (.aw cO 1), .o 11 (.load cj false 1), .o 12 (.len bZ), .o 13 (.mv (.k (.int .i64 0)))]) QFS) .skip
abbrev QFY:AC:= .seq (.seq (.run [.o 8 (.load cO true 2), .c 9 qM [cu]]) QFU) (.seq (.run [.o 23 (.build [(.str []),(.slice .full 0 []),(.slice .full 0 []),(.slice .full 0 []),(.slice .full 0 [])] []), .op none none (.store dq dY 5), .o 5 (.mv (.k (.bool false)))]) .ret)
abbrev QFZ:AC:= .seq (.run [.o 2 (.box bC), .o 4 (.alloc [(.str []),(.slice .full 0 []),(.slice .full 0 []),(.slice .full 0 []),(.slice .full 0 [])]), .o 5 (.mv (.k (.bool false)))]) QFY
abbrev QG5:AC:= .seq (.run [.o 14 (.load a8 true 2), .c 15 qM [cB], .o 16 (.un .not da)]) (.cond cz (.seq (.run [.c 17 jr [(.k (.int .i64 1)),(.k (.int .i64 0))], .op none none (.store cO db 2)]) .ret) .skip)
abbrev QGF:AC:= .seq (.block 1 (.seq (.run [.o 23 (.bM du dH 5), .o 24 (.load dY true 5), .o 5 (.alloc [(.str []),(.slice .full 0 []),(.slice .full 0 []),(.slice .full 0 []),(.slice .full 0 [])]), .op none none (.store bF eK 5)]) (.run [.m 25 cP, .o 26 (.aw bF 0), .o 27 (.load fu false 1), .o 28 (.cR [(.str [])] 1 1 [(0,fb)]), .o 29 (.app 1 16 eQ fH), .m 3 fI]))) (.run [.o 30 (.bin .add dH (.k (.int .i64 1))), .m 21 gn])
abbrev QGJ:AC:= .block 0 (.loop (.seq (.run [.o 22 (.bin .lss dH dJ)]) (.seq (.cond dQ .skip (.exit 0)) QGF)))
abbrev QGQ:AC:= .seq (.run [.o 36 (.aw a8 0), .o 37 (.load ik false 1), .c 38 kC [il], .m 39 jt, .g 40 39 false (.mv cP), .d 41 39 false kC [lE], .o 42 (.pick iU (.k (.bool true)) kF), .m 43 lF, .g 44 43 false (.mv bU), .g 45 43 false (.un .not lH), .o 46 (.pick lG (.k (.bool true)) mT), .m 47 mU, .g 48 47 false (.aw cJ 1), .g 49 47 false (.load mW false 1), .g 50 47 false (.len k6), .g 51 47 false (.bin .gtr mX (.k (.int .i64 0))), .o 52 (.pick mV (.k (.bool true)) lI)]) (.cond mY (.seq (.run [.c 53 jr [(.k (.int .i64 5)),(.k (.int .i64 0))], .op none none (.store cO mZ 2)]) .ret) .skip)
abbrev QGV:AC:= .par [.o 61 (.cR [(.str [])] 1 0 []), .o 62 (.aw a8 0), .o 63 (.load rn false 1), .o 64 (.app 1 16 rm qp), .o 65 (.load cQ true 5), .c 66 ql [tX], .o 67 (.app 1 16 qq vI), .o 68 (.aw cQ 2), .o 69 (.load tZ false 1), .o 70 (.app 1 16 tY vJ), .c 71 kC [vK]] [(0,0),(1,0),(2,0),(3,0),(4,1),(5,0),(6,0),(7,0),(8,3),(9,0),(10,0)]
abbrev QGZ:AC:= .seq QGV (.cond zC (.seq (.run [.c 72 jr [(.k (.int .i64 5)),(.k (.int .i64 0))], .op none none (.store cO xD 2)]) .ret) .skip)
abbrev QHC:AC:= .seq (.run [.o 88 (.load a8 true 2), .o 89 (.load cQ true 5), .m 90 cy, .c 91 sL [C5,C6,C7], .o 92 (.bin .eql C8 (.k (.int .i64 0)))]) (.cond C9 (.seq (.run [.o 93 (.aw bZ 0), .o 94 (.aw Hc 0), .o 95 (.load Hd false 1), .c 96 jr [(.k (.int .i64 5)),He], .op none none (.store cO LV 2)]) .ret) .skip)
abbrev QHH:AC:= .seq (.cond C2 .skip (.exit 6)) (.seq (.block 7 (.seq (.run [.o 86 (.bM zG xG 1), .o 87 (.load C3 false 1), .m 13 C4]) QHC)) (.run [.o 97 (.bin .add xG (.k (.int .i64 1))), .m 84 LW]))
abbrev QHL:AC:= .seq (.run [.o 80 (.aw bZ 0), .o 81 (.load xF true 13), .c 82 pE [C0], .o 83 (.len zG), .o 84 (.mv (.k (.int .i64 0)))]) (.block 6 (.loop (.seq (.run [.o 85 (.bin .lss xG C1)]) QHH)))
abbrev QHQ:AC:= .seq (.run [.o 98 (.aw bZ 0), .o 99 (.aw LX 1), .o 100 (.load LY false 1), .o 101 (.bin .eql Hf (.k (.int .i64 4))), .m 102 Hg, .g 103 102 true (.aw bZ 0), .g 104 102 true (.aw Hi 4), .g 105 102 true (.load Hj false 1), .g 106 102 true (.bin .eql Hk (.k (.str [109,97,105,110]))), .g 107 102 true (.mv Hl), .g 108 107 false (.mv cP), .g 109 107 false (.aw bZ 0), .g 110 107 false (.aw Ho 4), .g 111 107 false (.load NQ false 1), .d 112 107 false kR [Hn,NR], .g 113 107 false (.un .not NS), .g 114 102 true (.pick Hm (.k (.bool true)) NT), .o 115 (.pick Hh NU (.k (.bool false)))]) (.cond NV (.seq (.run [.o 116 (.aw bZ 0), .o 117 (.aw NW 0), .o 118 (.load NY false 1), .c 119 jr [(.k (.int .i64 5)),NZ], .op none none (.store cO N0 2)]) .ret) .skip)
abbrev QHV:AC:= .seq (.block 5 (.seq (.run [.o 78 (.bM xE ub 16), .o 79 (.load vL true 16), .o 11 (.alloc [(.int .i64 0),(.int .i64 0),(.slice .full 0 []),(.str []),(.str []),(.int .i64 0),(.int .i64 0),(.str []),(.slice .full 0 []),(.bool false),(.slice .full 0 []),(.slice .full 0 []),(.slice .full 0 []),(.int .i64 0),(.int .i64 0),(.bool false)]), .op none none (.store bZ CZ 16)]) (.seq QHL QHQ))) (.run [.o 120 (.bin .add ub (.k (.int .i64 1))), .m 76 N1])
abbrev QHZ:AC:= .block 4 (.loop (.seq (.run [.o 77 (.bin .lss ub zE)]) (.seq (.cond zF .skip (.exit 4)) QHV)))
abbrev QI1:AC:= .seq QGZ (.seq (.run [.o 73 (.load cQ true 5), .c 74 ly [zD], .o 75 (.len xE), .o 76 (.mv (.k (.int .i64 0)))]) QHZ)
abbrev QI5:AC:= .seq (.block 3 (.seq (.run [.o 59 (.bM nc nf 5), .o 60 (.load mq true 5), .o 9 (.alloc [(.str []),(.slice .full 0 []),(.slice .full 0 []),(.slice .full 0 []),(.slice .full 0 [])]), .op none none (.store cQ qo 5)]) QI1)) (.run [.o 121 (.bin .add nf (.k (.int .i64 1))), .m 57 N2])
abbrev QI9:AC:= .block 2 (.loop (.seq (.run [.o 58 (.bin .lss nf oC)]) (.seq (.cond oD .skip (.exit 2)) QI5)))
abbrev QID:AC:= .seq (.seq (.run [.o 54 (.aw a8 1), .o 55 (.load na false 1), .o 56 (.len nc), .o 57 (.mv (.k (.int .i64 0)))]) QI9) (.seq (.run [.o 122 (.build [(.int .i64 0),(.int .i64 0)] []), .op none none (.store cO N3 2)]) .ret)
abbrev QIG:AC:= .seq (.seq (.run [.o 18 (.aw a8 1), .o 19 (.load dd false 1), .o 20 (.len du), .o 21 (.mv (.k (.int .i64 0)))]) QGJ) (.seq (.run [.o 32 (.load a8 true 2),(.c 33 kB [ga,(.k (.str [109,97,105,110]))]), .m 31 gb, .o 34 (.ext fz 0), .o 35 (.ext fz 1), .o 6 (.alloc [(.str []),(.slice .full 0 []),(.slice .full 0 []),(.slice .full 0 []),(.slice .full 0 [])]), .op none none (.store cJ gG 5), .m 7 gH]) (.seq QGQ QID))
abbrev QII:AC:= .seq QG5 (.seq (.run [.o 3 (.mv (.k (.slice .full 0 [])))]) QIG)
abbrev QIJ:AC:= .seq (.run [.o 1 (.box bC), .o 2 (.alloc [(.int .i64 0),(.int .i64 0)])]) QII
abbrev QIV:AC:= .seq (.run [.o 21 (.bM db du 16), .o 22 (.load dH true 16), .o 9 (.alloc [(.int .i64 0),(.int .i64 0),(.slice .full 0 []),(.str []),(.str []),(.int .i64 0),(.int .i64 0),(.str []),(.slice .full 0 []),(.bool false),(.slice .full 0 []),(.slice .full 0 []),(.slice .full 0 []),(.int .i64 0),(.int .i64 0),(.bool false)]), .op none none (.store cQ dQ 16)]) (.seq (.run [.o 23 (.aw cQ 0), .o 24 (.aw dY 1), .o 25 (.load eK false 1), .o 26 (.bin .eql eQ (.k (.int .i64 4)))]) (.cond fu (.run [.m 27 bU, .o 28 (.aw cQ 0), .o 29 (.aw fH 4), .o 30 (.load fI false 1), .o 31 (.cR [(.str [])] 1 1 [(0,gn)]), .o 32 (.app 1 16 fb fz), .m 7 ga]) .skip))
abbrev QIZ:AC:= .seq (.cond dJ .skip (.exit 0)) (.seq (.block 1 QIV) (.run [.o 33 (.bin .add du (.k (.int .i64 1))), .m 19 gb]))
abbrev QJ3:AC:= .seq (.run [.o 16 (.load bF true 5), .c 17 ly [cz], .o 18 (.len db), .o 19 (.mv (.k (.int .i64 0)))]) (.block 0 (.loop (.seq (.run [.o 20 (.bin .lss du dd)]) QIZ)))
abbrev QJ8:AC:= .seq (.run [.o 11 (.load cO true 2), .m 12 a8, .c 13 kB [bZ,cf], .m 10 cy, .o 14 (.ext cj 0), .o 15 (.ext cj 1), .o 5 (.alloc [(.str []),(.slice .full 0 []),(.slice .full 0 []),(.slice .full 0 []),(.slice .full 0 [])]), .op none none (.store bF cB 5), .m 6 da]) (.seq (.run [.o 7 (.mv (.k (.slice .full 0 [])))]) (.seq QJ3 (.seq (.run [.m 34 bU, .c 35 lp [gG], .m 4 gH]) .ret)))
abbrev QJ9:AC:= .seq (.run [.o 2 (.box bC), .o 4 (.mv (.k (.slice .full 0 [])))]) QJ8
abbrev QJO:AC:= .seq (.run [.o 26 (.bM dQ eK 1), .o 27 (.load fu false 1), .m 8 fb]) (.seq (.run [.m 28 bF, .m 29 cu, .c 30 cA [fH,fI], .o 31 (.un .not gn)]) (.cond fz (.run [.m 32 bF, .m 33 cu, .o 34 (.cR [(.str [])] 1 1 [(0,gb)]), .o 35 (.app 1 16 ga gG), .m 5 gH]) .skip))
abbrev QJS:AC:= .seq (.cond eQ .skip (.exit 2)) (.seq (.block 3 QJO) (.run [.o 36 (.bin .add eK (.k (.int .i64 1))), .m 24 ik]))
abbrev QJW:AC:= .seq (.run [.m 17 bC, .m 18 bF, .m 19 cJ, .o 20 (.bM dd du 1), .o 21 (.load dJ false 1), .c 22 nH [db,dH], .o 23 (.len dQ), .o 24 (.mv (.k (.int .i64 0)))]) (.block 2 (.loop (.seq (.run [.o 25 (.bin .lss eK dY)]) QJS)))
abbrev QK0:AC:= .seq (.seq (.run [.m 11 cJ, .m 12 bF, .o 13 (.len cf), .o 14 (.bin .lss bZ cy)]) (.cond cB .skip (.exit 0))) (.seq (.block 1 QJW) (.run [.m 15 cJ, .o 16 (.bin .add da (.k (.int .i64 1))), .m 6 cz]))
abbrev V2:AC:= .seq (.run [.m 39 bF, .m 4 iU]) .ret
abbrev QK8:AC:= .seq (.seq (.run [.o 6 (.mv (.k (.int .i64 0)))]) (.block 0 (.loop QK0))) (.seq (.run [.m 37 bF, .c 38 gF [il]]) V2)
abbrev QKA:AC:= .seq (.run [.o 4 (.mv (.k (.slice .full 0 [])))]) (.seq (.run [.m 9 a8, .o 10 (.cR [(.str [])] 1 1 [(0,cQ)]), .m 5 cj]) QK8)
abbrev QKH:AC:= .par [.o 17 (.load cO true 2), .m 18 bF, .m 19 cJ, .o 20 (.bM dd du 1), .o 21 (.load dJ false 1), .c 22 ou [db,dH], .o 23 (.len dQ), .o 24 (.mv (.k (.int .i64 0)))] [(0,0),(1,0),(2,0),(3,0),(4,0),(5,0),(6,0),(7,0)]
abbrev QKP:AC:= .seq (.run [.o 26 (.bM dQ eK 1), .o 27 (.load fu false 1), .m 8 fb]) (.seq (.run [.m 28 bF, .m 29 cu, .c 30 kR [fH,fI], .o 31 (.un .not gn)]) (.cond fz (.run [.m 32 bF, .m 33 cu, .o 34 (.cR [(.str [])] 1 1 [(0,gb)]), .o 35 (.app 1 16 ga gG), .m 5 gH]) .skip))
abbrev QKT:AC:= .seq (.cond eQ .skip (.exit 2)) (.seq (.block 3 QKP) (.run [.o 36 (.bin .add eK (.k (.int .i64 1))), .m 24 ik]))
abbrev QKX:AC:= .seq QKH (.block 2 (.loop (.seq (.run [.o 25 (.bin .lss eK dY)]) QKT)))
abbrev QL1:AC:= .seq (.seq (.run [.m 11 cJ, .m 12 bF, .o 13 (.len cf), .o 14 (.bin .lss bZ cy)]) (.cond cB .skip (.exit 0))) (.seq (.block 1 QKX) (.run [.m 15 cJ, .o 16 (.bin .add da (.k (.int .i64 1))), .m 6 cz]))
abbrev QL7:AC:= .seq (.seq (.run [.o 6 (.mv (.k (.int .i64 0)))]) (.block 0 (.loop QL1))) (.seq (.run [.m 37 bF, .c 38 lp [il], .m 4 jt]) .ret)
abbrev QL9:AC:= .seq (.run [.o 2 (.box bC), .o 4 (.mv (.k (.slice .full 0 [])))]) (.seq (.run [.m 9 a8, .o 10 (.cR [(.str [])] 1 1 [(0,cQ)]), .m 5 cj]) QL7)
abbrev QLB:AC:= .par [.m 5 bC, .o 6 (.gT bF), .o 7 (.aw cJ 2), .o 8 (.load bU false 1), .m 9 bC, .o 10 (.gT cQ), .o 11 (.aw cj 3), .o 12 (.load bZ false 1), .m 13 a8, .o 14 (.bM cf cy 1), .o 15 (.load cB false 1), .o 16 (.bin .sub da (.k (.int .i64 1))), .m 17 bC, .o 18 (.gT db), .o 19 (.aw dd 4), .o 20 (.load du false 1), .m 21 a8, .o 22 (.bM dJ dH 1), .o 23 (.load dQ false 1), .o 24 (.bin .sub dY (.k (.int .i64 1))), .o 25 (.B2 17 cu (some cz) (some eK)), .m 4 eQ] [(0,0),(1,0),(2,0),(3,0),(4,0),(5,0),(6,0),(7,0),(8,0),(9,0),(10,0),(11,0),(12,0),(13,0),(14,0),(15,0),(16,0),(17,0),(18,0),(19,0),(20,0),(21,0)]
abbrev QLD:AC:= .seq (.run [.o 4 (.mv (.k (.slice .full 0 [])))]) (.seq QLB .ret)
abbrev QLH:AC:= .seq (.run [.o 3 (.box a8), .o 4 (.mv (.k (.int .i64 0)))]) (.seq (.run [.m 5 bC, .o 6 (.gT bF), .o 7 (.aw cJ 0), .o 8 (.aw bU 1), .o 9 (.load cu false 1), .o 10 (.qD 86 [cP]), .c 11 e7 [cQ,cj], .m 4 bZ]) .ret)
abbrev QLY:AC:= .seq (.seq (.run [.o 31 (.aw bF 0), .o 32 (.load fz false 1)]) (.cond ga (.run [.m 33 cP, .o 34 (.aw bF 1), .o 35 (.load gG false 1), .o 36 (.cR [(.str [])] 1 1 [(0,gH)]), .o 37 (.app 1 16 gb ik), .m 3 il]) .skip)) (.run [.m 38 cP, .o 39 (.aw bF 2), .o 40 (.load iU true 4), .c 41 oy [lE], .o 42 (.app 1 16 jt kF), .m 3 lF])
abbrev QM2:AC:= .seq (.block 1 (.seq (.run [.o 29 (.bM eQ fb 6), .o 30 (.load fI true 6), .o 5 (.alloc [(.bool false),(.str []),(.int .i64 0),(.int .i64 0),(.str []),(.slice .full 0 [])]), .op none none (.store bF gn 6)]) QLY)) (.run [.o 43 (.bin .add fb (.k (.int .i64 1))), .m 27 lG])
abbrev QM6:AC:= .block 0 (.loop (.seq (.run [.o 28 (.bin .lss fb fu)]) (.seq (.cond fH .skip (.exit 0)) QM2)))
abbrev QMA:AC:= .seq (.seq (.run [.o 24 (.aw a8 10), .o 25 (.load eK false 1), .o 26 (.len eQ), .o 27 (.mv (.k (.int .i64 0)))]) QM6) (.seq (.run [.m 44 cP, .m 2 lH]) .ret)
abbrev QMC:AC:= .seq (.seq (.run [.o 6 (.aw a8 1), .o 7 (.load cJ false 1), .o 8 (.bin .neq bU (.k (.int .i64 10))), .m 9 cu, .g 10 9 true (.aw a8 3), .g 11 9 true (.load cj false 1), .g 12 9 true (.bin .neq bZ (.k (.str []))), .o 13 (.pick cQ cf (.k (.bool false)))]) (.cond cy (.run [.m 14 cP, .o 15 (.aw a8 3), .o 16 (.load da false 1), .o 17 (.cR [(.str [])] 1 1 [(0,cz)]), .o 18 (.app 1 16 cB db), .m 3 dd]) .skip)) (.seq (.run [.m 19 cP, .o 20 (.aw a8 5), .o 21 (.load dJ true 4), .c 22 oy [dH], .o 23 (.app 1 16 du dQ), .m 3 dY]) QMA)
abbrev QME:AC:= .seq (.run [.o 1 (.box bC), .o 2 (.mv (.k (.slice .full 0 [])))]) (.seq (.run [.o 3 (.mv (.k (.slice .full 0 [])))]) QMC)
abbrev QMI:AC:= .seq (.run [.o 4 (.mv (.k (.bool false)))]) (.seq (.run [.m 5 bC, .m 6 a8, .c 7 gx [bF,cJ], .o 8 (.bin .geq bU (.k (.int .i64 0))), .m 4 cu]) .ret)
abbrev QN2:AC:= .seq (.run [.o 41 (.bM il iU 1), .o 42 (.load kF false 1), .m 13 lF]) (.seq (.run [.o 43 (.aw cO 0), .o 44 (.load lG false 1), .m 45 cy, .c 46 kR [lH,mT]]) (.cond mU (.run [.m 47 bF, .m 48 cy, .o 49 (.cR [(.str [])] 1 1 [(0,mW)]), .o 50 (.app 1 16 mV k6), .m 5 mX]) .skip))
abbrev QN6:AC:= .seq (.cond lE .skip (.exit 4)) (.seq (.block 5 QN2) (.run [.o 51 (.bin .add iU (.k (.int .i64 1))), .m 39 lI]))
abbrev QNA:AC:= .seq (.run [.o 35 (.aw bZ 0), .o 36 (.load gH true 13), .c 37 pE [ik], .o 38 (.len il), .o 39 (.mv (.k (.int .i64 0)))]) (.block 4 (.loop (.seq (.run [.o 40 (.bin .lss iU jt)]) QN6)))
abbrev QNE:AC:= .seq (.block 3 (.seq (.run [.o 33 (.bM fI fz 16), .o 34 (.load gb true 16), .o 11 (.alloc [(.int .i64 0),(.int .i64 0),(.slice .full 0 []),(.str []),(.str []),(.int .i64 0),(.int .i64 0),(.str []),(.slice .full 0 []),(.bool false),(.slice .full 0 []),(.slice .full 0 []),(.slice .full 0 []),(.int .i64 0),(.int .i64 0),(.bool false)]), .op none none (.store bZ gG 16)]) QNA)) (.run [.o 52 (.bin .add fz (.k (.int .i64 1))), .m 31 mY])
abbrev QNI:AC:= .block 2 (.loop (.seq (.run [.o 32 (.bin .lss fz gn)]) (.seq (.cond ga .skip (.exit 2)) QNE)))
abbrev QNK:AC:= .seq (.run [.o 23 (.load cO true 2), .m 24 bU, .c 25 kB [dY,eK], .m 22 eQ, .o 26 (.ext dQ 0), .o 27 (.ext dQ 1), .o 8 (.alloc [(.str []),(.slice .full 0 []),(.slice .full 0 []),(.slice .full 0 []),(.slice .full 0 [])]), .op none none (.store cu fu 5), .m 9 fb]) (.seq (.run [.o 28 (.load cu true 5), .c 29 ly [fH], .o 30 (.len fI), .o 31 (.mv (.k (.int .i64 0)))]) QNI)
abbrev QNP:AC:= .seq (.cond du .skip (.exit 0)) (.seq (.block 1 (.seq (.run [.o 20 (.bM cz dd 1), .o 21 (.load dJ false 1), .m 7 dH]) QNK)) (.run [.o 53 (.bin .add dd (.k (.int .i64 1))), .m 18 mZ]))
abbrev QNT:AC:= .seq (.run [.o 14 (.load cO true 2), .m 15 a8, .c 16 nI [cB,da], .o 17 (.len cz), .o 18 (.mv (.k (.int .i64 0)))]) (.block 0 (.loop (.seq (.run [.o 19 (.bin .lss dd db)]) QNP)))
abbrev QNY:AC:= .seq (.run [.o 2 (.box bC), .o 4 (.mv (.k (.slice .full 0 [])))]) (.seq (.run [.o 5 (.mv (.k (.slice .full 0 [])))]) (.seq QNT (.seq (.run [.m 54 bF, .c 55 lp [na], .m 4 nc]) .ret)))
abbrev QOA:AC:= .block 1 (.seq (.run [.m 10 cu, .m 5 cj]) (.seq (.run [.m 11 a8, .m 12 bC, .m 13 bF, .o 14 (.bM cf cy 1), .o 15 (.load cB false 1), .o 16 (.bin .eql bZ da)]) (.cond cz (.seq (.run [.m 17 bF, .m 4 db]) .ret) .skip)))
abbrev QOD:AC:= .seq (.cond cQ .skip (.exit 0)) (.seq QOA (.run [.o 18 (.bin .add cu (.k (.int .i64 1))), .m 8 dd]))
abbrev QOH:AC:= .seq (.run [.m 6 bC, .o 7 (.len cJ), .o 8 (.mv (.k (.int .i64 0)))]) (.block 0 (.loop (.seq (.run [.o 9 (.bin .lss cu bU)]) QOD)))
abbrev QOJ:AC:= .seq (.run [(.o 4 (.mv (.k (.int .i64 (-1)))))]) .ret
abbrev QOL:AC:= .seq (.run [.o 4 (.mv (.k (.int .i64 0)))]) (.seq QOH QOJ)
abbrev QOU:AC:= .cond cz (.seq (.run [.o 2 (.mv (.k (.bool true)))]) .ret) .skip
abbrev QOX:AC:= .block 1 (.seq (.run [.m 9 bU, .o 10 (.bM bF bU 1), .o 11 (.load cj false 1), .m 3 cQ, .m 4 bZ]) (.seq (.run [.m 12 bC, .m 13 cP, .o 14 (.B2 1 cf none (some cy)), .m 15 dq, .c 16 cA [cB,da]]) QOU))
abbrev QP0:AC:= .seq (.cond cu .skip (.exit 0)) (.seq QOX (.run [.o 17 (.bin .add bU (.k (.int .i64 1))), .m 7 db]))
abbrev QP4:AC:= .seq (.run [.m 5 bC, .o 6 (.len bF), .o 7 (.mv (.k (.int .i64 0)))]) (.block 0 (.loop (.seq (.run [.o 8 (.bin .lss bU cJ)]) QP0)))
abbrev QP7:AC:= .seq QP4 (.seq (.run [.o 2 (.mv (.k (.bool false)))]) .ret)
abbrev QP8:AC:= .seq (.run [.o 2 (.mv (.k (.bool false)))]) QP7
abbrev QPJ:AC:= .seq (.block 1 (.seq (.run [.o 11 (.bM bU cQ 2), .o 12 (.load bZ true 2), .o 5 (.alloc [(.str []),(.bool false)]), .op none none (.store bF cf 2)]) (.run [.m 13 cP, .o 14 (.aw bF 0), .o 15 (.load cB false 1), .o 16 (.cR [(.str [])] 1 1 [(0,da)]), .o 17 (.app 1 16 cy cz), .m 3 db]))) (.run [.o 18 (.bin .add cQ (.k (.int .i64 1))), .m 9 dd])
abbrev QPN:AC:= .block 0 (.loop (.seq (.run [.o 10 (.bin .lss cQ cu)]) (.seq (.cond cj .skip (.exit 0)) QPJ)))
abbrev QPR:AC:= .seq (.seq (.run [.o 6 (.aw a8 1), .o 7 (.load cJ false 1), .o 8 (.len bU), .o 9 (.mv (.k (.int .i64 0)))]) QPN) (.seq (.run [.m 19 cP, .o 20 (.aw a8 2), .o 21 (.load dJ false 1), .o 22 (.app 1 16 du dH), .m 2 dQ]) .ret)
abbrev QPT:AC:= .seq (.run [.o 1 (.box bC), .o 2 (.mv (.k (.slice .full 0 [])))]) (.seq (.run [.o 3 (.mv (.k (.slice .full 0 [])))]) QPR)
abbrev QPX:AC:= .seq (.run [.o 4 (.mv (.k (.bool false)))]) (.seq (.run [.m 5 bC, .m 6 a8, .c 7 iT [bF,cJ], .o 8 (.bin .geq bU (.k (.int .i64 0))), .m 4 cu]) .ret)
abbrev QQ1:AC:= .seq (.run [.o 3 (.mv (.k (.bool false)))]) (.seq (.run [.o 4 (.aw a8 0), .o 5 (.load dq false 1), .m 6 bC, .c 7 cA [bF,cJ], .m 3 bU]) .ret)
abbrev QQA:AC:= .cond dQ (.seq (.run [.o 8 (.mv (.k (.bool false)))]) .ret) .skip
abbrev QQC:AC:= .seq (.run [.o 16 (.bM cf cB 1), .o 17 (.load cz false 1), .m 10 db]) (.seq (.run [.o 18 (.load dq true 2), .o 19 (.load bF true 5), .m 20 cj, .c 21 ri [dd,du,dJ], .o 22 (.bin .eql dH (.k (.int .i64 0)))]) QQA)
abbrev QQG:AC:= .seq (.cond da .skip (.exit 0)) (.seq (.block 1 QQC) (.run [.o 23 (.bin .add cB (.k (.int .i64 1))), .m 14 dY]))
abbrev QQK:AC:= .seq (.run [.o 11 (.load bU true 13), .c 12 ov [bZ], .o 13 (.len cf), .o 14 (.mv (.k (.int .i64 0)))]) (.block 0 (.loop (.seq (.run [.o 15 (.bin .lss cB cy)]) QQG)))
abbrev QQN:AC:= .seq QQK (.seq (.run [.o 24 (.aw bU 1), .o 25 (.load eK false 1), .o 26 (.bin .neq eQ (.k (.int .i64 4))), .m 27 fu, .g 28 27 false (.aw bU 4), .g 29 27 false (.load fH false 1), .g 30 27 false (.bin .neq fI (.k (.str [109,97,105,110]))), .g 31 27 false (.mv gn), .g 32 31 true (.mv cO), .g 33 31 true (.aw bU 4), .g 34 31 true (.load gb false 1), .d 35 31 true cA [ga,gG], .g 36 27 false (.pick fz gH (.k (.bool false))), .o 37 (.pick fb (.k (.bool true)) ik), .m 8 il]) .ret)
abbrev QQO:AC:= .seq (.run [.o 4 (.box bC), .o 5 (.box a8), .o 7 (.box cP), .o 8 (.mv (.k (.bool false)))]) QQN
abbrev QQU:AC:= .run [.m 23 dq, .m 24 bC, .m 25 bZ, .o 26 (.bM eK eQ 13), .o 27 (.load fu true 13), .m 28 a8, .m 29 cO, .m 30 cP, .o 31 (.build [(.int .i64 0),(.int .i64 0),(.slice .full 0 []),(.str []),(.str []),(.int .i64 0),(.int .i64 0),(.str []),(.slice .full 0 []),(.bool false),(.slice .full 0 []),(.slice .full 0 []),(.slice .full 0 []),(.int .i64 0),(.int .i64 0),(.bool false)] [(0,(13,fb)),(13,(1,fH)),(14,(1,fI)),(15,(1,gn))]), .o 32 (.cR [(.int .i64 0),(.int .i64 0),(.slice .full 0 []),(.str []),(.str []),(.int .i64 0),(.int .i64 0),(.str []),(.slice .full 0 []),(.bool false),(.slice .full 0 []),(.slice .full 0 []),(.slice .full 0 []),(.int .i64 0),(.int .i64 0),(.bool false)] 16 1 [(0,fz)]), .o 33 (.app 16 232 dY ga), .m 4 gb]
abbrev QQW:AC:= .par [.m 36 bC, .m 37 bZ, .o 38 (.bM ik il 13), .o 39 (.aw jt 11), .o 40 (.load iU false 1), .m 41 a8, .o 42 (.bin .add kF (.k (.int .i64 1))), .m 43 bC, .m 44 bZ, .o 45 (.bM lG lH 13), .o 46 (.aw mT 0), .o 47 (.load mU false 1), .m 48 dq, .c 49 j7 [lE,lF,mV,(.k (.bool false)),mW], .m 4 k6] [(0,0),(1,0),(2,0),(3,0),(4,0),(5,0),(6,0),(7,0),(8,0),(9,0),(10,0),(11,0),(12,0),(13,0),(14,0)]
abbrev QQX:AC:= .par [.m 50 bC, .m 51 bZ, .o 52 (.bM mX lI 13), .o 53 (.aw mY 12), .o 54 (.load mZ false 1), .m 55 a8, .o 56 (.bin .add nc (.k (.int .i64 1))), .m 57 bC, .m 58 bZ, .o 59 (.bM nf oD 13), .o 60 (.aw mq 0), .o 61 (.load qo false 1), .m 62 dq, .c 63 j7 [na,oC,rm,(.k (.bool true)),rn], .m 4 qp] [(0,0),(1,0),(2,0),(3,0),(4,0),(5,0),(6,0),(7,0),(8,0),(9,0),(10,0),(11,0),(12,0),(13,0),(14,0)]
abbrev QR1:AC:= .seq QQU (.seq (.run [.m 34 a8, .o 35 (.bin .leq gG (.k (.int .i64 12)))]) (.cond gH (.seq QQW QQX) .skip))
abbrev QR5:AC:= .seq (.seq (.run [.m 12 bZ, .m 13 bC, .o 14 (.len cy), .o 15 (.bin .lss cf cB), .m 16 da, .g 17 16 true (.mv dq), .g 18 16 true (.len db), .g 19 16 true (.bin .leq dd (.k (.int .i64 200))), .o 20 (.pick cz du (.k (.bool false)))]) (.cond dJ .skip (.exit 0))) (.seq (.block 1 QR1) (.run [.m 21 bZ, .o 22 (.bin .add dH (.k (.int .i64 1))), .m 11 dQ]))
abbrev QRB:AC:= .seq (.seq (.run [.o 11 (.mv (.k (.int .i64 0)))]) (.block 0 (.loop QR5))) (.seq (.run [.m 64 dq, .m 10 qq]) .ret)
abbrev QRC:AC:= .seq (.run [.o 10 (.mv (.k (.slice .full 0 [])))]) QRB
abbrev QRH:AC:= .cond bF (.seq (.run [.o 2 (.mv (.k (.slice .full 0 [])))]) .ret) .skip
abbrev QRL:AC:= .seq (.seq (.run [.o 3 (.load a8 true 4), .c 4 kD [cP], .o 5 (.un .not dq)]) QRH) (.seq (.run [.o 6 (.load a8 true 4),(.c 7 ix [cJ,(.k (.slice .full 0 []))]), .m 2 bU]) .ret)
abbrev QRM:AC:= .seq (.run [.o 1 (.box bC), .o 2 (.mv (.k (.slice .full 0 [])))]) QRL
abbrev QRQ:AC:= .seq (.run [.o 4 (.alloc [(.int .i64 0),(.int .i64 0)])]) (.seq (.run [.m 5 bC, .m 6 a8, .o 7 (.build [(.int .i64 0),(.int .i64 0)] [(0,(1,bF)),(1,(1,cJ))]), .op none none (.store dq bU 2)]) .ret)
abbrev QRZ:AC:= .cond cy (.seq (.run [.o 2 (.mv (.k (.bool false)))]) .ret) .skip
abbrev QS4:AC:= .seq (.block 1 (.seq (.run [.o 9 (.bM bF bU 1), .o 10 (.load cQ false 1), .m 4 cj]) (.seq (.run [.m 11 dq, .c 12 kZ [bZ], .o 13 (.un .not cf)]) QRZ))) (.run [.o 14 (.bin .add bU (.k (.int .i64 1))), .m 7 cB])
abbrev QS8:AC:= .block 0 (.loop (.seq (.run [.o 8 (.bin .lss bU cJ)]) (.seq (.cond cu .skip (.exit 0)) QS4)))
abbrev QSC:AC:= .seq (.seq (.run [.m 5 bC, .o 6 (.len bF), .o 7 (.mv (.k (.int .i64 0)))]) QS8) (.seq (.run [.o 2 (.mv (.k (.bool true)))]) .ret)
abbrev QSD:AC:= .seq (.run [.o 2 (.mv (.k (.bool false)))]) QSC
abbrev QSI:AC:= .cond cz (.seq (.run [.o 2 (.mv (.k (.bool false)))]) .ret) .skip
abbrev QSM:AC:= .seq (.seq (.run [.m 3 bC, .o 4 (.oX cP), .o 5 (.bin .lss dq (.k (.int .i64 1))), .m 6 bF, .g 7 6 false (.mv bC), .g 8 6 false (.oX bU), .g 9 6 false (.bin .gtr cu (.k (.int .i64 8))), .o 10 (.pick cJ (.k (.bool true)) cQ), .m 11 cj, .g 12 11 false (.mv bC), .g 13 11 false (.qU cf (.k (.int .i64 0))), .d 14 11 false oz [cy], .g 15 11 false (.un .not cB), .o 16 (.pick bZ (.k (.bool true)) da)]) QSI) (.seq (.run [.m 17 bC, .c 18 vF [db,(.k (.int .i64 0))], .m 19 bC, .o 20 (.oX du), .o 21 (.bin .eql dd dJ), .m 22 dH, .g 23 22 true (.mv bC), .d 24 22 true tU [dY], .g 25 22 true (.un .not eK), .o 26 (.pick dQ eQ (.k (.bool false))), .m 2 fu]) .ret)
abbrev QSN:AC:= .seq (.run [.o 2 (.mv (.k (.bool false)))]) QSM
abbrev QSS:AC:= .cond da (.seq (.run [.o 6 (.mv (.k (.bool false)))]) .ret) .skip
abbrev QSZ:AC:= .par [.m 29 bC, .o 30 (.gT fI), .o 31 (.aw gn 0), .o 32 (.load fz false 1), .o 33 (.bin .gtr ga (.k (.int .i64 200))), .m 34 gb, .g 35 34 false (.aw cu 0), .g 36 34 false (.load gH false 1), .g 37 34 false (.mv bC), .g 38 34 false (.gT il), .g 39 34 false (.aw jt 0), .g 40 34 false (.load iU false 1), .g 41 34 false (.bin .neq ik lE), .o 42 (.pick gG (.k (.bool true)) kF), .m 43 lF, .g 44 43 false (.aw cu 2), .g 45 43 false (.load lH false 1), .d 46 43 false kA [mT], .g 47 43 false (.un .not mU), .o 48 (.pick lG (.k (.bool true)) mV), .m 49 mW, .g 50 49 false (.load cu true 13), .d 51 49 false qm [mX], .g 52 49 false (.un .not lI), .o 53 (.pick k6 (.k (.bool true)) mY)] [(0,0),(1,0),(2,0),(3,0),(4,0),(5,0),(6,0),(7,0),(8,0),(9,0),(10,0),(11,0),(12,0),(13,0),(14,0),(15,0),(16,0),(17,0),(18,0),(19,0),(20,0),(21,0),(22,0),(23,0),(24,0)]
abbrev QT2:AC:= .cond mZ (.seq (.run [.o 6 (.mv (.k (.bool false)))]) .ret) .skip
abbrev QT7:AC:= .cond vJ (.seq (.run [.o 6 (.mv (.k (.bool false)))]) .ret) .skip
abbrev QT9:AC:= .seq (.seq QSZ QT2) (.seq (.run [.m 54 bC, .o 55 (.aw cu 11), .o 56 (.load nc false 1), .m 57 cO, .o 58 (.bin .add nf (.k (.int .i64 1))), .c 59 iB [na,oC,oD], .o 60 (.un .not mq), .m 61 qo, .g 62 61 false (.mv bC), .g 63 61 false (.aw cu 12), .g 64 61 false (.load qp false 1), .g 65 61 false (.mv cO), .g 66 61 false (.bin .add tX (.k (.int .i64 1))), .d 67 61 false iB [rn,qq,vI], .g 68 61 false (.un .not tY), .o 69 (.pick rm (.k (.bool true)) tZ)]) QT7)
abbrev QTB:AC:= .seq (.run [.o 20 (.bM cz dd 13), .o 21 (.load dJ true 13), .o 8 (.alloc [(.int .i64 0),(.int .i64 0),(.slice .full 0 []),(.str []),(.str []),(.int .i64 0),(.int .i64 0),(.str []),(.slice .full 0 []),(.bool false),(.slice .full 0 []),(.slice .full 0 []),(.slice .full 0 [])]), .op none none (.store cu dH 13)]) (.seq (.run [.m 22 bC, .o 23 (.gT dQ), .o 24 (.aw dY 0), .o 25 (.load eK false 1), .o 26 (.bin .add eQ (.k (.int .i64 1))), .o 27 (.gT dQ), .o 28 (.aw fb 0), .op none none (.store fH fu 1)]) QT9)
abbrev QTF:AC:= .seq (.cond du .skip (.exit 0)) (.seq (.block 1 QTB) (.run [.o 70 (.bin .add dd (.k (.int .i64 1))), .m 18 vK]))
abbrev QTJ:AC:= .seq (.run [.m 16 a8, .o 17 (.len cz), .o 18 (.mv (.k (.int .i64 0)))]) (.block 0 (.loop (.seq (.run [.o 19 (.bin .lss dd db)]) QTF)))
abbrev QTM:AC:= .seq QTJ (.seq (.run [.o 6 (.mv (.k (.bool true)))]) .ret)
abbrev QTN:AC:= .seq (.seq (.run [.m 9 cO, .o 10 (.bin .gtr cQ (.k (.int .i64 12))), .m 11 cj, .g 12 11 true (.mv a8), .g 13 11 true (.len cf), .g 14 11 true (.bin .gtr cy (.k (.int .i64 0))), .o 15 (.pick bZ cB (.k (.bool false)))]) QSS) QTM
abbrev QTO:AC:= .seq (.run [.o 6 (.mv (.k (.bool false)))]) QTN
abbrev QU1:AC:= .seq (.run [.m 13 cP, .o 14 (.load bF true 5), .c 15 ly [cB], .o 16 (.app 16 232 cy da), .m 3 cz]) (.seq (.run [.m 17 cP, .o 18 (.len db), .o 19 (.bin .gtr dd (.k (.int .i64 200)))]) (.cond du (.seq (.run [.m 20 cP, .m 2 dJ]) .ret) .skip))
abbrev QU5:AC:= .seq (.block 1 (.seq (.run [.o 11 (.bM bU cQ 5), .o 12 (.load bZ true 5), .o 5 (.alloc [(.str []),(.slice .full 0 []),(.slice .full 0 []),(.slice .full 0 []),(.slice .full 0 [])]), .op none none (.store bF cf 5)]) QU1)) (.run [.o 21 (.bin .add cQ (.k (.int .i64 1))), .m 9 dH])
abbrev QU9:AC:= .block 0 (.loop (.seq (.run [.o 10 (.bin .lss cQ cu)]) (.seq (.cond cj .skip (.exit 0)) QU5)))
abbrev QUD:AC:= .seq (.seq (.run [.o 6 (.aw a8 1), .o 7 (.load cJ false 1), .o 8 (.len bU), .o 9 (.mv (.k (.int .i64 0)))]) QU9) (.seq (.run [.m 22 cP, .m 2 dQ]) .ret)
abbrev QUF:AC:= .seq (.run [.o 1 (.box bC), .o 2 (.mv (.k (.slice .full 0 [])))]) (.seq (.run [.o 3 (.mv (.k (.slice .full 0 [])))]) QUD)
abbrev QUI:AC:= .seq (.run [.m 3 bC,(.o 4 (.build [(.int .i64 0),(.int .i64 0),(.str []),(.slice .full 0 [])] [(0,(1,(.k (.int .i64 1)))),(1,(1,cP))])), .op none none (.store cO dq 4)]) .ret
abbrev QUJ:AC:= .seq (.run [.o 2 (.alloc [(.int .i64 0),(.int .i64 0),(.str []),(.slice .full 0 [])])]) QUI
abbrev QUM:AC:= .seq (.run [.m 3 bC,(.o 4 (.build [(.int .i64 0),(.int .i64 0),(.str []),(.slice .full 0 [])] [(0,(1,(.k (.int .i64 2)))),(2,(1,cP))])), .op none none (.store cO dq 4)]) .ret
abbrev QUN:AC:= .seq (.run [.o 2 (.alloc [(.int .i64 0),(.int .i64 0),(.str []),(.slice .full 0 [])])]) QUM
abbrev QUR:AC:= .seq (.run [.o 4 (.box a8), .o 5 (.box cO), .o 6 (.alloc [(.int .i64 0),(.int .i64 0),(.str []),(.slice .full 0 [])])]) (.seq (.run [.m 7 bC, .o 8 (.load dq true 4), .o 9 (.load bF true 4), .o 10 (.cR [(.int .i64 0),(.int .i64 0),(.str []),(.slice .full 0 [])] 4 2 [(0,cu),(1,cQ)]), .o 11 (.build [(.int .i64 0),(.int .i64 0),(.str []),(.slice .full 0 [])] [(0,(1,bU)),(3,(1,cj))]), .op none none (.store cJ bZ 4)]) .ret)
abbrev QV2:AC:= .seq (.seq (.run [.m 10 bF, .o 11 (.aw cO 3), .o 12 (.load bZ false 1), .o 13 (.len cf), .o 14 (.bin .lss cj cy), .m 15 cB, .g 16 15 true (.mv a8), .g 17 15 true (.bin .leq cz (.k (.int .i64 20000))), .o 18 (.pick da db (.k (.bool false)))]) (.cond dd .skip (.exit 0))) (.seq (.block 1 (.run [.o 21 (.aw cO 3), .o 22 (.load dH false 1), .m 23 bF, .o 24 (.bM dQ dY 4), .o 25 (.load eK true 4), .m 26 a8, .c 27 ig [eQ,fu], .m 1 fb])) (.run [.m 19 bF, .o 20 (.bin .add du (.k (.int .i64 1))), .m 5 dJ]))
abbrev QV8:AC:= .seq (.seq (.run [.o 5 (.mv (.k (.int .i64 0)))]) (.block 0 (.loop QV2))) (.seq (.run [.m 28 a8, .m 4 fH]) .ret)
abbrev QVA:AC:= .seq (.run [.o 2 (.box bC), .o 4 (.mv (.k (.int .i64 0)))]) (.seq (.run [.o 6 (.aw cO 2), .o 7 (.load cJ false 1), .m 8 a8, .c 9 fa [bU,cu], .m 1 cQ]) QV8)
abbrev QVE:AC:= .seq (.run [.o 4 (.mv (.k (.bool false)))]) (.seq (.run [.m 5 bC, .m 6 a8, .c 7 e7 [bF,cJ], .o 8 (.bin .geq bU (.k (.int .i64 0))), .m 4 cu]) .ret)
abbrev QVI:AC:= .seq (.run [.o 2 (.box bC), .o 3 (.mv (.k (.bool false)))]) (.seq (.run [.o 4 (.aw cO 0), .o 5 (.load dq false 1), .o 6 (.load a8 false 1), .o 7 (.bin .eql bF cJ), .m 3 bU]) .ret)
abbrev QVV:AC:= .par [.m 37 bC, .m 38 bC, .o 39 (.gT jt), .o 40 (.aw iU 2), .o 41 (.load lE false 1), .o 42 (.load cQ true 17), .o 43 (.cR [(.int .i64 0),(.int .i64 0),(.slice .full 0 []),(.str []),(.str []),(.int .i64 0),(.int .i64 0),(.str []),(.slice .full 0 []),(.bool false),(.slice .full 0 []),(.slice .full 0 []),(.slice .full 0 []),(.int .i64 0),(.int .i64 0),(.int .i64 0),(.int .i64 0)] 17 1 [(0,lF)]), .o 44 (.app 17 240 kF lG), .o 45 (.gT il), .o 46 (.aw mT 2), .op none none (.store mU lH 1)] [(1,0),(2,0),(3,0),(4,0),(5,0),(6,0),(7,0),(0,0),(8,0),(9,0),(10,0)]
abbrev QVW:AC:= .run [.o 47 (.aw bF 13), .o 48 (.load mV false 1), .m 49 cu, .o 50 (.aw cQ 15), .o 51 (.load mX false 1), .o 52 (.aw bF 16), .o 53 (.load mY false 1), .o 54 (.build [(.int .i64 0),(.int .i64 0),(.slice .full 0 []),(.str []),(.str []),(.int .i64 0),(.int .i64 0),(.str []),(.slice .full 0 []),(.bool false),(.slice .full 0 []),(.slice .full 0 []),(.slice .full 0 []),(.int .i64 0),(.int .i64 0),(.int .i64 0),(.int .i64 0)] [(13,(1,mW)),(14,(1,k6)),(15,(1,lI)),(16,(1,mZ))]), .o 10 (.alloc [(.int .i64 0),(.int .i64 0),(.slice .full 0 []),(.str []),(.str []),(.int .i64 0),(.int .i64 0),(.str []),(.slice .full 0 []),(.bool false),(.slice .full 0 []),(.slice .full 0 []),(.slice .full 0 []),(.int .i64 0),(.int .i64 0),(.int .i64 0),(.int .i64 0)]), .op none none (.store cj na 17)]
abbrev QW4:AC:= .seq (.seq (.run [.o 55 (.aw bU 1), .o 56 (.load nc false 1), .o 57 (.bin .eql oC (.k (.int .i64 6)))]) (.cond nf (.run [.m 58 cu, .m 59 cu, .o 60 (.aw cj 15), .op none none (.store qo oD 1), .o 61 (.aw cj 16), .op none none (.store rm mq 1)]) .skip)) (.seq (.run [.m 62 bC, .o 63 (.aw bU 11), .o 64 (.load qp false 1), .o 65 (.load cj true 17), .c 66 ij [rn,qq,tX]]) (.run [.m 67 bC, .o 68 (.aw bU 12), .o 69 (.load tZ false 1), .o 70 (.load cj true 17), .c 71 ij [tY,vJ,vK]]))
abbrev QW7:AC:= .seq (.seq (.run [.m 27 cJ, .o 28 (.bin .add fb (.k (.int .i64 1))), .m 29 a8, .o 30 (.len fI), .o 31 (.bin .lss fH gn)]) (.cond fz (.run [.m 32 cu, .o 33 (.load bU true 13), .c 34 j8 [gb], .o 35 (.bin .add ga gG), .o 36 (.aw cQ 15), .op none none (.store ik gH 1)]) .skip)) (.seq QVV (.seq QVW QW4))
abbrev QWB:AC:= .seq (.run [.m 15 cy, .o 16 (.bM bZ cy 13), .o 17 (.load cz true 13), .o 7 (.alloc [(.int .i64 0),(.int .i64 0),(.slice .full 0 []),(.str []),(.str []),(.int .i64 0),(.int .i64 0),(.str []),(.slice .full 0 []),(.bool false),(.slice .full 0 []),(.slice .full 0 []),(.slice .full 0 [])]), .m 6 da, .op none none (.store bU db 13)]) (.seq (.run [.m 18 bC, .o 19 (.gT dd), .o 20 (.aw du 2), .o 21 (.load dJ false 1), .o 22 (.len dH), .o 23 (.bin .add dQ (.k (.int .i64 1))), .m 8 dY]) (.seq (.run [.o 24 (.load bF true 17), .o 9 (.alloc [(.int .i64 0),(.int .i64 0),(.slice .full 0 []),(.str []),(.str []),(.int .i64 0),(.int .i64 0),(.str []),(.slice .full 0 []),(.bool false),(.slice .full 0 []),(.slice .full 0 []),(.slice .full 0 []),(.int .i64 0),(.int .i64 0),(.int .i64 0),(.int .i64 0)]), .op none none (.store cQ eK 17)]) (.seq (.run [.o 25 (.load bU true 13), .o 26 (.aw cQ 0), .op none none (.store fu eQ 13)]) QW7)))
abbrev QWF:AC:= .seq (.cond cB .skip (.exit 0)) (.seq (.block 1 QWB) (.run [.o 72 (.bin .add cy (.k (.int .i64 1))), .m 13 xD]))
abbrev QWJ:AC:= .seq (.run [.m 11 a8, .o 12 (.len bZ), .o 13 (.mv (.k (.int .i64 0)))]) (.block 0 (.loop (.seq (.run [.o 14 (.bin .lss cy cf)]) QWF)))
abbrev QWK:AC:= .seq (.run [.o 5 (.box cO)]) QWJ
abbrev QWP:AC:= .cond eK (.seq (.run [.o 2 (.mv (.k (.bool false)))]) .ret) .skip
abbrev QWV:AC:= .run [.o 32 (.aw dq 0), .o 33 (.load ga false 1), .c 34 gB [gb], .o 35 (.un .not gG), .m 36 gH, .g 37 36 false (.aw dq 1), .g 38 36 false (.load il false 1), .g 39 36 false (.len jt), .g 40 36 false (.bin .gtr iU (.k (.int .i64 8))), .o 41 (.pick ik (.k (.bool true)) lE), .m 42 kF, .g 43 42 false (.aw dq 2), .g 44 42 false (.load lG false 1), .g 45 42 false (.len lH), .g 46 42 false (.bin .gtr mT (.k (.int .i64 16))), .o 47 (.pick lF (.k (.bool true)) mU), .m 48 mV, .g 49 48 false (.aw dq 2), .g 50 48 false (.load k6 false 1), .d 51 48 false kE [mX], .g 52 48 false (.un .not lI), .o 53 (.pick mW (.k (.bool true)) mY), .m 54 mZ, .g 55 54 false (.aw dq 4), .g 56 54 false (.load nc false 1), .d 57 54 false kE [oC], .g 58 54 false (.un .not nf), .o 59 (.pick na (.k (.bool true)) oD)]
abbrev QWY:AC:= .cond mq (.seq (.run [.o 2 (.mv (.k (.bool false)))]) .ret) .skip
abbrev QX7:AC:= .cond vK (.seq (.run [.o 2 (.mv (.k (.bool false)))]) .ret) .skip
abbrev QXC:AC:= .seq (.block 3 (.seq (.run [.o 65 (.bM rm qp 2), .o 66 (.load tX true 2), .o 6 (.alloc [(.str []),(.bool false)]), .op none none (.store cJ vI 2)]) (.seq (.run [.o 67 (.aw cJ 0), .o 68 (.load tY false 1), .c 69 gB [tZ], .o 70 (.un .not vJ)]) QX7))) (.run [.o 71 (.bin .add qp (.k (.int .i64 1))), .m 63 zC])
abbrev QXG:AC:= .block 2 (.loop (.seq (.run [.o 64 (.bin .lss qp rn)]) (.seq (.cond qq .skip (.exit 2)) QXC)))
abbrev QXI:AC:= .seq (.seq QWV QWY) (.seq (.run [.o 60 (.aw dq 1), .o 61 (.load qo false 1), .o 62 (.len rm), .o 63 (.mv (.k (.int .i64 0)))]) QXG)
abbrev QXM:AC:= .seq (.block 1 (.seq (.run [.o 30 (.bM fu fH 5), .o 31 (.load gn true 5), .o 4 (.alloc [(.str []),(.slice .full 0 []),(.slice .full 0 []),(.slice .full 0 []),(.slice .full 0 [])]), .op none none (.store dq fz 5)]) QXI)) (.run [.o 72 (.bin .add fH (.k (.int .i64 1))), .m 28 xD])
abbrev QXQ:AC:= .block 0 (.loop (.seq (.run [.o 29 (.bin .lss fH fb)]) (.seq (.cond fI .skip (.exit 0)) QXM)))
abbrev QXW:AC:= .cond zF (.seq (.run [.o 2 (.mv (.k (.bool false)))]) .ret) .skip
abbrev QY2:AC:= .run [.m 83 bU, .m 84 cu, .o 85 (.bM C1 xG 16), .o 86 (.aw C2 0), .o 87 (.aw C3 0), .o 88 (.load C4 false 1), .m 89 cu, .o 90 (.bin .add C6 (.k (.int .i64 1))), .o 91 (.bin .neq C5 C7), .m 92 C8, .g 93 92 false (.mv bU), .g 94 92 false (.mv cu), .g 95 92 false (.bM Hc Hd 16), .g 96 92 false (.aw He 13), .g 97 92 false (.load LV false 1), .g 98 92 false (.bin .gtr LW (.k (.int .i64 12))), .o 99 (.pick C9 (.k (.bool true)) LX), .m 100 LY, .g 101 100 false (.mv bU), .g 102 100 false (.mv cu), .g 103 100 false (.bM Hg Hh 16), .g 104 100 false (.aw Hi 0), .g 105 100 false (.load Hj true 13), .d 106 100 false tV [Hk], .g 107 100 false (.un .not Hl), .o 108 (.pick Hf (.k (.bool true)) Hm)]
abbrev QY5:AC:= .cond Hn (.seq (.run [.o 2 (.mv (.k (.bool false)))]) .ret) .skip
abbrev QYB:AC:= .seq (.cond C0 .skip (.exit 4)) (.seq (.block 5 (.seq (.run [.m 82 xF, .m 8 zG]) (.seq QY2 QY5))) (.run [.o 109 (.bin .add xF (.k (.int .i64 1))), .m 80 Ho]))
abbrev QYF:AC:= .seq (.run [.m 78 bU, .o 79 (.len vL), .o 80 (.mv (.k (.int .i64 0)))]) (.block 4 (.loop (.seq (.run [.o 81 (.bin .lss xF CZ)]) QYB)))
abbrev QYI:AC:= .seq QYF (.seq (.run [.o 2 (.mv (.k (.bool true)))]) .ret)
abbrev QYJ:AC:= .seq (.seq (.run [.m 75 bU, .o 76 (.len zE), .o 77 (.bin .gtr ub (.k (.int .i64 200)))]) QXW) QYI
abbrev QYL:AC:= .seq (.seq (.run [.o 25 (.aw a8 1), .o 26 (.load eQ false 1), .o 27 (.len fu), .o 28 (.mv (.k (.int .i64 0)))]) QXQ) (.seq (.run [.o 73 (.load a8 true 2), .c 74 tT [zD], .m 7 xE]) QYJ)
abbrev QYM:AC:= .seq (.seq (.run [.o 9 (.aw a8 0), .o 10 (.load cQ false 1), .o 11 (.len cj), .o 12 (.bin .gtr bZ (.k (.int .i64 16))), .m 13 cf, .g 14 13 false (.aw a8 1), .g 15 13 false (.load cB false 1), .g 16 13 false (.len da), .g 17 13 false (.bin .gtr cz (.k (.int .i64 16))), .o 18 (.pick cy (.k (.bool true)) db), .m 19 dd, .g 20 19 false (.aw a8 0), .g 21 19 false (.load dJ false 1), .d 22 19 false kE [dH], .g 23 19 false (.un .not dQ), .o 24 (.pick du (.k (.bool true)) dY)]) QWP) QYL
abbrev QYN:AC:= .seq (.run [.o 1 (.box bC), .o 2 (.mv (.k (.bool false)))]) QYM
end Go.Abs

/-! Have1 -/

namespace Go.Abs
open Go.Proofs
theorem uH:Has Tryz.prog nr 24 [(4,(some (true,5))),(5,none)] QFZ:=⟨Tryz.f39,by kernel_rfl,by kernel_rfl⟩
theorem td:Has Tryz.prog ml 123 [(2,(some (true,2)))] QIJ:=⟨Tryz.f40,by kernel_rfl,by kernel_rfl⟩
theorem zH:Has Tryz.prog ou 36 [(4,none)] QJ9:=⟨Tryz.f41,by kernel_rfl,by kernel_rfl⟩
theorem By:Has Tryz.prog pF 40 [(4,none)] QKA:=⟨Tryz.f42,by kernel_rfl,by kernel_rfl⟩
theorem yC:Has Tryz.prog nI 39 [(4,none)] QL9:=⟨Tryz.f43,by kernel_rfl,by kernel_rfl⟩
theorem wP:Has Tryz.prog jP 26 [(4,none)] QLD:=⟨Tryz.f44,by kernel_rfl,by kernel_rfl⟩
theorem uW:Has Tryz.prog ko 12 [(4,none)] QLH:=⟨Tryz.f45,by kernel_rfl,by kernel_rfl⟩
theorem zI:Has Tryz.prog ov 45 [(2,none)] QME:=⟨Tryz.f46,by kernel_rfl,by kernel_rfl⟩
theorem qs:Has Tryz.prog cA 9 [(4,none)] QMI:=⟨Tryz.f47,by kernel_rfl,by kernel_rfl⟩
theorem xI:Has Tryz.prog pd 56 [(4,none)] QNY:=⟨Tryz.f50,by kernel_rfl,by kernel_rfl⟩
theorem rF:Has Tryz.prog gx 19 [(4,none)] QOL:=⟨Tryz.f51,by kernel_rfl,by kernel_rfl⟩
theorem yD:Has Tryz.prog ln 18 [(2,none)] QP8:=⟨Tryz.f52,by kernel_rfl,by kernel_rfl⟩
theorem Bz:Has Tryz.prog sK 23 [(2,none)] QPT:=⟨Tryz.f53,by kernel_rfl,by kernel_rfl⟩
theorem oE:Has Tryz.prog eW 9 [(4,none)] QPX:=⟨Tryz.f54,by kernel_rfl,by kernel_rfl⟩
theorem wQ:Has Tryz.prog lT 8 [(3,none)] QQ1:=⟨Tryz.f55,by kernel_rfl,by kernel_rfl⟩
theorem yE:Has Tryz.prog nJ 38 [(8,none)] QQO:=⟨Tryz.f56,by kernel_rfl,by kernel_rfl⟩
theorem uI:Has Tryz.prog j7 65 [(10,none)] QRC:=⟨Tryz.f58,by kernel_rfl,by kernel_rfl⟩
theorem tf:Has Tryz.prog ow 8 [(2,none)] QRM:=⟨Tryz.f59,by kernel_rfl,by kernel_rfl⟩
theorem zJ:Has Tryz.prog jr 8 [(4,(some (true,2)))] QRQ:=⟨Tryz.f63,by kernel_rfl,by kernel_rfl⟩
theorem zK:Has Tryz.prog kA 15 [(2,none)] QSD:=⟨Tryz.f65,by kernel_rfl,by kernel_rfl⟩
theorem kG:Has Tryz.prog kZ 27 [(2,none)] QSN:=⟨Tryz.f66,by kernel_rfl,by kernel_rfl⟩
theorem oF:Has Tryz.prog iB 71 [(6,none)] QTO:=⟨Tryz.f67,by kernel_rfl,by kernel_rfl⟩
theorem Dc:Has Tryz.prog tT 23 [(2,none)] QUF:=⟨Tryz.f68,by kernel_rfl,by kernel_rfl⟩
theorem Dd:Has Tryz.prog ox 5 [(2,(some (true,4)))] QUJ:=⟨Tryz.f72,by kernel_rfl,by kernel_rfl⟩
theorem BA:Has Tryz.prog jc 5 [(2,(some (true,4)))] QUN:=⟨Tryz.f73,by kernel_rfl,by kernel_rfl⟩
theorem De:Has Tryz.prog qL 12 [(6,(some (true,4)))] QUR:=⟨Tryz.f74,by kernel_rfl,by kernel_rfl⟩
theorem vN:Has Tryz.prog ig 29 [(4,none)] QVA:=⟨Tryz.f75,by kernel_rfl,by kernel_rfl⟩
theorem nT:Has Tryz.prog fy 9 [(4,none)] QVE:=⟨Tryz.f76,by kernel_rfl,by kernel_rfl⟩
theorem wR:Has Tryz.prog lU 8 [(3,none)] QVI:=⟨Tryz.f77,by kernel_rfl,by kernel_rfl⟩
theorem vO:Has Tryz.prog ij 73 [] QWK:=⟨Tryz.f78,by kernel_rfl,by kernel_rfl⟩
theorem Df:Has Tryz.prog qM 110 [(2,none)] QYN:=⟨Tryz.f79,by kernel_rfl,by kernel_rfl⟩
end Go.Abs

/-! Codes2 -/

namespace Go.Abs
abbrev QYW:AC:= .cond dd (.seq (.run [.o 19 (.load bU true 5), .op none none (.store dq du 5), .o 5 (.mv (.k (.bool true)))]) .ret) .skip
abbrev QZ1:AC:= .seq (.block 1 (.seq (.run [.o 13 (.bM cQ bZ 5), .o 14 (.load cy true 5), .o 7 (.alloc [(.str []),(.slice .full 0 []),(.slice .full 0 []),(.slice .full 0 []),(.slice .full 0 [])]), .op none none (.store bU cB 5)]) (.seq (.run [.o 15 (.aw bU 0), .o 16 (.load da false 1), .m 17 a8, .o 18 (.bin .eql cz db)]) QYW))) (.run [.o 20 (.bin .add bZ (.k (.int .i64 1))), .m 11 dJ])
abbrev QZ5:AC:= .block 0 (.loop (.seq (.run [.o 12 (.bin .lss bZ cj)]) (.seq (.cond cf .skip (.exit 0)) QZ1)))
abbrev QZ9:AC:= .seq (.seq (.run [.o 8 (.aw cO 1), .o 9 (.load cu false 1), .o 10 (.len cQ), .o 11 (.mv (.k (.int .i64 0)))]) QZ5) (.seq (.run [.o 21 (.build [(.str []),(.slice .full 0 []),(.slice .full 0 []),(.slice .full 0 []),(.slice .full 0 [])] []), .op none none (.store dq dH 5), .o 5 (.mv (.k (.bool false)))]) .ret)
abbrev QZA:AC:= .seq (.run [.o 2 (.box bC), .o 4 (.alloc [(.str []),(.slice .full 0 []),(.slice .full 0 []),(.slice .full 0 []),(.slice .full 0 [])]), .o 5 (.mv (.k (.bool false)))]) QZ9
abbrev QZK:AC:= .par [.m 15 bC, .m 16 cP, .o 17 (.bM da cz 1), .o 18 (.load db false 1), .m 19 bC, .m 20 dq, .o 21 (.bM du dJ 1), .o 22 (.load dH false 1), .o 23 (.bin .eql dd dQ)] [(0,0),(1,0),(2,0),(3,0),(4,0),(5,0),(6,0),(7,0),(8,0)]
abbrev QZN:AC:= .cond dY (.seq (.run [.o 2 (.mv (.k (.bool true)))]) .ret) .skip
abbrev QZS:AC:= .seq (.seq (.run [.m 10 dq, .m 11 cP, .o 12 (.bin .lss cj bZ)]) (.cond cf .skip (.exit 2))) (.seq (.block 3 (.seq QZK QZN)) (.run [.m 13 dq, .o 14 (.bin .add cy (.k (.int .i64 1))), .m 4 cB]))
abbrev QZW:AC:= .seq (.run [.m 9 bU, .m 3 cQ]) (.seq (.run [.o 4 (.mv (.k (.int .i64 0)))]) (.block 2 (.loop QZS)))
abbrev W3:AC:= .seq (.cond cu .skip (.exit 0)) (.seq (.block 1 QZW) (.run [.o 24 (.bin .add bU (.k (.int .i64 1))), .m 7 eK]))
abbrev W4:AC:= .seq (.run [.m 5 bC, .o 6 (.len bF), .o 7 (.mv (.k (.int .i64 0)))]) (.block 0 (.loop (.seq (.run [.o 8 (.bin .lss bU cJ)]) W3)))
abbrev W5:AC:= .seq W4 (.seq (.run [.o 2 (.mv (.k (.bool false)))]) .ret)
abbrev W6:AC:= .seq (.run [.o 2 (.mv (.k (.bool false)))]) W5
abbrev W7:AC:= .seq (.block 1 (.seq (.run [.o 11 (.bM bU cQ 2), .o 12 (.load bZ true 2), .o 5 (.alloc [(.str []),(.bool false)]), .op none none (.store bF cf 2)]) (.run [.m 13 cP, .o 14 (.aw bF 0), .o 15 (.load cB false 1), .o 16 (.cR [(.str [])] 1 1 [(0,da)]), .o 17 (.app 1 16 cy cz), .m 3 db]))) (.run [.o 18 (.bin .add cQ (.k (.int .i64 1))), .m 9 dd])
abbrev W8:AC:= .block 0 (.loop (.seq (.run [.o 10 (.bin .lss cQ cu)]) (.seq (.cond cj .skip (.exit 0)) W7)))
abbrev W9:AC:= .seq (.seq (.run [.o 6 (.aw a8 1), .o 7 (.load cJ false 1), .o 8 (.len bU), .o 9 (.mv (.k (.int .i64 0)))]) W8) (.seq (.run [.m 19 cP, .m 2 du]) .ret)
abbrev Xa:AC:= .seq (.run [.o 1 (.box bC), .o 2 (.mv (.k (.slice .full 0 [])))]) (.seq (.run [.o 3 (.mv (.k (.slice .full 0 [])))]) W9)
abbrev Xb:AC:= .cond dY (.seq (.run [.o 6 (.mv (.k (.int .i64 3)))]) .ret) .skip
abbrev Xc:AC:= .cond fb (.seq (.run [.o 6 (.mv (.k (.int .i64 2)))]) .ret) .skip
abbrev Xd:AC:= .seq (.seq (.run [.o 16 (.aw cu 0), .o 17 (.load cz false 1), .m 18 cO, .o 19 (.bin .eql db dd), .m 20 du, .g 21 20 true (.aw cu 1), .g 22 20 true (.load dH false 1), .o 23 (.pick dJ dQ (.k (.bool false)))]) Xb) (.seq (.run [.o 24 (.aw cu 0), .o 25 (.load eK false 1), .m 26 cO, .o 27 (.bin .eql eQ fu)]) Xc)
abbrev Xe:AC:= .seq (.block 1 (.seq (.run [.o 14 (.bM cj cf 2), .o 15 (.load cB true 2), .o 8 (.alloc [(.str []),(.bool false)]), .op none none (.store cu da 2)]) Xd)) (.run [.o 28 (.bin .add cf (.k (.int .i64 1))), .m 12 fH])
abbrev Xf:AC:= .block 0 (.loop (.seq (.run [.o 13 (.bin .lss cf bZ)]) (.seq (.cond cy .skip (.exit 0)) Xe)))
abbrev Xg:AC:= .cond gG (.seq (.run [.o 6 (.mv (.k (.int .i64 1)))]) .ret) .skip
abbrev Xh:AC:= .cond fI (.seq (.run [.o 6 (.mv (.k (.int .i64 4)))]) .ret) (.seq (.run [.o 35 (.aw cP 0), .o 36 (.load gH false 1), .m 37 cO, .c 38 kR [ik,il], .m 34 jt]) Xg)
abbrev Xi:AC:= .seq (.block 2 (.seq (.run [.o 30 (.aw dq 2), .o 31 (.load gn false 1), .m 32 cO, .c 33 kR [fz,ga], .m 29 gb]) Xh)) (.seq (.run [.o 6 (.mv (.k (.int .i64 0)))]) .ret)
abbrev Xj:AC:= .seq (.seq (.run [.o 9 (.aw dq 1), .o 10 (.load cQ false 1), .o 11 (.len cj), .o 12 (.mv (.k (.int .i64 0)))]) Xf) Xi
abbrev Xk:AC:= .seq (.run [.o 3 (.box bC), .o 4 (.box a8), .o 6 (.mv (.k (.int .i64 0)))]) Xj
abbrev Xl:AC:= .seq (.run [.m 18 cP, .m 19 bU, .c 20 kR [dd,du], .o 21 (.un .not dJ), .m 22 dH, .g 23 22 true (.mv bF), .g 24 22 true (.un .not dY), .g 25 22 true (.mv eK), .g 26 25 false (.mv bU), .g 27 25 false (.mv dq), .g 28 25 false (.bin .lss fu fb), .g 29 22 true (.pick eQ (.k (.bool true)) fH), .o 30 (.pick dQ fI (.k (.bool false)))]) (.cond gn (.run [.m 31 bU, .m 4 fz, .o 5 (.mv (.k (.bool true)))]) .skip)
abbrev Xm:AC:= .seq (.cond da .skip (.exit 2)) (.seq (.block 3 (.seq (.run [.o 16 (.bM cf cB 1), .o 17 (.load cz false 1), .m 7 db]) Xl)) (.run [.o 32 (.bin .add cB (.k (.int .i64 1))), .m 14 ga]))
abbrev Xn:AC:= .seq (.run [.m 12 bC, .o 13 (.len cf), .o 14 (.mv (.k (.int .i64 0)))]) (.block 2 (.loop (.seq (.run [.o 15 (.bin .lss cB cy)]) Xm)))
abbrev Xo:AC:= .seq Xn (.seq (.run [.m 33 bF]) (.cond gb (.run [.m 34 cP, .m 35 dq, .o 36 (.cR [(.str [])] 1 1 [(0,gH)]), .o 37 (.app 1 16 gG ik), .m 3 il]) .skip))
abbrev Xp:AC:= .block 1 (.seq (.run [.o 4 (.mv (.k (.str []))), .o 5 (.mv (.k (.bool false)))]) Xo)
abbrev Xq:AC:= .seq (.cond bZ .skip (.exit 0)) (.seq Xp (.run [.o 38 (.bin .add cj (.k (.int .i64 1))), .m 10 jt]))
abbrev Xr:AC:= .seq (.run [.m 8 bC, .o 9 (.len cu), .o 10 (.mv (.k (.int .i64 0)))]) (.block 0 (.loop (.seq (.run [.o 11 (.bin .lss cj cQ)]) Xq)))
abbrev Xs:AC:= .seq (.run [.o 2 (.mv (.k (.slice .full 0 [])))]) (.seq (.run [.o 3 (.mv (.k (.slice .full 0 [])))]) (.seq Xr (.seq (.run [.m 39 cP, .m 2 iU]) .ret)))
abbrev Xt:AC:= .block 1 (.seq (.run [.m 10 cu, .m 5 cj]) (.seq (.run [.m 11 a8, .m 12 bC, .m 13 bF, .o 14 (.bM cf cy 5), .o 15 (.load cB true 5),(.gC (some 16) none 11 [da])]) (.cond cz (.seq (.run [.m 17 bF, .m 4 db]) .ret) .skip)))
abbrev Xu:AC:= .seq (.cond cQ .skip (.exit 0)) (.seq Xt (.run [.o 18 (.bin .add cu (.k (.int .i64 1))), .m 8 dd]))
abbrev Xv:AC:= .seq (.run [.m 6 bC, .o 7 (.len cJ), .o 8 (.mv (.k (.int .i64 0)))]) (.block 0 (.loop (.seq (.run [.o 9 (.bin .lss cu bU)]) Xu)))
abbrev Xw:AC:= .seq (.run [(.o 4 (.mv (.k (.int .i64 (-1)))))]) .ret
abbrev Xx:AC:= .seq (.run [.o 4 (.mv (.k (.int .i64 0)))]) (.seq Xv Xw)
abbrev Xy:AC:= .seq (.run [.o 2 (.box bC), .o 3 (.mv (.k (.bool false)))]) (.seq (.run [.o 4 (.aw cO 0), .o 5 (.load dq false 1), .o 6 (.load a8 false 1), .o 7 (.bin .eql bF cJ), .m 3 bU]) .ret)
abbrev Xz:AC:= .cond bF (.seq (.run [.o 2 (.mv (.k (.slice .full 0 [])))]) .ret) .skip
abbrev XA:AC:= .seq (.seq (.run [.o 3 (.load a8 true 4), .c 4 mF [cP], .o 5 (.un .not dq)]) Xz) (.seq (.run [.o 6 (.load a8 true 4),(.c 7 gh [cJ,(.k (.slice .full 0 []))]), .m 2 bU]) .ret)
abbrev XB:AC:= .seq (.run [.o 1 (.box bC), .o 2 (.mv (.k (.slice .full 0 [])))]) XA
abbrev XC:AC:= .block 1 (.seq (.run [.m 10 cu, .m 5 cj]) (.seq (.run [.m 11 a8, .m 12 bC, .m 13 bF, .o 14 (.bM cf cy 1), .o 15 (.load cB false 1),(.gC (some 16) none 11 [da])]) (.cond cz (.seq (.run [.m 17 bF, .m 4 db]) .ret) .skip)))
abbrev XD:AC:= .seq (.cond cQ .skip (.exit 0)) (.seq XC (.run [.o 18 (.bin .add cu (.k (.int .i64 1))), .m 8 dd]))
abbrev XE:AC:= .seq (.run [.m 6 bC, .o 7 (.len cJ), .o 8 (.mv (.k (.int .i64 0)))]) (.block 0 (.loop (.seq (.run [.o 9 (.bin .lss cu bU)]) XD)))
abbrev XF:AC:= .seq (.run [(.o 4 (.mv (.k (.int .i64 (-1)))))]) .ret
abbrev XG:AC:= .seq (.run [.o 4 (.mv (.k (.int .i64 0)))]) (.seq XE XF)
abbrev XH:AC:= .cond dY (.seq (.run [.o 6 (.mv (.k (.int .i64 3)))]) .ret) .skip
abbrev XI:AC:= .cond fb (.seq (.run [.o 6 (.mv (.k (.int .i64 2)))]) .ret) .skip
abbrev XJ:AC:= .seq (.seq (.run [.o 16 (.aw cu 0), .o 17 (.load cz false 1), .m 18 cO, .o 19 (.bin .eql db dd), .m 20 du, .g 21 20 true (.aw cu 1), .g 22 20 true (.load dH false 1), .o 23 (.pick dJ dQ (.k (.bool false)))]) XH) (.seq (.run [.o 24 (.aw cu 0), .o 25 (.load eK false 1), .m 26 cO, .o 27 (.bin .eql eQ fu)]) XI)
abbrev XK:AC:= .seq (.block 1 (.seq (.run [.o 14 (.bM cj cf 2), .o 15 (.load cB true 2), .o 8 (.alloc [(.str []),(.bool false)]), .op none none (.store cu da 2)]) XJ)) (.run [.o 28 (.bin .add cf (.k (.int .i64 1))), .m 12 fH])
abbrev XL:AC:= .block 0 (.loop (.seq (.run [.o 13 (.bin .lss cf bZ)]) (.seq (.cond cy .skip (.exit 0)) XK)))
abbrev XM:AC:= .cond ga (.seq (.run [.o 6 (.mv (.k (.int .i64 4)))]) .ret) .skip
abbrev XN:AC:= .cond ik (.seq (.run [.o 6 (.mv (.k (.int .i64 1)))]) .ret) .skip
abbrev XO:AC:= .seq (.seq (.run [.o 33 (.aw cP 0), .o 34 (.load gb false 1), .m 35 cO, .c 36 cA [gG,gH]]) XN) (.seq (.run [.o 6 (.mv (.k (.int .i64 0)))]) .ret)
abbrev XP:AC:= .seq (.seq (.run [.o 9 (.aw dq 1), .o 10 (.load cQ false 1), .o 11 (.len cj), .o 12 (.mv (.k (.int .i64 0)))]) XL) (.seq (.seq (.run [.o 29 (.aw dq 2), .o 30 (.load fI false 1), .m 31 cO, .c 32 cA [gn,fz]]) XM) XO)
abbrev XQ:AC:= .seq (.run [.o 3 (.box bC), .o 4 (.box a8), .o 6 (.mv (.k (.int .i64 0)))]) XP
abbrev XR:AC:= .seq (.run [.o 1 (.box bC), .o 2 (.mv (.k (.bool false)))]) (.seq (.run [.o 3 (.load a8 true 4), .c 4 nu [cP,(.k (.int .i64 20))], .o 5 (.bin .leq dq (.k (.int .i64 20))), .m 6 bF, .g 7 6 true (.load a8 true 4), .d 8 6 true nw [bU], .o 9 (.pick cJ cu (.k (.bool false))), .m 2 cQ]) .ret)
abbrev XS:AC:= .seq (.cond db .skip (.exit 0)) (.seq (.block 1 (.seq (.run [.m 18 cz, .m 5 dd]) (.run [.o 19 (.aw cO 3), .o 20 (.load du false 1), .m 21 bF, .o 22 (.bM dJ dH 4), .o 23 (.load dQ true 4), .m 24 a8, .c 25 ix [dY,eK], .m 1 eQ]))) (.run [.o 26 (.bin .add cz (.k (.int .i64 1))), .m 16 fu]))
abbrev XT:AC:= .seq (.run [.o 13 (.aw cO 3), .o 14 (.load cy false 1), .o 15 (.len cB), .o 16 (.mv (.k (.int .i64 0)))]) (.block 0 (.loop (.seq (.run [.o 17 (.bin .lss cz da)]) XS)))
abbrev XU:AC:= .seq (.seq (.run [.o 6 (.aw cO 0), .o 7 (.load cJ false 1), .o 8 (.bin .eql bU (.k (.int .i64 2)))]) (.cond cu (.run [.m 9 a8, .o 10 (.aw cO 2), .o 11 (.load cj false 1), .c 12 lq [cQ,bZ], .m 1 cf]) .skip)) (.seq XT (.seq (.run [.m 27 a8, .m 4 fb]) .ret))
abbrev XV:AC:= .seq (.run [.o 2 (.box bC), .o 4 (.mv (.k (.slice .full 0 [])))]) XU
abbrev XW:AC:= .seq (.run [.o 2 (.mv (.k (.bool false)))]) (.seq (.run [.m 3 bC, .o 4 (.bin .geq cP (.k (.int .u8 97))), .m 5 dq, .g 6 5 true (.mv bC), .g 7 5 true (.bin .leq cJ (.k (.int .u8 122))), .o 8 (.pick bF bU (.k (.bool false))), .m 2 cu]) .ret)
abbrev XX:AC:= .seq (.seq (.run [.m 5 a8, .m 6 bC, .o 7 (.oX cJ), .o 8 (.bin .lss bF bU), .m 9 cu, .g 10 9 true (.mv bC), .g 11 9 true (.mv a8), .g 12 9 true (.qU cj bZ), .d 13 9 true oz [cf], .g 14 9 true (.mv cy), .g 15 14 false (.mv bC), .g 16 14 false (.mv a8), .g 17 14 false (.qU da cz), .d 18 14 false sM [db], .g 19 9 true (.pick cB (.k (.bool true)) dd), .o 20 (.pick cQ du (.k (.bool false)))]) (.cond dJ .skip (.exit 0))) (.block 1 (.run [.m 21 a8, .o 22 (.bin .add dH (.k (.int .i64 1))), .m 1 dQ]))
abbrev XY:AC:= .seq (.run [.o 4 (.mv (.k (.int .i64 0)))]) (.seq (.block 0 (.loop XX)) (.seq (.run [.m 23 a8, .m 4 dY]) .ret))
abbrev XZ:AC:= .seq (.run [.o 16 (.bin .eql cP (.k (.str [114,101,97,100]))), .m 4 cz]) (.cond dq .skip (.run [.o 17 (.bin .eql cP (.k (.str [112,114,105,110,116]))), .m 4 db]))
abbrev X0:AC:= .cond dq .skip (.seq (.run [.o 15 (.bin .eql cP (.k (.str [103,111,116,111]))), .m 4 da]) (.cond dq .skip XZ))
abbrev X1:AC:= .cond dq .skip (.seq (.run [.o 14 (.bin .eql cP (.k (.str [114,101,116,117,114,110]))), .m 4 cB]) X0)
abbrev X2:AC:= .cond dq .skip (.seq (.run [.o 13 (.bin .eql cP (.k (.str [99,111,110,116,105,110,117,101]))), .m 4 cy]) X1)
abbrev X3:AC:= .cond dq .skip (.seq (.run [.o 12 (.bin .eql cP (.k (.str [98,114,101,97,107]))), .m 4 cf]) X2)
abbrev X4:AC:= .cond dq .skip (.seq (.run [.o 11 (.bin .eql cP (.k (.str [119,104,105,108,101]))), .m 4 bZ]) X3)
abbrev X5:AC:= .cond dq .skip (.seq (.run [.o 10 (.bin .eql cP (.k (.str [101,108,115,101]))), .m 4 cj]) X4)
abbrev X6:AC:= .cond dq .skip (.seq (.run [.o 9 (.bin .eql cP (.k (.str [105,102]))), .m 4 cQ]) X5)
abbrev X7:AC:= .cond dq .skip (.seq (.run [.o 8 (.bin .eql cP (.k (.str [114,101,102]))), .m 4 cu]) X6)
abbrev X8:AC:= .cond dq .skip (.seq (.run [.o 7 (.bin .eql cP (.k (.str [118,97,114]))), .m 4 bU]) X7)
abbrev X9:AC:= .cond dq .skip (.seq (.run [.o 6 (.bin .eql cP (.k (.str [112,114,111,99]))), .m 4 cJ]) X8)
abbrev Ya:AC:= .cond dq (.seq (.run [.o 2 (.mv (.k (.bool true)))]) .ret) .skip
abbrev Yb:AC:= .seq (.seq (.run [.o 5 (.bin .eql cP (.k (.str [103,108,111,98,97,108]))), .m 4 bF]) X9) Ya
abbrev Yc:AC:= .seq (.seq (.run [.m 3 bC]) (.block 0 Yb)) (.seq (.run [.o 2 (.mv (.k (.bool false)))]) .ret)
abbrev Yd:AC:= .seq (.run [.o 2 (.mv (.k (.bool false)))]) Yc
abbrev Ye:AC:= .par [.o 10 (.aw a8 9), .o 11 (.load cj false 1), .o 3 (.mv (.k (.bool false))), .o 4 (.mv (.k (.bool false))), .o 5 (.mv (.k (.bool false))), .m 6 bZ, .o 7 (.mv (.k (.bool false))), .o 8 (.mv (.k (.bool false)))] [(0,0),(1,0),(2,0),(3,0),(4,0),(5,0),(6,0),(7,0)]
abbrev Yf:AC:= .seq (.run [.o 20 (.bin .eql cz (.k (.int .i64 2))), .m 19 dJ]) (.cond du .skip (.run [.o 21 (.bin .eql cz (.k (.int .i64 10))), .m 19 dH]))
abbrev Yg:AC:= .seq (.run [.o 38 (.bin .eql cz (.k (.int .i64 7))), .m 37 jt]) (.cond il .skip (.run [.o 39 (.bin .eql cz (.k (.int .i64 8))), .m 37 iU]))
abbrev Yh:AC:= .cond il .skip (.seq (.run [.o 2 (.mv (.k (.bool false)))]) .ret)
abbrev Yi:AC:= .seq (.run [.o 34 (.bin .eql cz (.k (.int .i64 9))), .m 33 gG]) (.cond gb (.run [.o 35 (.aw a8 9), .o 36 (.load gH false 1), .m 5 ik, .o 6 (.mv (.k (.bool false)))]) (.seq Yg Yh))
abbrev Yj:AC:= .seq (.run [.o 32 (.bin .eql cz (.k (.int .i64 6))), .m 31 ga]) (.cond fz (.run [.o 5 (.mv (.k (.bool true))), .o 7 (.mv (.k (.bool true)))]) Yi)
abbrev Yk:AC:= .seq (.run [.o 30 (.bin .eql cz (.k (.int .i64 5))), .m 29 gn]) (.cond fI (.run [.o 5 (.mv (.k (.bool true))), .o 7 (.mv (.k (.bool true))), .o 8 (.mv (.k (.bool true)))]) Yj)
abbrev Yl:AC:= .seq (.run [.o 25 (.bin .eql cz (.k (.int .i64 4))), .m 24 eQ]) (.cond eK (.run [.o 26 (.aw a8 3), .o 27 (.load fu false 1), .o 28 (.bin .neq fb (.k (.str []))), .m 3 fH, .o 4 (.mv (.k (.bool true)))]) Yk)
abbrev Ym:AC:= .seq (.run [.o 23 (.bin .eql cz (.k (.int .i64 3))), .m 22 dY]) (.cond dQ (.run [.o 5 (.mv (.k (.bool true)))]) Yl)
abbrev Yn:AC:= .seq Yf (.cond du (.run [.o 3 (.mv (.k (.bool true)))]) Ym)
abbrev Yo:AC:= .seq (.run [.o 18 (.bin .eql cz (.k (.int .i64 1))), .m 17 dd]) (.cond db (.run [.o 3 (.mv (.k (.bool true))), .o 5 (.mv (.k (.bool true)))]) Yn)
abbrev Yp:AC:= .run [.m 40 cJ, .m 41 lE, .g 42 41 false (.mv bU), .g 43 41 false (.un .not lF), .g 44 41 false (.mv lG), .g 45 44 true (.aw a8 11), .g 46 44 true (.load mT false 1), .g 47 44 true (.len mU), .g 48 44 true (.bin .gtr mV (.k (.int .i64 0))), .g 49 41 false (.pick lH mW (.k (.bool false))), .o 50 (.pick kF (.k (.bool true)) k6), .m 51 mX, .g 52 51 false (.mv cu), .g 53 51 false (.un .not mY), .g 54 51 false (.mv mZ), .g 55 54 true (.aw a8 12), .g 56 54 true (.load nc false 1), .g 57 54 true (.len oC), .g 58 54 true (.bin .gtr nf (.k (.int .i64 0))), .g 59 51 false (.pick na oD (.k (.bool false))), .o 60 (.pick lI (.k (.bool true)) mq), .m 61 qo, .g 62 61 false (.mv cQ), .g 63 61 false (.un .not rn), .g 64 61 false (.mv qp), .g 65 64 true (.aw a8 10), .g 66 64 true (.load tX false 1), .g 67 64 true (.len vI), .g 68 64 true (.bin .gtr tY (.k (.int .i64 0))), .g 69 61 false (.pick qq tZ (.k (.bool false))), .o 70 (.pick rm (.k (.bool true)) vJ)]
abbrev Yq:AC:= .cond vK (.seq (.run [.o 2 (.mv (.k (.bool false)))]) .ret) .skip
abbrev Yr:AC:= .cond C6 (.seq (.run [.o 2 (.mv (.k (.bool false)))]) .ret) .skip
abbrev Rp:AC:= .seq (.seq (.run [.o 71 (.aw a8 3), .o 72 (.load zC false 1), .m 73 cP, .c 74 mn [xD,zD], .o 75 (.un .not xE), .m 76 zE, .g 77 76 false (.aw a8 4), .g 78 76 false (.load zF false 1), .g 79 76 false (.mv dq), .d 80 76 false mn [vL,CZ], .g 81 76 false (.un .not xF), .o 82 (.pick ub (.k (.bool true)) C0), .m 83 zG, .g 84 83 false (.aw a8 5), .g 85 83 false (.load xG true 4), .g 86 83 false (.mv bF), .d 87 83 false oA [C2,C3], .g 88 83 false (.un .not C4), .o 89 (.pick C1 (.k (.bool true)) C5)]) Yr) (.seq (.run [.o 90 (.aw a8 10), .o 91 (.load C7 false 1), .c 92 qn [C8], .m 2 C9]) .ret)
abbrev Rq:AC:= .seq (.seq Yp Yq) Rp
abbrev LZ:AC:= .seq (.seq (.run [.o 15 (.aw a8 1), .o 16 (.load da false 1)]) (.block 0 Yo)) Rq
abbrev Rr:AC:= .seq (.run [.o 12 (.aw a8 1), .o 13 (.load cf false 1), .o 14 (.bin .eql cy (.k (.int .i64 4))), .m 9 cB]) LZ
abbrev Rs:AC:= .seq Ye Rr
abbrev Ys:AC:= .seq (.run [.o 1 (.box bC), .o 2 (.mv (.k (.bool false)))]) Rs
abbrev Yt:AC:= .seq (.block 1 (.seq (.run [.o 13 (.bM cQ bZ 13), .o 14 (.load cy true 13), .o 5 (.alloc [(.int .i64 0),(.int .i64 0),(.slice .full 0 []),(.str []),(.str []),(.int .i64 0),(.int .i64 0),(.str []),(.slice .full 0 []),(.bool false),(.slice .full 0 []),(.slice .full 0 []),(.slice .full 0 [])]), .op none none (.store bF cB 13)]) (.run [.m 15 cP, .o 16 (.load bF true 13), .c 17 j8 [cz], .o 18 (.bin .add da db), .m 3 dd]))) (.run [.o 19 (.bin .add bZ (.k (.int .i64 1))), .m 11 du])
abbrev Yu:AC:= .block 0 (.loop (.seq (.run [.o 12 (.bin .lss bZ cj)]) (.seq (.cond cf .skip (.exit 0)) Yt)))
abbrev Yv:AC:= .seq (.block 3 (.seq (.run [.o 25 (.bM dH dY 13), .o 26 (.load eQ true 13), .o 7 (.alloc [(.int .i64 0),(.int .i64 0),(.slice .full 0 []),(.str []),(.str []),(.int .i64 0),(.int .i64 0),(.str []),(.slice .full 0 []),(.bool false),(.slice .full 0 []),(.slice .full 0 []),(.slice .full 0 [])]), .op none none (.store bU fu 13)]) (.run [.m 27 cP, .o 28 (.load bU true 13), .c 29 j8 [fH], .o 30 (.bin .add fb fI), .m 3 gn]))) (.run [.o 31 (.bin .add dY (.k (.int .i64 1))), .m 23 fz])
abbrev Yw:AC:= .block 2 (.loop (.seq (.run [.o 24 (.bin .lss dY dQ)]) (.seq (.cond eK .skip (.exit 2)) Yv)))
abbrev Yx:AC:= .seq (.seq (.run [.o 20 (.aw a8 12), .o 21 (.load dJ false 1), .o 22 (.len dH), .o 23 (.mv (.k (.int .i64 0)))]) Yw) (.seq (.run [.m 32 cP, .m 2 ga]) .ret)
abbrev Yy:AC:= .seq (.seq (.run [.o 8 (.aw a8 11), .o 9 (.load cu false 1), .o 10 (.len cQ), .o 11 (.mv (.k (.int .i64 0)))]) Yu) Yx
abbrev Yz:AC:= .seq (.run [.o 1 (.box bC), .o 2 (.mv (.k (.int .i64 0)))]) (.seq (.run [.o 3 (.mv (.k (.int .i64 1)))]) Yy)
abbrev YA:AC:= .cond cy (.seq (.run [.o 2 (.mv (.k (.bool false)))]) .ret) .skip
abbrev YB:AC:= .seq (.block 1 (.seq (.run [.o 9 (.bM bF bU 1), .o 10 (.load cQ false 1), .m 4 cj]) (.seq (.run [.m 11 dq, .c 12 gB [bZ], .o 13 (.un .not cf)]) YA))) (.run [.o 14 (.bin .add bU (.k (.int .i64 1))), .m 7 cB])
abbrev YC:AC:= .block 0 (.loop (.seq (.run [.o 8 (.bin .lss bU cJ)]) (.seq (.cond cu .skip (.exit 0)) YB)))
abbrev YD:AC:= .seq (.seq (.run [.m 5 bC, .o 6 (.len bF), .o 7 (.mv (.k (.int .i64 0)))]) YC) (.seq (.run [.o 2 (.mv (.k (.bool true)))]) .ret)
abbrev YE:AC:= .seq (.run [.o 2 (.mv (.k (.bool false)))]) YD
abbrev YF:AC:= .cond cz (.seq (.run [.o 2 (.mv (.k (.bool false)))]) .ret) .skip
abbrev YG:AC:= .cond gG (.seq (.run [.o 2 (.mv (.k (.bool false)))]) .ret) .skip
abbrev YH:AC:= .block 1 (.seq (.run [.m 23 bC, .m 24 cP, .o 25 (.qU dY eK), .c 26 oB [eQ], .o 27 (.un .not fu), .m 28 fb, .g 29 28 true (.mv bC), .g 30 28 true (.mv cP), .g 31 28 true (.qU fI gn), .d 32 28 true rj [fz], .g 33 28 true (.un .not ga), .o 34 (.pick fH gb (.k (.bool false)))]) YG)
abbrev YI:AC:= .seq (.seq (.run [.m 17 cP, .m 18 bC, .o 19 (.oX dd), .o 20 (.bin .lss db du)]) (.cond dJ .skip (.exit 0))) (.seq YH (.run [.m 21 cP, .o 22 (.bin .add dH (.k (.int .i64 1))), .m 3 dQ]))
abbrev YJ:AC:= .seq (.seq (.run [.o 3 (.mv (.k (.int .i64 1)))]) (.block 0 (.loop YI))) (.seq (.run [.m 35 bC, .c 36 sN [gH], .o 37 (.un .not ik), .m 2 il]) .ret)
abbrev YK:AC:= .seq (.seq (.run [.m 4 bC, .o 5 (.bin .eql dq (.k (.str []))), .m 6 bF, .g 7 6 false (.mv bC), .g 8 6 false (.oX bU), .g 9 6 false (.bin .gtr cu (.k (.int .i64 8))), .o 10 (.pick cJ (.k (.bool true)) cQ), .m 11 cj, .g 12 11 false (.mv bC), .g 13 11 false (.qU cf (.k (.int .i64 0))), .d 14 11 false oB [cy], .g 15 11 false (.un .not cB), .o 16 (.pick bZ (.k (.bool true)) da)]) YF) YJ
abbrev YL:AC:= .seq (.run [.o 2 (.mv (.k (.bool false)))]) YK
abbrev YM:AC:= .run [.o 8 (.aw a8 1), .o 9 (.load cu false 1), .o 10 (.bin .eql cQ (.k (.int .i64 1))), .m 11 cj, .g 12 11 false (.aw a8 1), .g 13 11 false (.load cf false 1), .g 14 11 false (.bin .eql cy (.k (.int .i64 3))), .o 15 (.pick bZ (.k (.bool true)) cB), .m 16 da, .g 17 16 false (.aw a8 1), .g 18 16 false (.load db false 1), .g 19 16 false (.bin .eql dd (.k (.int .i64 5))), .o 20 (.pick cz (.k (.bool true)) du), .m 21 dJ, .g 22 21 false (.aw a8 1), .g 23 21 false (.load dQ false 1), .g 24 21 false (.bin .eql dY (.k (.int .i64 6))), .o 25 (.pick dH (.k (.bool true)) eK), .m 26 eQ, .g 27 26 false (.aw a8 1), .g 28 26 false (.load fb false 1), .g 29 26 false (.bin .eql fH (.k (.int .i64 9))), .g 30 26 false (.mv fI), .g 31 30 true (.aw a8 9), .g 32 30 true (.load fz false 1), .g 33 26 false (.pick gn ga (.k (.bool false))), .o 34 (.pick fu (.k (.bool true)) gb), .m 3 gG]
abbrev YN:AC:= .run [.o 51 (.aw a8 1), .o 52 (.load lI false 1), .o 53 (.bin .lss mY (.k (.int .i64 1))), .m 54 mZ, .g 55 54 false (.aw a8 1), .g 56 54 false (.load nc false 1), .g 57 54 false (.bin .gtr oC (.k (.int .i64 10))), .o 58 (.pick na (.k (.bool true)) nf), .m 59 oD, .g 60 59 false (.aw a8 2), .g 61 59 false (.load qo false 1), .d 62 59 false kE [rm], .g 63 59 false (.un .not rn), .o 64 (.pick mq (.k (.bool true)) qp), .m 65 qq, .g 66 65 false (.mv cP), .g 67 65 false (.mv vI), .g 68 67 true (.aw a8 5), .g 69 67 true (.load tZ true 4), .d 70 67 true kD [vJ], .g 71 67 true (.un .not vK), .g 72 65 false (.pick tY zC (.k (.bool false))), .o 73 (.pick tX (.k (.bool true)) xD), .m 74 zD, .g 75 74 false (.mv cP), .g 76 74 false (.un .not zE), .g 77 74 false (.mv ub), .g 78 77 true (.aw a8 5), .g 79 77 true (.load vL true 4), .d 80 77 true pG [CZ], .g 81 77 true (.un .not xF), .g 82 74 false (.pick zF C0 (.k (.bool false))), .o 83 (.pick xE (.k (.bool true)) zG), .m 84 C1, .g 85 84 false (.aw a8 9), .g 86 84 false (.load C2 false 1), .g 87 84 false (.mv C3), .g 88 87 true (.aw a8 1), .g 89 87 true (.load C5 false 1), .g 90 87 true (.bin .neq C6 (.k (.int .i64 9))), .g 91 84 false (.pick C4 C7 (.k (.bool false))), .o 92 (.pick xG (.k (.bool true)) C8)]
abbrev YO:AC:= .cond C9 (.seq (.run [.o 2 (.mv (.k (.bool false)))]) .ret) .skip
abbrev YP:AC:= .run [.m 93 dq, .m 94 Hc, .g 95 94 true (.aw a8 3), .g 96 94 true (.load He false 1), .d 97 94 true gB [LV], .g 98 94 true (.un .not LW), .o 99 (.pick Hd LX (.k (.bool false))), .m 100 LY, .g 101 100 false (.mv dq), .g 102 100 false (.un .not Hg), .g 103 100 false (.mv Hh), .g 104 103 true (.aw a8 3), .g 105 103 true (.load Hj false 1), .g 106 103 true (.bin .neq Hk (.k (.str []))), .g 107 100 false (.pick Hi Hl (.k (.bool false))), .g 108 100 false (.mv Hm), .g 109 108 true (.mv bF), .g 110 108 true (.mv Ho), .g 111 110 true (.aw a8 3), .g 112 110 true (.load NR false 1), .d 113 110 true gB [NS], .g 114 108 true (.pick NQ NT (.k (.bool false))), .g 115 108 true (.un .not NU), .g 116 100 false (.pick Hn NV (.k (.bool false))), .o 117 (.pick Hf (.k (.bool true)) NW)]
abbrev YQ:AC:= .cond NY (.seq (.run [.o 2 (.mv (.k (.bool false)))]) .ret) .skip
abbrev YR:AC:= .run [.m 118 bF, .o 119 (.aw a8 4), .o 120 (.load N0 false 1), .o 121 (.bin .neq N1 (.k (.str []))), .o 122 (.x4 true NZ N2), .m 123 N3, .g 124 123 false (.mv bF), .g 125 123 false (.mv TP), .g 126 125 true (.aw a8 4), .g 127 125 true (.load TR false 1), .d 128 125 true gB [TS], .g 129 125 true (.un .not TT), .g 130 123 false (.pick TQ TU (.k (.bool false))), .o 131 (.pick TO (.k (.bool true)) TV), .m 132 TW, .g 133 132 false (.mv bF), .g 134 132 false (.un .not TY), .g 135 132 false (.mv T4), .g 136 135 true (.aw a8 10), .g 137 135 true (.load T6 false 1), .g 138 135 true (.len T7), .g 139 135 true (.bin .gtr T8 (.k (.int .i64 0))), .g 140 132 false (.pick T5 T9 (.k (.bool false))), .o 141 (.pick TX (.k (.bool true)) Ua)]
abbrev YS:AC:= .cond Ub (.seq (.run [.o 2 (.mv (.k (.bool false)))]) .ret) .skip
abbrev YT:AC:= .cond Uj (.seq (.run [.o 2 (.mv (.k (.bool false)))]) .ret) .skip
abbrev YU:AC:= .seq (.block 1 (.seq (.run [.o 147 (.bM N4 Hp 6), .o 148 (.load Uf true 6), .o 7 (.alloc [(.bool false),(.str []),(.int .i64 0),(.int .i64 0),(.str []),(.slice .full 0 [])]), .op none none (.store bU Ug 6)]) (.seq (.run [.o 149 (.load bU true 6), .c 150 tW [Uh], .o 151 (.un .not Ui)]) YT))) (.run [.o 152 (.bin .add Hp (.k (.int .i64 1))), .m 145 Uk])
abbrev YV:AC:= .block 0 (.loop (.seq (.run [.o 146 (.bin .lss Hp Ud)]) (.seq (.cond Ue .skip (.exit 0)) YU)))
abbrev YW:AC:= .run [.o 153 (.aw a8 11), .o 154 (.load Ul false 1), .o 155 (.len Um), .o 156 (.bin .eql Un (.k (.int .i64 0))), .m 157 Uo, .g 158 157 false (.aw a8 1), .g 159 157 false (.load Uq false 1), .g 160 157 false (.bin .eql Ur (.k (.int .i64 5))), .o 161 (.pick Up (.k (.bool true)) Us), .m 162 Ut, .g 163 162 false (.aw a8 1), .g 164 162 false (.load Uv false 1), .g 165 162 false (.bin .eql Uw (.k (.int .i64 6))), .o 166 (.pick Uu (.k (.bool true)) Ux), .m 167 Uy, .g 168 167 true (.aw a8 12), .g 169 167 true (.load UA false 1), .g 170 167 true (.len UB), .g 171 167 true (.bin .eql UC (.k (.int .i64 0))), .g 172 167 true (.mv UD), .g 173 172 false (.aw a8 1), .g 174 172 false (.load UF false 1), .g 175 172 false (.bin .eql UG (.k (.int .i64 5))), .g 176 167 true (.pick UE (.k (.bool true)) UH), .o 177 (.pick Uz UI (.k (.bool false))), .m 2 UJ]
abbrev Rt:AC:= .seq (.seq (.run [.o 142 (.aw a8 10), .o 143 (.load Uc false 1), .o 144 (.len N4), .o 145 (.mv (.k (.int .i64 0)))]) YV) (.seq YW .ret)
abbrev Ru:AC:= .seq (.seq YR YS) Rt
abbrev Rv:AC:= .seq (.seq YP YQ) Ru
abbrev Rw:AC:= .seq (.seq YN YO) Rv
abbrev Rx:AC:= .seq (.run [.o 48 (.aw a8 1), .o 49 (.load mW false 1), .o 50 (.bin .eql k6 (.k (.int .i64 4))), .m 5 mX]) Rw
abbrev Ry:AC:= .seq (.run [.o 35 (.aw a8 1), .o 36 (.load gH false 1), .o 37 (.bin .eql ik (.k (.int .i64 1))), .m 38 il, .g 39 38 false (.aw a8 1), .g 40 38 false (.load iU false 1), .g 41 38 false (.bin .eql lE (.k (.int .i64 2))), .o 42 (.pick jt (.k (.bool true)) kF), .m 43 lF, .g 44 43 false (.aw a8 1), .g 45 43 false (.load lH false 1), .g 46 43 false (.bin .eql mT (.k (.int .i64 10))), .o 47 (.pick lG (.k (.bool true)) mU), .m 4 mV]) Rx
abbrev Rz:AC:= .seq YM Ry
abbrev YX:AC:= .seq (.run [.o 1 (.box bC), .o 2 (.mv (.k (.bool false)))]) Rz
abbrev YY:AC:= .seq (.run [.o 1 (.box bC), .o 2 (.mv (.k (.bool false)))]) (.seq (.run [.o 3 (.load a8 true 4), .c 4 ny [cP,(.k (.int .i64 20))], .m 2 dq]) .ret)
abbrev YZ:AC:= .seq (.block 1 (.seq (.run [.o 27 (.bM dY eQ 4), .o 28 (.load fb true 4), .o 6 (.alloc [(.int .i64 0),(.int .i64 0),(.str []),(.slice .full 0 [])]), .op none none (.store cJ fH 4)]) (.run [.o 29 (.load cJ true 4), .m 30 a8, .c 31 gh [fI,gn], .m 1 fz]))) (.run [.o 32 (.bin .add eQ (.k (.int .i64 1))), .m 25 ga])
abbrev Y0:AC:= .block 0 (.loop (.seq (.run [.o 26 (.bin .lss eQ eK)]) (.seq (.cond fu .skip (.exit 0)) YZ)))
abbrev Y1:AC:= .seq (.seq (.run [.o 22 (.aw cO 3), .o 23 (.load dQ false 1), .o 24 (.len dY), .o 25 (.mv (.k (.int .i64 0)))]) Y0) (.seq (.run [.m 33 a8, .m 4 gb]) .ret)
abbrev Y2:AC:= .seq (.seq (.run [.o 7 (.aw cO 0), .o 8 (.load bU false 1), .o 9 (.bin .eql cu (.k (.int .i64 2))), .m 10 cQ, .g 11 10 true (.mv a8), .g 12 10 true (.aw cO 2), .g 13 10 true (.load cf false 1), .d 14 10 true cA [bZ,cy], .g 15 10 true (.un .not cB), .o 16 (.pick cj da (.k (.bool false)))]) (.cond cz (.run [.m 17 a8, .o 18 (.aw cO 2), .o 19 (.load dd false 1), .o 20 (.cR [(.str [])] 1 1 [(0,du)]), .o 21 (.app 1 16 db dJ), .m 1 dH]) .skip)) Y1
abbrev Y3:AC:= .seq (.run [.o 2 (.box bC), .o 4 (.mv (.k (.slice .full 0 [])))]) Y2
end Go.Abs

/-! Have2 -/

namespace Go.Abs
open Go.Proofs
theorem zL:Has Tryz.prog kB 22 [(4,(some (true,5))),(5,none)] QZA:=⟨Tryz.f80,by kernel_rfl,by kernel_rfl⟩
theorem zM:Has Tryz.prog kC 25 [(2,none)] W6:=⟨Tryz.f81,by kernel_rfl,by kernel_rfl⟩
theorem yF:Has Tryz.prog ql 20 [(2,none)] Xa:=⟨Tryz.f82,by kernel_rfl,by kernel_rfl⟩
theorem BB:Has Tryz.prog sL 39 [(6,none)] Xk:=⟨Tryz.f83,by kernel_rfl,by kernel_rfl⟩
theorem yG:Has Tryz.prog lp 40 [(2,none)] Xs:=⟨Tryz.f84,by kernel_rfl,by kernel_rfl⟩
theorem oS:Has Tryz.prog e7 19 [(4,none)] Xx:=⟨Tryz.f85,by kernel_rfl,by kernel_rfl⟩
theorem tg:Has Tryz.prog jx 8 [(3,none)] Xy:=⟨Tryz.f86,by kernel_rfl,by kernel_rfl⟩
theorem ti:Has Tryz.prog oy 8 [(2,none)] XB:=⟨Tryz.f87,by kernel_rfl,by kernel_rfl⟩
theorem pY:Has Tryz.prog iT 19 [(4,none)] XG:=⟨Tryz.f90,by kernel_rfl,by kernel_rfl⟩
theorem zN:Has Tryz.prog ri 37 [(6,none)] XQ:=⟨Tryz.f91,by kernel_rfl,by kernel_rfl⟩
theorem xJ:Has Tryz.prog kD 10 [(2,none)] XR:=⟨Tryz.f95,by kernel_rfl,by kernel_rfl⟩
theorem qt:Has Tryz.prog ix 28 [(4,none)] XV:=⟨Tryz.f96,by kernel_rfl,by kernel_rfl⟩
theorem zO:Has Tryz.prog oz 9 [(2,none)] XW:=⟨Tryz.f99,by kernel_rfl,by kernel_rfl⟩
theorem Es:Has Tryz.prog vF 24 [(4,none)] XY:=⟨Tryz.f100,by kernel_rfl,by kernel_rfl⟩
theorem Dg:Has Tryz.prog tU 18 [(2,none)] Yd:=⟨Tryz.f101,by kernel_rfl,by kernel_rfl⟩
theorem yH:Has Tryz.prog qm 93 [(2,none)] Ys:=⟨Tryz.f102,by kernel_rfl,by kernel_rfl⟩
theorem BD:Has Tryz.prog j8 33 [(2,none)] Yz:=⟨Tryz.f104,by kernel_rfl,by kernel_rfl⟩
theorem zP:Has Tryz.prog kE 15 [(2,none)] YE:=⟨Tryz.f105,by kernel_rfl,by kernel_rfl⟩
theorem uJ:Has Tryz.prog gB 38 [(2,none)] YL:=⟨Tryz.f106,by kernel_rfl,by kernel_rfl⟩
theorem Dh:Has Tryz.prog tV 178 [(2,none)] YX:=⟨Tryz.f107,by kernel_rfl,by kernel_rfl⟩
theorem xK:Has Tryz.prog mF 5 [(2,none)] YY:=⟨Tryz.f108,by kernel_rfl,by kernel_rfl⟩
theorem oG:Has Tryz.prog gh 34 [(4,none)] Y3:=⟨Tryz.f109,by kernel_rfl,by kernel_rfl⟩
end Go.Abs

/-! Codes3 -/

namespace Go.Abs
abbrev Y4:AC:= .cond cQ (.seq (.run [.o 4 (.mv (.k (.int .i64 1)))]) .ret) .skip
abbrev Y5:AC:= .block 1 (.seq (.run [.o 22 (.aw cO 3), .o 23 (.load dQ false 1), .m 24 cJ, .o 25 (.bM dY eK 4), .o 26 (.load eQ true 4), .m 27 a8, .o 28 (.bin .sub fb (.k (.int .i64 1))), .c 29 nu [fu,fH], .m 7 fI]) (.seq (.run [.m 30 bU, .m 31 bF, .o 32 (.bin .gtr gn fz)]) (.cond ga (.run [.m 33 bU, .m 5 gb]) .skip)))
abbrev Y6:AC:= .seq (.seq (.run [.m 10 cJ, .o 11 (.aw cO 3), .o 12 (.load bZ false 1), .o 13 (.len cf), .o 14 (.bin .lss cj cy), .m 15 cB, .g 16 15 true (.mv bF), .g 17 15 true (.mv a8), .g 18 15 true (.bin .lss cz db), .o 19 (.pick da dd (.k (.bool false)))]) (.cond du .skip (.exit 0))) (.seq Y5 (.run [.m 20 cJ, .o 21 (.bin .add dJ (.k (.int .i64 1))), .m 6 dH]))
abbrev Y7:AC:= .seq (.seq (.run [.o 6 (.mv (.k (.int .i64 0)))]) (.block 0 (.loop Y6))) (.seq (.run [.m 34 bF, .o 35 (.bin .add gG (.k (.int .i64 1))), .m 4 gH]) .ret)
abbrev Y8:AC:= .seq (.seq (.run [.m 8 a8, .o 9 (.bin .eql cu (.k (.int .i64 0)))]) Y4) (.seq (.run [.o 5 (.mv (.k (.int .i64 0)))]) Y7)
abbrev Y9:AC:= .seq (.run [.o 2 (.box bC), .o 4 (.mv (.k (.int .i64 0)))]) Y8
abbrev Za:AC:= .par [.o 4 (.aw a8 0), .o 5 (.load dq false 1), .c 6 rk [bF], .o 7 (.aw a8 3), .o 8 (.load bU false 1), .o 9 (.len cu), .o 10 (.bin .neq cJ cQ), .m 11 cj, .g 12 11 false (.aw a8 0), .g 13 11 false (.load cf false 1), .g 14 11 false (.bin .neq cy (.k (.int .i64 1))), .g 15 11 false (.mv cB), .g 16 15 true (.aw a8 1), .g 17 15 true (.load cz false 1), .g 18 15 true (.bin .neq db (.k (.int .i64 0))), .g 19 11 false (.pick da dd (.k (.bool false))), .o 20 (.pick bZ (.k (.bool true)) du), .m 21 dJ, .g 22 21 false (.aw a8 1), .g 23 21 false (.load dQ false 1), .g 24 21 false (.bin .lss dY (.k (.int .i64 0))), .o 25 (.pick dH (.k (.bool true)) eK), .m 26 eQ, .g 27 26 false (.aw a8 0), .g 28 26 false (.load fb false 1), .g 29 26 false (.bin .eql fH (.k (.int .i64 2))), .g 30 26 false (.aw a8 2), .g 31 26 false (.load gn false 1), .g 32 26 false (.bin .neq fz (.k (.str []))), .g 33 26 false (.x4 true fI ga), .o 34 (.pick fu (.k (.bool true)) gb), .m 35 gG, .g 36 35 false (.aw a8 2), .g 37 35 false (.load ik false 1), .g 38 35 false (.bin .neq il (.k (.str []))), .g 39 35 false (.mv jt), .g 40 39 true (.aw a8 2), .g 41 39 true (.load lE false 1), .d 42 39 true gB [kF], .g 43 39 true (.un .not lF), .g 44 35 false (.pick iU lG (.k (.bool false))), .o 45 (.pick gH (.k (.bool true)) lH)] [(0,0),(1,0),(2,0),(3,0),(4,1),(5,0),(6,0),(7,0),(8,0),(9,0),(10,0),(11,0),(12,0),(13,0),(14,0),(15,0),(16,0),(17,0),(18,0),(19,0),(20,0),(21,0),(22,0),(23,0),(24,0),(25,0),(26,0),(27,0),(28,0),(29,0),(30,0),(31,0),(32,0),(33,0),(34,0),(35,0),(36,0),(37,0),(38,0),(39,0),(40,0),(41,0)]
abbrev Zb:AC:= .cond mT (.seq (.run [.o 2 (.mv (.k (.bool false)))]) .ret) .skip
abbrev Zc:AC:= .cond oD (.seq (.run [.o 2 (.mv (.k (.bool false)))]) .ret) .skip
abbrev Zd:AC:= .seq (.block 1 (.seq (.run [.m 51 k6, .m 3 lI]) (.seq (.run [.o 52 (.aw a8 3), .o 53 (.load mY false 1), .m 54 cP, .o 55 (.bM mZ na 4), .o 56 (.load nc true 4), .c 57 nw [oC], .o 58 (.un .not nf)]) Zc))) (.run [.o 59 (.bin .add k6 (.k (.int .i64 1))), .m 49 mq])
abbrev Ze:AC:= .block 0 (.loop (.seq (.run [.o 50 (.bin .lss k6 mW)]) (.seq (.cond mX .skip (.exit 0)) Zd)))
abbrev Zf:AC:= .seq (.seq (.run [.o 46 (.aw a8 3), .o 47 (.load mU false 1), .o 48 (.len mV), .o 49 (.mv (.k (.int .i64 0)))]) Ze) (.seq (.run [.o 2 (.mv (.k (.bool true)))]) .ret)
abbrev Zg:AC:= .seq (.run [.o 1 (.box bC), .o 2 (.mv (.k (.bool false)))]) (.seq (.seq Za Zb) Zf)
abbrev Zh:AC:= .block 1 (.seq (.run [.o 11 (.bM bU cQ 1), .o 12 (.load bZ false 1), .m 6 cf]) (.seq (.run [.m 13 cJ, .m 14 a8, .o 15 (.bin .eql cy cB)]) (.cond da (.seq (.run [.m 16 bC, .m 4 cz]) .ret) .skip)))
abbrev Zi:AC:= .seq (.cond cj .skip (.exit 0)) (.seq Zh (.run [.o 17 (.bin .add cQ (.k (.int .i64 1))), .m 9 db]))
abbrev Zj:AC:= .seq (.run [.m 7 bC, .o 8 (.len bU), .o 9 (.mv (.k (.int .i64 0)))]) (.block 0 (.loop (.seq (.run [.o 10 (.bin .lss cQ cu)]) Zi)))
abbrev Zk:AC:= .seq (.run [.o 4 (.mv (.k (.slice .full 0 [])))]) (.seq Zj (.seq (.run [.m 18 bC, .m 19 a8, .o 20 (.cR [(.str [])] 1 1 [(0,du)]), .o 21 (.app 1 16 dd dJ), .m 4 dH]) .ret))
abbrev Zl:AC:= .seq (.run [.o 2 (.mv (.k (.bool false)))]) (.seq (.run [.m 3 bC, .o 4 (.bin .geq cP (.k (.int .u8 48))), .m 5 dq, .g 6 5 true (.mv bC), .g 7 5 true (.bin .leq cJ (.k (.int .u8 57))), .o 8 (.pick bF bU (.k (.bool false))), .m 2 cu]) .ret)
abbrev Zm:AC:= .seq (.run [.o 4 (.mv (.k (.bool false)))]) (.seq (.run [.m 5 a8, .m 6 bF, .g 7 6 true (.mv bC), .d 8 6 true kZ [bU], .o 9 (.pick cJ cu (.k (.bool false))), .m 10 cQ, .g 11 10 false (.mv a8), .g 12 10 false (.un .not bZ), .g 13 10 false (.mv cf), .g 14 13 true (.mv bC), .g 15 13 true (.bin .eql cB (.k (.str []))), .g 16 10 false (.pick cy da (.k (.bool false))), .o 17 (.pick cj (.k (.bool true)) cz), .m 4 db]) .ret)
abbrev Zn:AC:= .seq (.run [.o 2 (.box bC), .o 4 (.mv (.k (.bool false)))]) (.seq (.run [.m 5 a8, .m 6 bF, .g 7 6 true (.load cO true 4), .d 8 6 true mF [bU], .o 9 (.pick cJ cu (.k (.bool false))), .m 10 cQ, .g 11 10 false (.mv a8), .g 12 10 false (.un .not bZ), .g 13 10 false (.mv cf), .g 14 13 true (.load cO true 4), .d 15 13 true sO [cB], .g 16 10 false (.pick cy da (.k (.bool false))), .o 17 (.pick cj (.k (.bool true)) cz), .m 4 db]) .ret)
abbrev Zo:AC:= .cond eQ (.seq (.run [.o 2 (.mv (.k (.bool false)))]) .ret) .skip
abbrev Zp:AC:= .seq (.run [.o 9 (.bM bF bU 6), .o 10 (.load cQ true 6), .o 4 (.alloc [(.bool false),(.str []),(.int .i64 0),(.int .i64 0),(.str []),(.slice .full 0 [])]), .op none none (.store dq cj 6)]) (.seq (.run [.o 11 (.aw dq 1), .o 12 (.load bZ false 1), .o 13 (.aw dq 0), .o 14 (.load cy false 1), .c 15 mn [cf,cB], .o 16 (.un .not da), .m 17 cz, .g 18 17 false (.aw dq 2), .g 19 17 false (.load dd true 4), .g 20 17 false (.aw dq 0), .g 21 17 false (.load dJ false 1), .g 22 17 false (.un .not dH), .d 23 17 false oA [du,dQ], .g 24 17 false (.un .not dY), .o 25 (.pick db (.k (.bool true)) eK)]) Zo)
abbrev Zq:AC:= .seq (.cond cu .skip (.exit 0)) (.seq (.block 1 Zp) (.run [.o 26 (.bin .add bU (.k (.int .i64 1))), .m 7 fu]))
abbrev Zr:AC:= .seq (.run [.m 5 bC, .o 6 (.len bF), .o 7 (.mv (.k (.int .i64 0)))]) (.block 0 (.loop (.seq (.run [.o 8 (.bin .lss bU cJ)]) Zq)))
abbrev Zs:AC:= .seq Zr (.seq (.run [.o 2 (.mv (.k (.bool true)))]) .ret)
abbrev Zt:AC:= .seq (.run [.o 2 (.mv (.k (.bool false)))]) Zs
abbrev Zu:AC:= .seq (.run [.o 2 (.mv (.k (.bool false)))]) (.seq (.run [.m 3 bC, .o 4 (.bin .geq cP (.k (.int .u8 97))), .m 5 dq, .g 6 5 true (.mv bC), .g 7 5 true (.bin .leq cJ (.k (.int .u8 122))), .o 8 (.pick bF bU (.k (.bool false))), .m 2 cu]) .ret)
abbrev Zv:AC:= .seq (.run [.o 2 (.mv (.k (.bool false)))]) (.seq (.run [.m 3 bC, .o 4 (.bin .geq cP (.k (.int .u8 48))), .m 5 dq, .g 6 5 true (.mv bC), .g 7 5 true (.bin .leq cJ (.k (.int .u8 57))), .o 8 (.pick bF bU (.k (.bool false))), .m 2 cu]) .ret)
abbrev Zw:AC:= .cond cy (.seq (.run [.o 2 (.mv (.k (.bool true)))]) .ret) .skip
abbrev Zx:AC:= .seq (.block 1 (.seq (.run [.o 9 (.bM bF bU 1), .o 10 (.load cQ false 1), .m 4 cj]) (.seq (.run [.m 11 dq, .m 12 bC, .o 13 (.bin .eql bZ cf)]) Zw))) (.run [.o 14 (.bin .add bU (.k (.int .i64 1))), .m 7 cB])
abbrev Zy:AC:= .block 0 (.loop (.seq (.run [.o 8 (.bin .lss bU cJ)]) (.seq (.cond cu .skip (.exit 0)) Zx)))
abbrev Zz:AC:= .seq (.seq (.run [.c 5 rl [], .o 6 (.len bF), .o 7 (.mv (.k (.int .i64 0)))]) Zy) (.seq (.run [.o 2 (.mv (.k (.bool false)))]) .ret)
abbrev ZA:AC:= .seq (.run [.o 2 (.mv (.k (.bool false)))]) Zz
abbrev ZB:AC:= .seq (.run [.o 1 (.box bC), .o 2 (.mv (.k (.bool false)))]) (.seq (.run [.o 3 (.aw a8 0), .o 4 (.load cP false 1), .o 5 (.bin .eql dq (.k (.int .i64 0))), .m 6 bF, .g 7 6 true (.aw a8 1), .g 8 6 true (.load bU false 1), .g 9 6 true (.bin .eql cu (.k (.int .i64 0))), .o 10 (.pick cJ cQ (.k (.bool false))), .m 11 cj, .g 12 11 true (.aw a8 2), .g 13 11 true (.load cf false 1), .g 14 11 true (.bin .eql cy (.k (.str []))), .o 15 (.pick bZ cB (.k (.bool false))), .m 16 da, .g 17 16 true (.aw a8 3), .g 18 16 true (.load db false 1), .g 19 16 true (.len dd), .g 20 16 true (.bin .eql du (.k (.int .i64 0))), .o 21 (.pick cz dJ (.k (.bool false))), .m 2 dH]) .ret)
abbrev ZC:AC:= .cond dq (.seq (.run [.o 5 (.aw a8 1), .o 6 (.load bF false 1), .c 7 gB [cJ], .m 8 bU, .g 9 8 true (.aw a8 2), .g 10 8 true (.load cQ true 4), .d 11 8 true pG [cj], .o 12 (.pick cu bZ (.k (.bool false))), .m 2 cf]) .ret) .skip
abbrev ZD:AC:= .seq (.seq (.run [.o 3 (.aw a8 0), .o 4 (.load cP false 1)]) ZC) (.seq (.run [.o 13 (.aw a8 1), .o 14 (.load cy false 1), .o 15 (.bin .eql cB (.k (.str []))), .m 16 da, .g 17 16 true (.aw a8 2), .g 18 16 true (.load db true 4), .d 19 16 true kD [dd], .o 20 (.pick cz du (.k (.bool false))), .m 2 dJ]) .ret)
abbrev ZE:AC:= .seq (.run [.o 1 (.box bC), .o 2 (.mv (.k (.bool false)))]) ZD
abbrev ZF:AC:= .par [.m 7 a8, .o 8 (.bin .lss bU (.k (.int .i64 1))), .m 9 cu, .g 10 9 false (.aw cO 3), .g 11 9 false (.load cj false 1), .g 12 9 false (.len bZ), .g 13 9 false (.aw cO 0), .g 14 9 false (.load cy false 1), .d 15 9 false sP [cB], .g 16 9 false (.bin .neq cf da), .o 17 (.pick cQ (.k (.bool true)) cz)] [(0,0),(1,0),(2,0),(6,0),(7,0),(8,0),(3,0),(4,1),(5,0),(9,0),(10,0)]
abbrev ZG:AC:= .cond db (.seq (.run [.o 4 (.mv (.k (.bool false)))]) .ret) .skip
abbrev ZH:AC:= .cond gn (.seq (.run [.o 32 (.aw cO 1), .o 33 (.load ga false 1), .o 34 (.bin .eql gb (.k (.int .i64 0))), .m 35 gG, .g 36 35 true (.aw cO 2), .g 37 35 true (.load ik false 1), .d 38 35 true kZ [il], .o 39 (.pick gH jt (.k (.bool false))), .m 4 iU]) .ret) .skip
abbrev ZI:AC:= .cond dJ (.seq (.run [.o 22 (.aw cO 1), .o 23 (.load dQ false 1), .o 24 (.bin .geq dY (.k (.int .i64 0))), .m 25 eK, .g 26 25 true (.aw cO 2), .g 27 25 true (.load fu false 1), .g 28 25 true (.bin .eql fb (.k (.str []))), .o 29 (.pick eQ fH (.k (.bool false))), .m 4 fI]) .ret) (.seq (.run [.o 31 (.bin .eql du (.k (.int .i64 2))), .m 30 fz]) ZH)
abbrev ZJ:AC:= .block 0 (.seq (.run [.o 21 (.bin .eql du (.k (.int .i64 1))), .m 20 dH]) ZI)
abbrev ZK:AC:= .cond mV (.seq (.run [.o 4 (.mv (.k (.bool false)))]) .ret) .skip
abbrev ZL:AC:= .cond mq (.seq (.run [.o 4 (.mv (.k (.bool false)))]) .ret) .skip
abbrev ZM:AC:= .seq (.run [.o 53 (.bM k6 lI 4), .o 54 (.load mZ true 4), .o 6 (.alloc [(.int .i64 0),(.int .i64 0),(.str []),(.slice .full 0 [])]), .op none none (.store cJ na 4)]) (.seq (.run [.o 55 (.load cJ true 4), .m 56 a8, .o 57 (.bin .sub oC (.k (.int .i64 1))), .c 58 ny [nc,nf], .o 59 (.un .not oD)]) ZL)
abbrev ZN:AC:= .seq (.cond mY .skip (.exit 1)) (.seq (.block 2 ZM) (.run [.o 60 (.bin .add lI (.k (.int .i64 1))), .m 51 qo]))
abbrev ZO:AC:= .seq (.run [.o 48 (.aw cO 3), .o 49 (.load mW false 1), .o 50 (.len k6), .o 51 (.mv (.k (.int .i64 0)))]) (.block 1 (.loop (.seq (.run [.o 52 (.bin .lss lI mX)]) ZN)))
abbrev ZP:AC:= .seq ZO (.seq (.run [.o 4 (.mv (.k (.bool true)))]) .ret)
abbrev ZQ:AC:= .seq (.seq (.run [.o 40 (.aw cO 1), .o 41 (.load lE false 1), .o 42 (.bin .neq kF (.k (.int .i64 0))), .m 43 lF, .g 44 43 false (.aw cO 2), .g 45 43 false (.load lH false 1), .g 46 43 false (.bin .neq mT (.k (.str []))), .o 47 (.pick lG (.k (.bool true)) mU)]) ZK) ZP
abbrev ZR:AC:= .seq (.run [.o 2 (.box bC), .o 4 (.mv (.k (.bool false)))]) (.seq (.seq ZF ZG) (.seq (.seq (.run [.o 18 (.aw cO 0), .o 19 (.load dd false 1)]) ZJ) ZQ))
abbrev ZS:AC:= .cond db (.seq (.run [.o 2 (.mv (.k (.int .i64 2)))]) .ret) .skip
abbrev ZT:AC:= .cond cj (.seq (.run [.o 2 (.mv (.k (.int .i64 1)))]) .ret) (.seq (.run [.m 18 bC, .o 19 (.bin .geq dd (.k (.int .i64 5))), .m 20 du, .g 21 20 true (.mv bC), .g 22 20 true (.bin .leq dH (.k (.int .i64 17))), .o 23 (.pick dJ dQ (.k (.bool false))), .m 17 dY]) ZS)
abbrev ZU:AC:= .cond cP (.seq (.run [.o 2 (.mv (.k (.int .i64 0)))]) .ret) (.seq (.run [.m 11 bC, .o 12 (.bin .eql bZ (.k (.int .i64 3))), .m 13 cf, .g 14 13 false (.mv bC), .g 15 13 false (.bin .eql cB (.k (.int .i64 4))), .o 16 (.pick cy (.k (.bool true)) da), .m 10 cz]) ZT)
abbrev ZV:AC:= .block 0 (.seq (.run [.m 4 bC, .o 5 (.bin .eql dq (.k (.int .i64 1))), .m 6 bF, .g 7 6 false (.mv bC), .g 8 6 false (.bin .eql bU (.k (.int .i64 2))), .o 9 (.pick cJ (.k (.bool true)) cu), .m 3 cQ]) ZU)
abbrev ZW:AC:= .seq (.run [(.o 2 (.mv (.k (.int .i64 (-1)))))]) .ret
abbrev ZX:AC:= .seq (.run [.o 2 (.mv (.k (.int .i64 0)))]) (.seq ZV ZW)
abbrev ZY:AC:= .seq (.run [.o 1 (.box bC), .o 2 (.mv (.k (.bool false)))]) (.seq (.run [.o 3 (.aw a8 0), .o 4 (.load cP false 1), .o 5 (.bin .eql dq (.k (.int .i64 0))), .m 6 bF, .g 7 6 true (.aw a8 1), .g 8 6 true (.load bU false 1), .g 9 6 true (.bin .eql cu (.k (.int .i64 0))), .o 10 (.pick cJ cQ (.k (.bool false))), .m 11 cj, .g 12 11 true (.aw a8 2), .g 13 11 true (.load cf false 1), .g 14 11 true (.bin .eql cy (.k (.str []))), .o 15 (.pick bZ cB (.k (.bool false))), .m 16 da, .g 17 16 true (.aw a8 3), .g 18 16 true (.load db false 1), .g 19 16 true (.len dd), .g 20 16 true (.bin .eql du (.k (.int .i64 0))), .o 21 (.pick cz dJ (.k (.bool false))), .m 2 dH]) .ret)
abbrev ZZ:AC:= .seq (.run [(.o 1 (.cR [(.str [])] 1 13 [(0,(.k (.str [103,108,111,98,97,108]))),(1,(.k (.str [112,114,111,99]))),(2,(.k (.str [118,97,114]))),(3,(.k (.str [114,101,102]))),(4,(.k (.str [105,102]))),(5,(.k (.str [101,108,115,101]))),(6,(.k (.str [119,104,105,108,101]))),(7,(.k (.str [98,114,101,97,107]))),(8,(.k (.str [99,111,110,116,105,110,117,101]))),(9,(.k (.str [114,101,116,117,114,110]))),(10,(.k (.str [103,111,116,111]))),(11,(.k (.str [114,101,97,100]))),(12,(.k (.str [112,114,105,110,116])))])), .m 0 a8]) .ret
abbrev Z0:AC:= .seq (.run [.o 0 (.mv (.k (.slice .full 0 [])))]) ZZ
abbrev Z1:AC:= .cond db (.seq (.run [.o 2 (.mv (.k (.int .i64 2)))]) .ret) .skip
abbrev Z2:AC:= .cond cj (.seq (.run [.o 2 (.mv (.k (.int .i64 1)))]) .ret) (.seq (.run [.m 18 bC, .o 19 (.bin .geq dd (.k (.int .i64 5))), .m 20 du, .g 21 20 true (.mv bC), .g 22 20 true (.bin .leq dH (.k (.int .i64 17))), .o 23 (.pick dJ dQ (.k (.bool false))), .m 17 dY]) Z1)
abbrev Z3:AC:= .cond cP (.seq (.run [.o 2 (.mv (.k (.int .i64 0)))]) .ret) (.seq (.run [.m 11 bC, .o 12 (.bin .eql bZ (.k (.int .i64 3))), .m 13 cf, .g 14 13 false (.mv bC), .g 15 13 false (.bin .eql cB (.k (.int .i64 4))), .o 16 (.pick cy (.k (.bool true)) da), .m 10 cz]) Z2)
abbrev Z4:AC:= .block 0 (.seq (.run [.m 4 bC, .o 5 (.bin .eql dq (.k (.int .i64 1))), .m 6 bF, .g 7 6 false (.mv bC), .g 8 6 false (.bin .eql bU (.k (.int .i64 2))), .o 9 (.pick cJ (.k (.bool true)) cu), .m 3 cQ]) Z3)
abbrev Z5:AC:= .seq (.run [(.o 2 (.mv (.k (.int .i64 (-1)))))]) .ret
abbrev Z6:AC:= .seq (.run [.o 2 (.mv (.k (.int .i64 0)))]) (.seq Z4 Z5)
end Go.Abs

/-! Have3 -/

namespace Go.Abs
open Go.Proofs
theorem uK:Has Tryz.prog nu 36 [(4,none)] Y9:=⟨Tryz.f122,by kernel_rfl,by kernel_rfl⟩
theorem BE:Has Tryz.prog nw 60 [(2,none)] Zg:=⟨Tryz.f123,by kernel_rfl,by kernel_rfl⟩
theorem sc:Has Tryz.prog lq 22 [(4,none)] Zk:=⟨Tryz.f124,by kernel_rfl,by kernel_rfl⟩
theorem BF:Has Tryz.prog sM 9 [(2,none)] Zl:=⟨Tryz.f126,by kernel_rfl,by kernel_rfl⟩
theorem zQ:Has Tryz.prog mn 18 [(4,none)] Zm:=⟨Tryz.f127,by kernel_rfl,by kernel_rfl⟩
theorem zR:Has Tryz.prog oA 18 [(4,none)] Zn:=⟨Tryz.f128,by kernel_rfl,by kernel_rfl⟩
theorem yI:Has Tryz.prog qn 27 [(2,none)] Zt:=⟨Tryz.f129,by kernel_rfl,by kernel_rfl⟩
theorem zS:Has Tryz.prog oB 9 [(2,none)] Zu:=⟨Tryz.f130,by kernel_rfl,by kernel_rfl⟩
theorem zT:Has Tryz.prog rj 9 [(2,none)] Zv:=⟨Tryz.f131,by kernel_rfl,by kernel_rfl⟩
theorem BG:Has Tryz.prog sN 15 [(2,none)] ZA:=⟨Tryz.f132,by kernel_rfl,by kernel_rfl⟩
theorem BH:Has Tryz.prog pG 22 [(2,none)] ZB:=⟨Tryz.f133,by kernel_rfl,by kernel_rfl⟩
theorem Di:Has Tryz.prog tW 21 [(2,none)] ZE:=⟨Tryz.f134,by kernel_rfl,by kernel_rfl⟩
theorem uL:Has Tryz.prog ny 61 [(4,none)] ZR:=⟨Tryz.f135,by kernel_rfl,by kernel_rfl⟩
theorem zU:Has Tryz.prog rk 24 [(2,none)] ZX:=⟨Tryz.f142,by kernel_rfl,by kernel_rfl⟩
theorem BI:Has Tryz.prog sO 22 [(2,none)] ZY:=⟨Tryz.f143,by kernel_rfl,by kernel_rfl⟩
theorem zV:Has Tryz.prog rl 2 [(0,none)] Z0:=⟨Tryz.f144,by kernel_rfl,by kernel_rfl⟩
theorem BJ:Has Tryz.prog sP 24 [(2,none)] Z6:=⟨Tryz.f145,by kernel_rfl,by kernel_rfl⟩
end Go.Abs
