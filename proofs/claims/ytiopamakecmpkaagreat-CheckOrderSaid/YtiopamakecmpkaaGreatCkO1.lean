/-
  What is proved here: part 1 of the road to the claim (Par, Par1, Par2, Par3, Step, Wp, Types, Mir, MirTree, Cnt, MirFlat, Nums, Codes0, Have0, Codes1, Have1, Codes2, Have2, Codes3).
  No conditions.
-/
import Derived.Test.YtiopamakecmpkaaGreatCkO0
import Derived.Attr
import Derived.Test.YtiopamakecmpkaaGreatProg
import Derived.KernelRfl

set_option linter.unusedSimpArgs false
set_option linter.unusedVariables false

/-! Par -/

namespace Go.Abs
theorem X.bP {x:X} {tm bw:Tm} (h : ∀ t∈x.reads,tm.get t=bw.get t):x.ev tm=x.ev bw:=by
 cases x with
 | s t=>exact h t (by simp [X.reads])
 | k d=>rfl
theorem o3 {t:Nat} {x:X} : ∀ {l:List X},x∈l→t∈x.reads→t∈ma l
 | [],h,_=>by cases h
 | y::r,h,ht=>by
  simp only [ma,List.mem_append]
  rcases List.mem_cons.1 h with rfl | h
  ·exact .inl ht
  ·exact .inr (o3 h ht)
theorem tt {x:Option X} {tm bw:Tm} (h : ∀ t∈xc x,tm.get t=bw.get t):x.map (·.ev tm)=x.map (·.ev bw):=by
 cases x with
 | none=>rfl
 | some y=>simp only [Option.map_some];rw [X.bP h]
theorem yP {o:AO} {tm bw:Tm} {s:St} (h : ∀ t∈o.reads,tm.get t=bw.get t):aP o tm s=aP o bw s:=by
 cases o with
 | mv x=>
  have hx:x.ev tm=x.ev bw:=X.bP fun t ht=>h t (by simp [AO.reads,ht])
  simp only [aP,hx]
 | pick c a b=>
  have hc:c.ev tm=c.ev bw:=X.bP fun t ht=>h t (by simp [AO.reads,ht])
  have ha:a.ev tm=a.ev bw:=X.bP fun t ht=>h t (by simp [AO.reads,ht])
  have hb:b.ev tm=b.ev bw:=X.bP fun t ht=>h t (by simp [AO.reads,ht])
  simp only [aP,hc,ha,hb]
 | alloc z=>
  rfl
 | qC z T=>rfl
 | xa x T=>
  have hx:x.ev tm=x.ev bw:=X.bP fun t ht=>h t (by simp [AO.reads,ht])
  simp only [aP,hx]
 | xb x y=>
  have hx:x.ev tm=x.ev bw:=X.bP fun t ht=>h t (by simp [AO.reads,ht])
  have hy:y.ev tm=y.ev bw:=X.bP fun t ht=>h t (by simp [AO.reads,ht])
  simp only [aP,hx,hy]
 | apps x y=>
  have hx:x.ev tm=x.ev bw:=X.bP fun t ht=>h t (by simp [AO.reads,ht])
  have hy:y.ev tm=y.ev bw:=X.bP fun t ht=>h t (by simp [AO.reads,ht])
  simp only [aP,hx,hy]
 | box x=>
  have hx:x.ev tm=x.ev bw:=X.bP fun t ht=>h t (by simp [AO.reads,ht])
  simp only [aP,hx]
 | w8 x=>
  have hx:x.ev tm=x.ev bw:=X.bP fun t ht=>h t (by simp [AO.reads,ht])
  simp only [aP,hx]
 | load x g n=>
  have hx:x.ev tm=x.ev bw:=X.bP fun t ht=>h t (by simp [AO.reads,ht])
  simp only [aP,hx]
 | store p x n=>
  have hp:p.ev tm=p.ev bw:=X.bP fun t ht=>h t (by simp [AO.reads,ht])
  have hx:x.ev tm=x.ev bw:=X.bP fun t ht=>h t (by simp [AO.reads,ht])
  simp only [aP,hp,hx]
 | c6 x=>
  have hx:x.ev tm=x.ev bw:=X.bP fun t ht=>h t (by simp [AO.reads,ht])
  simp only [aP,hx]
 | bin op x y=>
  have hx:x.ev tm=x.ev bw:=X.bP fun t ht=>h t (by simp [AO.reads,ht])
  have hy:y.ev tm=y.ev bw:=X.bP fun t ht=>h t (by simp [AO.reads,ht])
  simp only [aP,hx,hy]
 | w9 n x y=>
  have hx:x.ev tm=x.ev bw:=X.bP fun t ht=>h t (by simp [AO.reads,ht])
  have hy:y.ev tm=y.ev bw:=X.bP fun t ht=>h t (by simp [AO.reads,ht])
  simp only [aP,hx,hy]
 | eqs n ks x y=>
  have hx:x.ev tm=x.ev bw:=X.bP fun t ht=>h t (by simp [AO.reads,ht])
  have hy:y.ev tm=y.ev bw:=X.bP fun t ht=>h t (by simp [AO.reads,ht])
  simp only [aP,hx,hy]
 | Ct n x y=>
  have hx:x.ev tm=x.ev bw:=X.bP fun t ht=>h t (by simp [AO.reads,ht])
  have hy:y.ev tm=y.ev bw:=X.bP fun t ht=>h t (by simp [AO.reads,ht])
  simp only [aP,hx,hy]
 | un op x=>
  have hx:x.ev tm=x.ev bw:=X.bP fun t ht=>h t (by simp [AO.reads,ht])
  simp only [aP,hx]
 | conv k x=>
  have hx:x.ev tm=x.ev bw:=X.bP fun t ht=>h t (by simp [AO.reads,ht])
  simp only [aP,hx]
 | zT x=>
  have hx:x.ev tm=x.ev bw:=X.bP fun t ht=>h t (by simp [AO.reads,ht])
  simp only [aP,hx]
 | uS x=>
  have hx:x.ev tm=x.ev bw:=X.bP fun t ht=>h t (by simp [AO.reads,ht])
  simp only [aP,hx]
 | av x n=>
  have hx:x.ev tm=x.ev bw:=X.bP fun t ht=>h t (by simp [AO.reads,ht])
  simp only [aP,hx]
 | oH x n g m=>
  have hx:x.ev tm=x.ev bw:=X.bP fun t ht=>h t (by simp [AO.reads,ht])
  simp only [aP,hx]
 | cu x i n=>
  have hx:x.ev tm=x.ev bw:=X.bP fun t ht=>h t (by simp [AO.reads,ht])
  have hi:i.ev tm=i.ev bw:=X.bP fun t ht=>h t (by simp [AO.reads,ht])
  simp only [aP,hx,hi]
 | na x i=>
  have hx:x.ev tm=x.ev bw:=X.bP fun t ht=>h t (by simp [AO.reads,ht])
  have hi:i.ev tm=i.ev bw:=X.bP fun t ht=>h t (by simp [AO.reads,ht])
  simp only [aP,hx,hi]
 | ext x i=>
  have hx:x.ev tm=x.ev bw:=X.bP fun t ht=>h t (by simp [AO.reads,ht])
  simp only [aP,hx]
 | len x=>
  have hx:x.ev tm=x.ev bw:=X.bP fun t ht=>h t (by simp [AO.reads,ht])
  simp only [aP,hx]
 | ko x=>
  have hx:x.ev tm=x.ev bw:=X.bP fun t ht=>h t (by simp [AO.reads,ht])
  simp only [aP,hx]
 | app a b x y=>
  have hx:x.ev tm=x.ev bw:=X.bP fun t ht=>h t (by simp [AO.reads,ht])
  have hy:y.ev tm=y.ev bw:=X.bP fun t ht=>h t (by simp [AO.reads,ht])
  simp only [aP,hx,hy]
 | mm b x y=>
  have hx:x.ev tm=x.ev bw:=X.bP fun t ht=>h t (by simp [AO.reads,ht])
  have hy:y.ev tm=y.ev bw:=X.bP fun t ht=>h t (by simp [AO.reads,ht])
  simp only [aP,hx,hy]
 | build z ps=>
  have hp:(ps.map fun p=>(p.1,p.2.1,p.2.2.ev tm))=ps.map fun p=>(p.1,p.2.1,p.2.2.ev bw):=List.map_congr_left fun p hp=>by
   have:p.2.2.ev tm=p.2.2.ev bw:=X.bP fun t ht=>h t (by simp only [AO.reads];exact o3 (List.mem_map_of_mem hp) ht)
   rw [this]
  simp only [aP,hp]
 | cP z m n ps=>
  have hp:(ps.map fun p=>(p.1,p.2.ev tm))=ps.map fun p=>(p.1,p.2.ev bw):=List.map_congr_left fun p hp=>by
   have:p.2.ev tm=p.2.ev bw:=X.bP fun t ht=>h t (by simp only [AO.reads];exact o3 (List.mem_map_of_mem hp) ht)
   rw [this]
  simp only [aP,hp]
 | sd z m n ps=>
  have hp:(ps.map fun p=>(p.1,p.2.ev tm))=ps.map fun p=>(p.1,p.2.ev bw):=List.map_congr_left fun p hp=>by
   have:p.2.ev tm=p.2.ev bw:=X.bP fun t ht=>h t (by simp only [AO.reads];exact o3 (List.mem_map_of_mem hp) ht)
   rw [this]
  simp only [aP,hp]
 | Ec n x lo hi=>
  have hx:x.ev tm=x.ev bw:=X.bP fun t ht=>h t (by simp [AO.reads,ht])
  have hl:lo.map (·.ev tm)=lo.map (·.ev bw):=tt fun t ht=>h t (by simp [AO.reads,ht])
  have hh:hi.map (·.ev tm)=hi.map (·.ev bw):=tt fun t ht=>h t (by simp [AO.reads,ht])
  simp only [aP,hx,hl,hh]
 | vG x lo hi=>
  have hx:x.ev tm=x.ev bw:=X.bP fun t ht=>h t (by simp [AO.reads,ht])
  have hl:lo.map (·.ev tm)=lo.map (·.ev bw):=tt fun t ht=>h t (by simp [AO.reads,ht])
  have hh:hi.map (·.ev tm)=hi.map (·.ev bw):=tt fun t ht=>h t (by simp [AO.reads,ht])
  simp only [aP,hx,hl,hh]
 | rD f xs=>
  have hp:(xs.map fun x=>x.ev tm)=xs.map fun x=>x.ev bw:=List.map_congr_left fun x hx=>X.bP fun t ht=>h t (by simp only [AO.reads];exact o3 hx ht)
  simp only [aP,hp]
 | rE=>rfl
 | vH m k v=>
  have hm:m.ev tm=m.ev bw:=X.bP fun t ht=>h t (by simp [AO.reads,ht])
  have hk:k.ev tm=k.ev bw:=X.bP fun t ht=>h t (by simp [AO.reads,ht])
  have hv:v.ev tm=v.ev bw:=X.bP fun t ht=>h t (by simp [AO.reads,ht])
  simp only [aP,hm,hk,hv]
 | s8 m k z=>
  have hm:m.ev tm=m.ev bw:=X.bP fun t ht=>h t (by simp [AO.reads,ht])
  have hk:k.ev tm=k.ev bw:=X.bP fun t ht=>h t (by simp [AO.reads,ht])
  simp only [aP,hm,hk]
theorem Gh {o:AO} (ho:fP o.kind=false) {tm:Tm} {s s':St} {d:D} (h:aP o tm s=some (d,s')):s'=s:=by
 cases o <;> simp only [AO.kind,fP]at ho <;> first | cases ho | skip
 all_goals
  simp only [aP]at h
  first
   | (cases h;rfl)
   | (repeat' (split at h)) <;> first | (cases h;rfl) | cases h
theorem Il {o:AO} (ho:o.kind = .pure) {tm:Tm} {s s':St} : (aP o tm s).map (·.1)=(aP o tm s').map (·.1):=by
 cases o <;> simp only [AO.kind]at ho <;> first | cases ho | skip
 all_goals
  simp only [aP]
  first
   | rfl
   | (repeat' split) <;> rfl
def iF (ai:AI) (tm:Tm) (s:St):Option D:=
 match ai with
 | .op _ none o=>(aP o tm s).map (·.1)
 | .op _ (some (t,want)) o=>
  match tm.get t with
  | .bool b=>if b=want then(aP o tm s).map (·.1)else some (.tuple [])
  | .tuple _=>some (.tuple [])
  | _=>none
 | _=>none
def qm (P:Program) (ai:AI) (tm:Tm) (s:St) (d:D) (s':St):Prop:=
 match ai with
 | .op _ g o=>guarded g tm (aP o tm s=some (d,s')) (d = .tuple []∧s'=s)
 | .call _ g f xs=>guarded g tm (dT P f (xs.map (·.ev tm)) s fun x y=>x=d∧y=s') (d = .tuple []∧s'=s)
 | .nil .. =>False
 | .gY .. =>False
def jz (P:Program) (is:List AI) (K:Tm→St→Prop):List (Nat×Nat)→List St→Tm→St→Prop
 | [],_,tm,s=>K tm s
 | (q,b)::r,bo,tm,s=>
  match is[q]? with
  | none=>False
  | some ai=>
   match fP ai.kind with
   | true=>∃ d s',qm P ai tm s d s'∧jz P is K r (s::bo) (tm.put ai.dst d) s'
   | false=>∃ d,iF ai tm s=some d∧(ai.kind = .load→∀ s'∈bo.take b,iF ai tm s'=some d)∧jz P is K r bo (tm.put ai.dst d) s
def Tm.eqv (a b:Tm):Prop:=∀ t,a.get t=b.get t
theorem Tm.jU (tm:Tm) (dst:Option Nat) (d:D) (t:Nat):(tm.put dst d).get t=if dst=some t then d else tm.get t:=by
 cases dst with
 | none=>simp [Tm.put]
 | some u=>
  simp only [Tm.put,Tm.yf,Option.some.injEq]
  by_cases h:t=u
  ·subst h;simp
  ·rw [if_neg h,if_neg (fun e=>h e.symm)]
theorem Tm.eqv.put {a b:Tm} (h:a.eqv b) (dst:Option Nat) (d:D):(a.put dst d).eqv (b.put dst d):=fun t=>by
 rw [Tm.jU,Tm.jU,h t]
theorem Tm.EH (tm:Tm) {x y:Option Nat} (h : ∀ t,x=some t→y≠some t) (d e:D):((tm.put x d).put y e).eqv ((tm.put y e).put x d):=fun t=>by
 simp only [Tm.jU]
 by_cases h1:x=some t
 ·simp only [h1,h t h1,if_true,if_false]
 ·simp only [h1,if_false]
theorem wI {g:Option (Nat×Bool)} {tm bw:Tm} {A A' C:Prop} (h : ∀ t∈se g,tm.get t=bw.get t) (ha:A→A') (hh:guarded g tm A C):guarded g bw A' C:=by
 cases g with
 | none=>exact ha hh
 | some p=>
  obtain⟨t,want⟩:=p
  unfold guarded at *
  simp only at *
  rw [← h t (by simp [se])]
  split
  ·rename_i b hb
   rw [hb]at hh
   exact⟨fun e=>ha (hh.1 e),hh.2⟩
  ·rename_i hb
   rw [hb]at hh
   exact hh
  ·rename_i x h1 h2
   split at hh
   ·exact h1 _ ‹_›
   ·exact h2 _ ‹_›
   ·exact hh
theorem CI {tm bw:Tm} : ∀ {l:List X},(∀ t∈ma l,tm.get t=bw.get t)→l.map (·.ev tm)=l.map (·.ev bw)
 | [],_=>rfl
 | x::r,h=>by
  simp only [List.map_cons]
  rw [X.bP fun t ht=>h t (by simp [ma,ht]),CI (l:=r) fun t ht=>h t (by simp [ma,ht])]
theorem um {P:Program} {ai:AI} {tm bw:Tm} {s s':St} {d:D} (h : ∀ t∈ai.reads,tm.get t=bw.get t) (hh:qm P ai tm s d s'):qm P ai bw s d s':=by
 cases ai with
 | op dst g o=>
  simp only [AI.reads,List.mem_append]at h
  exact wI (fun t ht=>h t (.inl ht)) (fun e=>by rw [← yP fun t ht=>h t (.inr ht)];exact e) hh
 | call dst g f xs=>
  simp only [AI.reads,List.mem_append]at h
  exact wI (fun t ht=>h t (.inl ht)) (fun e=>by rw [← CI fun t ht=>h t (.inr ht)];exact e) hh
 | nil dst g n x=>exact hh
 | gY dst g t xs=>exact hh
theorem oM {ai:AI} {tm bw:Tm} {s:St} (h : ∀ t∈ai.reads,tm.get t=bw.get t):iF ai tm s=iF ai bw s:=by
 cases ai with
 | op dst g o=>
  simp only [AI.reads,List.mem_append]at h
  have he:=yP (s:=s) fun t ht=>h t (.inr ht)
  cases g with
  | none=>simp only [iF,he]
  | some p=>
   obtain⟨t,want⟩:=p
   simp only [iF,he,h t (.inl (by simp [se]))]
 | call dst g f xs=>rfl
 | nil dst g n x=>rfl
 | gY dst g t xs=>rfl
theorem Hi {dst:Option Nat} {g:Option (Nat×Bool)} {o:AO} (h:fP (AI.op dst g o).kind=false):(AI.op dst g o).kind=o.kind:=by
 unfold AI.kind at *
 split at h
 ·cases h
 ·rename_i heq;cases heq;rfl
 ·cases h
theorem N4 {ai:AI} (hk:ai.kind = .pure) {tm:Tm} {s s':St} : iF ai tm s=iF ai tm s':=by
 cases ai with
 | op dst g o=>
  have ho:o.kind = .pure:=by rw [← hk];exact(Hi (by rw [hk];rfl)).symm
  have he:=Il ho (tm:=tm) (s:=s) (s':=s')
  cases g with
  | none=>simp only [iF,he]
  | some p=>simp only [iF,he]
 | call dst g f xs=>rfl
 | nil dst g n x=>rfl
 | gY dst g t xs=>rfl
theorem apart_spec {a q:AI} (h:a.apart q=true):(∀ t,a.dst=some t→t∉q.reads)∧(∀ t,q.dst=some t→t∉a.reads)∧(∀ t,a.dst=some t→q.dst≠some t):=by
 unfold AI.apart at h
 simp only [Bool.and_eq_true]at h
 obtain⟨⟨h1,h2⟩,h3⟩:=h
 refine⟨fun t e=> ?_,fun t e=> ?_,fun t e e'=> ?_⟩
 ·rw [e]at h1;simpa [zV]using h1
 ·rw [e]at h2;simpa [zV]using h2
 ·rw [e,e']at h3;simp at h3
theorem qn {tm:Tm} {dst:Option Nat} {d:D} {l:List Nat} (h : ∀ t,dst=some t→t∉l) : ∀ t∈l,tm.get t=(tm.put dst d).get t:=fun t ht=>by
 rw [Tm.jU,if_neg fun e=>h t e ht]
section
variable {P:Program} {is:List AI} {K:Tm→St→Prop}
theorem qo (hK : ∀ tm bw s,Tm.eqv tm bw→K tm s→K bw s) : ∀ (R:List (Nat×Nat)) (bo:List St) (tm bw:Tm) (s:St),tm.eqv bw→jz P is K R bo tm s→jz P is K R bo bw s
 | [],_,tm,bw,s,e,h=>hK tm bw s e h
 | (q,b)::R,bo,tm,bw,s,e,h=>by
  unfold jz at *
  split at h
  ·exact h.elim
  ·rename_i ai tp
   split at h
   ·rename_i hc
    obtain⟨d,s',h1,h2⟩:=h
    exact⟨d,s',um (fun t _=>e t) h1,qo hK R _ _ _ _ (e.put _ d) h2⟩
   ·rename_i hc
    obtain⟨d,h1,h2,h3⟩:=h
    refine⟨d, ?_,fun hl s' nf=> ?_,qo hK R _ _ _ _ (e.put _ d) h3⟩
    ·rw [← oM fun t _=>e t];exact h1
    ·rw [← oM fun t _=>e t];exact h2 hl s' nf
theorem EI (i:Nat) (l:List Nat):ij is (i::l)=(if fP (gZ is i)then 1 else 0)+ij is l:=by
 unfold ij
 rw [List.filter_cons]
 split <;> simp <;> omega
theorem uq (hK : ∀ tm bw s,Tm.eqv tm bw→K tm s→K bw s) {q b:Nat} {ai:AI} (hq:is[q]? = some ai) (hm:fP ai.kind=false) (Y:List (Nat×Nat)) :
 ∀ (X:List (Nat×Nat)) (bo:List St) (tm:Tm) (s:St),(∀ a∈X,jQ is a.1 q=true)→(ai.kind = .load→ij is (X.map (·.1))≤b)→
  jz P is K (X++(q,b)::Y) bo tm s→
  ∃ d,iF ai tm s=some d∧(ai.kind = .load→∀ s'∈bo.take (b - ij is (X.map (·.1))),iF ai tm s'=some d)∧jz P is K (X++Y) bo (tm.put ai.dst d) s
 | [],bo,tm,s,_,_,h=>by
  simp only [List.nil_append,jz,hq,hm]at h
  obtain⟨d,h1,h2,h3⟩:=h
  exact⟨d,h1,fun hl s' nf=>h2 hl s' (by simpa [ij]using nf),h3⟩
 | (a,c)::X,bo,tm,s,fQ,hb,h=>by
  have Io:=fQ (a,c) (by simp)
  unfold jQ at Io
  split at Io
  ·rename_i ia iq hia rr
   rw [hq]at rr
   cases rr
   obtain⟨p1,p2,p3⟩:=apart_spec Io
   have CC:gZ is a=ia.kind:=by simp [gZ,hia]
   have DS : ∀ x∈X,jQ is x.1 q=true:=fun x hx=>fQ x (List.mem_cons_of_mem _ hx)
   rw [List.map_cons,EI,CC]at hb ⊢
   simp only [List.cons_append,jz,hia]at h ⊢
   cases hc:fP ia.kind
   ·simp only [hc,Bool.false_eq_true,if_false,Nat.zero_add]at h hb ⊢
    obtain⟨d,h1,h2,h3⟩:=h
    obtain⟨e,g1,g2,g3⟩:=uq hK hq hm Y X bo _ s DS hb h3
    have cg : ∀ s,iF ai tm s=iF ai (tm.put ia.dst d) s:=fun s=>oM (qn p1)
    have cg' : ∀ s,iF ia tm s=iF ia (tm.put ai.dst e) s:=fun s=>oM (qn p2)
    refine⟨e,by rw [cg];exact g1,fun hl s' nf=>by rw [cg];exact g2 hl s' nf,d,by rw [← cg'];exact h1,fun hl s' nf=>by rw [← cg'];exact h2 hl s' nf, ?_⟩
    exact qo hK _ _ _ _ _ (Tm.EH tm p3 d e) g3
   ·simp only [hc,if_true]at h hb ⊢
    obtain⟨d,s1,h1,h3⟩:=h
    obtain⟨e,g1,g2,g3⟩:=uq hK hq hm Y X (s::bo) _ s1 DS (fun hl=>by have:=hb hl;omega) h3
    have cg : ∀ s,iF ai tm s=iF ai (tm.put ia.dst d) s:=fun s=>oM (qn p1)
    have ov:iF ai tm s=some e:=by
     cases hk:ai.kind with
     | pure=>rw [cg,N4 hk (s':=s1)];exact g1
     | load=>
      have:=hb hk
      rw [cg]
      refine g2 hk s ?_
      rw [show b - ij is (X.map (·.1))=(b - (1+ij is (X.map (·.1))))+1 by omega,List.take_succ_cons]
      exact List.mem_cons_self
     | alloc=>rw [hk]at hm;cases hm
     | core=>rw [hk]at hm;cases hm
    refine⟨e,ov,fun hl s' nf=> ?_,d,s1,um (qn p2) h1,qo hK _ _ _ _ _ (Tm.EH tm p3 d e) g3⟩
    have:=hb hl
    rw [cg]
    refine g2 hl s' ?_
    rw [show b - ij is (X.map (·.1))=(b - (1+ij is (X.map (·.1))))+1 by omega,List.take_succ_cons]
    exact List.mem_cons_of_mem _ nf
  ·cases Io
end
end Go.Abs

/-! Par1 -/

namespace Go.Abs
section
variable {P:Program}
theorem Li {o:Oper} {z:List D} (h:zW P o=some (.alloc z)) : ∃ t,o.op = .alloc t∧zeroOf P t=some z:=by
 obtain⟨dst,op,type,pos,after,guard⟩:=o
 unfold zW at h
 simp only at h
 split at h
 case h_4 t=>
  split at h
  ·obtain⟨z',h1,h2⟩:=map_some h;cases h2
  ·obtain⟨z',h1,h2⟩:=map_some h;cases h2;exact⟨t,rfl,h1⟩
 all_goals
  first
   | (rw [Option.map_eq_some_iff]at h;obtain⟨_,_,h⟩:=h;cases h)
   | skip
 all_goals
  (repeat' (split at h)) <;> first | (cases h;done) | (rw [Option.map_eq_some_iff]at h;obtain⟨_,_,h⟩:=h;cases h)
theorem xA {nt:Nat} {ops:Array Oper} {o:Oper} {ai:AI} (h:cI P nt ops o=some ai) :
 ∃ g,sf ops o.guard=some g∧(∀ t,o.dst=some t→t<nt)∧qj P ops o g=some ai:=by
 have h2:=uY h
 unfold cI at h
 split at h
 ·cases h
 ·rename_i g hg
  split at h
  ·exact⟨g,hg,h2,h⟩
  ·cases h
theorem qK {ops:Array Oper} {o:Oper} {g:Option (Nat×Bool)} {ai:AI} (h:qj P ops o g=some ai):ai.dst=o.dst:=by
 unfold qj at h
 split at h
 ·split at h
  ·obtain⟨xs,_,rfl⟩:=map_some h;rfl
  ·cases h
 ·obtain⟨xs,_,rfl⟩:=map_some h;rfl
 ·split at h
  ·cases h;rfl
  ·split at h
   ·cases h;rfl
   ·cases h;rfl
   ·cases h
theorem qL {nt:Nat} {ops:Array Oper} {o:Oper} {ai:AI} (h:cI P nt ops o=some ai):ai.dst=o.dst:=by
 obtain⟨g,_,_,h⟩:=xA h
 exact qK h
theorem ur {nt:Nat} {ops:Array Oper} {i:Nat} {o:Oper} {ai:AI} (hi:ops[i]? = some o) (hc:cI P nt ops o=some ai)
 {M:Map} {s:St} {w:World} {tm:Tm} {act:Act} (r:Rel M s w) (kf:Laid M s w) (ht:kE M s tm act.tmps) {K':Tm→St→Prop} (h:gP P [ai] K' tm s)
 {K:Act→World→Prop} {Q:Exit→Act→World→Prop}
 (hK : ∀ d v s1 w1 M1,K' (tm.put ai.dst d) s1→Ext M s w M1 s1 w1→Rel M1 s1 w1→RD M1 s1 d v→K (act.put o.dst v) w1):wpOp P ops Q i K act w:=by
 obtain⟨g,hg,_,hb⟩:=xA hc
 rw [qK hb]at hK
 simp only [wpOp,hi]
 have skip:K' (tm.put o.dst (.tuple [])) s→K (act.put o.dst Go.undef) w:=fun hk=>hK _ _ _ _ _ hk (Ext.refl M s w) r .undef
 unfold qj at hb
 split at hb
 ·rename_i f args mf k8
  split at hb
  ·rename_i vP
   obtain⟨xs,mN,rfl⟩:=map_some hb
   simp only [gP]at h
   rcases iP hg ht h with ⟨hw,hA⟩ | ⟨hw,hB⟩
   ·simp only [hw,if_true]
    left
    have hex:(execOp act.eval o).run P w = .ok (.enter f (args.map act.eval)) w:=by
     obtain⟨dst,op,type,pos,after,guard⟩:=o
     simp only at k8
     subst k8
     exact uj act.eval dst f args mf type pos after guard rfl vP w
    obtain⟨c1,c2⟩:=tn ht mN
    unfold Oper.wp
    rw [hex,Oper.upon_enter]
    refine(hA M w (args.map act.eval) r kf (by simp [c1]) (fun i d v e1 e2=>c2 i d v e1 (by simpa using e2))).mono ?_
    rintro en w' ⟨M',d,v,s',rfl,hk,e',r',hv⟩
    exact hK _ _ _ _ _ hk e' r' hv
   ·simp only [hw]
    exact skip hB
  ·cases hb
 ·rename_i t args mf k8
  obtain⟨xs,mN,rfl⟩:=map_some hb
  simp only [gP]at h
  rcases iP hg ht h with ⟨hw,hA⟩ | ⟨hw,hB⟩
  ·simp only [hw,if_true]
   left
   split at hA
   ·rename_i f lT wF
    obtain⟨vP,hA⟩:=hA
    have K4:=ht t
    rw [wF]at K4
    obtain⟨vs,qI,hlen,Aj⟩:=K4.G9
    have hex:(execOp act.eval o).run P w = .ok (.enter f (args.map act.eval++vs)) w:=by
     obtain⟨dst,op,type,pos,after,guard⟩:=o
     simp only at k8
     subst k8
     exact xp act.eval dst (.tmp t) f vs args mf type pos after guard qI vP w
    have cc:=CD mN ht hlen Aj
    unfold Oper.wp
    rw [hex,Oper.upon_enter]
    refine(hA M w (args.map act.eval++vs) r kf cc.1 cc.2).mono ?_
    rintro en w' ⟨M',d,v,s',rfl,hk,e',r',hv⟩
    exact hK _ _ _ _ _ hk e' r' hv
   ·exact hA.elim
  ·simp only [hw]
   exact skip hB
 ·split at hb
  ·rename_i neg x Ez
   cases hb
   simp only [gP]at h
   rcases iP hg ht h with ⟨hw,hA⟩ | ⟨hw,hB⟩
   ·simp only [hw,if_true]
    left
    split at hA
    ·rename_i g' z rows hx
     obtain⟨b,hb,hex⟩:=wE (w:=w) Ez ht hx
     unfold Oper.wp
     rw [hex,Oper.upon_value]
     exact hK _ _ _ _ _ (hA b hb) (Ext.refl M s w) r (.bool _)
    ·exact hA.elim
   ·simp only [hw]
    exact skip hB
  ·have fin : ∀ ao,ai = .op o.dst g ao→(∀ d s',aP ao tm s=some (d,s')→dj P M s w (execOp act.eval o) d s')→
    (if Region.wanted o (yielded ops act.tmps)=true then o.wp P act w K Q∨(o.asks P act w∧LetsOut Q)else K (act.put o.dst Go.undef) w):=by
    intro ao tp Vp
    subst tp
    simp only [gP]at h
    rcases iP hg ht h with ⟨hw,hA⟩ | ⟨hw,hB⟩
    ·simp only [hw,if_true]
     left
     split at hA
     ·rename_i d s' oK
      obtain⟨v,w',M',dz,r',hv,e'⟩:=Vp d s' oK
      unfold Oper.wp
      rcases dz with dz | ⟨dz,rfl⟩
      ·rw [dz,Oper.upon_value]
       exact hK _ _ _ _ _ hA e' r' hv
      ·rw [dz,Oper.upon_skip]
       exact hK _ _ _ _ _ hA e' r' hv
     ·exact hA.elim
    ·simp only [hw]
     exact skip hB
   split at hb
   ·rename_i z k n ps mg
    cases hb
    refine fin _ rfl (fun d s' oK=> ?_)
    split at oK
    ·exact vO mg r ht oK
    ·exact qk mg r ht oK
   ·rename_i ao mg
    cases hb
    exact fin _ rfl (fun d s' oK=>qk mg r ht oK)
   ·cases hb
structure Hj (M:Map) (s:St) (b:Nat):Prop where
 o : ∀ o,o<s.aw.length→M.mu o≠b
 t : ∀ t c z,s.live t→M.be t≠some (b,c,z)
 g : ∀ off,M.G b off=none
theorem Hj.mono {M M':Map} {s s':St} {w w':World} {b:Nat} (h:Hj M s b) (e:Ext M s w M' s' w') (hb:b<w.heap.size):Hj M' s' b:=by
 refine⟨fun o ho=> ?_,fun t c z hl he=> ?_,fun off=> ?_⟩
 ·rcases Nat.lt_or_ge o s.aw.length with h1 | h1
  ·rw [e.le.mu o h1];exact h.o o h1
  ·have:=e.oS o h1 ho;omega
 ·rcases e.oT t b c z hl he with ⟨h1,c',z',h2⟩ | h1
  ·exact h.t t c' z' h1 h2
  ·omega
 ·by_cases hg:M'.G b off=M.G b off
  ·rw [hg];exact h.g off
  ·rcases e.qZ b off hg with h1 | ⟨t,c,z,h1,h2⟩
   ·omega
   ·exact(h.t t c z h1 h2).elim
theorem Rel.idle {M:Map} {s:St} {w:World} (r:Rel M s w) (x:Obj):Rel M s (w.alloc x)∧Ext M s w M s (w.alloc x)∧Hj M s w.heap.size:=by
 refine⟨⟨fun b o v e=> ?_,fun o ds e=> ?_,r.jW,r.inj,fun t n e=> ?_,r.fe,r.fG⟩, ?_,⟨fun o ho=> ?_,fun t c z hl e=> ?_,fun off=>r.QC (Nat.le_refl _) off⟩⟩
 ·obtain⟨h3,h4⟩:=r.comm b o v e
  refine⟨?_,h4⟩
  rw [World.cell?_alloc_lt]
  ·exact h3
  ·exact r.By e
 ·obtain⟨vs,T,h3,h4,h5,h6⟩:=r.obj o ds e
  exact⟨vs,T,by rw [heap_alloc_old w _ _ h3.lt];exact h3,h4,h5,h6⟩
 ·rcases r.tok t n e with h3 | ⟨b,cap,size,fv,T',h3,h4,h5⟩
  ·exact .inl h3
  ·exact .inr ⟨b,cap,size,fv,T',h3,by rw [heap_alloc_old w _ _ (kC h4)];exact h4,h5⟩
 ·exact⟨Le.refl M s,fun b hb _ _=>heap_alloc_old w _ b hb,fun o h3 h4=>by omega,fun t b c z h e=> .inl ⟨h,c,z,e⟩,fun _ _ h=>(h rfl).elim,by simp,rfl,rfl,rfl⟩
 ·have:=r.oW ho;omega
 ·have:=r.rF hl e;omega
theorem Rel.Y7 {M:Map} {s:St} {w:World} (r:Rel M s w) {B:e9} (e:Ext B.M B.s B.w M s w) {b:Nat} (u:Hj M s b) (hb:B.w.heap.size≤b)
 (ds:List D) (vs:Array Value) (T:TypeId) (hh:w.heap[b]? = some (.cells vs T (0,0))) (hl:vs.size=ds.length) (h1 : ∀ v∈vs,v.oneCell'=true)
 (h2 : ∀ (i:Nat) (d:D) (v:Value),ds[i]? = some d→vs[i]? = some v→RD M s d v) :
 Rel (M.dK s.aw.length b) {s with aw:=s.aw++ [ds]} w∧Ext B.M B.s B.w (M.dK s.aw.length b) {s with aw:=s.aw++ [ds]} w∧
 Le M s (M.dK s.aw.length b) {s with aw:=s.aw++ [ds]}:=by
 have le:=sg (M:=M) s b ds
 have oI : ∀ o,o<s.aw.length→(M.dK s.aw.length b).mu o=M.mu o:=le.mu
 have dN:(M.dK s.aw.length b).mu s.aw.length=b:=by simp [Map.dK,Map.mu]
 refine⟨⟨r.comm,fun o mL e'=> ?_,fun o ho off=> ?_,fun o o' ho lR e'=> ?_,r.tok,fun t b' c z o hl e' ho=> ?_,r.fG⟩, ?_,le⟩
 ·rcases Nat.lt_or_ge o s.aw.length with ho | ho
  ·rw [List.getElem?_append_left ho]at e'
   obtain⟨fv,T',h3,h4,h5,h6⟩:=r.obj o mL e'
   refine⟨fv,T', ?_,h4,⟨h5.1,by rw [le.ty o ho];exact h5.2⟩,fun i d v e1 e2=>(h6 i d v e1 e2).mono le⟩
   rw [oI o ho,le.ob o ho];exact h3
  ·rw [List.getElem?_append_right ho]at e'
   have:o=s.aw.length:=by
    have:=(List.getElem?_eq_some_iff.1 e').1
    simp at this;omega
   subst this
   simp at e';subst e'
   refine⟨vs,T, ?_,hl,⟨h1,fun T' h=>by simp [Map.dK,Map.ty,Ob.ty?]at h⟩,fun i d v e1 e2=>(h2 i d v e1 e2).mono le⟩
   rw [dN];exact lg.of hh (by simp [Map.dK,Map.ob])
 ·simp at ho
  rcases Nat.lt_or_ge o s.aw.length with h3 | h3
  ·rw [oI o h3];exact r.jW o h3 off
  ·have:o=s.aw.length:=by omega
   subst this
   rw [dN];exact u.g off
 ·simp at ho lR
  rcases Nat.lt_or_ge o s.aw.length with h3 | h3 <;> rcases Nat.lt_or_ge o' s.aw.length with h4 | h4
  ·rw [oI o h3,oI o' h4]at e';exact r.inj o o' h3 h4 e'
  ·have:o'=s.aw.length:=by omega
   subst this
   rw [oI o h3,dN]at e'
   exact(u.o o h3 e').elim
  ·have:o=s.aw.length:=by omega
   subst this
   rw [oI o' h4,dN]at e'
   exact(u.o o' h4 e'.symm).elim
  ·omega
 ·simp at ho
  rcases Nat.lt_or_ge o s.aw.length with h3 | h3
  ·rw [oI o h3];exact r.fe t b' c z o hl e' h3
  ·have:o=s.aw.length:=by omega
   subst this
   rw [dN]
   intro he
   subst he
   exact u.t t c z hl e'
 ·refine⟨e.le.trans le,e.kept,fun o h3 h4=> ?_,e.oT,e.qZ,e.size,e.os,e.tape,e.output⟩
  simp at h4
  rcases Nat.lt_or_ge o s.aw.length with h5 | h5
  ·rw [oI o h5];exact e.oS o h3 h5
  ·have:o=s.aw.length:=by omega
   subst this
   rw [dN];exact hb
theorem Gi {nt:Nat} {ops:Array Oper} {i:Nat} {o:Oper} {t:Nat} {z:List D} (hi:ops[i]? = some o) (hc:cI P nt ops o=some (.op (some t) none (.alloc z)))
 {w:World} {act:Act} {K:Act→World→Prop} {Q:Exit→Act→World→Prop}
 (hK : ∀ vs T,vs.size=z.length→(∀ v∈vs,v.oneCell'=true)→(∀ (M:Map) (s:St) (i:Nat) (d:D) (v:Value),z[i]? = some d→vs[i]? = some v→RD M s d v)→
  K (act.put (some t) (.pointer (some ⟨w.heap.size,0,none⟩))) (w.alloc (.cells vs T))):wpOp P ops Q i K act w:=by
 obtain⟨g,hg,_,hb⟩:=xA hc
 have oB:=qK hb
 simp only [AI.dst]at oB
 simp only [wpOp,hi]
 have k8:g=none∧zW P o=some (.alloc z):=by
  unfold qj at hb
  split at hb
  ·split at hb
   ·obtain⟨xs,_,h⟩:=map_some hb;cases h
   ·cases hb
  ·obtain⟨xs,_,h⟩:=map_some hb;cases h
  ·split at hb
   ·cases hb
   ·split at hb
    ·rename_i mg
     simp only [Option.some.injEq,AI.op.injEq]at hb
     obtain⟨_,_,h⟩:=hb
     split at h <;> cases h
    ·rename_i ao mg
     simp only [Option.some.injEq,AI.op.injEq]at hb
     obtain⟨_,h1,h2⟩:=hb
     subst h2
     exact⟨h1,mg⟩
    ·cases hb
 obtain⟨rfl,mg⟩:=k8
 obtain⟨T,hT,hz⟩:=Li mg
 have hw:Region.wanted o (yielded ops act.tmps)=true:=by
  have:o.guard=none:=by
   cases Cx:o.guard with
   | none=>rfl
   | some p=>
    obtain⟨j,b⟩:=p
    rw [Cx]at hg
    unfold sf at hg
    simp only at hg
    split at hg <;> cases hg
  simp [Region.wanted,this]
 simp only [hw,if_true]
 left
 unfold zeroOf at hz
 split at hz
 ·rename_i inf NZ
  split at hz
  ·rename_i v hv
   split at hz
   ·have dz:(execOp act.eval o).run P w = .ok (.value (.pointer (some ⟨w.heap.size,0,none⟩))) (w.alloc (.cells v.cells T)):=by
     obtain⟨dst,op,type,pos,after,guard⟩:=o
     simp only at hT
     subst hT
     simp [execOp,Instr.alloc,zeroValue,gu P NZ,hv,newVar,newRow]
    have h3:=fun M s=>jT (M:=M) (s:=s) hz
    obtain⟨h1,h2,_⟩:=h3 ⟨fun _ _=>none,fun _=>(0, .any),fun _=>none⟩ ⟨[],[]⟩
    unfold Oper.wp
    rw [dz,Oper.upon_value, ← oB]
    exact hK _ _ (by rw [h1];simp) (fun u hu=>h2 u (by simpa using hu)) (fun M s i d u e1 e2=>(h3 M s).2.2 i d u e1 (by simpa using e2))
   ·cases hz
  ·cases hz
 ·cases hz
end
end Go.Abs

/-! Par2 -/

namespace Go.Abs
section
variable {is:List AI} {af pt:List (List Nat)}
theorem wJ {pq:List Nat} {l l':List Nat} (h:l'.Sublist l) (hb:jI is pq l=true):jI is pq l'=true:=by
 induction h with
 | slnil=>rfl
 | cons a h ih=>
  simp only [jI,Bool.and_eq_true]at hb
  exact ih hb.2
 | cons_cons a h ih=>
  simp only [jI,Bool.and_eq_true,Bool.or_eq_true]at hb ⊢
  refine⟨hb.1.imp id fun h1=> ?_,ih hb.2⟩
  rw [List.all_eq_true]at h1 ⊢
  exact fun x hx=>h1 x (h.subset hx)
theorem yj {f:Nat→Bool} {l l':List Nat} (h:l'.Sublist l) (ha:l.all f=true):l'.all f=true:=by
 rw [List.all_eq_true]at ha ⊢
 exact fun x hx=>ha x (h.subset hx)
theorem Gj {l l':List Nat} (h:l'.Sublist l):ij is l'≤ij is l:=(h.filter _).length_le
theorem Iq {pre BI:List Nat} {q b:Nat} (h:BI.Sublist pre) (hs:nc is pt pre q b=true):nc is pt BI q b=true:=by
 unfold nc at *
 split at hs
 ·exact yj h hs
 ·exact yj h hs
 ·simp only [Bool.and_eq_true]at hs ⊢
  exact⟨yj h hs.1,wJ h hs.2⟩
 ·simp only [Bool.and_eq_true,decide_eq_true_eq]at hs ⊢
  exact⟨⟨yj h hs.1.1,wJ h hs.1.2⟩,Nat.le_trans (Gj (h.filter _)) hs.2⟩
theorem EJ : ∀ {R:List (Nat×Nat)} {pre BI:List Nat},BI.Sublist pre→rn is af pt pre R=true→rn is af pt BI R=true
 | [],_,_,_,_=>rfl
 | (q,b)::R,pre,BI,h,ho=>by
  simp only [rn,Bool.and_eq_true,Bool.not_eq_true']at ho ⊢
  obtain⟨⟨⟨h1,h2⟩,h3⟩,h4⟩:=ho
  refine⟨⟨⟨Iq h h1, ?_⟩,h3⟩,EJ (h.cons_cons q) h4⟩
  rw [← Bool.not_eq_true,List.contains_iff_mem]at h2 ⊢
  exact fun hm=>h2 (h.subset hm)
theorem BJ : ∀ {X:List (Nat×Nat)} {e:Nat×Nat} {Y:List (Nat×Nat)} {pre:List Nat},rn is af pt pre (X++e::Y)=true→rn is af pt pre (X++Y)=true
 | [],(q,b),Y,pre,h=>by
  simp only [List.nil_append,rn,Bool.and_eq_true]at h
  exact EJ (List.sublist_cons_self q pre) h.2
 | (a,c)::X,e,Y,pre,h=>by
  simp only [List.cons_append,rn,Bool.and_eq_true]at h ⊢
  obtain⟨⟨⟨h1,h2⟩,h3⟩,h4⟩:=h
  refine⟨⟨⟨h1,h2⟩, ?_⟩,BJ h4⟩
  rw [List.all_eq_true]at h3 ⊢
  intro j hj
  have:=h3 j hj
  simp only [Bool.and_eq_true,Bool.not_eq_true']at this ⊢
  refine⟨this.1, ?_⟩
  have h5:=this.2
  rw [← Bool.not_eq_true,List.contains_iff_mem]at h5 ⊢
  refine fun hm=>h5 ?_
  simp only [List.map_append,List.map_cons,List.mem_append,List.mem_cons]at hm ⊢
  exact hm.imp id .inr
theorem qM : ∀ {X:List (Nat×Nat)} {q b:Nat} {Y:List (Nat×Nat)} {pre:List Nat},rn is af pt pre (X++(q,b)::Y)=true→
 nc is pt ((X.map (·.1)).reverse++pre) q b=true∧q∉X.map (·.1)∧q∉pre∧(∀ j∈gb af q,j≠q∧j∉Y.map (·.1))∧rn is af pt (q::((X.map (·.1)).reverse++pre)) Y=true
 | [],q,b,Y,pre,h=>by
  simp only [List.nil_append,rn,Bool.and_eq_true,Bool.not_eq_true']at h
  obtain⟨⟨⟨h1,h2⟩,h3⟩,h4⟩:=h
  rw [← Bool.not_eq_true,List.contains_iff_mem]at h2
  refine⟨h1,by simp,h2,fun j hj=> ?_,h4⟩
  rw [List.all_eq_true]at h3
  have:=h3 j hj
  simp only [Bool.and_eq_true,bne_iff_ne,Bool.not_eq_true', ← Bool.not_eq_true,List.contains_iff_mem]at this
  exact this
 | (a,c)::X,q,b,Y,pre,h=>by
  simp only [List.cons_append,rn,Bool.and_eq_true]at h
  obtain⟨_,h4⟩:=h
  obtain⟨g1,g2,g3,g4,g5⟩:=qM h4
  simp only [List.map_cons,List.reverse_cons,List.append_assoc,List.singleton_append]
  refine⟨g1, ?_,fun h=>g3 (List.mem_cons_of_mem _ h),g4,g5⟩
  intro hm
  rcases List.mem_cons.1 hm with rfl | hm
  ·exact g3 (by simp)
  ·exact g2 hm
theorem yk : ∀ {Y:List (Nat×Nat)} {pre:List Nat},rn is af pt pre Y=true→∀ x∈Y,x.1∉pre∧(gZ is x.1 = .alloc→∀ a∈pre,jQ is a x.1=true)
 | [],_,_,x,hx=>by cases hx
 | (q,b)::Y,pre,h,x,hx=>by
  simp only [rn,Bool.and_eq_true,Bool.not_eq_true']at h
  obtain⟨⟨⟨h1,h2⟩,_⟩,h4⟩:=h
  rw [← Bool.not_eq_true,List.contains_iff_mem]at h2
  rcases List.mem_cons.1 hx with rfl | hx
  ·refine⟨h2,fun hk a ha=> ?_⟩
   unfold nc at h1
   simp only [hk]at h1
   rw [List.all_eq_true]at h1
   exact h1 a ha
  ·obtain⟨g1,g2⟩:=yk h4 x hx
   exact⟨fun h=>g1 (List.mem_cons_of_mem _ h),fun hk a ha=>g2 hk a (List.mem_cons_of_mem _ ha)⟩
theorem yQ : ∀ {n:Nat},uT af pt n=true→∀ i,i<n→∀ j∈gb pt i,j∈gb af i∨∃ k∈gb af i,j∈gb pt k
 | 0,_,i,hi=>by omega
 | n+1,h,i,hi=>by
  simp only [uT,Bool.and_eq_true]at h
  rcases Nat.lt_or_ge i n with h1 | h1
  ·exact yQ h.2 i h1
  ·have:i=n:=by omega
   subst this
   intro j hj
   have:=h.1
   rw [List.all_eq_true]at this
   have:=this j hj
   simp only [Bool.or_eq_true,List.contains_iff_mem,List.any_eq_true]at this
   exact this
theorem u6 {pq:List Nat} : ∀ {l:List Nat},jI is pq l=true→∀ (x:Nat) (l1 l2:List Nat),l=l1++x::l2→gZ is x = .alloc→x∈pq→∀ y∈l2,y∈pq
 | [],_,x,l1,l2,h=>by simp at h
 | a::l,hb,x,l1,l2,h=>by
  simp only [jI,Bool.and_eq_true,Bool.or_eq_true,Bool.not_eq_true',Bool.and_eq_false_iff]at hb
  intro hk hx y hy
  cases l1 with
  | nil=>
   simp only [List.nil_append,List.cons.injEq]at h
   obtain⟨rfl,rfl⟩:=h
   rcases hb.1 with h1 | h1
   ·rcases h1 with h1 | h1
    ·simp [hk]at h1
    ·rw [← Bool.not_eq_true,List.contains_iff_mem]at h1
     exact(h1 hx).elim
   ·rw [List.all_eq_true]at h1
    have:=h1 y hy
    rwa [List.contains_iff_mem]at this
  | cons b l1=>
   simp only [List.cons_append,List.cons.injEq]at h
   exact u6 hb.2 x l1 l2 h.2 hk hx y hy
end
structure Pd where
 q:Nat
 t:Nat
 z:List D
 b:Nat
structure Vu (is:List AI) (R:List (Nat×Nat)) (B:e9) (M:Map) (s:St) (act:Act) (w:World) (p:Pd):Prop where
 mem:p.q∈R.map (·.1)
 ai:is[p.q]? = some (.op (some p.t) none (.alloc p.z))
 cells : ∃ (vs:Array Value) (T:TypeId),w.heap[p.b]? = some (.cells vs T (0,0))∧vs.size=p.z.length∧(∀ v∈vs,v.oneCell'=true)∧
  ∀ (M:Map) (s:St) (i:Nat) (d:D) (v:Value),p.z[i]? = some d→vs[i]? = some v→RD M s d v
 unk:Hj M s p.b
 base:B.w.heap.size≤p.b
 slot:act.tmps.getD p.t Go.undef = .pointer (some ⟨p.b,0,none⟩)
def vR (P:Program) (is:List AI) (K:Tm→St→Prop) (B:e9) (nt:Nat) (R:List (Nat×Nat)) (dH:List Pd) (act:Act) (w:World):Prop:=
 ∃ (M:Map) (s:St) (tm qN:Tm) (bo:List St),Ext B.M B.s B.w M s w∧Rel M s w∧kE M s qN act.tmps∧(∀ t,(∀ p∈dH,p.t≠t)→qN.get t=tm.get t)∧
  act.tmps.size=nt∧act.defers = []∧jz P is K R bo tm s∧(∀ p∈dH,Vu is R B M s act w p)∧
  (∀ p∈dH,∀ p'∈dH,p.q=p'.q∨p.t=p'.t∨p.b=p'.b→p=p')
structure o4 (is:List AI) (af pt:List (List Nat)) (cR:Array Bool) (R:List (Nat×Nat)) (dH:List Pd):Prop where
 ok:rn is af pt [] R=true
 CJ : ∀ i,i<is.length→(cR.getD i false=true↔(i∉R.map (·.1)∨∃ p∈dH,p.q=i))
 cl : ∀ i,i<is.length→cR.getD i false=true→∀ j∈gb pt i,cR.getD j false=true
 size:cR.size=is.length
 lt : ∀ x∈R,x.1<is.length
section
variable {P:Program} {is:List AI} {af pt:List (List Nat)} {K:Tm→St→Prop} {B:e9} {nt:Nat}
theorem Vv {cR:Array Bool} {q b:Nat} {R:List (Nat×Nat)} {dH:List Pd} {act:Act} {w:World} (hs:o4 is af pt cR ((q,b)::R) dH) (h:vR P is K B nt ((q,b)::R) dH act w)
 {p:Pd} (hp:p∈dH) (ry:p.q=q) :
 o4 is af pt cR R (dH.filter fun p'=>decide (p'.q≠q))∧vR P is K B nt R (dH.filter fun p'=>decide (p'.q≠q)) act w:=by
 have mC : ∀ p',p'∈(dH.filter fun p'=>decide (p'.q≠q))↔p'∈dH∧p'.q≠q:=fun p'=>by simp
 constructor
 ·have CG:=hs.ok
  have zt:=qM (X:= []) CG
  refine⟨BJ (X:= []) CG,fun i hi=> ?_,hs.cl,hs.size,fun x hx=>hs.lt x (List.mem_cons_of_mem _ hx)⟩
  rw [hs.CJ i hi]
  simp only [List.map_cons,List.mem_cons,not_or]
  have Vw:q∉R.map (·.1):=fun hm=>by
   obtain⟨x,hx,rfl⟩:=List.mem_map.1 hm
   exact(yk zt.2.2.2.2 x hx).1 (by simp)
  constructor
  ·rintro(⟨h1,h2⟩ | ⟨p',h1,h2⟩)
   ·exact .inl h2
   ·by_cases hq:i=q
    ·subst hq;exact .inl Vw
    ·exact .inr ⟨p',(mC p').2 ⟨h1,by rw [h2];exact hq⟩,h2⟩
  ·rintro(h1 | ⟨p',h1,h2⟩)
   ·by_cases hq:i=q
    ·subst hq;exact .inr ⟨p,hp,ry⟩
    ·exact .inl ⟨hq,h1⟩
   ·exact .inr ⟨p',((mC p').1 h1).1,h2⟩
 ·obtain⟨M,s,tm,qN,bo,e,r,ht,ov,hn,hd,hg,tu,qp⟩:=h
  have hk:=tu p hp
  obtain⟨vs,T,hh,hl,h1,h2⟩:=hk.cells
  have tp:=hk.ai
  rw [ry]at tp
  simp only [jz,tp,AI.kind,fP]at hg
  obtain⟨d,s',yH,hg⟩:=hg
  have oK:aP (.alloc p.z) tm s=some (d,s'):=yH
  simp only [aP,Option.some.injEq,Prod.mk.injEq]at oK
  obtain⟨rfl,rfl⟩:=oK
  obtain⟨r',e',le⟩:=r.Y7 e hk.unk hk.base p.z vs T hh hl h1 (h2 M s)
  refine⟨_,_,_,qN.put (some p.t) (.ptr s.aw.length 0),_,e',r',fun u=> ?_,fun t Vx=> ?_,hn,hd,hg,fun p' mP=> ?_,fun p1 h1 p2 h2=>qp p1 ((mC p1).1 h1).1 p2 ((mC p2).1 h2).1⟩
  ·rw [Tm.jU]
   split
   ·rename_i heq
    cases heq
    rw [hk.slot]
    have:(M.dK s.aw.length p.b).mu s.aw.length=p.b:=by simp [Map.dK,Map.mu]
    have h5:=RD.ptr (M:=M.dK s.aw.length p.b) (s:= {s with aw:=s.aw++ [p.z]}) s.aw.length 0 (by simp) (by simp [Map.dK,Map.ob])
    rw [this]at h5
    exact h5
   ·exact(ht u).mono le
  ·simp only [AI.dst]
   rw [Tm.jU,Tm.jU]
   split
   ·rfl
   ·rename_i fl
    refine ov t fun p' mP=> ?_
    by_cases hq:p'.q=q
    ·have:=qp p' mP p hp (.inl (hq.trans ry.symm))
     subst this
     exact fun h=>fl (by rw [h])
    ·exact Vx p' ((mC p').2 ⟨mP,hq⟩)
  ·obtain⟨hp1,hp2⟩:=(mC p').1 mP
   have yR:=tu p' hp1
   refine⟨?_,yR.ai,yR.cells,⟨fun o ho=> ?_,yR.unk.t,yR.unk.g⟩,yR.base,yR.slot⟩
   ·have:=yR.mem
    simp only [List.map_cons,List.mem_cons]at this
    exact this.resolve_left hp2
   ·simp at ho
    rcases Nat.lt_or_ge o s.aw.length with h5 | h5
    ·rw [le.mu o h5];exact yR.unk.o o h5
    ·have:o=s.aw.length:=by omega
     subst this
     have:(M.dK s.aw.length p.b).mu s.aw.length=p.b:=by simp [Map.dK,Map.mu]
     rw [this]
     intro hb
     have:=qp p hp p' hp1 (.inr (.inr hb))
     subst this
     exact hp2 ry
theorem norm {cR:Array Bool} {act:Act} {w:World} : ∀ (R:List (Nat×Nat)) (dH:List Pd),o4 is af pt cR R dH→vR P is K B nt R dH act w→
 ∃ R' tv,o4 is af pt cR R' tv∧vR P is K B nt R' tv act w∧∀ x l,R'=x::l→∀ p∈tv,p.q≠x.1
 | [],dH,hs,h=>⟨[],dH,hs,h,fun _ _ he=>by cases he⟩
 | (q,b)::R,dH,hs,h=>by
  by_cases hp : ∃ p∈dH,p.q=q
  ·obtain⟨p,hp,ry⟩:=hp
   obtain⟨h1,h2⟩:=Vv hs h hp ry
   exact norm R _ h1 h2
  ·refine⟨(q,b)::R,dH,hs,h,fun x l he p Vy ry=>hp ⟨p,Vy, ?_⟩⟩
   cases he
   exact ry
theorem Q2 {ops:Array Oper} {q:Nat} {o:Oper} {ai:AI} (hi:ops[q]? = some o) (hc:cI P nt ops o=some ai) {R R':List (Nat×Nat)} {dH:List Pd} {act:Act} {w:World} {M:Map} {s s1:St} {tm qN:Tm} {d:D} {Q3:List St}
 (e:Ext B.M B.s B.w M s w) (r:Rel M s w) (ht:kE M s qN act.tmps) (ov : ∀ t,(∀ p∈dH,p.t≠t)→qN.get t=tm.get t) (hn:act.tmps.size=nt) (hd:act.defers = [])
 (tu : ∀ p∈dH,Vu is R B M s act w p) (qp : ∀ p∈dH,∀ p'∈dH,p.q=p'.q∨p.t=p'.t∨p.b=p'.b→p=p')
 (hv:gP P [ai] (fun a b=>a=qN.put ai.dst d∧b=s1) qN s) (hg:jz P is K R' Q3 (tm.put ai.dst d) s1)
 (mC : ∀ p∈dH,p.q∈R'.map (·.1)) (oB : ∀ p∈dH,ai.dst≠some p.t) {Q:Exit→Act→World→Prop} :
 wpOp P ops Q q (vR P is K B nt R' dH) act w:=by
 refine ur hi hc r (B.laid.ext e) ht hv fun d' v s2 w1 M1 hk e1 r1 n7=> ?_
 obtain⟨sh,rfl⟩:=hk
 have hde:=qL hc
 have hF : ∀ t,o.dst=some t→t<act.tmps.size:=fun t h=>by rw [hn];exact uY hc t h
 refine⟨M1,s2,tm.put ai.dst d,qN.put ai.dst d,Q3,e.trans e1,r1, ?_,fun t Vx=> ?_, ?_, ?_,hg,fun p hp=> ?_,qp⟩
 ·rw [← sh,hde]
  exact(ht.mono e1.le).put hF n7
 ·rw [Tm.jU,Tm.jU,ov t Vx]
 ·cases ho:o.dst <;> simp [Act.put,hn]
 ·cases ho:o.dst <;> simp [Act.put,hd]
 ·have hk:=tu p hp
  obtain⟨vs,T,hh,hl,h1,h2⟩:=hk.cells
  have hb:=kC hh
  refine⟨mC p hp,hk.ai,⟨vs,T,by rw [e1.kept p.b hb hk.unk.o hk.unk.t];exact hh,hl,h1,h2⟩,hk.unk.mono e1 hb,hk.base, ?_⟩
  rw [← hk.slot]
  have:=oB p hp
  rw [hde]at this
  cases ho:o.dst with
  | none=>rfl
  | some t=>
   rw [ho]at this
   have fl:t≠p.t:=fun h=>this (by rw [h])
   simp [Act.put,Array.getElem?_setIfInBounds_ne fl]
theorem Ir {ai:AI} (hm:fP ai.kind=false) {tm:Tm} {s:St} {d:D} (h:iF ai tm s=some d):gP P [ai] (fun a b=>a=tm.put ai.dst d∧b=s) tm s:=by
 cases ai with
 | op dst g o=>
  have hko:=Hi hm
  have key : ∀ {d},(aP o tm s).map (·.1)=some d→aP o tm s=some (d,s):=by
   intro d h
   cases he:aP o tm s with
   | none=>rw [he]at h;cases h
   | some p=>
    obtain⟨d',s'⟩:=p
    rw [he]at h
    simp only [Option.map_some,Option.some.injEq]at h
    subst h
    rw [Gh (by rw [← hko];exact hm) he]
  simp only [gP,AI.dst]
  cases g with
  | none=>
   simp only [iF]at h
   simp only [guarded,key h,and_self]
  | some p=>
   obtain⟨t,want⟩:=p
   simp only [iF]at h
   simp only [guarded]
   split at h
   ·rename_i b hb
    simp only [hb]
    split at h
    ·rename_i heq
     refine⟨fun _=>by simp only [key h,and_self],fun fl=> ?_⟩
     subst heq
     cases b <;> cases fl
    ·rename_i fl
     cases h
     exact⟨fun heq=>(fl heq).elim,fun _=>by simp⟩
   ·rename_i ds hb
    cases h
    simp only [hb,and_self]
   ·cases h
 | call dst g f xs=>cases hm
 | nil dst g n x=>cases hm
 | gY dst g t xs=>cases hm
theorem xB {g:Option (Nat×Bool)} {tm:Tm} {A A' C C':Prop} (ha:A→A') (hc:C→C') (hh:guarded g tm A C):guarded g tm A' C':=by
 cases g with
 | none=>exact ha hh
 | some p=>
  obtain⟨t,want⟩:=p
  unfold guarded at *
  simp only at *
  split
  ·rename_i b hb;rw [hb]at hh;exact⟨fun e=>ha (hh.1 e),fun e=>hc (hh.2 e)⟩
  ·rename_i hb;rw [hb]at hh;exact hc hh
  ·rename_i x h1 h2
   split at hh
   ·exact h1 _ ‹_›
   ·exact h2 _ ‹_›
   ·exact hh
theorem EK {ai:AI} {tm:Tm} {s s1:St} {d:D} (h:qm P ai tm s d s1):gP P [ai] (fun a b=>a=tm.put ai.dst d∧b=s1) tm s:=by
 cases ai with
 | op dst g o=>
  refine xB (fun e=> ?_) (fun e=> ?_) h
  ·rw [e];exact⟨rfl,rfl⟩
  ·obtain⟨rfl,rfl⟩:=e;exact⟨rfl,rfl⟩
 | call dst g f xs=>
  refine xB (fun e=> ?_) (fun e=> ?_) h
  ·exact e.mono fun x y hxy=>by obtain⟨rfl,rfl⟩:=hxy;exact⟨rfl,rfl⟩
  ·obtain⟨rfl,rfl⟩:=e;exact⟨rfl,rfl⟩
 | nil dst g n x=>exact h.elim
 | gY dst g t xs=>exact h.elim
end
end Go.Abs

/-! Par3 -/

namespace Go.Abs
section
variable {P:Program} {is:List AI} {af pt:List (List Nat)} {K:Tm→St→Prop} {B:e9} {nt:Nat}
theorem yl {ops:Array Oper} : ∀ {ol:List Oper} {is:List AI},oV P nt ops ol=some is→is.length=ol.length∧∀ (i:Nat) (o:Oper),ol[i]? = some o→∃ ai,is[i]? = some ai∧cI P nt ops o=some ai
 | [],is,h=>by cases h;exact⟨rfl,by simp⟩
 | o::ol,is,h=>by
  unfold oV at h
  split at h
  ·rename_i ai K3 h1 h2
   cases h
   obtain⟨g1,g2⟩:=yl h2
   refine⟨by simp [g1],fun i o' ho=> ?_⟩
   cases i with
   | zero=>simp at ho;subst ho;exact⟨ai,rfl,h1⟩
   | succ i=>exact g2 i o' (by simpa using ho)
  ·cases h
theorem qq {cR:Array Bool} {i:Nat} (h:i<cR.size):cR.getD i true=cR.getD i false:=by
 simp [h]
theorem o4.done {cR:Array Bool} {X Y:List (Nat×Nat)} {q b:Nat} {dH:List Pd} (hs:o4 is af pt cR (X++(q,b)::Y) dH) (hq:q<is.length)
 (CK : ∀ j∈gb pt q,cR.getD j false=true):o4 is af pt (cR.setIfInBounds q true) (X++Y) dH:=by
 obtain⟨g1,g2,g3,g4,g5⟩:=qM hs.ok
 have hqY:q∉Y.map (·.1):=fun hm=>by
  obtain⟨x,hx,rfl⟩:=List.mem_map.1 hm
  exact(yk g5 x hx).1 (by simp)
 refine⟨BJ hs.ok,fun i hi=> ?_,fun i hi hl j hj=> ?_,by simp [hs.size],fun x hx=>hs.lt x (by simp at hx ⊢;exact hx.imp id .inr)⟩
 ·by_cases rr:i=q
  ·subst rr
   have:i<cR.size:=by rw [hs.size];exact hq
   simp only [List.map_append,List.mem_append,g2,hqY,or_self,not_false_eq_true,true_or,iff_true]
   simp [this]
  ·rw [getD_set_ne false (Ne.symm rr),hs.CJ i hi]
   simp [rr]
 ·by_cases rr:i=q
  ·subst rr;exact getD_set_true (CK j hj)
  ·rw [getD_set_ne false (Ne.symm rr)]at hl
   exact getD_set_true (hs.cl i hi hl j hj)
theorem o4.flag {cR:Array Bool} {R:List (Nat×Nat)} {dH:List Pd} (hs:o4 is af pt cR R dH) {p:Pd} (hq:p.q<is.length)
 (CK : ∀ j∈gb pt p.q,cR.getD j false=true):o4 is af pt (cR.setIfInBounds p.q true) R (p::dH):=by
 refine⟨hs.ok,fun i hi=> ?_,fun i hi hl j hj=> ?_,by simp [hs.size],hs.lt⟩
 ·by_cases rr:i=p.q
  ·subst rr
   have:p.q<cR.size:=by rw [hs.size];exact hq
   simp [this]
  ·rw [getD_set_ne false (Ne.symm rr),hs.CJ i hi]
   have fl:p.q≠i:=fun h=>rr h.symm
   simp [fl]
 ·by_cases rr:i=p.q
  ·subst rr;exact getD_set_true (CK j hj)
  ·rw [getD_set_ne false (Ne.symm rr)]at hl
   exact getD_set_true (hs.cl i hi hl j hj)
theorem Is {ai:AI} (h:ai.kind = .alloc) : ∃ t z,ai = .op (some t) none (.alloc z):=by
 cases ai with
 | op dst g o=>
  unfold AI.kind at h
  split at h
  ·rename_i heq;cases heq;exact⟨_,_,rfl⟩
  ·rename_i heq
   cases heq
   exfalso
   revert h
   cases o <;> simp [AO.kind]
  ·cases h
 | call dst g f xs=>cases h
 | nil dst g n x=>cases h
 | gY dst g t xs=>cases h
theorem Iu {ops:Array Oper} (uu:oV P nt ops ops.toList=some is) (Iv:uT af pt is.length=true)
 (hK : ∀ tm bw s,Tm.eqv tm bw→K tm s→K bw s) {cR:Array Bool} {R:List (Nat×Nat)} {dH:List Pd} {act:Act} {w:World} (hs:o4 is af pt cR R dH) (h:vR P is K B nt R dH act w)
 (Y8 : ∀ x l,R=x::l→∀ p∈dH,p.q≠x.1) {q:Nat} (hq:q<is.length) (An:cR.getD q false=false) (n7 : ∀ j∈gb af q,j<is.length∧cR.getD j false=true)
 {Q:Exit→Act→World→Prop} {K2:Act→World→Prop} (VA : ∀ R' tv a' w',o4 is af pt (cR.setIfInBounds q true) R' tv→vR P is K B nt R' tv a' w'→K2 a' w'):wpOp P ops Q q K2 act w:=by
 obtain⟨hlen,hP⟩:=yl uu
 have QT:q<ops.size:=by rw [hlen]at hq;simpa using hq
 obtain⟨ai,tp,Lk⟩:=hP q ops[q] (by simp [QT])
 have hi:ops[q]? = some ops[q]:=by simp [QT]
 have CK : ∀ j∈gb pt q,cR.getD j false=true:=fun j hj=>by
  rcases yQ Iv q hq j hj with h1 | ⟨k,h1,h2⟩
  ·exact(n7 j h1).2
  ·exact hs.cl k (n7 k h1).1 (n7 k h1).2 j h2
 have Ll : ∀ p∈dH,p.q≠q:=fun p hp ry=>by
  have:=(hs.CJ q hq).2 (.inr ⟨p,hp,ry⟩)
  rw [An]at this;cases this
 have Vw:q∈R.map (·.1):=by
  by_cases hm:q∈R.map (·.1)
  ·exact hm
  ·have:=(hs.CJ q hq).2 (.inl hm)
   rw [An]at this;cases this
 obtain⟨⟨q',b⟩,hx,hqq⟩:=List.mem_map.1 Vw
 simp only at hqq
 subst hqq
 obtain⟨X,Y,rfl⟩:=List.append_of_mem hx
 obtain⟨g1,g2,g3,g4,g5⟩:=qM hs.ok
 rw [List.append_nil]at g1 g5
 obtain⟨M,s,tm,qN,bo,e,r,ht,ov,hn,hd,hg,tu,qp⟩:=h
 have Lm:gZ is q'=ai.kind:=by simp [gZ,tp]
 -- what must have come up ahead of it, is not here any more, but for what was allocated early
 have Q4 : ∀ a∈X.map (·.1),a∈gb pt q'→∃ p∈dH,p.q=a:=fun a ha fQ=>by
  have h1:=CK a fQ
  obtain⟨x,hxX,rfl⟩:=List.mem_map.1 ha
  rcases(hs.CJ x.1 (hs.lt x (by simp [hxX]))).1 h1 with h2 | h2
  ·exact(h2 (by simp;exact .inl ⟨x.2,hxX⟩)).elim
  ·exact h2
 have Q5 : ∀ x l,X=x::l→x.1∉gb pt q':=fun x l hX hxp=>by
  obtain⟨p,hp,ry⟩:=Q4 x.1 (by simp [hX]) hxp
  exact Y8 x (l++(q',b)::Y) (by simp [hX]) p hp ry
 have hpk : ∀ p∈dH,gZ is p.q = .alloc:=fun p hp=>by simp [gZ,(tu p hp).ai,AI.kind]
 have zt : ∀ p∈dH,(p.q∈X.map (·.1)→jQ is p.q q'=true)→(∀ t,ai.dst=some t→t≠p.t)∧p.t∉ai.reads:=fun p hp hX=>by
  have hk:=tu p hp
  have hm:=hk.mem
  simp only [List.map_append,List.map_cons,List.mem_append,List.mem_cons]at hm
  rcases hm with hm | hm | hm
  ·have:=hX hm
   simp only [jQ,hk.ai,tp]at this
   obtain⟨p1,p2,p3⟩:=apart_spec this
   exact⟨fun t ht he=>p3 p.t rfl (by rw [ht,he]),p1 p.t rfl⟩
  ·exact(Ll p hp hm).elim
  ·obtain⟨x,hxY,Q6⟩:=List.mem_map.1 hm
   have:=(yk g5 x hxY).2 (by rw [Q6];exact hpk p hp) q' (by simp)
   rw [Q6]at this
   simp only [jQ,hk.ai,tp]at this
   obtain⟨p1,p2,p3⟩:=apart_spec this
   exact⟨fun t ht he=>p3 t ht (by rw [he];rfl),p2 p.t rfl⟩
 have Ln:(∀ p∈dH,p.t∉ai.reads)→∀ t∈ai.reads,tm.get t=qN.get t:=fun hp t ht=>(ov t fun p Vy he=>hp p Vy (by rw [he];exact ht)).symm
 have Q7 : ∀ p∈dH,p.q∈(X++Y).map (·.1):=fun p hp=>by
  have hm:=(tu p hp).mem
  have:=Ll p hp
  simp only [List.map_append,List.map_cons,List.mem_append,List.mem_cons]at hm ⊢
  rcases hm with hm | hm | hm
  ·exact .inl hm
  ·exact(this hm).elim
  ·exact .inr hm
 by_cases Ao:ai.kind = .alloc
 ·-- an allocation
  obtain⟨t,z,rfl⟩:=Is Ao
  have fQ : ∀ a∈X.map (·.1),jQ is a q'=true:=fun a ha=>by
   unfold nc at g1
   rw [Lm,Ao]at g1
   simp only [List.all_reverse,List.all_eq_true]at g1
   exact g1 a ha
  have CM:=fun p hp=>zt p hp (fQ p.q)
  refine Gi hi Lk fun vs T hl h1 h2=> ?_
  obtain⟨r1,e1,u1⟩:=r.idle (.cells vs T)
  have VB:t<act.tmps.size:=by
   rw [hn]
   exact uY Lk t (by rw [← qL Lk];rfl)
  have:=hs.flag (p:=⟨q',t,z,w.heap.size⟩) hq CK
  refine VA _ _ _ _ this ⟨M,s,tm,qN.put (some t) .junk,bo,e.trans e1,r1,kE.put ht (dst:=some t) (fun u hu=>by cases hu;exact VB) (.junk _),fun u hu=> ?_,by simp [Act.put,hn],by simp [Act.put,hd],hg,fun p hp=> ?_,fun p hp p' mP he=> ?_⟩
  ·have h3:=hu ⟨q',t,z,w.heap.size⟩ (by simp)
   rw [Tm.jU,if_neg (by simpa using h3)]
   exact ov u fun p hp=>hu p (List.mem_cons_of_mem _ hp)
  ·rcases List.mem_cons.1 hp with rfl | hp
   ·refine⟨by simp,tp,⟨vs,T,heap_alloc_new w _,hl,h1,h2⟩,u1,e.size, ?_⟩
    simp [Act.put,VB]
   ·have hk:=tu p hp
    obtain⟨fv,T',iO,me,pP,u5⟩:=hk.cells
    refine⟨hk.mem,hk.ai,⟨fv,T',by rw [heap_alloc_old w _ _ (kC iO)];exact iO,me,pP,u5⟩,hk.unk,hk.base, ?_⟩
    rw [← hk.slot]
    have fl:t≠p.t:=(CM p hp).1 t rfl
    simp [Act.put,Array.getElem?_setIfInBounds_ne fl]
  ·have dN : ∀ p∈dH,¬ (q'=p.q∨t=p.t∨w.heap.size=p.b):=fun p hp h=>by
    rcases h with h | h | h
    ·exact Ll p hp h.symm
    ·exact(CM p hp).1 t rfl h
    ·obtain⟨fv,T',iO,_⟩:=(tu p hp).cells
     have:=kC iO
     omega
   rcases List.mem_cons.1 hp with rfl | hp <;> rcases List.mem_cons.1 mP with rfl | mP
   ·rfl
   ·exact(dN p' mP he).elim
   ·exact(dN p hp (he.imp Eq.symm (Or.imp Eq.symm Eq.symm))).elim
   ·exact qp p hp p' mP he
 ·by_cases mg:fP ai.kind=true
  ·-- a step that changes something: it stands first
   have hkc:ai.kind = .core:=by
    cases hk:ai.kind <;> simp_all [fP]
   have hX:X = []:=by
    cases X with
    | nil=>rfl
    | cons x l=>
     refine(Q5 x l rfl ?_).elim
     unfold nc at g1
     rw [Lm,hkc]at g1
     simp only [List.all_reverse,List.all_eq_true]at g1
     have:=g1 x.1 (by simp)
     rwa [List.contains_iff_mem]at this
   subst hX
   have CM:=fun p hp=>zt p hp (fun h=>by simp at h)
   simp only [List.nil_append,jz,tp,mg]at hg
   obtain⟨d,s1,yH,hg⟩:=hg
   have acz:=um (Ln fun p hp=>(CM p hp).2) yH
   refine wpOp_mono (fun a' w' hr=>VA _ _ _ _ (hs.done hq CK) hr) ?_
   exact Q2 hi Lk e r ht ov hn hd tu qp (EK acz) hg Q7 (fun p hp he=>(CM p hp).1 _ he rfl)
  ·-- a step that changes nothing
   have hm:fP ai.kind=false:=by simpa using mg
   have nk : ∀ a∈X.map (·.1),a∉gb pt q':=fun a ha fQ=>by
    obtain⟨p,hp,ry⟩:=Q4 a ha fQ
    have CC:gZ is a = .alloc:=by rw [← ry];exact hpk p hp
    have ju:jI is (gb pt q') (X.map (·.1)).reverse=true:=by
     unfold nc at g1
     rw [Lm]at g1
     cases hk:ai.kind with
     | pure=>simp only [hk,Bool.and_eq_true]at g1;exact g1.2
     | load=>simp only [hk,Bool.and_eq_true]at g1;exact g1.1.2
     | alloc=>exact(Ao hk).elim
     | core=>rw [hk]at hm;cases hm
    cases X with
    | nil=>simp at ha
    | cons x l=>
     have ha2:a∈((x::l).map (·.1)).reverse:=List.mem_reverse.2 ha
     obtain⟨l1,l2,yS⟩:=List.append_of_mem ha2
     have uv:=u6 ju a l1 l2 yS CC fQ
     refine Q5 x l rfl ?_
     cases ti:l2.reverse with
     | nil=>
      have h3:l2 = []:=by simpa using ti
      subst h3
      have:=congrArg List.reverse yS
      simp at this
      rw [this.1];exact fQ
     | cons y l3=>
      have:=congrArg List.reverse yS
      simp only [List.reverse_reverse,List.map_cons,List.reverse_append,List.reverse_cons,List.reverse_nil,List.append_assoc,ti,List.cons_append,List.nil_append,List.cons.injEq]at this
      rw [this.1]
      exact uv y (by rw [← List.mem_reverse,ti];simp)
   have fQ : ∀ a∈X,jQ is a.1 q'=true:=fun a ha=>by
    have h3 : ∀ x∈(X.map (·.1)).reverse,((gb pt q').contains x || jQ is x q')=true:=by
     unfold nc at g1
     rw [Lm]at g1
     cases hk:ai.kind with
     | pure=>simp only [hk,Bool.and_eq_true]at g1;exact List.all_eq_true.1 g1.1
     | load=>simp only [hk,Bool.and_eq_true]at g1;exact List.all_eq_true.1 g1.1.1
     | alloc=>exact(Ao hk).elim
     | core=>rw [hk]at hm;cases hm
    have:=h3 a.1 (List.mem_reverse.2 (List.mem_map_of_mem ha))
    simp only [Bool.or_eq_true,List.contains_iff_mem]at this
    exact this.resolve_left (nk a.1 (List.mem_map_of_mem ha))
   have VC:ai.kind = .load→ij is (X.map (·.1))≤b:=fun hk=>by
    unfold nc at g1
    rw [Lm,hk]at g1
    simp only [Bool.and_eq_true,decide_eq_true_eq]at g1
    have h3:=g1.2
    have h4:(X.map (·.1)).reverse.filter (fun a=> !(gb pt q').contains a)=(X.map (·.1)).reverse:=by
     rw [List.filter_eq_self]
     intro a ha
     have:=nk a (List.mem_reverse.1 ha)
     simpa using this
    rw [h4]at h3
    unfold ij at h3 ⊢
    rw [List.filter_reverse,List.length_reverse]at h3
    exact h3
   have CM:=fun p hp=>zt p hp (fun h=>by
    obtain⟨x,hx,Q6⟩:=List.mem_map.1 h
    rw [← Q6];exact fQ x hx)
   obtain⟨d,h1,_,Q8⟩:=uq hK tp hm Y X bo tm s fQ VC hg
   have pP:iF ai qN s=some d:=by rw [← oM (Ln fun p hp=>(CM p hp).2)];exact h1
   refine wpOp_mono (fun a' w' hr=>VA _ _ _ _ (hs.done hq CK) hr) ?_
   exact Q2 hi Lk e r ht ov hn hd tu qp (Ir hm pP) Q8 Q7 (fun p hp he=>(CM p hp).1 _ he rfl)
theorem yT {o:Oper} {j:Nat} : j∈ll o↔∃ e∈o.after,Region.binds .any e=true∧e.on=j:=by
 simp only [ll,List.mem_map,List.mem_filter,Array.mem_toList_iff]
 constructor
 ·rintro⟨e,⟨h1,h2⟩,h3⟩;exact⟨e,h1,h2,h3⟩
 ·rintro⟨e,h1,h2,h3⟩;exact⟨e,⟨h1,h2⟩,h3⟩
theorem Iw {ops:Array Oper} (uu:oV P nt ops ops.toList=some is) (Iv:uT (ops.toList.map ll) pt is.length=true)
 (VD : ∀ i,i<is.length→∀ j∈gb (ops.toList.map ll) i,j<is.length) {Q:Exit→Tm→St→Prop} (hK : ∀ tm bw s,Tm.eqv tm bw→K tm s→K bw s)
 (hKQ : ∀ tm s act w,K tm s→Holds B nt tm s act w→nW B nt Q .normal act w) :
 ∀ (fuel:Nat) (cR:Array Bool) (R:List (Nat×Nat)) (dH:List Pd) (act:Act) (w:World) (U:List Nat),U.length≤fuel→(∀ j,j<is.length→cR.getD j false=false→j∈U)→
  o4 is (ops.toList.map ll) pt cR R dH→vR P is K B nt R dH act w→wpAny P .any ops (nW B nt Q) fuel cR act w:=by
 obtain⟨hlen,_⟩:=yl uu
 have tw:is.length=ops.size:=by rw [hlen];simp
 have VE : ∀ (j:Nat) (o:Oper),ops[j]? = some o→gb (ops.toList.map ll) j=ll o:=fun j o h=>by
  simp [gb,List.getD,h]
 have fin : ∀ {cR:Array Bool} {dH:List Pd} {act:Act} {w:World},vR P is K B nt [] dH act w→nW B nt Q .normal act w:=by
  intro cR dH act w h
  obtain⟨M,s,tm,qN,bo,e,r,ht,ov,hn,hd,hg,tu,qp⟩:=h
  have Ez : ∀ p∈dH,False:=fun p hp=>by have:=(tu p hp).mem;simp at this
  exact hKQ qN s act w (hK tm qN s (fun t=>(ov t fun p hp=>(Ez p hp).elim).symm) hg) ⟨M,e,r,ht,hn,hd⟩
 have Lo : ∀ {cR:Array Bool} {R:List (Nat×Nat)} {dH:List Pd} {x:Nat×Nat} {l:List (Nat×Nat)},o4 is (ops.toList.map ll) pt cR R dH→R=x::l→(∀ p∈dH,p.q≠x.1)→
  x.1∈Region.ready .any ops cR:=by
  intro cR R dH x l hs hR Ll
  subst hR
  have hx:=hs.lt x (by simp)
  rw [mem_ready]
  have An:cR.getD x.1 false=false:=by
   cases hl:cR.getD x.1 false with
   | false=>rfl
   | true=>
    rcases(hs.CJ x.1 hx).1 hl with h1 | ⟨p,hp,ry⟩
    ·exact(h1 (by simp)).elim
    ·exact(Ll p hp ry).elim
  have hxo:x.1<ops.size:=by rw [← tw];exact hx
  refine⟨by rw [qq (by rw [hs.size];exact hx)];exact An,ops[x.1],by simp [hxo],fun e he hb=> ?_⟩
  have hm:e.on∈gb (ops.toList.map ll) x.1:=by rw [VE x.1 ops[x.1] (by simp [hxo])];exact yT.2 ⟨e,he,hb,rfl⟩
  obtain⟨_,_,_,g4,_⟩:=qM (X:= []) (q:=x.1) (b:=x.2) hs.ok
  obtain⟨h1,h2⟩:=g4 _ hm
  refine(hs.CJ e.on (VD x.1 hx _ hm)).2 (.inl ?_)
  simp only [List.map_cons,List.mem_cons,not_or]
  exact⟨h1,h2⟩
 intro fuel
 induction fuel with
 | zero=>
  intro cR R dH act w U hU An hs h
  obtain⟨R',tv,nf,h',hn⟩:=norm R dH hs h
  have hUn:U = []:=List.length_eq_zero_iff.1 (by omega)
  have uv : ∀ j,j<is.length→cR.getD j false=true:=fun j hj=>by
   cases hl:cR.getD j false with
   | true=>rfl
   | false=>have:=An j hj hl;rw [hUn]at this;cases this
  have hR:R' = []:=by
   cases hR:R' with
   | nil=>rfl
   | cons x l=>
    have hx:=nf.lt x (by simp [hR])
    have:=Lo nf hR (hn x l hR)
    rw [mem_ready,qq (by rw [nf.size];exact hx),uv x.1 hx]at this
    cases this.1
  subst hR
  refine⟨?_,fin (cR:=cR) h'⟩
  cases hr:Region.ready .any ops cR with
  | nil=>rfl
  | cons j js=>
   have hj:j∈Region.ready .any ops cR:=by rw [hr];simp
   rw [mem_ready]at hj
   obtain⟨h1,o,ho,_⟩:=hj
   have Q9:j<is.length:=by rw [tw];exact(Array.getElem?_eq_some_iff.1 ho).1
   rw [qq (by rw [hs.size];exact Q9),uv j Q9]at h1
   cases h1
 | succ fuel ih=>
  intro cR R dH act w U hU An hs h
  obtain⟨R',tv,nf,h',hn⟩:=norm R dH hs h
  refine⟨fun hr=> ?_,fun i hi=> ?_⟩
  ·cases hR:R' with
   | nil=>subst hR;exact fin (cR:=cR) h'
   | cons x l=>
    have:=Lo nf hR (hn x l hR)
    rw [hr]at this
    cases this
  ·rw [mem_ready]at hi
   obtain⟨h1,o,ho,Ix⟩:=hi
   have oL:i<is.length:=by rw [tw];exact(Array.getElem?_eq_some_iff.1 ho).1
   rw [qq (by rw [hs.size];exact oL)]at h1
   refine Iu uu Iv hK nf h' hn oL h1 (fun j hj=>⟨VD i oL j hj, ?_⟩) fun R2 Za a2 w2 Hd h2=> ?_
   ·rw [VE i o ho]at hj
    obtain⟨e,he,hb,rfl⟩:=yT.1 hj
    exact Ix e he hb
   ·refine ih _ R2 Za a2 w2 (U.erase i) ?_ (fun j hj hl=> ?_) Hd h2
    ·have:=List.length_erase_of_mem (An i oL h1)
     omega
    ·have hji:j≠i:=fun e=>by
      subst e
      have:j<cR.size:=by rw [hs.size];exact oL
      simp [this]at hl
     rw [getD_set_ne false (Ne.symm hji)]at hl
     exact(List.mem_erase_of_ne hji).2 (An j hj hl)
theorem Sem.par {is:List AI} {kp:List (Nat×Nat)} {Q:Exit→Tm→St→Prop} {tm:Tm} {s:St} (h:jz P is (Q .normal) kp [] tm s):Sem P B nt (.par is kp) Q tm s:=by
 intro c hc act w hh
 obtain⟨id,ops,rfl,hi,hm,pt,hp⟩:=j7 hc
 simp only [Ed,Bool.and_eq_true,List.all_eq_true,List.mem_range,List.contains_iff_mem,decide_eq_true_eq]at hp
 obtain⟨⟨⟨⟨h1,h2⟩,h3⟩,h4⟩,h5⟩:=hp
 obtain⟨hlen,_⟩:=yl hi
 have tw:is.length=ops.size:=by rw [hlen];simp
 refine wp_region_any hm ?_
 obtain⟨M,e,r,ht,hn,hd⟩:=hh
 have key : ∀ (R:List (Nat×Nat)) (bo:List St) (tm:Tm) (s:St),jz P is (Q .normal) R bo tm s→jz P is (fun tm s=>∃ bw,tm.eqv bw∧Q .normal bw s) R bo tm s:=by
  intro R
  induction R with
  | nil=>intro bo tm s h;exact⟨tm,fun _=>rfl,h⟩
  | cons x R ih=>
   obtain⟨q,b⟩:=x
   intro bo tm s h
   unfold jz at h ⊢
   split at h
   ·exact h.elim
   ·split at h
    ·obtain⟨d,s',h1,h2⟩:=h;exact⟨d,s',h1,ih _ _ _ h2⟩
    ·obtain⟨d,h1,h2,h3⟩:=h;exact⟨d,h1,h2,ih _ _ _ h3⟩
 have hg:=key _ _ _ _ h
 refine Iw (K:=fun tm s=>∃ bw,tm.eqv bw∧Q .normal bw s) hi h1 h5 (fun tm bw s he ⟨t2,h3,h4⟩=>⟨t2,fun t=>(he t).symm.trans (h3 t),h4⟩)
  (fun tm s act w ⟨t2,h3,h4⟩ ⟨M,e,r,ht,hn,hd⟩=>⟨t2,s,h4,M,e,r,fun t=>by rw [← h3 t];exact ht t,hn,hd⟩) ops.size _ kp [] act _ (List.range is.length) (by simp [tw]) (fun j hj _=>by simpa using hj)
  ⟨h2,fun i hi=> ?_,fun i hi hl=> ?_,by simp [tw],h4⟩ ⟨M,s,tm,tm,[],⟨e.le,e.kept,e.oS,e.oT,e.qZ,e.size,e.os,e.tape,e.output⟩,r.of_heap rfl,ht,fun _ _=>rfl,hn,hd,hg,by simp,by simp⟩
 ·have:i<ops.size:=by rw [← tw];exact hi
  have h6:=h3 i hi
  simp only [List.not_mem_nil,false_and,exists_false,or_false]
  rw [show(Array.replicate ops.size false).getD i false=false by simp [this]]
  simp [h6]
 ·have:i<ops.size:=by rw [← tw];exact hi
  rw [show(Array.replicate ops.size false).getD i false=false by simp [this]]at hl
  cases hl
end
end Go.Abs

/-! Step -/

namespace Go.Abs
theorem S8 (k:IntKind) (n:Int):D.row (.int k n)=some [.int k n]:=rfl
theorem N5 (b:Bool):D.row (.bool b)=some [.bool b]:=rfl
theorem S9 (l:List UInt8):D.row (.str l)=some [.str l]:=rfl
theorem N6:D.row .eQ=some [.eQ]:=rfl
theorem Ta (o f:Nat):D.row (.ptr o f)=some [.ptr o f]:=rfl
theorem N7 (r:List D) (f:Nat):D.row (.dC r f)=some [.dC r f]:=rfl
theorem Lp (g:Tag) (z:Nat) (r:List (List D)):D.row (.slice g z r)=some [.slice g z r]:=rfl
theorem Tb (cs:List D):D.row (.agg cs)=some cs:=rfl
theorem Tc (v:Value):D.row (.val v)=some [.val v]:=rfl
theorem Lq (T:TypeId) (o:Nat):D.row (.fm T o)=some [.fm T o]:=rfl
theorem Td (f:Nat) (cs:List D):D.row (.fY f cs)=some [.fY f cs]:=rfl
theorem N8 (o:Nat):D.row (.fW o)=some [.fW o]:=rfl
theorem N9 (w:Bool):Tag.cut .full w=if w then .full else .shared:=rfl
theorem Iy (w:Bool):Tag.cut .shared w = .shared:=rfl
theorem Oa (t:Nat) (y:Bool) (w:Bool):Tag.cut (.tok t y) w = .tok t y:=rfl
section
variable {P:Program}
def KC (P:Program) (r:List AI) (K:Tm→St→Prop) (tm:Tm) (dst:Option Nat) (d:D) (s:St):Prop:=gP P r K (tm.put dst d) s
def GI (P:Program) (g:D) (want:Bool) (i:AI) (r:List AI) (K:Tm→St→Prop) (tm:Tm) (s:St):Prop:=
 match g with
 | .bool b=>(b=want→gP P (i::r) K tm s)∧(b=(!want)→gP P r K (tm.put i.dst (.tuple [])) s)
 | .tuple _=>gP P r K (tm.put i.dst (.tuple [])) s
 | _=>False
def NI (P:Program) (dst:Option Nat) (neg:Bool) (x:D) (r:List AI) (K:Tm→St→Prop) (tm:Tm) (s:St):Prop:=
 match x with
 | .slice _ _ rows=>∀ b:Bool,(rows≠ []→b=false)→gP P r K (tm.put dst (.bool (if neg then !b else b))) s
 | _=>False
def rL (d:D) (A C:Prop):Prop:=
 match d with
 | .bool b=>(b=true→A)∧(b=false→C)
 | _=>False
theorem Sem.Zb {B:e9} {nt:Nat} {Q:Exit→Tm→St→Prop} {tm:Tm} {s:St} {x:X} {a b:AC} (h:rL (x.ev tm) (Sem P B nt a Q tm s) (Sem P B nt b Q tm s)):Sem P B nt (.cond x a b) Q tm s:=by
 unfold rL at h
 split at h
 ·rename_i t ht
  exact Sem.cond ht h.1 h.2
 ·exact h.elim
def fR (P:Program) (K:Tm→St→Prop):List (AI×Nat)→List St→Tm→St→Prop
 | [],_,tm,s=>K tm s
 | (ai,b)::r,bo,tm,s=>
  match fP ai.kind with
  | true=>∃ d s',qm P ai tm s d s'∧fR P K r (s::bo) (tm.put ai.dst d) s'
  | false=>∃ d,iF ai tm s=some d∧(ai.kind = .load→∀ s'∈bo.take b,iF ai tm s'=some d)∧fR P K r bo (tm.put ai.dst d) s
def lx (is:List AI):List (Nat×Nat)→Option (List (AI×Nat))
 | []=>some []
 | (q,b)::r=>match is[q]?,lx is r with
  | some ai,some l=>some ((ai,b)::l)
  | _,_=>none
theorem BK {is:List AI} {K:Tm→St→Prop} : ∀ {kp:List (Nat×Nat)} {items:List (AI×Nat)} {bo:List St} {tm:Tm} {s:St},lx is kp=some items→fR P K items bo tm s→jz P is K kp bo tm s
 | [],items,bo,tm,s,h,g=>by cases h;exact g
 | (q,b)::r,items,bo,tm,s,h,g=>by
  simp only [lx]at h
  split at h
  ·rename_i ai l h1 h2
   cases h
   simp only [fR]at g
   simp only [jz,h1]
   split at g
   ·rename_i hk
    obtain⟨d,s',g1,g2⟩:=g
    try simp only [hk]
    exact⟨d,s',g1,BK h2 g2⟩
   ·rename_i hk
    obtain⟨d,g1,g2,g3⟩:=g
    try simp only [hk]
    exact⟨d,g1,g2,BK h2 g3⟩
  ·cases h
theorem Sem.acB {B:e9} {nt:Nat} {Q:Exit→Tm→St→Prop} {tm:Tm} {s:St} {is:List AI} {kp:List (Nat×Nat)} {items:List (AI×Nat)} (hi:lx is kp=some items) (h:fR P (Q .normal) items [] tm s):Sem P B nt (.par is kp) Q tm s:=
 Sem.par (BK hi h)
def AI.free:AI→AI
 | .op d _ o=> .op d none o
 | .call d _ f xs=> .call d none f xs
 | .nil d _ n x=> .nil d none n x
 | .gY d _ t xs=> .gY d none t xs
def GL (P:Program) (g:D) (want:Bool) (i:AI) (b:Nat) (r:List (AI×Nat)) (K:Tm→St→Prop) (bo:List St) (tm:Tm) (s:St):Prop:=
 match g with
 | .bool v=>(v=want→fR P K ((i,b)::r) bo tm s)∧(v=(!want)→fR P K r (if fP i.kind then s::bo else bo) (tm.put i.dst (.tuple [])) s)
 | .tuple _=>fR P K r (if fP i.kind then s::bo else bo) (tm.put i.dst (.tuple [])) s
 | _=>False
def CL (P:Program) (f:Nat) (args:List D) (s:St) (K:D→St→Prop):Prop:=∃ d s',aD P f args s d s'∧K d s'
def KL (P:Program) (K:Tm→St→Prop) (r:List (AI×Nat)) (bo:List St) (tm:Tm) (dst:Option Nat) (d:D) (s:St):Prop:=fR P K r bo (tm.put dst d) s
def mj (i:AI) (tm:Tm) (d:D):List St→Prop
 | []=>True
 | s::r=>iF i tm s=some d∧mj i tm d r
theorem Ap {i:AI} {tm:Tm} {d:D} : ∀ {l:List St},mj i tm d l→∀ s∈l,iF i tm s=some d
 | [],_,s,h=>by cases h
 | a::l,h,s,hs=>by
  rcases List.mem_cons.1 hs with rfl | hs
  ·exact h.1
  ·exact Ap h.2 s hs
def PL (P:Program) (o:AO) (dst:Option Nat) (b:Nat) (r:List (AI×Nat)) (K:Tm→St→Prop) (bo:List St) (tm:Tm) (s:St):Prop:=
 match aP o tm s with
 | some (d,_)=>mj (.op dst none o) tm d (bo.take b)∧fR P K r bo (tm.put dst d) s
 | none=>False
def ML (P:Program) (o:AO) (dst:Option Nat) (r:List (AI×Nat)) (K:Tm→St→Prop) (bo:List St) (tm:Tm) (s:St):Prop:=
 match aP o tm s with
 | some (d,s')=>fR P K r (s::bo) (tm.put dst d) s'
 | none=>False
def AO.core:AO→Bool
 | .alloc _=>true
 | .box _=>true
 | .sd .. =>true
 | .w8 _=>true
 | .store .. =>true
 | .app .. =>true
 | .qC .. =>true
 | .xa .. =>true
 | .xb .. =>true
 | .apps .. =>true
 | .rE=>true
 | .vH .. =>true
 | _=>false
theorem qO (dst:Option Nat) (g:Option (Nat×Bool)) (o:AO):fP (AI.op dst g o).kind=o.core:=by
 cases dst <;> cases g <;> cases o <;> rfl
def OL (P:Program) (o:AO) (dst:Option Nat) (b:Nat) (r:List (AI×Nat)) (K:Tm→St→Prop) (bo:List St) (tm:Tm) (s:St):Prop:=
 match o.core with
 | true=>ML P o dst r K bo tm s
 | false=>PL P o dst b r K bo tm s
theorem EL {K:Tm→St→Prop} {dst:Option Nat} {o:AO} {b:Nat} {r:List (AI×Nat)} {bo:List St} {tm:Tm} {s:St} (h:OL P o dst b r K bo tm s) :
 fR P K ((.op dst none o,b)::r) bo tm s:=by
 unfold OL at h
 simp only [fR,qO]
 cases hc:o.core with
 | true=>
  simp only [hc,ML]at h
  simp only []
  split at h
  ·rename_i d s' he
   exact⟨d,s',by simpa [qm,guarded]using he,h⟩
  ·exact h.elim
 | false=>
  simp only [hc,PL]at h
  simp only []
  split at h
  ·rename_i d s' he
   exact⟨d,by simp [iF,he],fun _=>Ap h.1,h.2⟩
  ·exact h.elim
theorem IA {K:Tm→St→Prop} {dst:Option Nat} {f:Nat} {xs:List X} {b:Nat} {r:List (AI×Nat)} {bo:List St} {tm:Tm} {s:St} (h:CL P f (xs.map (·.ev tm)) s (KL P K r (s::bo) tm dst)) :
 fR P K ((.call dst none f xs,b)::r) bo tm s:=by
 obtain⟨d,s',h1,h2⟩:=h
 exact⟨d,s',h1,h2⟩
theorem VF {K:Tm→St→Prop} {i:AI} {t:Nat} {w:Bool} {b:Nat} {r:List (AI×Nat)} {bo:List St} {tm:Tm} {s:St} {j:AI} (hf:(∃ d o,i = .op d none o∧j = .op d (some (t,w)) o)∨(∃ d f xs,i = .call d none f xs∧j = .call d (some (t,w)) f xs))
 (hg:tm.get t = .bool w) (h:fR P K ((i,b)::r) bo tm s):fR P K ((j,b)::r) bo tm s:=by
 rcases hf with ⟨d,o,rfl,rfl⟩ | ⟨d,f,xs,rfl,rfl⟩
 ·simp only [fR,qO]at h ⊢
  cases hc:o.core <;> simp only [hc]at h ⊢
  ·obtain⟨x,h1,h2,h3⟩:=h
   refine⟨x,by simpa [iF,hg]using h1,fun hk s' nf=> ?_,h3⟩
   have yR:(AI.op d none o).kind = .load:=by
    cases d <;> cases o <;> first | exact hk | (cases hc;done) | (cases hk;done)
   simpa [iF,hg]using h2 yR s' nf
  ·obtain⟨x,s',h1,h2⟩:=h
   exact⟨x,s',by simpa [qm,guarded,hg]using h1,h2⟩
 ·obtain⟨x,s',h1,h2⟩:=h
  exact⟨x,s',by simpa [qm,guarded,hg]using h1,h2⟩
theorem Lr {K:Tm→St→Prop} {i:AI} {t:Nat} {w:Bool} {b:Nat} {r:List (AI×Nat)} {bo:List St} {tm:Tm} {s:St} {j:AI} (hf:(∃ d o,i = .op d none o∧j = .op d (some (t,w)) o)∨(∃ d f xs,i = .call d none f xs∧j = .call d (some (t,w)) f xs))
 (hg:tm.get t = .bool (!w)∨∃ l,tm.get t = .tuple l) (h:fR P K r (if fP i.kind then s::bo else bo) (tm.put i.dst (.tuple [])) s):fR P K ((j,b)::r) bo tm s:=by
 rcases hf with ⟨d,o,rfl,rfl⟩ | ⟨d,f,xs,rfl,rfl⟩
 ·simp only [fR,qO]at h ⊢
  cases hc:o.core <;> simp only [hc]at h ⊢
  ·refine⟨.tuple [], ?_,fun hk s' nf=> ?_,h⟩
   ·rcases hg with hg | ⟨l,hg⟩ <;> simp [iF,hg]
   ·rcases hg with hg | ⟨l,hg⟩ <;> simp [iF,hg]
  ·refine⟨.tuple [],s, ?_,h⟩
   rcases hg with hg | ⟨l,hg⟩ <;> simp [qm,guarded,hg]
 ·refine⟨.tuple [],s, ?_,h⟩
  rcases hg with hg | ⟨l,hg⟩ <;> simp [qm,guarded,hg]
theorem Hk {K:Tm→St→Prop} {i j:AI} {t:Nat} {w:Bool} {b:Nat} {r:List (AI×Nat)} {bo:List St} {tm:Tm} {s:St} (hf:(∃ d o,i = .op d none o∧j = .op d (some (t,w)) o)∨(∃ d f xs,i = .call d none f xs∧j = .call d (some (t,w)) f xs))
 (h:GL P (tm.get t) w i b r K bo tm s):fR P K ((j,b)::r) bo tm s:=by
 unfold GL at h
 split at h
 ·rename_i v hv
  by_cases e:v=w
  ·exact VF hf (by rw [hv,e]) (h.1 e)
  ·exact Lr hf (.inl (by rw [hv];cases v <;> cases w <;> simp_all)) (h.2 (by cases v <;> cases w <;> simp_all))
 ·rename_i l hl
  exact Lr hf (.inr ⟨l,hl⟩) h
 ·exact h.elim
theorem CN {K:Tm→St→Prop} {dst:Option Nat} {o:AO} {t:Nat} {w:Bool} {b:Nat} {r:List (AI×Nat)} {bo:List St} {tm:Tm} {s:St} (h:GL P (tm.get t) w (.op dst none o) b r K bo tm s) :
 fR P K ((.op dst (some (t,w)) o,b)::r) bo tm s:=Hk (.inl ⟨dst,o,rfl,rfl⟩) h
theorem Gk {K:Tm→St→Prop} {dst:Option Nat} {f:Nat} {xs:List X} {t:Nat} {w:Bool} {b:Nat} {r:List (AI×Nat)} {bo:List St} {tm:Tm} {s:St} (h:GL P (tm.get t) w (.call dst none f xs) b r K bo tm s) :
 fR P K ((.call dst (some (t,w)) f xs,b)::r) bo tm s:=Hk (.inr ⟨dst,f,xs,rfl,rfl⟩) h
theorem CU {f:Nat} {args:List D} {s:St} {d:D} {s':St} {K:D→St→Prop} (h:aD P f args s d s') (hk:K d s'):CL P f args s K:=⟨d,s',h,hk⟩
end
end Go.Abs

/-! Wp -/

namespace Go.Abs
theorem nd {α:Type} {a b:α} (h:a=b):a=b:=h
def GJ (g:D) (w:Bool) (A C:Prop):Prop:=
 match g with
 | .bool b=>(b=w→A)∧(b=(!w)→C)
 | .tuple _=>C
 | _=>False
class Two where
 a:Prop
 c:Prop
def CB (d:D) [b:Two] : Prop:=rL d b.a b.c
def GB (d:D) (w:Bool) [b:Two] : Prop:=GJ d w b.a b.c
def ly (g:Option (Nat×Bool)) (tm:Tm) (A C:Prop):Prop:=
 match g with
 | none=>A
 | some (t,w)=>GJ (tm.get t) w A C
def iW (P:Program):List AI→(Tm→St→Prop)→Tm→St→Prop
 | [],K,tm,s=>K tm s
 | .op dst g o::r,K,tm,s=>ly g tm (match aP o tm s with | some (d,s')=>iW P r K (tm.put dst d) s' | none=>False) (iW P r K (tm.put dst (.tuple [])) s)
 | .call dst g f xs::r,K,tm,s=>ly g tm (CL P f (xs.map (·.ev tm)) s fun d s'=>iW P r K (tm.put dst d) s') (iW P r K (tm.put dst (.tuple [])) s)
 | .nil dst g neg x::r,K,tm,s=>
  ly g tm (match x.ev tm with
   | .slice _ _ rows=>∀ b:Bool,(rows≠ []→b=false)→iW P r K (tm.put dst (.bool (if neg then !b else b))) s
   | _=>False) (iW P r K (tm.put dst (.tuple [])) s)
 | .gY dst g t xs::r,K,tm,s=>
  ly g tm (match tm.get t with
   | .fY f lT=>enters P f=true∧CL P f (xs.map (·.ev tm)++lT) s fun d s'=>iW P r K (tm.put dst d) s'
   | _=>False) (iW P r K (tm.put dst (.tuple [])) s)
theorem qs {g:Option (Nat×Bool)} {tm:Tm} {A C A' C':Prop} (h:ly g tm A C) (ha:A→A') (hc:C→C'):guarded g tm A' C':=by
 unfold ly at h
 unfold guarded
 cases g with
 | none=>exact ha h
 | some p=>
  obtain⟨t,w⟩:=p
  simp only [GJ]at h ⊢
  split at h
  ·rename_i hb;try simp only [hb]
   exact⟨fun e=>ha (h.1 e),fun e=>hc (h.2 e)⟩
  ·rename_i hb;try simp only [hb]
   exact hc h
  ·exact h.elim
theorem mw {P:Program} {K:Tm→St→Prop} : ∀ {is:List AI} {tm:Tm} {s:St},iW P is K tm s→gP P is K tm s
 | [],tm,s,h=>h
 | .op dst g o::r,tm,s,h=>by
  refine qs h (fun h=> ?_) mw
  split at h
  ·rename_i he;try simp only [he]
   exact mw h
  ·exact h.elim
 | .call dst g f xs::r,tm,s,h=>qs h (fun⟨d,s',h1,h2⟩=>h1.use (mw h2)) mw
 | .nil dst g neg x::r,tm,s,h=>by
  refine qs h (fun h=> ?_) mw
  split at h
  ·rename_i he;try simp only [he]
   exact fun b hb=>mw (h b hb)
  ·exact h.elim
 | .gY dst g t xs::r,tm,s,h=>by
  refine qs h (fun h=> ?_) mw
  split at h
  ·rename_i he;try simp only [he]
   obtain⟨h0,d,s',h1,h2⟩:=h
   exact⟨h0,h1.use (mw h2)⟩
  ·exact h.elim
def fC (P:Program) (K:Tm→St→Prop):List (AI×Nat)→List St→Tm→St→Prop
 | [],_,tm,s=>K tm s
 | (.op dst g o,b)::r,bo,tm,s=>
  match o.core with
  | true=>ly g tm (match aP o tm s with | some (d,s')=>fC P K r (s::bo) (tm.put dst d) s' | none=>False) (fC P K r (s::bo) (tm.put dst (.tuple [])) s)
  | false=>ly g tm (match aP o tm s with | some (d,_)=>mj (.op dst none o) tm d (bo.take b)∧fC P K r bo (tm.put dst d) s | none=>False) (fC P K r bo (tm.put dst (.tuple [])) s)
 | (.call dst g f xs,_)::r,bo,tm,s=>ly g tm (CL P f (xs.map (·.ev tm)) s fun d s'=>fC P K r (s::bo) (tm.put dst d) s') (fC P K r (s::bo) (tm.put dst (.tuple [])) s)
 | (.nil ..,_)::_,_,_,_=>False
 | (.gY ..,_)::_,_,_,_=>False
theorem xD {P:Program} {t:Nat} {w:Bool} {tm:Tm} {i:AI} {b:Nat} {r:List (AI×Nat)} {K:Tm→St→Prop} {bo:List St} {s:St} {A C:Prop} (h:ly (some (t,w)) tm A C) (ha:A→fR P K ((i,b)::r) bo tm s)
 (hc:C→fR P K r (if fP i.kind then s::bo else bo) (tm.put i.dst (.tuple [])) s):GL P (tm.get t) w i b r K bo tm s:=by
 simp only [ly,GJ]at h
 unfold GL
 split at h
 ·rename_i hb;try simp only [hb]
  exact⟨fun e=>ha (h.1 e),fun e=>hc (h.2 e)⟩
 ·rename_i hb;try simp only [hb]
  exact hc h
 ·exact h.elim
theorem kT {P:Program} {K:Tm→St→Prop} : ∀ {l:List (AI×Nat)} {bo:List St} {tm:Tm} {s:St},fC P K l bo tm s→fR P K l bo tm s
 | [],bo,tm,s,h=>h
 | (.op dst g o,b)::r,bo,tm,s,h=>by
  simp only [fC]at h
  cases hc:o.core with
  | true=>
   simp only [hc]at h
   have ha:(match aP o tm s with | some (d,s')=>fC P K r (s::bo) (tm.put dst d) s' | none=>False)→fR P K ((.op dst none o,b)::r) bo tm s:=by
    intro h
    refine EL ?_
    simp only [OL,hc,ML]
    split at h
    ·rename_i he;try simp only [he]
     exact kT h
    ·exact h.elim
   cases g with
   | none=>exact ha h
   | some p=>
    obtain⟨t,w⟩:=p
    refine CN (xD h ha fun h=> ?_)
    simp only [qO,hc,if_true]
    exact kT h
  | false=>
   simp only [hc]at h
   have ha:(match aP o tm s with | some (d,_)=>mj (.op dst none o) tm d (bo.take b)∧fC P K r bo (tm.put dst d) s | none=>False)→fR P K ((.op dst none o,b)::r) bo tm s:=by
    intro h
    refine EL ?_
    simp only [OL,hc,PL]
    split at h
    ·rename_i he;try simp only [he]
     exact⟨h.1,kT h.2⟩
    ·exact h.elim
   cases g with
   | none=>exact ha h
   | some p=>
    obtain⟨t,w⟩:=p
    refine CN (xD h ha fun h=> ?_)
    simp only [qO,hc]
    exact kT h
 | (.call dst g f xs,b)::r,bo,tm,s,h=>by
  simp only [fC]at h
  have ha:(CL P f (xs.map (·.ev tm)) s fun d s'=>fC P K r (s::bo) (tm.put dst d) s')→fR P K ((.call dst none f xs,b)::r) bo tm s:=
   fun⟨d,s',h1,h2⟩=>IA ⟨d,s',h1,kT h2⟩
  cases g with
  | none=>exact ha h
  | some p=>
   obtain⟨t,w⟩:=p
   exact Gk (xD h ha fun h=>kT h)
 | (.nil ..,_)::_,bo,tm,s,h=>h.elim
 | (.gY ..,_)::_,bo,tm,s,h=>h.elim
section
variable {P:Program} {B:e9} {nt:Nat}
def gi (P:Program) (B:e9) (nt:Nat):AC→(Exit→Tm→St→Prop)→Tm→St→Prop
 | .skip,Q,tm,s=>Q .normal tm s
 | .run is,Q,tm,s=>iW P is (Q .normal) tm s
 | .par is kp,Q,tm,s=>match lx is kp with | some l=>fC P (Q .normal) l [] tm s | none=>False
 | .seq a b,Q,tm,s=>gi P B nt a (lj (gi P B nt b Q) Q) tm s
 | .cond x a b,Q,tm,s=>rL (x.ev tm) (gi P B nt a Q tm s) (gi P B nt b Q tm s)
 | .block id a,Q,tm,s=>gi P B nt a (jj id Q) tm s
 | .loop a,Q,tm,s=>bm P B nt a Q tm s
 | .exit id,Q,tm,s=>Q (.exit id) tm s
 | .scope a,Q,tm,s=>mB P B nt a a Q tm s
 | .label _,Q,tm,s=>Q .normal tm s
 | .goto l,Q,tm,s=>Q (.goto l) tm s
 | .ret,Q,tm,s=>Q .ret tm s
theorem gB : ∀ {ac:AC} {Q:Exit→Tm→St→Prop} {tm:Tm} {s:St},gi P B nt ac Q tm s→Sem P B nt ac Q tm s:=by
 intro ac
 induction ac with
 | skip=>exact fun h=>Sem.skip h
 | run is=>exact fun h=>Sem.run (mw h)
 | par is kp=>
  intro Q tm s h
  simp only [gi]at h
  split at h
  ·exact Sem.acB ‹_› (kT h)
  ·exact h.elim
 | seq a b K6 K7=>
  intro Q tm s h
  refine Sem.seq ((K6 h).mono fun e tm s hq=> ?_)
  cases e with
  | normal=>exact K7 hq
  | _=>exact hq
 | cond x a b K6 K7=>
  intro Q tm s h
  refine Sem.Zb ?_
  simp only [gi]at h
  unfold rL at h ⊢
  split at h
  ·exact⟨fun e=>K6 (h.1 e),fun e=>K7 (h.2 e)⟩
  ·exact h.elim
 | block id a ih=>exact fun h=>Sem.block (ih h)
 | loop a ih=>exact fun h=>Sem.loop h
 | exit id=>exact fun h=>Sem.exit h
 | scope a ih=>exact fun h=>Sem.scope h
 | label l=>exact fun h=>Sem.label h
 | goto l=>exact fun h=>Sem.goto h
 | ret=>exact fun h=>Sem.ret h
section
variable (Q:Exit→Tm→St→Prop) (N:Tm→St→Prop) (tm:Tm) (s:St) (a b:AC) (is:List AI) (x:X)
theorem Oc:gi P B nt .skip Q tm s=Q .normal tm s:=nd rfl
theorem Tf:gi P B nt (.run is) Q tm s=iW P is (Q .normal) tm s:=nd rfl
theorem Tg (kp:List (Nat×Nat)):gi P B nt (.par is kp) Q tm s=match lx is kp with | some l=>fC P (Q .normal) l [] tm s | none=>False:=nd rfl
theorem Ti:gi P B nt (.seq a b) Q tm s=gi P B nt a (lj (gi P B nt b Q) Q) tm s:=nd rfl
theorem Od:gi P B nt (.cond x a b) Q tm s = @CB (x.ev tm) ⟨gi P B nt a Q tm s,gi P B nt b Q tm s⟩:=nd rfl
theorem Ls (id:Nat):gi P B nt (.block id a) Q tm s=gi P B nt a (jj id Q) tm s:=nd rfl
theorem Oe:gi P B nt (.loop a) Q tm s=bm P B nt a Q tm s:=nd rfl
theorem Lt:gi P B nt (.scope a) Q tm s=mB P B nt a a Q tm s:=nd rfl
theorem Og (id:Nat):gi P B nt (.exit id) Q tm s=Q (.exit id) tm s:=nd rfl
theorem Lu (id:Nat):gi P B nt (.label id) Q tm s=Q .normal tm s:=nd rfl
theorem Oh (id:Nat):gi P B nt (.goto id) Q tm s=Q (.goto id) tm s:=nd rfl
theorem Tj:gi P B nt .ret Q tm s=Q .ret tm s:=nd rfl
theorem Tk:lj N Q .normal tm s=N tm s:=nd rfl
theorem Tl:lj N Q .ret tm s=Q .ret tm s:=nd rfl
theorem Tn (id:Nat):lj N Q (.exit id) tm s=Q (.exit id) tm s:=nd rfl
theorem Tp (id:Nat):lj N Q (.goto id) tm s=Q (.goto id) tm s:=nd rfl
theorem Oi (id:Nat):jj id Q .normal tm s=Q .normal tm s:=nd rfl
theorem Oj (id:Nat):jj id Q .ret tm s=Q .ret tm s:=nd rfl
theorem Ol (id l:Nat):jj id Q (.goto l) tm s=Q (.goto l) tm s:=nd rfl
theorem Om (id i:Nat):jj id Q (.exit i) tm s=if i=id then Q .normal tm s else Q (.exit i) tm s:=nd rfl
end
theorem bm.tx {a:AC} {Q:Exit→Tm→St→Prop} {tm:Tm} {s:St} (h:gi P B nt a (lj (bm P B nt a Q) Q) tm s):bm P B nt a Q tm s:=bm.once (gB h)
theorem mB.tx {a r:AC} {Q:Exit→Tm→St→Prop} {tm:Tm} {s:St} (h:gi P B nt r (iQ P B nt a Q) tm s):mB P B nt a r Q tm s:=mB.once (gB h)
def rz (tm:Tm) (n m:Nat):Tm→Prop
 | []=>True
 | (k,d)::r=>Wk ((tm.get k).fg n m) d∧rz tm n m r
theorem rz.get {tm:Tm} {n m:Nat} : ∀ {bw:Tm},rz tm n m bw→∀ t,Wk ((tm.get t).fg n m) (bw.get t)
 | [],_,t=>Wk.junk _
 | (k,d)::r,h,t=>by
  simp only [Tm.get]
  split
  ·rename_i hk;subst hk;exact h.1
  ·exact rz.get h.2 t
theorem Holds.re {Q:Exit→Tm→St→Prop} {tm bw:Tm} {s:St} {jA:List (List D)} {act:Act} {w:World} (n m:Nat) (hn:B.s.aw.length≤n) (hm:B.s.aC.length≤m) (ht:rz tm n m bw) (ho:gH (s.cut n m).aw jA)
 (h:Holds B nt tm s act w):Holds B nt bw ⟨jA,(s.cut n m).aC⟩ act w:=by
 obtain⟨M,e,r,hr,h1,h2⟩:=h
 obtain⟨r',le⟩:=(r.cut n m).zr ho
 have e':=e.cut hn hm
 refine⟨M,e'.trans ⟨le,fun _ _ _ _=>rfl,fun o h1 h2=> ?_,fun t b c z hl e=> .inl ⟨hl,c,z,e⟩,fun _ _ h=>(h rfl).elim,Nat.le_refl _,rfl,rfl,rfl⟩,r',fun k=>((ht.get k) _ _ _ ((hr k).fg n m)).mono le,h1,h2⟩
 rw [← ho.len]at h2
 exact absurd h2 (Nat.not_lt.2 h1)
theorem bm.re {a:AC} {Q:Exit→Tm→St→Prop} {tm:Tm} {s:St} (bw:Tm) (jA:List (List D)) (n m:Nat) (hn:B.s.aw.length≤n) (hm:B.s.aC.length≤m) (ht:rz tm n m bw) (ho:gH (s.cut n m).aw jA)
 (h:bm P B nt a Q bw ⟨jA,(s.cut n m).aC⟩):bm P B nt a Q tm s:=
 fun c hc act w hh=>h c hc act w (hh.re (Q:=Q) n m hn hm ht ho)
theorem mB.re {a r:AC} {Q:Exit→Tm→St→Prop} {tm:Tm} {s:St} (bw:Tm) (jA:List (List D)) (n m:Nat) (hn:B.s.aw.length≤n) (hm:B.s.aC.length≤m) (ht:rz tm n m bw) (ho:gH (s.cut n m).aw jA)
 (h:mB P B nt a r Q bw ⟨jA,(s.cut n m).aC⟩):mB P B nt a r Q tm s:=
 fun c rest hc hr act w hh=>h c rest hc hr act w (hh.re (Q:=Q) n m hn hm ht ho)
theorem bm.ind {ι:Type} {a:AC} {Q:Exit→Tm→St→Prop} (I:ι→Prop) (μ:ι→Nat) (TM:ι→Tm) (ST:ι→St)
 (step : ∀ i,I i→(∀ j,I j→μ j<μ i→bm P B nt a Q (TM j) (ST j))→gi P B nt a (lj (bm P B nt a Q) Q) (TM i) (ST i)) : ∀ i,I i→bm P B nt a Q (TM i) (ST i):=by
 have key : ∀ n i,μ i<n→I i→bm P B nt a Q (TM i) (ST i):=by
  intro n
  induction n with
  | zero=>intro i h;exact absurd h (Nat.not_lt_zero _)
  | succ n ih=>exact fun i h hi=>bm.tx (step i hi fun j hj hF=>ih j (by omega) hj)
 exact fun i hi=>key (μ i+1) i (Nat.lt_succ_self _) hi
theorem drop_cons {α:Type} {l rest:List α} {k:Nat} {x:α} (h:l.drop k=x::rest):l[k]? = some x∧l.drop (k+1)=rest∧decide ((k:Int)<(l.length:Int))=true∧k<l.length:=by
 have h1:l[k]? = some x:=by
  have:(l.drop k)[0]? = some x:=by rw [h];rfl
  simpa using this
 have h2:=(List.getElem?_eq_some_iff.1 h1).1
 refine⟨h1, ?_,by simpa using h2,h2⟩
 have:l.drop (k+1)=(l.drop k).drop 1:=by rw [List.drop_drop]
 rw [this,h];rfl
theorem drop_nil {α:Type} {l:List α} {k:Nat} (h:l.drop k = []):decide ((k:Int)<(l.length:Int))=false:=by
 have:=List.drop_eq_nil_iff.1 h
 simp;omega
theorem bm.oD {a:AC} {Q:Exit→Tm→St→Prop} {tm:Tm} {s:St} (t z':Nat) {z:Nat} (hw:tm.get t = .slice .full z [])
 (h:bm P B nt a Q (tm.set t (.slice (.tok s.aC.length) z' [])) {s with aC:=s.aC++ [some 0]}):bm P B nt a Q tm s:=by
 intro c hc act w ⟨M,e,r,ht,h1,h2⟩
 obtain⟨r',le⟩:=r.blank
 refine h c hc act w ⟨_,xy e le,r',fun k=> ?_,h1,h2⟩
 rw [Tm.yf]
 split
 ·rename_i hk;subst hk;have:=ht k;rw [hw]at this;exact this.own
 ·exact(ht k).mono le
theorem bm.sw {a:AC} {Q:Exit→Tm→St→Prop} {tm:Tm} {s:St} (o i z':Nat) {z:Nat} {cs:List D} (hc:s.aw[o]? = some cs) (hi:cs[i]? = some (.slice .full z []))
 (h:bm P B nt a Q tm ⟨s.aw.set o (cs.set i (.slice (.tok s.aC.length) z' [])),s.aC++ [some 0]⟩):bm P B nt a Q tm s:=by
 intro c Vj act w hh
 obtain⟨M,e,r,ht,h1,h2⟩:=hh
 obtain⟨r',le⟩:=r.blank
 have le':Le M s (M.dZ s.aC.length none) ⟨s.aw.set o (cs.set i (.slice (.tok s.aC.length) z' [])),s.aC++ [some 0]⟩:=⟨le.G,by simp,le.loc,le.t,le.tk⟩
 have VH:Le (M.dZ s.aC.length none) {s with aC:=s.aC++ [some 0]} (M.dZ s.aC.length none) ⟨s.aw.set o (cs.set i (.slice (.tok s.aC.length) z' [])),s.aC++ [some 0]⟩:=
  ⟨fun _ _ _ h=>h,by simp,fun _ _=>rfl,Nat.le_refl _,fun t n' _ e=>⟨n',e,Nat.le_refl _,fun _=>rfl⟩⟩
 have r2:Rel (M.dZ s.aC.length none) ⟨s.aw.set o (cs.set i (.slice (.tok s.aC.length) z' [])),s.aC++ [some 0]⟩ w:=by
  refine⟨r'.comm,fun o' ds e=> ?_,fun o ho=>r'.jW o (by simpa using ho),fun o o' ho lR=>r'.inj o o' (by simpa using ho) (by simpa using lR),r'.tok,
   fun t b c z o hv e ho=>r'.fe t b c z o hv e (by simpa using ho),r'.fG⟩
  simp only [List.getElem?_set]at e
  split at e
  ·rename_i ho
   subst ho
   split at e
   ·cases e
    obtain⟨vs,T,g1,g2,g3,g4⟩:=r.obj o cs hc
    refine⟨vs,T,g1,by simpa using g2,g3,fun j d v e1 e2=> ?_⟩
    rw [List.getElem?_set]at e1
    split at e1
    ·rename_i hj
     subst hj
     split at e1
     ·cases e1
      exact((g4 i _ v hi e2).own (z':=z')).mono VH
     ·cases e1
    ·exact(g4 j d v e1 e2).mono le'
   ·cases e
  ·obtain⟨vs,T,g1,g2,g3,g4⟩:=r'.obj o' ds e
   exact⟨vs,T,g1,g2,g3,fun i d v e1 e2=>(g4 i d v e1 e2).mono VH⟩
 have ee:Ext B.M B.s B.w (M.dZ s.aC.length none) ⟨s.aw.set o (cs.set i (.slice (.tok s.aC.length) z' [])),s.aC++ [some 0]⟩ w:=by
  refine(xy e le).trans ⟨VH,fun _ _ _ _=>rfl,fun o h1 h2=> ?_,fun t b c z hl e=> .inl ⟨hl,c,z,e⟩,fun _ _ h=>(h rfl).elim,Nat.le_refl _,rfl,rfl,rfl⟩
  simp at h2
  exact absurd h2 (Nat.not_lt.2 h1)
 exact h c Vj act w ⟨_,ee,r2,fun k=>(ht k).mono le',h1,h2⟩
theorem bN {ac r:AC} {l:Nat} {Q:Exit→Tm→St→Prop} {tm:Tm} {s:St} (hf:ql ac l=some r) (h:gi P B nt r (iQ P B nt ac Q) tm s):iQ P B nt ac Q (.goto l) tm s:=⟨r,hf,mB.tx h⟩
theorem On {ac r:AC} {l:Nat} {Q:Exit→Tm→St→Prop} {tm:Tm} {s:St} (hf:ql ac l=some r) (h:mB P B nt ac r Q tm s):iQ P B nt ac Q (.goto l) tm s:=⟨r,hf,h⟩
theorem Sem.jB {a b:AC} {Q:Exit→Tm→St→Prop} {tm:Tm} {s:St} (h:gi P B nt a (lj (Sem P B nt b Q) Q) tm s):Sem P B nt (.seq a b) Q tm s:=Sem.seq (gB h)
theorem Sem.re {a:AC} {Q:Exit→Tm→St→Prop} {tm:Tm} {s:St} (bw:Tm) (jA:List (List D)) (n m:Nat) (hn:B.s.aw.length≤n) (hm:B.s.aC.length≤m) (ht:rz tm n m bw) (ho:gH (s.cut n m).aw jA)
 (h:Sem P B nt a Q bw ⟨jA,(s.cut n m).aC⟩):Sem P B nt a Q tm s:=
 fun c hc act w hh=>h c hc act w (hh.re (Q:=Q) n m hn hm ht ho)
def Has (P:Program) (f nt:Nat) (res:List (Nat×Option (Bool×Nat))) (body:AC):Prop:=∃ fn,P.funcs[f]? = some fn∧cF P fn=some ⟨nt,res,body⟩
theorem aD.go {f:FuncId} {res:List (Nat×Option (Bool×Nat))} {body:AC} {args:List D} {s:St} {d:D} {s':St} (h0:Has P f nt res body) (hl:Nat.ble args.length nt=true)
 (h : ∀ (B:e9) (Q:Exit→Tm→St→Prop),B.s=s→gS s.aw.length s.aC.length res d s'=Q→gi P B nt body Q (mO 0 args) s):aD P f args s d s':=by
 obtain⟨fn,hf,hc⟩:=h0
 exact aD.intro ⟨fn,hf,hc⟩ (Nat.le_of_ble_eq_true hl) fun B hB=>gB (h B _ hB rfl)
theorem aD.Ze {f:FuncId} {args row kq:List D} {rows kd:List (List D)} {z z' k k':Nat} (h:aD P f (.ptr 0 0:: .slice (.tok 0) z rows::args) ⟨[row],[some k]⟩ (.slice (.tok 0) z' kd) ⟨[kq],[some k']⟩)
 (ha:D.bH 0 0 args=true) (hr:D.bH 0 0 row=true) (En:D.bH 0 0 kq=true) (hw:D.iE 0 0 rows=true) (Lv:D.iE 0 0 kd=true)
 {s:St} {o t:Nat} (ho:s.aw[o]? = some row) (ht:s.aC[t]? = some (some k)):aD P f (.ptr o 0:: .slice (.tok t) z rows::args) s (.slice (.tok t) z' kd) ⟨s.aw.set o kq,s.aC.set t (some k')⟩:=by
 refine dT.frame [o] [t] h (by simp) (by simp) (by simpa using (List.getElem?_eq_some_iff.1 ho).1) (by simpa using (List.getElem?_eq_some_iff.1 ht).1) rfl (fun i o' ds e1 e2=> ?_) rfl (fun i t' e1=> ?_)
  (by simp [D.fL,D.dE,Tag.dE,eY _ _ _ ha,ix _ _ _ hw])
  (by simp [D.bH,D.ok,Tag.ok,gv (Nat.zero_le 1) (Nat.zero_le 1) _ ha,lY (Nat.zero_le 1) (Nat.zero_le 1) _ hw]) ?_
 ·cases i with
  | zero=>simp at e1 e2;subst e1;subst e2;exact⟨by rw [eY _ _ _ hr];exact ho,gv (Nat.zero_le 1) (Nat.zero_le 1) _ hr⟩
  | succ i=>simp at e1
 ·cases i with
  | zero=>simp at e1;subst e1;simp [ht]
  | succ i=>simp at e1
 ·rintro _ _ ⟨rfl,rfl⟩
  refine⟨by simp [D.back,D.dE,Tag.dE,jg,ix _ _ _ Lv], ?_⟩
  simp [St.back,jk,eY _ _ _ En]
theorem aD.acE {f:FuncId} {pre post:List D} {rows kd:List (List D)} {z z' k k':Nat} (h:aD P f (pre++ .slice (.tok 0) z rows::post) ⟨[],[some k]⟩ (.slice (.tok 0) z' kd) ⟨[],[some k']⟩)
 (hp:D.bH 0 0 pre=true) (ha:D.bH 0 0 post=true) (hw:D.iE 0 0 rows=true) (Lv:D.iE 0 0 kd=true)
 {s:St} {t:Nat} (ht:s.aC[t]? = some (some k)):aD P f (pre++ .slice (.tok t) z rows::post) s (.slice (.tok t) z' kd) ⟨s.aw,s.aC.set t (some k')⟩:=by
 refine dT.frame [] [t] h (by simp) (by simp) (by simp) (by simpa using (List.getElem?_eq_some_iff.1 ht).1) rfl (fun i o' ds e1 e2=>by simp at e1) rfl (fun i t' e1=> ?_)
  ?_ ?_ ?_
 ·cases i with
  | zero=>simp at e1;subst e1;simp [ht]
  | succ i=>simp at e1
 ·have h1:=eY [] [t] _ hp
  have h2:=eY [] [t] _ ha
  rw [fp]at h1 h2
  simp [fp,D.dE,Tag.dE,h1,h2,ix _ _ _ hw]
 ·have h1:=gv (n':=0) (m':=1) (Nat.le_refl 0) (Nat.zero_le 1) _ hp
  have h2:=gv (n':=0) (m':=1) (Nat.le_refl 0) (Nat.zero_le 1) _ ha
  rw [xv]at h1 h2 ⊢
  simp only [List.length_nil,List.length_cons,List.all_append,h1,Bool.true_and,List.all_cons,h2,Bool.and_true,D.ok,Tag.ok,lY (Nat.zero_le 0) (Nat.zero_le 1) _ hw]
  rfl
 ·rintro _ _ ⟨rfl,rfl⟩
  refine⟨by simp [D.back,D.dE,Tag.dE,jg,ix _ _ _ Lv], ?_⟩
  simp [St.back,jk]
theorem acF (A C:Prop) : @CB (.bool true) ⟨A,C⟩=A:=by simp [CB,rL]
theorem acG (A C:Prop) : @CB (.bool false) ⟨A,C⟩=C:=by simp [CB,rL]
theorem VI (b:Bool) (A C:Prop) : @CB (.bool (!b)) ⟨A,C⟩ = @CB (.bool b) ⟨C,A⟩:=by
 cases b <;> simp [CB,rL]
theorem EM {b:Bool} {A C:Prop} (h1:b=true→A) (h2:b=false→C) : @CB (.bool b) ⟨A,C⟩:=⟨h1,h2⟩
theorem VJ {b:Bool} {A C:Prop} (h:b=true) (h1:b=true→A) : @CB (.bool b) ⟨A,C⟩:=EM h1 (fun h'=>by rw [h]at h';cases h')
theorem VK {b:Bool} {A C:Prop} (h:b=false) (h1:b=false→C) : @CB (.bool b) ⟨A,C⟩:=EM (fun h'=>by rw [h]at h';cases h') h1
theorem Zf {n m:Nat} {res:List (Nat×Option (Bool×Nat))} {d:D} {s':St} {tm:Tm} {s:St} {Q:Exit→Tm→St→Prop} (hQ:gS n m res d s'=Q)
 (h : ∃ l,az res tm s=some l∧Wk ((aA l).fg n m) d∧gH (s.cut n m).aw s'.aw∧(s.cut n m).aC=s'.aC):Q .ret tm s:=hQ ▸ h
theorem Zg {n m:Nat} {res:List (Nat×Option (Bool×Nat))} {d:D} {s':St} {tm:Tm} {s:St} {Q:Exit→Tm→St→Prop} (hQ:gS n m res d s'=Q)
 (h : ∃ l,az res tm s=some l∧Wk ((aA l).fg n m) d∧gH (s.cut n m).aw s'.aw∧(s.cut n m).aC=s'.aC):Q .normal tm s:=hQ ▸ h
end
attribute [go_sem] Oc Tf Tg Ti Od Ls Oe Lt Og Lu Oh Tj Tk Tl Tn Tp Oi Oj Ol Om
theorem Lw : ∀ (tm:Tm) (s:St) (x:X),aP (AO.mv x) tm s=some (X.ev tm x,s):=
 fun tm s x=>nd (aP.eq_1 tm s x)
theorem Ly : ∀ (tm:Tm) (s:St) (c a b:X),
 aP (AO.pick c a b) tm s =
  match X.ev tm c with
  | D.bool t=>some (if t=true then X.ev tm a else X.ev tm b,s)
  | x=>none:=
 fun tm s c a b=>nd (aP.eq_2 tm s c a b)
theorem Lz : ∀ (tm:Tm) (s:St) (zero:List D),
 aP (AO.alloc zero) tm s=some (D.ptr s.aw.length 0,{aw:=s.aw++ [zero],aC:=s.aC}):=
 fun tm s zero=>nd (aP.eq_3 tm s zero)
theorem LA : ∀ (tm:Tm) (s:St) (x:X),
 aP (AO.box x) tm s =
  match (X.ev tm x).row with
  | some r=>some (D.ptr s.aw.length 0,{aw:=s.aw++ [r],aC:=s.aC})
  | none=>none:=
 fun tm s x=>nd (aP.eq_4 tm s x)
theorem LB : ∀ (tm:Tm) (s:St) (zero:List D) (parts:List (Nat×Nat×X)),
 aP (AO.build zero parts) tm s =
  match oU zero (List.map (fun(p:Nat×Nat×X)=>(p.fst,p.snd.fst,X.ev tm p.snd.snd)) parts)with
  | some cs=>some (D.agg cs,s)
  | none=>none:=
 fun tm s zero parts=>nd (aP.eq_5 tm s zero parts)
theorem LC : ∀ (tm:Tm) (s:St) (zero:List D) (size n:Nat) (parts:List (Nat×X)),
 aP (AO.cP zero size n parts) tm s =
  match iH size (gQ zero n) (List.map (fun(p:Nat×X)=>(p.fst,X.ev tm p.snd)) parts)with
  | some rows=>some (D.slice Tag.full size rows,s)
  | none=>none:=
 fun tm s zero size n parts=>nd (aP.eq_6 tm s zero size n parts)
theorem LD : ∀ (tm:Tm) (s:St) (zero:List D) (size n:Nat) (parts:List (Nat×X)),
 aP (AO.sd zero size n parts) tm s =
  match iH size (gQ zero n) (List.map (fun(p:Nat×X)=>(p.fst,X.ev tm p.snd)) parts)with
  | some rows=>
   some (D.slice (Tag.tok s.aC.length) size rows,{aw:=s.aw,aC:=s.aC++ [some rows.length]})
  | none=>none:=
 fun tm s zero size n parts=>nd (aP.eq_7 tm s zero size n parts)
theorem LF : ∀ (tm:Tm) (s:St) (x:X),
 aP (AO.w8 x) tm s =
  match X.ev tm x with
  | D.slice (Tag.tok t _) z rows=>
   if rows≠ []∧s.aC[t]? = some (some rows.length)then
    some (D.slice Tag.shared z rows,{aw:=s.aw,aC:=s.aC.set t none})
   else none
  | x=>none:=
 fun tm s x=>nd (aP.eq_8 tm s x)
theorem LG : ∀ (tm:Tm) (s:St) (x:X) (agg:Bool) (size:Nat),
 aP (AO.load x agg size) tm s =
  match X.ev tm x with
  | D.ptr o off=>
   match s.aw[o]? with
   | some cs=>
    match part cs off agg size with
    | some d=>some (d,s)
    | none=>none
   | none=>none
  | D.dC row off=>
   match part row off agg size with
   | some d=>some (d,s)
   | none=>none
  | x=>none:=
 fun tm s x agg size=>nd (aP.eq_9 tm s x agg size)
theorem IB : ∀ (tm:Tm) (s:St) (p x:X) (size:Nat),
 aP (AO.store p x size) tm s =
  match X.ev tm p,(X.ev tm x).row with
  | D.ptr o off,some r=>
   match s.aw[o]? with
   | some cs=>
    if r.length=size∧off+size≤cs.length then
     some (D.tuple [],{aw:=s.aw.set o (iD cs off r),aC:=s.aC})
    else none
   | none=>none
  | x,eU=>none:=
 fun tm s p x size=>nd (aP.eq_10 tm s p x size)
theorem IC : ∀ (tm:Tm) (s:St) (x:X),
 aP (AO.c6 x) tm s =
  match X.ev tm x with
  | D.ptr o off=>some (D.ptr o off,s)
  | D.dC row off=>some (D.dC row off,s)
  | x=>none:=
 fun tm s x=>nd (aP.eq_11 tm s x)
theorem ID : ∀ (tm:Tm) (s:St) (op:BinOp) (x y:X),
 aP (AO.bin op x y) tm s =
  match uf op (X.ev tm x) (X.ev tm y)with
  | some d=>some (d,s)
  | none=>none:=
 fun tm s op x y=>nd (aP.eq_12 tm s op x y)
theorem IE : ∀ (tm:Tm) (s:St) (neg:Bool) (x y:X),
 aP (AO.w9 neg x y) tm s =
  match X.ev tm x,X.ev tm y with
  | D.bool a,D.bool b=>some (D.bool (if neg=true then !a==b else a==b),s)
  | x,eU=>none:=
 fun tm s neg x y=>nd (aP.eq_13 tm s neg x y)
theorem IF : ∀ (tm:Tm) (s:St) (neg:Bool) (ks:List Nat) (x y:X),
 aP (AO.eqs neg ks x y) tm s =
  match X.ev tm x,X.ev tm y with
  | D.agg a,D.agg b=>
   match jR ks a b with
   | some e=>some (D.bool (if neg=true then !e else e),s)
   | none=>none
  | x,eU=>none:=
 fun tm s neg ks x y=>nd (aP.eq_14 tm s neg ks x y)
theorem IG : ∀ (tm:Tm) (s:St) (neg:Bool) (x y:X),
 aP (AO.Ct neg x y) tm s =
  match X.ev tm x,X.ev tm y with
  | D.eQ,D.eQ=>some (D.bool !neg,s)
  | D.ptr o off,D.eQ=>some (D.bool neg,s)
  | D.dC row off,D.eQ=>some (D.bool neg,s)
  | x,eU=>none:=
 fun tm s neg x y=>nd (aP.eq_15 tm s neg x y)
theorem II : ∀ (tm:Tm) (s:St) (op:UnOp) (x:X),
 aP (AO.un op x) tm s =
  match Ef op (X.ev tm x)with
  | some d=>some (d,s)
  | none=>none:=
 fun tm s op x=>nd (aP.eq_16 tm s op x)
theorem IJ : ∀ (tm:Tm) (s:St) (k:IntKind) (x:X),
 aP (AO.conv k x) tm s =
  match X.ev tm x with
  | D.int k_1 n=>some (D.int k (k.wrap n),s)
  | x=>none:=
 fun tm s k x=>nd (aP.eq_17 tm s k x)
theorem IK : ∀ (tm:Tm) (s:St) (x:X),
 aP (AO.zT x) tm s =
  match X.ev tm x with
  | D.slice g size rows=>
   match mr rows with
   | some b=>some (D.str b,s)
   | none=>none
  | x=>none:=
 fun tm s x=>nd (aP.eq_18 tm s x)
theorem IL : ∀ (tm:Tm) (s:St) (x:X),
 aP (AO.uS x) tm s =
  match X.ev tm x with
  | D.str l=>some (D.slice Tag.shared 1 (List.map (fun(c:UInt8)=> [D.int IntKind.u8 ↑c.toNat]) l),s)
  | x=>none:=
 fun tm s x=>nd (aP.eq_19 tm s x)
theorem IM : ∀ (tm:Tm) (s:St) (size:Nat) (x:X) (lo hi:Option X),
 aP (AO.Ec size x lo hi) tm s =
  match X.ev tm x with
  | D.slice g z rows=>
   match xd (Option.map (fun(x:X)=>X.ev tm x) lo),
    xe (Option.map (fun(x:X)=>X.ev tm x) hi) rows.length with
   | some l,some h=>
    if(rows = []∨z=size)∧0≤l∧l≤h∧h≤ ↑rows.length then
     some
      (D.slice (if l=0 then g.cut (decide (h = ↑rows.length))else Tag.shared) z
       (List.drop l.toNat (List.take h.toNat rows)),
       s)
    else none
   | x,eU=>none
  | x=>none:=
 fun tm s size x lo hi=>nd (aP.eq_20 tm s size x lo hi)
theorem IN : ∀ (tm:Tm) (s:St) (x:X) (lo hi:Option X),
 aP (AO.vG x lo hi) tm s =
  match X.ev tm x with
  | D.str t=>
   match xd (Option.map (fun(x:X)=>X.ev tm x) lo),xe (Option.map (fun(x:X)=>X.ev tm x) hi) t.length with
   | some l,some h=>
    if 0≤l∧l≤h∧h≤ ↑t.length then some (D.str (List.drop l.toNat (List.take h.toNat t)),s)else none
   | x,eU=>none
  | x=>none:=
 fun tm s x lo hi=>nd (aP.eq_21 tm s x lo hi)
theorem IP : ∀ (tm:Tm) (s:St) (x:X) (off:Nat),
 aP (AO.av x off) tm s =
  match X.ev tm x with
  | D.ptr o k=>some (D.ptr o (k+off),s)
  | D.dC row k=>some (D.dC row (k+off),s)
  | x=>none:=
 fun tm s x off=>nd (aP.eq_22 tm s x off)
theorem IQ : ∀ (tm:Tm) (s:St) (x:X) (off:Nat) (agg:Bool) (size:Nat),
 aP (AO.oH x off agg size) tm s =
  match X.ev tm x with
  | D.agg cs=>
   match part cs off agg size with
   | some d=>some (d,s)
   | none=>none
  | x=>none:=
 fun tm s x off agg size=>nd (aP.eq_23 tm s x off agg size)
theorem IS : ∀ (tm:Tm) (s:St) (x i:X) (size:Nat),
 aP (AO.cu x i size) tm s =
  match X.ev tm x,X.ev tm i with
  | D.slice g z rows,D.int k n=>
   if 0≤n∧z=size then
    match rows[n.toNat]? with
    | some row=>some (D.dC row 0,s)
    | none=>none
   else none
  | x,eU=>none:=
 fun tm s x i size=>nd (aP.eq_24 tm s x i size)
theorem IT : ∀ (tm:Tm) (s:St) (x i:X),
 aP (AO.na x i) tm s =
  match X.ev tm x,X.ev tm i with
  | D.str t,D.int k n=>
   if 0≤n then
    match t[n.toNat]? with
    | some c=>some (D.int IntKind.u8 ↑c.toNat,s)
    | none=>none
   else none
  | x,eU=>none:=
 fun tm s x i=>nd (aP.eq_25 tm s x i)
theorem IU : ∀ (tm:Tm) (s:St) (x:X) (i:Nat),
 aP (AO.ext x i) tm s =
  match X.ev tm x with
  | D.tuple ds=>
   match ds[i]? with
   | some d=>some (d,s)
   | none=>none
  | x=>none:=
 fun tm s x i=>nd (aP.eq_26 tm s x i)
theorem IV : ∀ (tm:Tm) (s:St) (x:X),
 aP (AO.ko x) tm s =
  match X.ev tm x with
  | D.str t=>some (D.int IntKind.i64 ↑t.length,s)
  | x=>none:=
 fun tm s x=>nd (aP.eq_27 tm s x)
theorem IW : ∀ (tm:Tm) (s:St) (x:X),
 aP (AO.len x) tm s =
  match X.ev tm x with
  | D.slice g size rows=>some (D.int IntKind.i64 ↑rows.length,s)
  | x=>none:=
 fun tm s x=>nd (aP.eq_28 tm s x)
theorem IX : ∀ (tm:Tm) (s:St) (size bytes:Nat) (x y:X),
 aP (AO.app size bytes x y) tm s=jX size bytes (X.ev tm x) (X.ev tm y) s:=
 fun tm s size bytes x y=>nd (aP.eq_29 tm s size bytes x y)
theorem IY : ∀ (tm:Tm) (s:St) (isMax:Bool) (x y:X),
 aP (AO.mm isMax x y) tm s =
  match X.ev tm x,X.ev tm y with
  | D.int k a,D.int k' b=>
   if k=k' then some (D.int k (if isMax=true then if b > a then b else a else if b<a then b else a),s)
   else none
  | x,eU=>none:=
 fun tm s isMax x y=>nd (aP.eq_30 tm s isMax x y)
theorem IZ (tm:Tm) (s:St) (r:List D) (T:TypeId):aP (AO.qC (.eQ::r) T) tm s=some (.ptr s.aw.length 0,{aw:=s.aw++ [.fm T s.aw.length::r],aC:=s.aC}):=nd rfl
theorem I0 (tm:Tm) (s:St) (x:X) (T:TypeId):aP (AO.xa x T) tm s =
 match (x.ev tm).row with
 | some (.eQ::r)=>some (.ptr s.aw.length 0,{aw:=s.aw++ [.fm T s.aw.length::r],aC:=s.aC})
 | _=>none:=nd rfl
theorem I1 (tm:Tm) (s:St) (x y:X):aP (AO.apps x y) tm s =
 match y.ev tm with
 | .str l=>xf (x.ev tm) (.slice .shared 1 (l.map fun c=> [.int .u8 c.toNat])) s
 | _=>none:=nd rfl
theorem I2 (tm:Tm) (s:St) (x y:X):aP (AO.xb x y) tm s=xf (x.ev tm) (y.ev tm) s:=nd rfl
theorem I3 (tm:Tm) (s:St) (f:Nat) (xs:List X):aP (AO.rD f xs) tm s=some (.fY f (xs.map fun x=>x.ev tm),s):=nd rfl
theorem I4 (tm:Tm) (s:St):aP AO.rE tm s=some (.fW s.aw.length,{aw:=s.aw++ [[]],aC:=s.aC}):=nd rfl
theorem I5 (tm:Tm) (s:St) (m k v:X):aP (AO.vH m k v) tm s =
 match m.ev tm,k.ev tm,v.ev tm with
 | .fW o, .str key, .slice g z rows=>
  match s.aw[o]? with
  | some cs=>match ug key (.slice g z rows) cs with | some iw=>some (.tuple [],{aw:=s.aw.set o iw,aC:=s.aC}) | none=>none
  | none=>none
 | _,_,_=>none:=nd rfl
theorem I6 (tm:Tm) (s:St) (m k:X) (zero:D):aP (AO.s8 m k zero) tm s =
 match m.ev tm,k.ev tm with
 | .fW o, .str key=>
  match s.aw[o]? with
  | some cs=>match vI key zero cs with | some d=>some (d,s) | none=>none
  | none=>none
 | _,_=>none:=nd rfl
theorem EN (f:Nat) (xs:List X):(AO.rD f xs).core=false:=nd rfl
theorem EO:AO.rE.core=true:=nd rfl
theorem EP (m k v:X):(AO.vH m k v).core=true:=nd rfl
theorem ER (m k:X) (zero:D):(AO.s8 m k zero).core=false:=nd rfl
theorem LH (n m f:Nat) (cs:List D):D.fg n m (.fY f cs) = .fY f (D.gq n m cs):=nd (by simp only [D.fg])
theorem LI (n m:Nat) (o:Nat):D.fg n m (.fW o)=if o<n then .fW o else .junk:=nd (by simp only [D.fg])
theorem I7 (d:Option Nat) (g:Option (Nat×Bool)) (t:Nat) (xs:List X):(AI.gY d g t xs).dst=d:=nd rfl
theorem ES (x y:X):(AO.xb x y).core=true:=nd rfl
theorem ET (z:List D) (T:TypeId):(AO.qC z T).core=true:=nd rfl
theorem EU (x:X) (T:TypeId):(AO.xa x T).core=true:=nd rfl
theorem EV (x y:X):(AO.apps x y).core=true:=nd rfl
theorem LJ (n m:Nat) (v:Value):D.fg n m (.val v) = .val v:=nd (by simp only [D.fg])
theorem LK (n m:Nat) (T:TypeId) (o:Nat):D.fg n m (.fm T o)=if o<n then .fm T o else .junk:=nd (by simp only [D.fg])
theorem Oo : ∀ (tm:Tm) (t:Nat),X.ev tm (X.s t)=tm.get t:=
 fun tm t=>nd (X.ev.eq_1 tm t)
theorem Oq : ∀ (tm:Tm) (d:D),X.ev tm (X.k d)=d:=
 fun tm d=>nd (X.ev.eq_2 tm d)
theorem I8 : ∀ (tm:Tm) (d:D) (t:Nat),tm.put (some t) d=tm.set t d:=
 fun tm d t=>nd (Tm.put.eq_1 tm d t)
theorem I9 : ∀ (tm:Tm) (d:D),tm.put none d=tm:=
 fun tm d=>nd (Tm.put.eq_2 tm d)
theorem Ja : ∀ (x:Nat) (eU:D),Tm.set [] x eU = [(x,eU)]:=
 fun x eU=>nd (Tm.set.eq_1 x eU)
theorem Jb : ∀ (x:Nat) (eU:D) (k:Nat) (e:D) (r:List (Nat×D)),
 Tm.set ((k,e)::r) x eU=if k=x then(k,eU)::r else(k,e)::Tm.set r x eU:=
 fun x eU k e r=>nd (Tm.set.eq_2 x eU k e r)
theorem Jc : ∀ (x:Nat),Tm.get [] x=D.junk:=
 fun x=>nd (Tm.get.eq_1 x)
theorem Jd : ∀ (x k:Nat) (d:D) (r:List (Nat×D)),Tm.get ((k,d)::r) x=if k=x then d else Tm.get r x:=
 fun x k d r=>nd (Tm.get.eq_2 x k d r)
theorem LL : ∀ (x:Nat),mO x [] = []:=
 fun x=>nd (mO.eq_1 x)
theorem LM : ∀ (x:Nat) (d:D) (r:List D),mO x (d::r)=(x,d)::mO (x+1) r:=
 fun x d r=>nd (mO.eq_2 x d r)
theorem Je : ∀ (d:Option Nat) (g:Option (Nat×Bool)) (o:AO),(AI.op d g o).dst=d:=
 fun d g o=>nd (AI.dst.eq_1 d g o)
theorem Jf : ∀ (d:Option Nat) (g:Option (Nat×Bool)) (f:Nat) (xs:List X),(AI.call d g f xs).dst=d:=
 fun d g f xs=>nd (AI.dst.eq_2 d g f xs)
theorem Jg : ∀ (d:Option Nat) (g:Option (Nat×Bool)) (neg:Bool) (eU:X),(AI.nil d g neg eU).dst=d:=
 fun d g neg eU=>nd (AI.dst.eq_3 d g neg eU)
theorem Ot : ∀ (cs:List D) (off size:Nat),
 part cs off true size=if off+size≤cs.length then some (D.agg (List.take size (List.drop off cs)))else none:=
 fun cs off size=>nd (part.eq_1 cs off size)
theorem Ou : ∀ (cs:List D) (off size:Nat),part cs off false size=cs[off]? :=
 fun cs off size=>nd (part.eq_2 cs off size)
theorem Jh : ∀ (cs:List D) (off:Nat) (r:List D),
 iD cs off r=List.take off cs++r++List.drop (off+r.length) cs:=
 fun cs off r=>nd (iD.eq_1 cs off r)
theorem LN : ∀ (cells:List D),oU cells [] = some cells:=
 fun cells=>nd (oU.eq_1 cells)
theorem LO : ∀ (cells:List D) (off size:Nat) (d:D) (rest:List (Nat×Nat×D)),
 oU cells ((off,size,d)::rest) =
  match d.row with
  | none=>none
  | some r=>if r.length=size∧off+size≤cells.length then oU (iD cells off r) rest else none:=
 fun cells off size d rest=>nd (oU.eq_2 cells off size d rest)
theorem EW : ∀ (size:Nat) (rows:List (List D)),iH size rows [] = some rows:=
 fun size rows=>nd (iH.eq_1 size rows)
theorem EX : ∀ (size:Nat) (rows:List (List D)) (i:Nat) (d:D) (rest:List (Nat×D)),
 iH size rows ((i,d)::rest) =
  match d.row with
  | none=>none
  | some r=>if r.length=size∧i<rows.length then iH size (rows.set i r) rest else none:=
 fun size rows i d rest=>nd (iH.eq_2 size rows i d rest)
theorem EY : ∀ (zero:List D),gQ zero 0 = []:=
 fun zero=>nd (gQ.eq_1 zero)
theorem EZ : ∀ (zero:List D) (i:Nat),gQ zero i.succ=zero::gQ zero i:=
 fun zero i=>nd (gQ.eq_2 zero i)
theorem Ov : ∀ (op:BinOp) (k:IntKind) (a:Int) (k':IntKind) (b:Int),
 uf op (D.int k a) (D.int k' b)=if k=k' then fA op k a b else none:=
 fun op k a k' b=>nd (uf.eq_1 op k a k' b)
theorem Ow : ∀ (op:BinOp) (a b:List UInt8),uf op (D.str a) (D.str b)=mb op a b:=
 fun op a b=>nd (uf.eq_2 op a b)
theorem Ji : ∀ (k:IntKind) (a b:Int),fA BinOp.add k a b=some (D.int k (k.wrap (a+b))):=
 fun k a b=>nd (fA.eq_1 k a b)
theorem Jj : ∀ (k:IntKind) (a b:Int),fA BinOp.sub k a b=some (D.int k (k.wrap (a - b))):=
 fun k a b=>nd (fA.eq_2 k a b)
theorem Jk : ∀ (k:IntKind) (a b:Int),fA BinOp.mul k a b=some (D.int k (k.wrap (a*b))):=
 fun k a b=>nd (fA.eq_3 k a b)
theorem Jl : ∀ (k:IntKind) (a b:Int),
 fA BinOp.quo k a b=if b=0 then none else some (D.int k (k.wrap (a.tdiv b))):=
 fun k a b=>nd (fA.eq_4 k a b)
theorem Jm : ∀ (k:IntKind) (a b:Int),fA BinOp.rem k a b=if b=0 then none else some (D.int k (a.tmod b)):=
 fun k a b=>nd (fA.eq_5 k a b)
theorem Jn : ∀ (k:IntKind) (a b:Int),fA BinOp.eql k a b=some (D.bool (a==b)):=
 fun k a b=>nd (fA.eq_6 k a b)
theorem Jo : ∀ (k:IntKind) (a b:Int),fA BinOp.neq k a b=some (D.bool (a != b)):=
 fun k a b=>nd (fA.eq_7 k a b)
theorem Jp : ∀ (k:IntKind) (a b:Int),fA BinOp.lss k a b=some (D.bool (decide (a<b))):=
 fun k a b=>nd (fA.eq_8 k a b)
theorem Jq : ∀ (k:IntKind) (a b:Int),fA BinOp.leq k a b=some (D.bool (decide (a≤b))):=
 fun k a b=>nd (fA.eq_9 k a b)
theorem Gl : ∀ (k:IntKind) (a b:Int),fA BinOp.gtr k a b=some (D.bool (decide (a > b))):=
 fun k a b=>nd (fA.eq_10 k a b)
theorem Gm : ∀ (k:IntKind) (a b:Int),fA BinOp.geq k a b=some (D.bool (decide (a≥b))):=
 fun k a b=>nd (fA.eq_11 k a b)
theorem Jr : ∀ (a b:List UInt8),
 mb BinOp.add a b=if a.length+b.length≤bI then some (D.str (a++b))else none:=
 fun a b=>nd (mb.eq_1 a b)
theorem Js : ∀ (a b:List UInt8),mb BinOp.eql a b=some (D.bool (a==b)):=
 fun a b=>nd (mb.eq_2 a b)
theorem Jt : ∀ (a b:List UInt8),mb BinOp.neq a b=some (D.bool !a==b):=
 fun a b=>nd (mb.eq_3 a b)
theorem Ju : ∀ (a b:List UInt8),mb BinOp.lss a b=some (D.bool (bytesLess a b)):=
 fun a b=>nd (mb.eq_4 a b)
theorem Tq : ∀ (k:IntKind) (n:Int),Ef UnOp.neg (D.int k n)=some (D.int k (k.wrap (0 - n))):=
 fun k n=>nd (Ef.eq_1 k n)
theorem Tr : ∀ (b:Bool),Ef UnOp.not (D.bool b)=some (D.bool !b):=
 fun b=>nd (Ef.eq_2 b)
theorem Jv : ∀ (k:IntKind) (a:Int) (k':IntKind) (b:Int),
 ln 0 (D.int k a) (D.int k' b)=if k=k' then some (a==b)else none:=
 fun k a k' b=>nd (ln.eq_1 k a k' b)
theorem Jw : ∀ (a b:Bool),ln 1 (D.bool a) (D.bool b)=some (a==b):=
 fun a b=>nd (ln.eq_2 a b)
theorem Jx : ∀ (a b:List UInt8),ln 2 (D.str a) (D.str b)=some (a==b):=
 fun a b=>nd (ln.eq_3 a b)
theorem Gn:jR [] [] [] = some true:=
 nd (jR.eq_1)
theorem Gp : ∀ (k:Nat) (ks:List Nat) (Ra:D) (xs:List D) (y:D) (ys:List D),
 jR (k::ks) (Ra::xs) (y::ys) =
  match ln k Ra y with
  | none=>none
  | some true=>jR ks xs ys
  | some false=>some false:=
 fun k ks Ra xs y ys=>nd (jR.eq_2 k ks Ra xs y ys)
theorem Ts:xd none=some 0:=
 nd (xd.eq_1)
theorem Tv : ∀ (k:IntKind) (n:Int),xd (some (D.int k n))=some n:=
 fun k n=>nd (xd.eq_2 k n)
theorem Tw : ∀ (len:Nat),xe none len=some ↑len:=
 fun len=>nd (xe.eq_1 len)
theorem Tx : ∀ (len:Nat) (k:IntKind) (n:Int),xe (some (D.int k n)) len=some n:=
 fun len k n=>nd (xe.eq_2 len k n)
theorem Gq : ∀ (zero:List D),(AO.alloc zero).core=true:=
 fun zero=>nd (AO.core.eq_1 zero)
theorem Gr : ∀ (eU:X),(AO.box eU).core=true:=
 fun eU=>nd (AO.core.eq_2 eU)
theorem Gs : ∀ (zero:List D) (size n:Nat) (parts:List (Nat×X)),(AO.sd zero size n parts).core=true:=
 fun zero size n parts=>nd (AO.core.eq_3 zero size n parts)
theorem Gt : ∀ (eU:X),(AO.w8 eU).core=true:=
 fun eU=>nd (AO.core.eq_4 eU)
theorem Gu : ∀ (p eU:X) (size:Nat),(AO.store p eU size).core=true:=
 fun p eU size=>nd (AO.core.eq_5 p eU size)
theorem Gv : ∀ (size bytes:Nat) (eU y:X),(AO.app size bytes eU y).core=true:=
 fun size bytes eU y=>nd (AO.core.eq_6 size bytes eU y)
theorem Gw : ∀ (val:Nat) (zero:List D),(AI.op (some val) none (AO.alloc zero)).kind=AK.alloc:=
 fun val zero=>nd (AI.kind.eq_1 val zero)
theorem Gx : ∀ (zero:List D),(AO.alloc zero).kind=AK.core:=
 fun zero=>nd (AO.kind.eq_1 zero)
theorem Gy : ∀ (eU:X),(AO.box eU).kind=AK.core:=
 fun eU=>nd (AO.kind.eq_2 eU)
theorem Gz : ∀ (zero:List D) (size n:Nat) (parts:List (Nat×X)),(AO.sd zero size n parts).kind=AK.core:=
 fun zero size n parts=>nd (AO.kind.eq_3 zero size n parts)
theorem GC : ∀ (eU:X),(AO.w8 eU).kind=AK.core:=
 fun eU=>nd (AO.kind.eq_4 eU)
theorem GD : ∀ (p eU:X) (size:Nat),(AO.store p eU size).kind=AK.core:=
 fun p eU size=>nd (AO.kind.eq_5 p eU size)
theorem GF : ∀ (size bytes:Nat) (eU y:X),(AO.app size bytes eU y).kind=AK.core:=
 fun size bytes eU y=>nd (AO.kind.eq_6 size bytes eU y)
theorem GG : ∀ (eU:X) (agg:Bool) (size:Nat),(AO.load eU agg size).kind=AK.load:=
 fun _ _ _=>nd rfl
theorem Jy:fP AK.core=true:=
 nd (fP.eq_1)
theorem Jz:fP AK.alloc=true:=
 nd (fP.eq_2)
theorem JA : ∀ (i:AI) (tm:Tm) (d:D),mj i tm d [] = True:=
 fun i tm d=>nd (mj.eq_1 i tm d)
theorem JB : ∀ (i:AI) (tm:Tm) (d:D) (s:St) (r:List St),
 mj i tm d (s::r)=(iF i tm s=some d∧mj i tm d r):=
 fun i tm d s r=>nd (mj.eq_2 i tm d s r)
theorem Ty : ∀ (tm:Tm) (s:St) (dst:Option Nat) (o:AO),
 iF (AI.op dst none o) tm s=Option.map (fun(x:D×St)=>x.fst) (aP o tm s):=
 fun tm s dst o=>nd (iF.eq_1 tm s dst o)
theorem Tz : ∀ (tm:Tm) (s:St) (dst:Option Nat) (t:Nat) (want:Bool) (o:AO),
 iF (AI.op dst (some (t,want)) o) tm s =
  match tm.get t with
  | D.bool b=>if b=want then Option.map (fun(x:D×St)=>x.fst) (aP o tm s)else some (D.tuple [])
  | D.tuple vs=>some (D.tuple [])
  | x=>none:=
 fun tm s dst t want o=>nd (iF.eq_2 tm s dst t want o)
theorem GH : ∀ (is:List AI),lx is [] = some []:=
 fun is=>nd (lx.eq_1 is)
theorem GM : ∀ (is:List AI) (q b:Nat) (r:List (Nat×Nat)),
 lx is ((q,b)::r) =
  match is[q]?,lx is r with
  | some ai,some l=>some ((ai,b)::l)
  | x,eU=>none:=
 fun is q b r=>nd (lx.eq_2 is q b r)
theorem TA : ∀ (tm:Tm) (n m:Nat),rz tm n m [] = True:=
 fun tm n m=>nd (rz.eq_1 tm n m)
theorem TB : ∀ (tm:Tm) (n m k:Nat) (d:D) (r:List (Nat×D)),
 rz tm n m ((k,d)::r)=(Wk (D.fg n m (tm.get k)) d∧rz tm n m r):=
 fun tm n m k d r=>nd (rz.eq_2 tm n m k d r)
theorem Ox : ∀ (n m o off:Nat),D.fg n m (D.ptr o off)=if o<n then D.ptr o off else D.junk:=
 fun n m o off=>nd (D.fg.eq_1 n m o off)
theorem Oy : ∀ (n m:Nat) (row:List D) (off:Nat),D.fg n m (D.dC row off)=D.dC (D.gq n m row) off:=
 fun n m row off=>nd (D.fg.eq_2 n m row off)
theorem Oz : ∀ (n m:Nat) (g:Tag) (z:Nat) (rows:List (List D)),
 D.fg n m (D.slice g z rows)=D.slice (Tag.fg m g) z (D.jf n m rows):=
 fun n m g z rows=>nd (D.fg.eq_3 n m g z rows)
theorem OA : ∀ (n m:Nat) (cs:List D),D.fg n m (D.agg cs)=D.agg (D.gq n m cs):=
 fun n m cs=>nd (D.fg.eq_4 n m cs)
theorem OB : ∀ (n m:Nat) (ds:List D),D.fg n m (D.tuple ds)=D.tuple (D.gq n m ds):=
 fun n m ds=>nd (D.fg.eq_5 n m ds)
theorem OC : ∀ (n m:Nat),D.fg n m D.junk=D.junk:=
 fun n m=>nd (D.fg.eq_6 n m)
theorem OD : ∀ (n m:Nat) (k:IntKind) (eU:Int),D.fg n m (D.int k eU)=D.int k eU:=
 fun n m k eU=>nd (D.fg.eq_7 n m k eU)
theorem OE : ∀ (n m:Nat) (b:Bool),D.fg n m (D.bool b)=D.bool b:=
 fun n m b=>nd (D.fg.eq_8 n m b)
theorem OF : ∀ (n m:Nat) (l:List UInt8),D.fg n m (D.str l)=D.str l:=
 fun n m l=>nd (D.fg.eq_9 n m l)
theorem LP : ∀ (n m:Nat),D.fg n m D.eQ=D.eQ:=
 fun n m=>nd (D.fg.eq_10 n m)
theorem LQ : ∀ (n m:Nat),D.gq n m [] = []:=
 fun n m=>nd (D.gq.eq_1 n m)
theorem LR : ∀ (n m:Nat) (d:D) (r:List D),D.gq n m (d::r)=D.fg n m d::D.gq n m r:=
 fun n m d r=>nd (D.gq.eq_2 n m d r)
theorem LS : ∀ (n m:Nat),D.jf n m [] = []:=
 fun n m=>nd (D.jf.eq_1 n m)
theorem LU : ∀ (n m:Nat) (d:List D) (r:List (List D)),D.jf n m (d::r)=D.gq n m d::D.jf n m r:=
 fun n m d r=>nd (D.jf.eq_2 n m d r)
theorem JC : ∀ (m t:Nat) (y:Bool),Tag.fg m (Tag.tok t y)=if t<m then Tag.tok t y else Tag.shared:=
 fun _ _ _=>nd rfl
theorem JD : ∀ (s:St) (n m:Nat),
 s.cut n m = {aw:=List.map (D.gq n m) (List.take n s.aw),aC:=List.take m s.aC}:=
 fun s n m=>nd (St.cut.eq_1 s n m)
theorem OG : ∀ (d:D),aA [d] = d:=
 fun d=>nd (aA.eq_1 d)
theorem OH (size bytes t:Nat) (rows:List (List D)) (g:Tag) (r:List D) (s:St):jX size bytes (.slice (.tok t) size rows) (.slice g size [r]) s =
 if(rows.length+1)*(bytes+1)≤bI∧s.aC[t]? = some (some rows.length)then some (.slice (.tok t) size (rows++ [r]),⟨s.aw,s.aC.set t (some (rows.length+1))⟩)else none:=by
 simp only [jX,List.length_singleton]
 by_cases h1:(rows.length+1)*(bytes+1)≤bI <;> by_cases h2:s.aC[t]? = some (some rows.length) <;> simp [h1,h2]
theorem OI {size bytes t:Nat} {rows new:List (List D)} {g:Tag} {s:St} (h1:(rows.length+new.length)*(bytes+1)≤bI) (h2:s.aC[t]? = some (some rows.length)) :
 jX size bytes (.slice (.tok t) size rows) (.slice g size new) s=some (.slice (.tok t) size (rows++new),⟨s.aw,s.aC.set t (some (rows.length+new.length))⟩):=by
 cases new with
 | nil=>
  have:s.aC.set t (some rows.length)=s.aC:=by
   apply List.ext_getElem?
   intro i
   rw [List.getElem?_set]
   split
   ·rename_i hi;subst hi;rw [h2,if_pos (List.getElem?_eq_some_iff.1 h2).1]
   ·rfl
  simp only [List.length_nil,Nat.add_zero]at h1
  simp [jX,h1,this]
 | cons x l=>
  simp only [jX,h1,h2]
  simp
theorem LV (size bytes z:Nat) (g:Tag) (r:List D) (s:St):jX size bytes (.slice .full z []) (.slice g size [r]) s =
 if bytes+1≤bI then some (.slice (.tok s.aC.length) size [r],⟨s.aw,s.aC++ [some 1]⟩)else none:=by
 simp [jX]
theorem TC {P:Program} {B:e9} {nt:Nat} (ac:AC) (Q:Exit→Tm→St→Prop) (tm:Tm) (s:St):iQ P B nt ac Q .normal tm s=Q .normal tm s:=nd rfl
theorem TD {P:Program} {B:e9} {nt:Nat} (ac:AC) (Q:Exit→Tm→St→Prop) (tm:Tm) (s:St):iQ P B nt ac Q .ret tm s=Q .ret tm s:=nd rfl
theorem TE {P:Program} {B:e9} {nt:Nat} (ac:AC) (Q:Exit→Tm→St→Prop) (tm:Tm) (s:St) (i:Nat):iQ P B nt ac Q (.exit i) tm s=Q (.exit i) tm s:=nd rfl
theorem TF (m:Nat):Tag.fg m .full = .full:=nd rfl
theorem LW (m:Nat):Tag.fg m .shared = .shared:=nd rfl
theorem Zh {P:Program} (K:Tm→St→Prop) (tm:Tm) (s:St):iW P [] K tm s=K tm s:=nd rfl
theorem s_op {P:Program} (dst:Option Nat) (o:AO) (r:List AI) (K:Tm→St→Prop) (tm:Tm) (s:St) :
 iW P (.op dst none o::r) K tm s=(match aP o tm s with | some (d,s')=>iW P r K (tm.put dst d) s' | none=>False):=nd rfl
def KJ (P:Program) (r:List AI) (K:Tm→St→Prop) (tm:Tm) (dst:Option Nat) (d:D) (s:St):Prop:=iW P r K (tm.put dst d) s
theorem acI {P:Program} (r:List AI) (K:Tm→St→Prop) (tm:Tm) (dst:Option Nat) (d:D) (s:St):KJ P r K tm dst d s=iW P r K (tm.put dst d) s:=nd rfl
theorem s_call {P:Program} (dst:Option Nat) (f:Nat) (xs:List X) (r:List AI) (K:Tm→St→Prop) (tm:Tm) (s:St) :
 iW P (.call dst none f xs::r) K tm s=CL P f (xs.map (·.ev tm)) s (KJ P r K tm dst):=nd rfl
def NJ (P:Program) (dst:Option Nat) (neg:Bool) (x:D) (r:List AI) (K:Tm→St→Prop) (tm:Tm) (s:St):Prop:=
 match x with
 | .slice _ _ rows=>∀ b:Bool,(rows≠ []→b=false)→iW P r K (tm.put dst (.bool (if neg then !b else b))) s
 | _=>False
theorem VL {P:Program} (dst:Option Nat) (neg:Bool) (x:X) (r:List AI) (K:Tm→St→Prop) (tm:Tm) (s:St) :
 iW P (.nil dst none neg x::r) K tm s=NJ P dst neg (x.ev tm) r K tm s:=nd rfl
theorem TG {P:Program} (dst:Option Nat) (neg:Bool) (g:Tag) (z:Nat) (d:List D) (l:List (List D)) (r:List AI) (K:Tm→St→Prop) (tm:Tm) (s:St) :
 NJ P dst neg (.slice g z (d::l)) r K tm s=iW P r K (tm.put dst (.bool neg)) s:=by
 simp only [NJ,ne_eq,reduceCtorEq,not_false_eq_true,true_imp_iff,eq_iff_iff]
 refine⟨fun h=>by have:=h false rfl;cases neg <;> exact this,fun h b hb=> ?_⟩
 subst hb;cases neg <;> exact h
theorem E0 {P:Program} {dst:Option Nat} {neg:Bool} {g:Tag} {z:Nat} {l:List (List D)} {r:List AI} {K:Tm→St→Prop} {tm:Tm} {s:St}
 (h1:l = []→iW P r K (tm.put dst (.bool (!neg))) s) (h2:iW P r K (tm.put dst (.bool neg)) s):NJ P dst neg (.slice g z l) r K tm s:=by
 intro b hb
 cases b with
 | false=>cases neg <;> exact h2
 | true=>
  have:l = []:=Decidable.byContradiction fun h=>by cases hb h
  cases neg <;> exact h1 this
theorem Zj {P:Program} (dst:Option Nat) (t:Nat) (w:Bool) (o:AO) (r:List AI) (K:Tm→St→Prop) (tm:Tm) (s:St) :
 iW P (.op dst (some (t,w)) o::r) K tm s = @GB (tm.get t) w ⟨(iW P (.op dst none o::r) K tm s),(iW P r K (tm.put dst (.tuple [])) s)⟩:=nd rfl
def CV (P:Program) (x:D) (Zk:List D) (s:St) (K:D→St→Prop):Prop:=
 match x with
 | .fY f lT=>enters P f=true∧CL P f (Zk++lT) s K
 | _=>False
theorem TH {P:Program} (dst:Option Nat) (t:Nat) (xs:List X) (r:List AI) (K:Tm→St→Prop) (tm:Tm) (s:St) :
 iW P (.gY dst none t xs::r) K tm s=CV P (tm.get t) (xs.map (·.ev tm)) s (KJ P r K tm dst):=nd rfl
theorem CV.use {P:Program} {f:Nat} {lT Zk:List D} {s s':St} {d:D} {K:D→St→Prop} (he:enters P f=true) (h:aD P f (Zk++lT) s d s') (k:K d s'):CV P (.fY f lT) Zk s K:=⟨he,d,s',h,k⟩
theorem OM {P:Program} (dst:Option Nat) (t:Nat) (w:Bool) (u:Nat) (xs:List X) (r:List AI) (K:Tm→St→Prop) (tm:Tm) (s:St) :
 iW P (.gY dst (some (t,w)) u xs::r) K tm s = @GB (tm.get t) w ⟨(iW P (.gY dst none u xs::r) K tm s),(iW P r K (tm.put dst (.tuple [])) s)⟩:=nd rfl
theorem TI {P:Program} (dst:Option Nat) (t:Nat) (w:Bool) (f:Nat) (xs:List X) (r:List AI) (K:Tm→St→Prop) (tm:Tm) (s:St) :
 iW P (.call dst (some (t,w)) f xs::r) K tm s = @GB (tm.get t) w ⟨(iW P (.call dst none f xs::r) K tm s),(iW P r K (tm.put dst (.tuple [])) s)⟩:=nd rfl
theorem VN {P:Program} (dst:Option Nat) (t:Nat) (w:Bool) (neg:Bool) (x:X) (r:List AI) (K:Tm→St→Prop) (tm:Tm) (s:St) :
 iW P (.nil dst (some (t,w)) neg x::r) K tm s = @GB (tm.get t) w ⟨(iW P (.nil dst none neg x::r) K tm s),(iW P r K (tm.put dst (.tuple [])) s)⟩:=nd rfl
theorem acJ (b:Bool) (A C:Prop) : @GB (.bool b) true ⟨A,C⟩ = @CB (.bool b) ⟨A,C⟩:=nd rfl
theorem acK (b:Bool) (A C:Prop) : @GB (.bool b) false ⟨A,C⟩ = @CB (.bool b) ⟨C,A⟩:=by
 cases b <;> simp [GB,CB,GJ,rL]
theorem acL (l:List D) (w:Bool) (A C:Prop) : @GB (.tuple l) w ⟨A,C⟩=C:=nd rfl
theorem Zl {P:Program} {K:Tm→St→Prop} (bo:List St) (tm:Tm) (s:St):fC P K [] bo tm s=K tm s:=nd rfl
def OJ (P:Program) (o:AO) (dst:Option Nat) (b:Nat) (r:List (AI×Nat)) (K:Tm→St→Prop) (bo:List St) (tm:Tm) (s:St):Bool→Prop
 | true=>match aP o tm s with | some (d,s')=>fC P K r (s::bo) (tm.put dst d) s' | none=>False
 | false=>match aP o tm s with | some (d,_)=>mj (.op dst none o) tm d (bo.take b)∧fC P K r bo (tm.put dst d) s | none=>False
theorem acN {P:Program} {K:Tm→St→Prop} (dst:Option Nat) (o:AO) (b:Nat) (r:List (AI×Nat)) (bo:List St) (tm:Tm) (s:St) :
 fC P K ((.op dst none o,b)::r) bo tm s=OJ P o dst b r K bo tm s o.core:=by
 simp only [fC,ly]
 cases o.core <;> rfl
theorem acO {P:Program} (o:AO) (dst:Option Nat) (b:Nat) (r:List (AI×Nat)) (K:Tm→St→Prop) (bo:List St) (tm:Tm) (s:St) :
 OJ P o dst b r K bo tm s true=match aP o tm s with | some (d,s')=>fC P K r (s::bo) (tm.put dst d) s' | none=>False:=nd rfl
theorem acP {P:Program} (o:AO) (dst:Option Nat) (b:Nat) (r:List (AI×Nat)) (K:Tm→St→Prop) (bo:List St) (tm:Tm) (s:St) :
 OJ P o dst b r K bo tm s false=match aP o tm s with | some (d,_)=>mj (.op dst none o) tm d (bo.take b)∧fC P K r bo (tm.put dst d) s | none=>False:=nd rfl
theorem Zm {P:Program} {K:Tm→St→Prop} (dst:Option Nat) (t:Nat) (w:Bool) (o:AO) (b:Nat) (r:List (AI×Nat)) (bo:List St) (tm:Tm) (s:St) :
 fC P K ((.op dst (some (t,w)) o,b)::r) bo tm s = @GB (tm.get t) w ⟨(fC P K ((.op dst none o,b)::r) bo tm s),(fC P K r (if o.core then s::bo else bo) (tm.put dst (.tuple [])) s)⟩:=by
 simp only [GB,fC,ly]
 cases o.core <;> rfl
def KG (P:Program) (K:Tm→St→Prop) (r:List (AI×Nat)) (bo:List St) (tm:Tm) (dst:Option Nat) (d:D) (s:St):Prop:=fC P K r bo (tm.put dst d) s
theorem acQ {P:Program} (K:Tm→St→Prop) (r:List (AI×Nat)) (bo:List St) (tm:Tm) (dst:Option Nat) (d:D) (s:St):KG P K r bo tm dst d s=fC P K r bo (tm.put dst d) s:=nd rfl
theorem g_call {P:Program} {K:Tm→St→Prop} (dst:Option Nat) (f:Nat) (xs:List X) (b:Nat) (r:List (AI×Nat)) (bo:List St) (tm:Tm) (s:St) :
 fC P K ((.call dst none f xs,b)::r) bo tm s=CL P f (xs.map (·.ev tm)) s (KG P K r (s::bo) tm dst):=nd rfl
theorem TJ {P:Program} {K:Tm→St→Prop} (dst:Option Nat) (t:Nat) (w:Bool) (f:Nat) (xs:List X) (b:Nat) (r:List (AI×Nat)) (bo:List St) (tm:Tm) (s:St) :
 fC P K ((.call dst (some (t,w)) f xs,b)::r) bo tm s = @GB (tm.get t) w ⟨(fC P K ((.call dst none f xs,b)::r) bo tm s),(fC P K r (s::bo) (tm.put dst (.tuple [])) s)⟩:=nd rfl
class Ok (p:Prop):Prop where
 out:p
instance:Ok True:=⟨trivial⟩
instance {p q:Prop} [Ok p] [Ok q] : Ok (p∧q):=⟨⟨Ok.out,Ok.out⟩⟩
instance {α:Type} (a:α):Ok (a=a):=⟨rfl⟩
instance (d:D):Ok (Wk d .junk):=⟨Wk.junk d⟩
instance {l l':List D} [Ok (lu l l')] : Ok (Wk (.tuple l) (.tuple l')):=⟨Wk.tuple Ok.out⟩
instance {l l':List D} [Ok (lu l l')] : Ok (Wk (.agg l) (.agg l')):=⟨Wk.agg Ok.out⟩
instance {g:Tag} {z:Nat} {l l':List (List D)} [Ok (gH l l')] : Ok (Wk (.slice g z l) (.slice g z l')):=⟨Wk.rows Ok.out⟩
instance {g:Tag} {z:Nat} {l l':List (List D)} [Ok (gH l l')] : Ok (Wk (.slice g z l) (.slice .shared z l')):=⟨Wk.slice Ok.out⟩
instance (z z':Nat):Ok (Wk (.slice .full z []) (.slice .full z' [])):=⟨Wk.acy z z'⟩
instance (g:Tag) (z z':Nat):Ok (Wk (.slice g z []) (.slice .shared z' [])):=⟨Wk.nil g z z'⟩
instance (d:D):Ok (Wk d d):=⟨Wk.refl d⟩
instance:Ok (lu [] []):=⟨.nil⟩
instance {d d':D} {l l':List D} [Ok (Wk d d')] [Ok (lu l l')] : Ok (lu (d::l) (d'::l')):=⟨.cons Ok.out Ok.out⟩
instance (l:List D):Ok (lu l l):=⟨lu.refl l⟩
instance:Ok (gH [] []):=⟨.nil⟩
instance {d d':List D} {l l':List (List D)} [Ok (lu d d')] [Ok (gH l l')] : Ok (gH (d::l) (d'::l')):=⟨.cons Ok.out Ok.out⟩
instance {a a' b b':List (List D)} [Ok (gH a a')] [Ok (gH b b')] : Ok (gH (a++b) (a'++b')):=⟨gH.append Ok.out Ok.out⟩
instance (l:List (List D)):Ok (gH l l):=⟨gH.refl l⟩
theorem bs:(∀ b,(true || b)=true)∧(∀ b,(false || b)=b)∧(∀ b,(b || true)=true)∧(∀ b,(b || false)=b)∧(∀ b,(true && b)=b)∧(∀ b,(false && b)=false)∧(∀ b,(b && true)=b)∧(∀ b,(b && false)=false)∧
 (!true)=false∧(!false)=true∧(∀ b,(!!b)=b)∧((false=true)=False)∧(∀ (α β:Type) (a:α) (f:α→Option β),(some a).bind f=f a)∧
 (∀ (α β γ:Type) (x:Option α) (f:α→Option β) (g:β→Option γ),(x.bind f).bind g=x.bind fun y=>(f y).bind g):=
 ⟨Bool.true_or,Bool.false_or,Bool.or_true,Bool.or_false,Bool.true_and,Bool.false_and,Bool.and_true,Bool.and_false,rfl,rfl,Bool.not_not,by simp,fun _ _ _ _=>rfl,fun _ _ _ x f g=>Option.bind_assoc x f g⟩
attribute [go_sem] VI acF acG Zh s_op acI s_call VL TG Zj TI VN acJ acK acL Zl acN acO acP Zm acQ g_call TJ AO.core AI.kind AO.kind fP
attribute [go_sem] TH OM I3 I4 I5 I6 EN EO EP ER LH LI I7 Td N8
attribute [go_sem] I2 ES IZ I0 I1 ET EU EV LJ LK Tc Lq S8 N5 S9 N6 Ta N7 Lp Tb N9 Iy Oa
attribute [go_sem] Lw Ly Lz LA LB LC LD LF LG IB IC ID IE IF IG II IJ IK IL IM IN IP IQ IS IT IU IV IW IX IY Oo Oq I8 I9 Ja Jb Jc Jd LL LM Je Jf Jg Ot Ou Jh LN LO EW EX EY EZ Ov Ow Ji Jj Jk Jl Jm Jn Jo Jp Jq Gl Gm Jr Js Jt Ju Tq Tr Jv Jw Jx Gn Gp Ts Tv Tw Tx Gq Gr Gs Gt Gu Gv Gw Gx Gy Gz GC GD GF GG Jy Jz JA JB Ty Tz GH GM TA TB Ox Oy Oz OA OB OC OD OE OF LP LQ LR LS LU JC JD OG OH LV TF LW TC TD TE
attribute [go_sem] List.map_cons List.map_nil List.getElem?_cons_zero List.getElem?_cons_succ List.length_cons List.length_nil List.set_cons_zero List.set_cons_succ List.take_succ_cons List.take_zero List.take_nil List.drop_succ_cons List.drop_zero List.drop_nil List.cons_append List.nil_append List.append_nil Nat.zero_add Nat.add_zero Option.map_some Option.map_none
attribute [go_sem] Bool.not_false Bool.not_true List.length_map List.getElem?_map Int.toNat_natCast Int.natCast_nonneg Int.toNat_zero and_self and_true true_and
attribute [go_sem_proc ↓] reduceIte
attribute [go_sem_proc] Int.reduceLE reduceCtorEq Nat.reduceEqDiff Nat.reduceLeDiff Nat.reduceAdd Nat.reduceMul Nat.reduceSub Nat.reduceLT
theorem bB {b:Bool} {A C:Prop} (h1:b=true→A) (h:b=true:=by assumption) : @CB (.bool b) ⟨A,C⟩:=VJ h h1
theorem bC {b:Bool} {A C:Prop} (h1:b=false→C) (h:b=false:=by assumption) : @CB (.bool b) ⟨A,C⟩:=VK h h1
theorem bD {b:Bool} {A C:Prop} (h1:b=true→A) (h2:b=false→C) : @CB (.bool b) ⟨A,C⟩:=⟨h1,h2⟩
theorem aE {a b:Prop} (x:a) (y:b):a∧b:=⟨x,y⟩
theorem bx {α:Type _} (a b:α):(some a=some b)=(a=b):=Option.some.injEq a b
theorem bA {α:Sort _} {p:α→Prop} {a:α} : (∃ x,a=x∧p x)↔p a:=exists_eq_left'
theorem k9 {n m:Nat} (h:Nat.ble n m=true):n≤m:=Nat.le_of_ble_eq_true h
theorem aH {n m:Nat} {res:List (Nat×Option (Bool×Nat))} {d:D} {s':St} {e:Exit} {tm:Tm} {s:St} {Q:Exit→Tm→St→Prop} (hQ:gS n m res d s'=Q) (h : ∃ l,az res tm s=some l∧Wk ((aA l).fg n m) d∧gH (s.cut n m).aw s'.aw∧(s.cut n m).aC=s'.aC) (he:e = .ret∨e = .normal:=by first | exact .inl rfl | exact .inr rfl):Q e tm s:=by cases he with | inl x=>cases x;exact Zf hQ h | inr x=>cases x;exact Zg hQ h
theorem Aq {p:Prop} (h:p:=by repeat' (first | exact Ok.out | with_reducible refine aE ?_ ?_ | (simp;done))):p:=h
theorem bU {p:Prop} (h:p:=by repeat' (first | exact Ok.out | with_reducible refine aE ?_ ?_)):p:=h
theorem pQ {p:Prop} (h:p:=by(try cases h);simp only [az,aA,bx,bA,go_sem,hF,hP,hY,hZ];repeat' (first | exact Ok.out | with_reducible refine aE ?_ ?_ | (simp;done))):p:=h
theorem lX_ {p:Prop} (h:p:=by simp only [go_sem,hF,hP,hY,hZ];repeat' (first | exact Ok.out | with_reducible refine aE ?_ ?_)):p:=h
theorem cM {P:Program} {B:e9} {nt:Nat} {a:AC} {Q:Exit→Tm→St→Prop} {tm bw:Tm} {s:St} {jA:List (List D)} (n m:Nat) (h:bm P B nt a Q bw ⟨jA,(s.cut n m).aC⟩) (hn:B.s.aw.length≤n:=by rw [hB];exact k9 rfl) (hm:B.s.aC.length≤m:=by rw [hB];exact k9 rfl) (ht:rz tm n m bw:=by exact lX_) (ho:gH (s.cut n m).aw jA:=by exact lX_):bm P B nt a Q tm s:=bm.re bw jA n m hn hm ht ho h
theorem eo {P:Program} {B:e9} {nt:Nat} {a:AC} {Q:Exit→Tm→St→Prop} {tm bw:Tm} {s:St} {jA:List (List D)} (n m:Nat) (ht:rz tm n m bw) (ho:gH (s.cut n m).aw jA) (h:bm P B nt a Q bw ⟨jA,(s.cut n m).aC⟩) (hn:B.s.aw.length≤n:=by rw [hB];exact k9 rfl) (hm:B.s.aC.length≤m:=by rw [hB];exact k9 rfl):bm P B nt a Q tm s:=bm.re bw jA n m hn hm ht ho h
theorem bt:0<1∧0<1∧0<1∧0<1:=⟨Nat.zero_lt_one,Nat.zero_lt_one,Nat.zero_lt_one,Nat.zero_lt_one⟩
end Go.Abs

/-! Types -/

namespace Go.Abs
mutual
theorem JE (n m:Nat) : ∀ d,D.ok 0 0 d=true→D.fg n m d=d
 | .junk,_=>by simp [D.fg]
 | .int k n,_=>by simp [D.fg]
 | .bool b,_=>by simp [D.fg]
 | .str l,_=>by simp [D.fg]
 | .eQ,_=>by simp [D.fg]
 | .val v,_=>by simp [D.fg]
 | .fm T o,h=>by simp [D.ok]at h
 | .fW o,h=>by simp [D.ok]at h
 | .fY f cs,h=>by
  simp only [D.ok]at h
  simp only [D.fg,gI n m cs h]
 | .ptr o f,h=>by simp [D.ok]at h
 | .dC r f,h=>by
  simp only [D.ok]at h
  simp only [D.fg,gI n m r h]
 | .slice g z rows,h=>by
  simp only [D.ok,Bool.and_eq_true]at h
  simp only [D.fg,As n m rows h.2]
  cases g with
  | tok t y=>simp [Tag.ok]at h
  | full=>rfl
  | shared=>rfl
 | .agg cs,h=>by
  simp only [D.ok]at h
  simp only [D.fg,gI n m cs h]
 | .tuple cs,h=>by
  simp only [D.ok]at h
  simp only [D.fg,gI n m cs h]
theorem gI (n m:Nat) : ∀ l,D.bH 0 0 l=true→D.gq n m l=l
 | [],_=>by simp [D.gq]
 | d::r,h=>by
  simp only [D.bH,Bool.and_eq_true]at h
  simp only [D.gq,JE n m d h.1,gI n m r h.2]
theorem As (n m:Nat) : ∀ l,D.iE 0 0 l=true→D.jf n m l=l
 | [],_=>by simp [D.jf]
 | d::r,h=>by
  simp only [D.iE,Bool.and_eq_true]at h
  simp only [D.jf,gI n m d h.1,As n m r h.2]
end
theorem gl {α:Type} {f:α→List D} (h : ∀ x,D.bH 0 0 (f x)=true) (l:List α):D.iE 0 0 (l.map f)=true:=by
 simp [Ak,h]
theorem lz {α:Type} {f:α→List D} (h : ∀ x,D.bH 0 0 (f x)=true) (n m:Nat) (l:List α):D.jf n m (l.map f)=l.map f:=As n m _ (gl h l)
theorem Hl (n m:Nat) : ∀ a b,D.jf n m (a++b)=D.jf n m a++D.jf n m b
 | [],b=>by simp [D.jf]
 | x::a,b=>by simp [D.jf,Hl n m a b]
abbrev aB:=List UInt8
structure bJ where
 kind:Int
 text:aB
 n:Int
 pos:Int
deriving DecidableEq
structure Ex where
 op:Int
 n:Int
 name:aB
 kids:List Ex
structure Ar where
 ref:Bool
 name:aB
 x:Ex
structure Sm where
 id:Int
 kind:Int
 labels:List aB
 name:aB
 proc:aB
 x:Ex
 has:Bool
 args:List Ar
 a7:List Sm
 aW:List Sm
structure Pm where
 name:aB
 ref:Bool
structure Pc where
 name:aB
 params:List Pm
 vars:List aB
 body:List Sm
 fin:List aB
structure Pg where
 globals:List aB
 procs:List Pc
def la:Ex:=⟨0,0,[],[]⟩
def ar0:Ar:=⟨false,[],la⟩
def E1:Sm:=⟨0,0,[],[],[],la,false,[],[],[]⟩
def Au:Pg:=⟨[],[]⟩
def encStr (s:aB):List D:= [.str s]
def dP (t:bJ):List D:= [.int .i64 t.kind, .str t.text, .int .i64 t.n, .int .i64 t.pos]
def sl (z:Nat) (rows:List (List D)):D:= .slice .shared z rows
mutual
def bp:Ex→List D
 | ⟨op,n,name,kids⟩=> [.int .i64 op, .int .i64 n, .str name, .slice .shared 4 (sx kids)]
def sx:List Ex→List (List D)
 | []=> []
 | x::l=>bp x::sx l
end
theorem CO : ∀ l,sx l=l.map bp
 | []=>by simp [sx]
 | x::l=>by simp [sx,CO l]
theorem gf (x:Ex):bp x = [.int .i64 x.op, .int .i64 x.n, .str x.name, .slice .shared 4 (x.kids.map bp)]:=by
 cases x;simp [bp,CO]
def dO (a:Ar):List D:= [.bool a.ref, .str a.name, .int .i64 a.x.op, .int .i64 a.x.n, .str a.x.name, .slice .shared 4 (a.x.kids.map bp)]
mutual
def bc:Sm→List D
 | ⟨id,kind,labels,name,proc,x,has,args,a7,aW⟩=> [.int .i64 id, .int .i64 kind, .slice .shared 1 (labels.map encStr), .str name, .str proc,
  .int .i64 x.op, .int .i64 x.n, .str x.name, .slice .shared 4 (x.kids.map bp), .bool has, .slice .shared 6 (args.map dO), .slice .shared 13 (qP a7), .slice .shared 13 (qP aW)]
def qP:List Sm→List (List D)
 | []=> []
 | x::l=>bc x::qP l
end
theorem CP : ∀ l,qP l=l.map bc
 | []=>by simp [qP]
 | x::l=>by simp [qP,CP l]
theorem di (s:Sm):bc s = [.int .i64 s.id, .int .i64 s.kind, .slice .shared 1 (s.labels.map encStr), .str s.name, .str s.proc,
 .int .i64 s.x.op, .int .i64 s.x.n, .str s.x.name, .slice .shared 4 (s.x.kids.map bp), .bool s.has, .slice .shared 6 (s.args.map dO), .slice .shared 13 (s.a7.map bc), .slice .shared 13 (s.aW.map bc)]:=by
 cases s;simp [bc,CP]
def fD (p:Pm):List D:= [.str p.name, .bool p.ref]
def cz (p:Pc):List D:= [.str p.name, .slice .shared 2 (p.params.map fD), .slice .shared 1 (p.vars.map encStr), .slice .shared 13 (p.body.map bc), .slice .shared 1 (p.fin.map encStr)]
def cj (p:Pg):List D:= [.slice .shared 1 (p.globals.map encStr), .slice .shared 5 (p.procs.map cz)]
theorem VO (x:bJ):(dP x).length=4:=nd rfl
theorem TK (x:bJ):List.take 4 (dP x)=dP x:=nd rfl
theorem TL (x:bJ):List.drop 4 (dP x) = []:=nd rfl
theorem LX (x:bJ):(dP x)[0]? = some (.int .i64 x.kind):=nd rfl
theorem LY (x:bJ):(dP x)[1]? = some (.str x.text):=nd rfl
theorem LZ (x:bJ):(dP x)[2]? = some (.int .i64 x.n):=nd rfl
theorem L0 (x:bJ):(dP x)[3]? = some (.int .i64 x.pos):=nd rfl
theorem Zn (Av:Int) (Rb:aB) (n_:Int) (VQ:Int):dP ⟨Av,Rb,n_,VQ⟩ = [.int .i64 Av, .str Rb, .int .i64 n_, .int .i64 VQ]:=by simp only [dP]
theorem Rc (x:Ex):(bp x).length=4:=by simp only [gf];rfl
theorem VR (x:Ex):List.take 4 (bp x)=bp x:=by simp only [gf];rfl
theorem VS (x:Ex):List.drop 4 (bp x) = []:=by simp only [gf];rfl
theorem ON (x:Ex):(bp x)[0]? = some (.int .i64 x.op):=by simp only [gf];rfl
theorem OO (x:Ex):(bp x)[1]? = some (.int .i64 x.n):=by simp only [gf];rfl
theorem OP (x:Ex):(bp x)[2]? = some (.str x.name):=by simp only [gf];rfl
theorem OQ (x:Ex):(bp x)[3]? = some (.slice .shared 4 (x.kids.map bp)):=by simp only [gf];rfl
theorem acR (op_:Int) (n_:Int) (mQ:aB) (Re:List Ex):bp ⟨op_,n_,mQ,Re⟩ = [.int .i64 op_, .int .i64 n_, .str mQ, .slice .shared 4 (Re.map bp)]:=by simp only [gf]
theorem Zo (x:Ar):(dO x).length=6:=nd rfl
theorem VT (x:Ar):List.take 6 (dO x)=dO x:=nd rfl
theorem VU (x:Ar):List.drop 6 (dO x) = []:=nd rfl
theorem OR (x:Ar):(dO x)[0]? = some (.bool x.ref):=nd rfl
theorem OS (x:Ar):(dO x)[1]? = some (.str x.name):=nd rfl
theorem OT (x:Ar):(dO x)[2]? = some (.int .i64 x.x.op):=nd rfl
theorem OU (x:Ar):(dO x)[3]? = some (.int .i64 x.x.n):=nd rfl
theorem OV (x:Ar):(dO x)[4]? = some (.str x.x.name):=nd rfl
theorem OW (x:Ar):(dO x)[5]? = some (.slice .shared 4 (x.x.kids.map bp)):=nd rfl
theorem OX (x:Ar):List.take 4 (List.drop 2 (dO x))=bp x.x:=by simp only [dO,gf];rfl
theorem acS (E2:Bool) (mQ:aB) (x_:Ex):dO ⟨E2,mQ,x_⟩ = [.bool E2, .str mQ, .int .i64 x_.op, .int .i64 x_.n, .str x_.name, .slice .shared 4 (x_.kids.map bp)]:=by simp only [dO]
theorem DW (x:Sm):(bc x).length=13:=by simp only [di];rfl
theorem VV (x:Sm):List.take 13 (bc x)=bc x:=by simp only [di];rfl
theorem VW (x:Sm):List.drop 13 (bc x) = []:=by simp only [di];rfl
theorem OY (x:Sm):(bc x)[0]? = some (.int .i64 x.id):=by simp only [di];rfl
theorem OZ (x:Sm):(bc x)[1]? = some (.int .i64 x.kind):=by simp only [di];rfl
theorem O0 (x:Sm):(bc x)[2]? = some (.slice .shared 1 (x.labels.map encStr)):=by simp only [di];rfl
theorem O1 (x:Sm):(bc x)[3]? = some (.str x.name):=by simp only [di];rfl
theorem O2 (x:Sm):(bc x)[4]? = some (.str x.proc):=by simp only [di];rfl
theorem O3 (x:Sm):(bc x)[5]? = some (.int .i64 x.x.op):=by simp only [di];rfl
theorem O4 (x:Sm):(bc x)[6]? = some (.int .i64 x.x.n):=by simp only [di];rfl
theorem O5 (x:Sm):(bc x)[7]? = some (.str x.x.name):=by simp only [di];rfl
theorem O6 (x:Sm):(bc x)[8]? = some (.slice .shared 4 (x.x.kids.map bp)):=by simp only [di];rfl
theorem O7 (x:Sm):(bc x)[9]? = some (.bool x.has):=by simp only [di];rfl
theorem L1 (x:Sm):(bc x)[10]? = some (.slice .shared 6 (x.args.map dO)):=by simp only [di];rfl
theorem L2 (x:Sm):(bc x)[11]? = some (.slice .shared 13 (x.a7.map bc)):=by simp only [di];rfl
theorem L3 (x:Sm):(bc x)[12]? = some (.slice .shared 13 (x.aW.map bc)):=by simp only [di];rfl
theorem O8 (x:Sm):List.take 4 (List.drop 5 (bc x))=bp x.x:=by simp only [di,gf];rfl
theorem acT (id_:Int) (Av:Int) (Hm:List aB) (mQ:aB) (Rf:aB) (x_:Ex) (VX:Bool) (Rg:List Ar) (VY:List Sm) (VZ:List Sm):bc ⟨id_,Av,Hm,mQ,Rf,x_,VX,Rg,VY,VZ⟩ = [.int .i64 id_, .int .i64 Av, .slice .shared 1 (Hm.map encStr), .str mQ, .str Rf, .int .i64 x_.op, .int .i64 x_.n, .str x_.name, .slice .shared 4 (x_.kids.map bp), .bool VX, .slice .shared 6 (Rg.map dO), .slice .shared 13 (VY.map bc), .slice .shared 13 (VZ.map bc)]:=by simp only [di]
theorem Zp (x:Pm):(fD x).length=2:=nd rfl
theorem V0 (x:Pm):List.take 2 (fD x)=fD x:=nd rfl
theorem V1 (x:Pm):List.drop 2 (fD x) = []:=nd rfl
theorem O9 (x:Pm):(fD x)[0]? = some (.str x.name):=nd rfl
theorem Pa (x:Pm):(fD x)[1]? = some (.bool x.ref):=nd rfl
theorem acU (mQ:aB) (E2:Bool):fD ⟨mQ,E2⟩ = [.str mQ, .bool E2]:=by simp only [fD]
theorem Zq (x:Pc):(cz x).length=5:=nd rfl
theorem V2 (x:Pc):List.take 5 (cz x)=cz x:=nd rfl
theorem V3 (x:Pc):List.drop 5 (cz x) = []:=nd rfl
theorem Pb (x:Pc):(cz x)[0]? = some (.str x.name):=nd rfl
theorem Pe (x:Pc):(cz x)[1]? = some (.slice .shared 2 (x.params.map fD)):=nd rfl
theorem Pf (x:Pc):(cz x)[2]? = some (.slice .shared 1 (x.vars.map encStr)):=nd rfl
theorem Ph (x:Pc):(cz x)[3]? = some (.slice .shared 13 (x.body.map bc)):=nd rfl
theorem Pj (x:Pc):(cz x)[4]? = some (.slice .shared 1 (x.fin.map encStr)):=nd rfl
theorem acV (mQ:aB) (Hn:List Pm) (Rh:List aB) (Ri:List Sm) (V4:List aB):cz ⟨mQ,Hn,Rh,Ri,V4⟩ = [.str mQ, .slice .shared 2 (Hn.map fD), .slice .shared 1 (Rh.map encStr), .slice .shared 13 (Ri.map bc), .slice .shared 1 (V4.map encStr)]:=by simp only [cz]
theorem Zr (x:Pg):(cj x).length=2:=nd rfl
theorem V5 (x:Pg):List.take 2 (cj x)=cj x:=nd rfl
theorem V6 (x:Pg):List.drop 2 (cj x) = []:=nd rfl
theorem Pk (x:Pg):(cj x)[0]? = some (.slice .shared 1 (x.globals.map encStr)):=nd rfl
theorem Pl (x:Pg):(cj x)[1]? = some (.slice .shared 5 (x.procs.map cz)):=nd rfl
theorem acW (E3:List aB) (L4:List Pc):cj ⟨E3,L4⟩ = [.slice .shared 1 (E3.map encStr), .slice .shared 5 (L4.map cz)]:=by simp only [cj]
attribute [go_sem] VO TK TL LX LY LZ L0 Zn Rc VR VS ON OO OP OQ acR Zo VT VU OR OS OT OU OV OW OX acS DW VV VW OY OZ O0 O1 O2 O3 O4 O5 O6 O7 L1 L2 L3 O8 acT Zp V0 V1 O9 Pa acU Zq V2 V3 Pb Pe Pf Ph Pj acV Zr V5 V6 Pk Pl acW
theorem Aw (s:aB):D.bH 0 0 (encStr s)=true:=rfl
theorem DX (t:bJ):D.bH 0 0 (dP t)=true:=rfl
mutual
theorem gw : ∀ x,D.bH 0 0 (bp x)=true
 | ⟨op,n,name,kids⟩=>by simp [bp,D.bH,D.ok,Tag.ok,Rj kids]
theorem Rj : ∀ l,D.iE 0 0 (sx l)=true
 | []=>rfl
 | x::l=>by simp [sx,D.iE,gw x,Rj l]
end
theorem E4 (a:Ar):D.bH 0 0 (dO a)=true:=by simp [dO,D.bH,D.ok,Tag.ok,gl gw]
mutual
theorem mE : ∀ x,D.bH 0 0 (bc x)=true
 | ⟨id,kind,labels,name,proc,x,has,args,a7,aW⟩=>by simp [bc,D.bH,D.ok,Tag.ok,JF a7,JF aW,gl Aw,gl gw,gl E4]
theorem JF : ∀ l,D.iE 0 0 (qP l)=true
 | []=>rfl
 | x::l=>by simp [qP,D.iE,mE x,JF l]
end
theorem JG (p:Pm):D.bH 0 0 (fD p)=true:=rfl
theorem xE (p:Pc):D.bH 0 0 (cz p)=true:=by simp [cz,D.bH,D.ok,Tag.ok,gl JG,gl Aw,gl mE]
theorem iX (p:Pg):D.bH 0 0 (cj p)=true:=by simp [cj,D.bH,D.ok,Tag.ok,gl Aw,gl xE]
theorem V7 (n m:Nat) (x:bJ):D.gq n m (dP x)=dP x:=gI n m _ (DX x)
theorem Zs (n m:Nat) (x:Ex):D.gq n m (bp x)=bp x:=gI n m _ (gw x)
theorem Zt (n m:Nat) (x:Ar):D.gq n m (dO x)=dO x:=gI n m _ (E4 x)
theorem Zu (n m:Nat) (x:Sm):D.gq n m (bc x)=bc x:=gI n m _ (mE x)
theorem Zv (n m:Nat) (x:Pm):D.gq n m (fD x)=fD x:=gI n m _ (JG x)
theorem Zw (n m:Nat) (x:Pc):D.gq n m (cz x)=cz x:=gI n m _ (xE x)
theorem Zx (n m:Nat) (x:Pg):D.gq n m (cj x)=cj x:=gI n m _ (iX x)
attribute [go_sem] V7 Zs Zt Zu Zv Zw Zx
theorem eH (l:List aB):D.iE 0 0 (l.map encStr)=true:=gl Aw l
theorem E5 (l:List bJ):D.iE 0 0 (l.map dP)=true:=gl DX l
theorem Rk (l:List Ex):D.iE 0 0 (l.map bp)=true:=gl gw l
theorem DY (l:List Ar):D.iE 0 0 (l.map dO)=true:=gl E4 l
theorem mR (l:List Sm):D.iE 0 0 (l.map bc)=true:=gl mE l
theorem JH (l:List Pm):D.iE 0 0 (l.map fD)=true:=gl JG l
theorem DZ (l:List Pc):D.iE 0 0 (l.map cz)=true:=gl xE l
theorem L5 (n m:Nat) (l:List aB):D.jf n m (l.map encStr)=l.map encStr:=lz Aw n m l
theorem lA (n m:Nat) (l:List bJ):D.jf n m (l.map dP)=l.map dP:=lz DX n m l
theorem Zy (n m:Nat) (l:List Ex):D.jf n m (l.map bp)=l.map bp:=lz gw n m l
theorem Zz (n m:Nat) (l:List Ar):D.jf n m (l.map dO)=l.map dO:=lz E4 n m l
theorem ZA (n m:Nat) (l:List Sm):D.jf n m (l.map bc)=l.map bc:=lz mE n m l
theorem ZB (n m:Nat) (l:List Pm):D.jf n m (l.map fD)=l.map fD:=lz JG n m l
theorem Rl (n m:Nat) (l:List Pc):D.jf n m (l.map cz)=l.map cz:=lz xE n m l
theorem V8 (x:Ex) (r:List D):bp x++r = .int .i64 x.op:: .int .i64 x.n:: .str x.name:: .slice .shared 4 (x.kids.map bp)::r:=by rw [gf];rfl
theorem TN (d:D) (x:Ex):d::bp x = [d, .int .i64 x.op, .int .i64 x.n, .str x.name, .slice .shared 4 (x.kids.map bp)]:=by rw [gf]
attribute [go_sem] V8 TN
theorem ZC:((0:Nat):Int)=0:=nd rfl
theorem ZD:((1:Nat):Int)=1:=nd rfl
theorem ZE:((2:Nat):Int)=2:=nd rfl
attribute [go_sem] ZC ZD ZE Hl List.length_append List.map_append encStr la ar0 E1 Au L5 lA Zy Zz ZA ZB Rl
theorem mx (a b:Nat):(if(b:Int) > (a:Int)then(b:Int)else(a:Int))=((max a b:Nat):Int):=by split <;> omega
theorem cY {x:Int} (h1 : -9223372036854775808≤x) (h2:x<9223372036854775808):IntKind.wrap .i64 x=x:=by
 rw [IntKind.wrap_i64];omega
@[go_sem] theorem aM {n:Nat} (h:n<4611686018427387904):IntKind.wrap .i64 ((n:Int)+1)=((n+1:Nat):Int):=by
 rw [cY] <;> omega
def inc (n:Nat):Option Nat:=if n<4611686018427387904 then some (n+1)else none
theorem Pn {n k:Nat} (h:inc n=some k):IntKind.wrap .i64 ((n:Int)+1)=((n+1:Nat):Int)∧k=n+1:=by
 unfold inc at h
 split at h
 ·rename_i hn;cases h;exact⟨aM hn,rfl⟩
 ·cases h
def Po (n:Int):Option Int:=if -4611686018427387904<n∧n<4611686018427387904 then some (n+1)else none
theorem L6 {n k:Int} (h:Po n=some k):IntKind.wrap .i64 (n+1)=n+1∧k=n+1:=by
 unfold Po at h
 split at h
 ·rename_i hn;cases h;exact⟨cY (by omega) (by omega),rfl⟩
 ·cases h
@[go_sem] theorem abG {n:Nat} (h:n+1<4611686018427387904):IntKind.wrap .i64 ((n:Int)+1)=((n+1:Nat):Int):=by
 rw [cY] <;> omega
@[go_sem] theorem abH {n:Nat} (h:n<4611686018427387904):IntKind.wrap .i64 ((n:Int)+2)=((n+2:Nat):Int):=by
 rw [cY] <;> omega
def BL {α:Type} (l:List α) (i:Nat):Option α:=if i<4611686018427387904 then l[i]? else none
theorem xF {α:Type} {l:List α} {i:Nat} {x:α} (h:BL l i=some x):i<4611686018427387904∧l[i]? = some x:=by
 unfold BL at h
 split at h
 ·exact⟨‹_›,h⟩
 ·cases h
def push {α:Type} (k:Nat) (l:List α) (x:α):Option (List α):=if(l.length+1)*k≤bI then some (l++ [x])else none
theorem nn {α:Type} {k:Nat} {l l':List α} {x:α} (h:push k l x=some l'):(l.length+1)*k≤bI∧l'=l++ [x]:=by
 unfold push at h
 split at h
 ·cases h;exact⟨‹_›,rfl⟩
 ·cases h
end Go.Abs

/-! Mir -/

namespace Go.Abs
mutual
def Ex.size:Ex→Nat
 | ⟨_,_,_,kids⟩=>1+Ex.aY kids
def Ex.aY:List Ex→Nat
 | []=>0
 | x::l=>1+x.size+Ex.aY l
end
mutual
def Ex.depth:Ex→Nat
 | ⟨_,_,_,kids⟩=>Ex.fS kids+1
def Ex.fS:List Ex→Nat
 | []=>0
 | x::l=>max x.depth (Ex.fS l)
end
def E6 (x:Ex):Option Int:=if x.size<4611686018427387904 then some (x.depth:Int)else none
theorem Ex.b9 {x:Ex} : ∀ {l:List Ex},x∈l→x.size<Ex.aY l
 | y::l,h=>by
  simp only [Ex.aY]
  rcases List.mem_cons.1 h with rfl | h
  ·omega
  ·have:=Ex.b9 h;omega
theorem Ex.dq : ∀ (l:List Ex),l.length≤Ex.aY l
 | []=>Nat.le_refl _
 | x::l=>by simp only [Ex.aY,List.length_cons];have:=Ex.dq l;omega
theorem Ex.JI : ∀ (n:Nat) (x:Ex),x.size≤n→x.depth≤x.size:=by
 intro n
 induction n with
 | zero=>intro x h;cases x;simp only [Ex.size]at h;omega
 | succ n ih=>
  rintro⟨op,m,name,kids⟩ h
  simp only [Ex.size,Ex.depth]at h ⊢
  have : ∀ l:List Ex,Ex.aY l≤n→Ex.fS l≤Ex.aY l:=by
   intro l
   induction l with
   | nil=>intro _;simp [Ex.fS]
   | cons x l L7=>
    intro h
    simp only [Ex.aY,Ex.fS]at h ⊢
    have:=ih x (by omega)
    have:=L7 (by omega)
    omega
  have:=this kids (by omega)
  omega
def lZ (t:bJ):Int×Int:=
 if t.kind != 4 then(0,0)
 else if t.text == [124,124]then(17,1)
 else if t.text == [38,38]then(16,2)
 else if t.text == [61,61]then(14,3)
 else if t.text == [33,61]then(15,3)
 else if t.text == [60]then(10,4)
 else if t.text == [60,61]then(11,4)
 else if t.text == [62]then(12,4)
 else if t.text == [62,61]then(13,4)
 else if t.text == [43]then(8,5)
 else if t.text == [45]then(9,5)
 else if t.text == [42]then(5,6)
 else if t.text == [47]then(6,6)
 else if t.text == [37]then(7,6)
 else(0,0)
structure Rd where
 l:List bJ
 i:Nat
 code:Int
 o5:Int
 n:Nat
abbrev Rd.good (r:Rd):Bool:=r.code==0
def Rd.l5 (r:Rd):Option bJ:=(BL r.l r.i).bind fun t=>if decide (0≤t.kind) && decide (t.kind≤4)then some t else none
theorem E7 {r:Rd} {t:bJ} (h:r.l5=some t):r.i<4611686018427387904∧r.l[r.i]? = some t∧0≤t.kind∧t.kind≤4:=by
 unfold Rd.l5 at h
 rw [Option.bind_eq_some_iff]at h
 obtain⟨u,h1,h⟩:=h
 obtain⟨g1,g2⟩:=xF h1
 by_cases hk:(decide (0≤u.kind) && decide (u.kind≤4))=true
 ·rw [if_pos hk]at h
  cases h
  simp only [Bool.and_eq_true,decide_eq_true_eq]at hk
  exact⟨g1,g2,hk.1,hk.2⟩
 ·rw [if_neg hk]at h;cases h
def Rd.bad (c:Int) (r:Rd):Option Rd:=if r.good then r.l5.bind fun t=>some {r with code:=c,o5:=t.pos}else some r
def Rd.is (text:aB) (r:Rd):Option Bool:=r.l5.bind fun t=>some ((t.kind==3 || t.kind==4) && t.text==text)
def Rd.take (text:aB) (r:Rd):Option (Bool×Rd):=
 if !r.good then some (false,r)else(r.is text).bind fun b=>if !b then some (false,r)else some (true,{r with i:=r.i+1})
def Rd.want (text:aB) (r:Rd):Option Rd:=(r.take text).bind fun p=>if !p.1 then p.2.bad 3 else some p.2
def Rd.name (room:Bool) (r:Rd):Option (aB×Rd):=
 r.l5.bind fun t=>if !r.good || t.kind != 1 then(r.bad 3).bind fun r=>some ([],r)else if !room then(r.bad 4).bind fun r=>some ([],r)else some (t.text,{r with i:=r.i+1})
def Rd.on (r:Rd):Rd:= {r with i:=r.i+1}
mutual
def Rd.one:Nat→Rd→Option (Ex×Rd)
 | 0,_=>none
 | n+1,r=>r.l5.bind fun t=>
  if !r.good then some (la,r)
  else if t.kind==2 then some (⟨1,t.n,[],[]⟩,{r with i:=r.i+1})
  else if t.kind==1 then some (⟨2,0,t.text,[]⟩,{r with i:=r.i+1})
  else(r.take [40]).bind fun p=>
   if p.1 then(Rd.two n 1 p.2).bind fun x=>(x.2.want [41]).bind fun r=>some (x.1,r)
   else(p.2.take [45]).bind fun p=>
    if p.1 then(Rd.one n p.2).bind fun x=>some (⟨3,0,[],[x.1]⟩,x.2)
    else(p.2.take [33]).bind fun p=>
     if p.1 then(Rd.one n p.2).bind fun x=>some (⟨4,0,[],[x.1]⟩,x.2)
     else(p.2.bad 3).bind fun r=>some (la,r)
def Rd.two:Nat→Int→Rd→Option (Ex×Rd)
 | 0,_,_=>none
 | n+1,least,r=>(Rd.one n r).bind fun x=>Rd.xG n least x.1 x.2
def Rd.xG:Nat→Int→Ex→Rd→Option (Ex×Rd)
 | 0,_,_,_=>none
 | n+1,least,x,r=>
  if r.good then r.l5.bind fun t=>
   if decide ((lZ t).2<least) || (lZ t).1==0 then some (x,r)
   else(Rd.two n ((lZ t).2+1) {r with i:=r.i+1}).bind fun y=>Rd.xG n least ⟨(lZ t).1,0,[],[x,y.1]⟩ y.2
  else some (x,r)
end
def Rd.whole (n:Nat) (r:Rd):Option (Ex×Rd):=
 r.l5.bind fun t=>(Rd.two n 1 r).bind fun x=>
  if x.2.good then(E6 x.1).bind fun d=>if decide (d > 20)then some (x.1,{x.2 with code:=4,o5:=t.pos})else some (x.1,x.2)
  else some (x.1,x.2)
def Rd.names:Nat→List aB→Int→Rd→Option (List aB×Rd)
 | 0,_,_,_=>none
 | n+1,l,fa,r=>
  if r.good then(r.name (decide ((l.length:Int)<fa))).bind fun p=>(push 17 l p.1).bind fun l=>(p.2.take [44]).bind fun q=>
   if !q.1 then(q.2.want [59]).bind fun r=>some (l,r)else Rd.names n l fa q.2
  else some (l,r)
def Rd.ahead (sign:aB) (r:Rd):Option Bool:=
 if r.good then r.l5.bind fun t=>if t.kind==1 then(BL r.l (r.i+1)).bind fun u=>some (u.kind==4 && u.text==sign)else some false
 else some false
def Rd.labels:Nat→List aB→Rd→Option (List aB×Rd)
 | 0,_,_=>none
 | n+1,l,r=>(r.ahead [58]).bind fun b=>if b then r.l5.bind fun t=>(push 17 l t.text).bind fun l=>Rd.labels n l {r with i:=r.i+2}else some (l,r)
def Rd.E8 (r:Rd):Option Bool:=
 r.l5.bind fun t=>some (if t.kind==1 then true else if t.kind != 3 then false
  else t.text == [105,102] || t.text == [119,104,105,108,101] || t.text == [98,114,101,97,107] || t.text == [99,111,110,116,105,110,117,101] || t.text == [114,101,116,117,114,110] || t.text == [103,111,116,111] || t.text == [114,101,97,100] || t.text == [112,114,105,110,116])
def Rd.vS (m:Nat):Nat→List Ar→Rd→Option (List Ar×Rd)
 | 0,_,_=>none
 | n+1,l,r=>
  if r.good then(r.take [114,101,102]).bind fun p=>
   if p.1 then(p.2.name true).bind fun x=>(push 81 l ⟨true,x.1,la⟩).bind fun l=>(x.2.take [44]).bind fun c=>if !c.1 then some (l,c.2)else Rd.vS m n l c.2
   else(Rd.whole m p.2).bind fun x=>(push 81 l ⟨false,[],x.1⟩).bind fun l=>(x.2.take [44]).bind fun c=>if !c.1 then some (l,c.2)else Rd.vS m n l c.2
  else some (l,r)
def Rd.other (sign:aB) (r:Rd):Option Bool:=if r.good then(r.is sign).bind fun b=>some !b else some false
def Rd.call (m:Nat) (name proc:aB) (r:Rd):Option (Sm×Rd):=
 (r.want [40]).bind fun r=>(r.other [41]).bind fun b=>
  if b then(Rd.vS m m [] r).bind fun q=>(q.2.want [41]).bind fun r=>(r.want [59]).bind fun r=>some (⟨0,4,[],name,proc,la,false,q.1,[],[]⟩,r)
  else(r.want [41]).bind fun r=>(r.want [59]).bind fun r=>some (⟨0,4,[],name,proc,la,false,[],[],[]⟩,r)
def Rd.named (m:Nat) (r:Rd):Option (Sm×Rd):=
 (r.name true).bind fun x=>(x.2.is [40]).bind fun b=>
  if b then Rd.call m [] x.1 x.2
  else(x.2.want [61]).bind fun r=>(r.ahead [40]).bind fun b=>
   if b then(r.name true).bind fun y=>Rd.call m x.1 y.1 y.2
   else(Rd.whole m r).bind fun y=>(y.2.want [59]).bind fun r=>some (⟨0,1,[],x.1,[],y.1,false,[],[],[]⟩,r)
def Rd.plain (m:Nat) (word:aB) (r:Rd):Option (Sm×Rd):=
 if word == [98,114,101,97,107]then some (⟨0,7,[],[],[],la,false,[],[],[]⟩,r)
 else if word == [99,111,110,116,105,110,117,101]then some (⟨0,8,[],[],[],la,false,[],[],[]⟩,r)
 else if word == [114,101,116,117,114,110]then(r.is [59]).bind fun b=>
  if !b then(Rd.whole m r).bind fun x=>some (⟨0,9,[],[],[],x.1,true,[],[],[]⟩,x.2)else some (⟨0,9,[],[],[],la,false,[],[],[]⟩,r)
 else if word == [103,111,116,111]then(r.name true).bind fun x=>some (⟨0,10,[],x.1,[],la,false,[],[],[]⟩,x.2)
 else if word == [114,101,97,100]then(r.name true).bind fun x=>some (⟨0,2,[],x.1,[],la,false,[],[],[]⟩,x.2)
 else if word == [112,114,105,110,116]then(Rd.whole m r).bind fun x=>some (⟨0,3,[],[],[],x.1,false,[],[],[]⟩,x.2)
 else some (E1,r)
def Rd.head (m:Nat) (r:Rd):Option (Ex×Rd):=(r.want [40]).bind fun r=>(Rd.whole m r).bind fun x=>(x.2.want [41]).bind fun r=>some (x.1,r)
mutual
def Rd.rows (m:Nat):Nat→Int→Bool→Rd→Option ((List Sm×List aB)×Rd)
 | 0,_,_,_=>none
 | n+1,nest,body,r=>Rd.rM m n nest body [] r
def Rd.rM (m:Nat):Nat→Int→Bool→List Sm→Rd→Option ((List Sm×List aB)×Rd)
 | 0,_,_,_,_=>none
 | n+1,nest,body,out,r=>
  if r.good then(Rd.labels m [] r).bind fun l=>(l.2.is [125]).bind fun b=>
   if b && (body || (l.1.length:Int)==0)then some ((out,l.1),{l.2 with i:=l.2.i+1})
   else(Rd.stmt m n nest l.2).bind fun s=>(push 209 out {s.1 with labels:=l.1}).bind fun out=>Rd.rM m n nest body out s.2
  else some (([],[]),r)
def Rd.stmt (m:Nat):Nat→Int→Rd→Option (Sm×Rd)
 | 0,_,_=>none
 | n+1,nest,r=>r.E8.bind fun b=>
  if !b then(r.bad 3).bind fun r=>some (E1,r)
  else(inc r.n).bind fun k=>
   if decide ((k:Int) > 200) || decide (nest > 12)then(({r with n:=k} : Rd).bad 4).bind fun r=>some (E1,r)
   else({r with n:=k} : Rd).l5.bind fun t=>
    if t.kind==1 then Rd.named m {r with n:=k}
    else if t.text == [105,102]then Rd.choice m n nest {r with n:=k,i:=r.i+1}
    else if t.text == [119,104,105,108,101]then(Rd.head m {r with n:=k,i:=r.i+1}).bind fun x=>(Rd.block m n nest x.2).bind fun b=>some (⟨0,6,[],[],[],x.1,false,[],b.1,[]⟩,b.2)
    else(Rd.plain m t.text {r with n:=k,i:=r.i+1}).bind fun s=>(s.2.want [59]).bind fun r=>some (s.1,r)
def Rd.block (m:Nat):Nat→Int→Rd→Option (List Sm×Rd)
 | 0,_,_=>none
 | n+1,nest,r=>(r.want [123]).bind fun r=>(Po nest).bind fun k=>(Rd.rows m n k false r).bind fun p=>some (p.1.1,p.2)
def Rd.choice (m:Nat):Nat→Int→Rd→Option (Sm×Rd)
 | 0,_,_=>none
 | n+1,nest,r=>(Rd.head m r).bind fun x=>(Rd.block m n nest x.2).bind fun t=>(t.2.take [101,108,115,101]).bind fun q=>
  if q.1 then(Rd.block m n nest q.2).bind fun e=>some (⟨0,5,[],[],[],x.1,false,[],t.1,e.1⟩,e.2)
  else some (⟨0,5,[],[],[],x.1,false,[],t.1,[]⟩,q.2)
end
def Rd.params:Nat→List Pm→Rd→Option (List Pm×Rd)
 | 0,_,_=>none
 | n+1,l,r=>
  if r.good then(r.take [114,101,102]).bind fun q=>(q.2.name (decide ((l.length:Int)<8))).bind fun x=>(push 25 l ⟨x.1,q.1⟩).bind fun l=>(x.2.take [44]).bind fun c=>
   if !c.1 then some (l,c.2)else Rd.params n l c.2
  else some (l,r)
def Rd.vars (m:Nat):Nat→List aB→Rd→Option (List aB×Rd)
 | 0,_,_=>none
 | n+1,l,r=>(r.take [118,97,114]).bind fun q=>if q.1 then(Rd.names m l 16 q.2).bind fun x=>Rd.vars m n x.1 x.2 else some (l,q.2)
def Rd.vT (m:Nat) (name:aB) (ps:List Pm) (r:Rd):Option (Pc×Rd):=
 (Rd.vars m m [] r).bind fun v=>(Rd.rows m m 1 true v.2).bind fun b=>some (⟨name,ps,v.1,b.1.1,b.1.2⟩,b.2)
def Rd.proc (m:Nat) (r:Rd):Option (Pc×Rd):=
 (r.name true).bind fun x=>(x.2.want [40]).bind fun r=>(r.other [41]).bind fun b=>
  if b then(Rd.params m [] r).bind fun q=>(q.2.want [41]).bind fun r=>(r.want [123]).bind fun r=>Rd.vT m x.1 q.1 r
  else(r.want [41]).bind fun r=>(r.want [123]).bind fun r=>Rd.vT m x.1 [] r
def Rd.globals (m:Nat):Nat→List aB→Rd→Option (List aB×Rd)
 | 0,_,_=>none
 | n+1,l,r=>(r.take [103,108,111,98,97,108]).bind fun q=>if q.1 then(Rd.names m l 16 q.2).bind fun x=>Rd.globals m n x.1 x.2 else some (l,q.2)
def Rd.L8 (r:Rd):Option Bool:=if r.good then r.is [112,114,111,99]else some false
def Rd.E9 (r:Rd):Option Bool:=if r.good then r.l5.bind fun t=>some (t.kind != 0)else some false
def Rd.procs (m:Nat):Nat→List Pc→Rd→Option (List Pc×Rd)
 | 0,_,_=>none
 | n+1,l,r=>r.L8.bind fun b=>
  if b then
   if(l.length:Int)==16 then(r.bad 4).bind fun r=>some (l,r)
   else(Rd.proc m {r with i:=r.i+1}).bind fun x=>(push 113 l x.1).bind fun l=>Rd.procs m n l x.2
  else r.E9.bind fun b=>if b then(r.bad 3).bind fun r=>some (l,r)else some (l,r)
def Rd.program (m:Nat) (r:Rd):Option (Pg×Rd):=(Rd.globals m m [] r).bind fun g=>(Rd.procs m m [] g.2).bind fun q=>some (⟨g.1,q.1⟩,q.2)
mutual
def Ex.beq:Ex→Ex→Bool
 | ⟨op,n,name,kids⟩,⟨op',n',JJ,Rm⟩=>if op != op' || n != n' || !(name==JJ) || (kids.length:Int) != (Rm.length:Int)then false else Ex.nX kids Rm
def Ex.nX:List Ex→List Ex→Bool
 | [],_=>true
 | _::_,[]=>true
 | x::l,y::l'=>if !Ex.beq x y then false else Ex.nX l l'
end
end Go.Abs

/-! MirTree -/

namespace Go.Abs
def Ar.aY:List Ar→Nat
 | []=>0
 | a::l=>1+a.x.size+Ar.aY l
mutual
def Sm.size:Sm→Nat
 | ⟨_,_,labels,_,_,x,_,args,a7,aW⟩=>1+labels.length+x.size+Ar.aY args+Sm.aY a7+Sm.aY aW
def Sm.aY:List Sm→Nat
 | []=>0
 | s::l=>1+s.size+Sm.aY l
end
def Pc.size (f:Pc):Nat:=1+f.params.length+f.vars.length+f.fin.length+Sm.aY f.body
def Pc.aY:List Pc→Nat
 | []=>0
 | f::l=>1+f.size+Pc.aY l
def Pg.size (p:Pg):Nat:=1+p.globals.length+Pc.aY p.procs
mutual
def Sm.num (b:Bool) (n:Nat):Sm→Sm×Nat
 | ⟨id,kind,labels,name,proc,x,has,args,a7,aW⟩=>
  (⟨if b then((n+1:Nat):Int)else id,kind,labels,name,proc,x,has,args,(Sm.fM b (n+1) a7).1,(Sm.fM b (Sm.fM b (n+1) a7).2 aW).1⟩,(Sm.fM b (Sm.fM b (n+1) a7).2 aW).2)
def Sm.fM (b:Bool) (n:Nat):List Sm→List Sm×Nat
 | []=>([],n)
 | s::l=>((Sm.num b n s).1::(Sm.fM b (Sm.num b n s).2 l).1,(Sm.fM b (Sm.num b n s).2 l).2)
end
def Pc.fM (n:Nat):List Pc→List Pc
 | []=> []
 | f::l=> {f with body:=(Sm.fM true n f.body).1}::Pc.fM (Sm.fM true n f.body).2 l
def Pg.number (p:Pg):Pg:= {p with procs:=Pc.fM 0 p.procs}
def Pg.BM (p:Pg):Option Pg:=if p.size<1073741824 then some p.number else none
mutual
theorem Sm.V9 (b:Bool) (n:Nat) : ∀ s:Sm,(Sm.num b n s).2≤n+s.size
 | ⟨id,kind,labels,name,proc,x,has,args,a7,aW⟩=>by
  simp only [Sm.num,Sm.size]
  have h1:=Sm.sc b (n+1) a7
  have h2:=Sm.sc b (Sm.fM b (n+1) a7).2 aW
  omega
theorem Sm.sc (b:Bool) (n:Nat) : ∀ l:List Sm,(Sm.fM b n l).2≤n+Sm.aY l
 | []=>by simp [Sm.fM,Sm.aY]
 | s::l=>by
  simp only [Sm.fM,Sm.aY]
  have h1:=Sm.V9 b n s
  have h2:=Sm.sc b (Sm.num b n s).2 l
  omega
end
theorem Sm.dq : ∀ (l:List Sm),l.length≤Sm.aY l
 | []=>Nat.le_refl _
 | x::l=>by simp only [Sm.aY,List.length_cons];have:=Sm.dq l;omega
theorem Ar.dq : ∀ (l:List Ar),l.length≤Ar.aY l
 | []=>Nat.le_refl _
 | x::l=>by simp only [Ar.aY,List.length_cons];have:=Ar.dq l;omega
theorem Pc.dq : ∀ (l:List Pc),l.length≤Pc.aY l
 | []=>Nat.le_refl _
 | x::l=>by simp only [Pc.aY,List.length_cons];have:=Pc.dq l;omega
theorem Ar.b9 {x:Ar} : ∀ {l:List Ar},x∈l→x.x.size<Ar.aY l
 | y::l,h=>by
  simp only [Ar.aY]
  rcases List.mem_cons.1 h with rfl | h
  ·omega
  ·have:=Ar.b9 h;omega
theorem Sm.b9 {x:Sm} : ∀ {l:List Sm},x∈l→x.size<Sm.aY l
 | y::l,h=>by
  simp only [Sm.aY]
  rcases List.mem_cons.1 h with rfl | h
  ·omega
  ·have:=Sm.b9 h;omega
theorem Pc.b9 {x:Pc} : ∀ {l:List Pc},x∈l→x.size<Pc.aY l
 | y::l,h=>by
  simp only [Pc.aY]
  rcases List.mem_cons.1 h with rfl | h
  ·omega
  ·have:=Pc.b9 h;omega
end Go.Abs

/-! Cnt -/

namespace Go.Abs
mutual
def Sm.gJ:Sm→Nat
 | ⟨_,_,_,_,_,_,_,_,a7,aW⟩=>1+Sm.dQ a7+Sm.dQ aW
def Sm.dQ:List Sm→Nat
 | []=>0
 | s::l=>s.gJ+Sm.dQ l
end
end Go.Abs

/-! MirFlat -/

namespace Go.Abs
structure Im where
 s:Sm
 proc:Int
 up:Int
 next:Int
 loop:Int
mutual
def Im.one (proc up next loop:Int) (out:List Im):Sm→List Im
 | ⟨id,kind,labels,name,pc,x,has,args,a7,aW⟩=>
  Im.rows proc ((out.length:Int)+1) (if kind==6 then(out.length:Int)+1 else next) (if kind==6 then(out.length:Int)+1 else loop)
   (Im.rows proc ((out.length:Int)+1) (if kind==6 then(out.length:Int)+1 else next) (if kind==6 then(out.length:Int)+1 else loop) (out++ [⟨⟨id,kind,labels,name,pc,x,has,args,a7,aW⟩,proc,up,next,loop⟩]) a7) aW
def Im.rows (proc up next loop:Int) (out:List Im):List Sm→List Im
 | []=>out
 | s::l=>Im.rows proc up next loop (Im.one proc up (if l.length=0 then next else(out.length:Int)+1+(s.gJ:Int)) loop out s) l
end
theorem Im.Wa (proc up next loop:Int) (out:List Im) (s:Sm):Im.one proc up next loop out s =
 Im.rows proc ((out.length:Int)+1) (if s.kind==6 then(out.length:Int)+1 else next) (if s.kind==6 then(out.length:Int)+1 else loop)
  (Im.rows proc ((out.length:Int)+1) (if s.kind==6 then(out.length:Int)+1 else next) (if s.kind==6 then(out.length:Int)+1 else loop) (out++ [⟨s,proc,up,next,loop⟩]) s.a7) s.aW:=by
 cases s;simp only [Im.one]
mutual
theorem TO (proc up next loop:Int) (out:List Im) : ∀ s:Sm,(Im.one proc up next loop out s).length=out.length+s.gJ
 | ⟨id,kind,labels,name,pc,x,has,args,a7,aW⟩=>by
  simp only [Im.one,Sm.gJ]
  rw [fN,fN]
  simp only [List.length_append,List.length_cons,List.length_nil];omega
theorem fN (proc up next loop:Int) (out:List Im) : ∀ l:List Sm,(Im.rows proc up next loop out l).length=out.length+Sm.dQ l
 | []=>rfl
 | s::l=>by
  simp only [Im.rows,Sm.dQ]
  rw [fN,TO];omega
end
mutual
theorem zw : ∀ s:Sm,s.gJ≤s.size
 | ⟨_,_,labels,_,_,x,_,args,a7,aW⟩=>by
  have:=jK a7;have:=jK aW
  simp only [Sm.gJ,Sm.size];omega
theorem jK : ∀ l:List Sm,Sm.dQ l≤Sm.aY l
 | []=>Nat.le_refl _
 | s::l=>by
  have:=zw s;have:=jK l
  simp only [Sm.dQ,Sm.aY];omega
end
structure Sh where
 L:List Im
 lo:List Int
 hi:List Int
def Sh.go (i:Nat) (h:Sh):List Pc→Sh
 | []=>h
 | f::l=>Sh.go (i+1) ⟨Im.rows i 0 (-1) 0 h.L f.body,h.lo++ [(h.L.length:Int)+1],h.hi++ [((Im.rows i 0 (-1) 0 h.L f.body).length:Int)+1]⟩ l
def Pg.eO (p:Pg):Sh:=Sh.go 0 ⟨[],[],[]⟩ p.procs
end Go.Abs

/-! Nums -/

namespace Go.Abs
def Pp:Nat:=3
def Nx:Nat:=4
def qQ:Nat:=5
def L9:Nat:=6
def Ny:Nat:=7
def Nz:Nat:=8
def NA:Nat:=9
def NB:Nat:=10
def NC:Nat:=11
def o6:Nat:=12
def uw:Nat:=13
def my:Nat:=14
def ZF:Nat:=15
def qt:Nat:=16
def Wb:Nat:=17
def ZG:Nat:=18
def sy:Nat:=19
def Yt:Nat:=20
def abI:Nat:=21
def o7:Nat:=22
def iy:Nat:=23
def ky:Nat:=24
def np:Nat:=25
def ow:Nat:=26
def q9:Nat:=27
def l6:Nat:=28
def Yu:Nat:=29
def Yv:Nat:=30
def Yw:Nat:=31
def ZH:Nat:=32
def sA:Nat:=33
def UJ:Nat:=34
def Yx:Nat:=35
def ZI:Nat:=36
def Yy:Nat:=37
def ZJ:Nat:=38
def abJ:Nat:=39
def Yz:Nat:=40
def UK:Nat:=41
def Wc:Nat:=42
def Wd:Nat:=43
def ra:Nat:=44
def ux:Nat:=45
def ik:Nat:=46
def fE:Nat:=47
def jv:Nat:=48
def Wf:Nat:=49
def Wg:Nat:=50
def Wh:Nat:=51
def Rn:Nat:=52
def Wi:Nat:=53
def TP:Nat:=54
def BN:Nat:=55
def lB:Nat:=56
def iY:Nat:=57
def gW:Nat:=58
def ml:Nat:=59
def kJ:Nat:=60
def uy:Nat:=61
def fw:Nat:=62
def mS:Nat:=63
def bQ:Nat:=64
def fT:Nat:=65
def ox:Nat:=66
def sB:Nat:=67
def o8:Nat:=68
def oc:Nat:=69
def sC:Nat:=70
def o9:Nat:=71
def p7:Nat:=72
def xH:Nat:=73
def kU:Nat:=74
def oy:Nat:=75
def nq:Nat:=76
def tz:Nat:=77
def rN:Nat:=78
def Pq:Nat:=79
def Wj:Nat:=80
def zz:Nat:=81
def UL:Nat:=82
def YA:Nat:=83
def YB:Nat:=84
def ZK:Nat:=85
def iZ:Nat:=86
def Ro:Nat:=87
def YC:Nat:=88
def TQ:Nat:=89
def Rp:Nat:=90
def ZL:Nat:=91
def YD:Nat:=92
def YE:Nat:=93
def YF:Nat:=94
def pb:Nat:=95
def jL:Nat:=96
def rO:Nat:=97
def iJ:Nat:=98
def Wl:Nat:=99
def Wm:Nat:=100
def Wn:Nat:=101
def YG:Nat:=102
def Rq:Nat:=103
def UM:Nat:=104
def UN:Nat:=105
def Wo:Nat:=106
def ZM:Nat:=107
def UO:Nat:=108
def UP:Nat:=109
def YH:Nat:=110
def YI:Nat:=111
def UQ:Nat:=112
def UR:Nat:=113
def US:Nat:=114
def Fa:Nat:=115
def rb:Nat:=116
def iK:Nat:=117
def jC:Nat:=118
def pd:Nat:=119
def sD:Nat:=120
def sE:Nat:=121
def pe:Nat:=122
def rf:Nat:=123
def uz:Nat:=124
def lk:Nat:=125
def hO:Nat:=126
def iB:Nat:=127
def od:Nat:=128
def vU:Nat:=129
def sF:Nat:=130
def dc:Nat:=131
def ib:Nat:=132
def cm:Nat:=133
def fc:Nat:=134
def eg:Nat:=135
def mF:Nat:=136
def dd:Nat:=137
def fZ:Nat:=138
def j8:Nat:=139
def jn:Nat:=140
def Rr:Nat:=141
def GN:Nat:=142
def Wp:Nat:=143
def Wq:Nat:=144
def ZN:Nat:=145
def TR:Nat:=146
def YJ:Nat:=147
def sG:Nat:=148
def jM:Nat:=149
def Ax:Nat:=150
def YK:Nat:=151
def TS:Nat:=152
def Wr:Nat:=153
def Ws:Nat:=154
def UT:Nat:=155
def BO:Nat:=156
def UU:Nat:=157
def nr:Nat:=158
def pf:Nat:=159
def rh:Nat:=160
def kV:Nat:=161
def pg:Nat:=162
def fU:Nat:=163
def mT:Nat:=164
def ri:Nat:=165
def fB:Nat:=166
def kg:Nat:=167
def Ay:Nat:=168
def Rs:Nat:=169
def dU:Nat:=170
def cH:Nat:=171
def fO:Nat:=172
def kW:Nat:=173
def nJ:Nat:=174
def GO:Nat:=175
def Rt:Nat:=176
def ph:Nat:=177
def sH:Nat:=178
def uA:Nat:=179
def qu:Nat:=180
def vV:Nat:=181
def YL:Nat:=182
def YM:Nat:=183
def UW:Nat:=184
def UX:Nat:=185
def YN:Nat:=186
def Wt:Nat:=187
def YO:Nat:=188
def Dx:Nat:=189
def nK:Nat:=190
def uB:Nat:=191
def gN:Nat:=192
def xI:Nat:=193
def zQ:Nat:=194
def xJ:Nat:=195
def yB:Nat:=196
def ym:Nat:=197
def uR:Nat:=198
def ND:Nat:=199
def wY:Nat:=200
def zA:Nat:=201
def NF:Nat:=202
def NG:Nat:=203
def lC:Nat:=204
def mH:Nat:=205
def oe:Nat:=206
def og:Nat:=207
def UY:Nat:=208
def sI:Nat:=209
def sJ:Nat:=210
def ZO:Nat:=211
def ZP:Nat:=212
def YP:Nat:=213
def YQ:Nat:=214
def Wu:Nat:=215
def Ru:Nat:=216
def UZ:Nat:=217
def TT:Nat:=218
def oh:Nat:=219
def zR:Nat:=220
def Ga:Nat:=221
def GQ:Nat:=222
def wZ:Nat:=223
def Bu:Nat:=224
def Ma:Nat:=225
def lD:Nat:=226
def l7:Nat:=227
def lE:Nat:=228
def kh:Nat:=229
def ic:Nat:=230
def l8:Nat:=231
def U0:Nat:=232
def Wv:Nat:=233
def Dy:Nat:=234
def BP:Nat:=235
def TU:Nat:=236
def uC:Nat:=237
def Bv:Nat:=238
def ki:Nat:=239
def fF:Nat:=240
def U1:Nat:=241
def gX:Nat:=242
def kz:Nat:=243
def ja:Nat:=244
def rP:Nat:=245
end Go.Abs

/-! Codes0 -/

namespace Go.Abs
abbrev AI.o (t:Nat) (a:AO):AI:= .op (some t) none a
abbrev AI.g (t c:Nat) (b:Bool) (a:AO):AI:= .op (some t) (some (c,b)) a
abbrev AI.c (t f:Nat) (l:List X):AI:= .call (some t) none f l
abbrev AI.d (t c:Nat) (b:Bool) (f:Nat) (l:List X):AI:= .call (some t) (some (c,b)) f l
abbrev AI.m (t:Nat) (x:X):AI:= .op (some t) none (.mv x)
abbrev aQ:X:= .s 0
abbrev a8:X:= .s 1
abbrev dr:X:= .s 2
abbrev bE:X:= .s 3
abbrev cQ:X:= .s 4
abbrev bf:X:= .s 5
abbrev bG:X:= .s 6
abbrev bF:X:= .s 7
abbrev bY:X:= .s 8
abbrev cv:X:= .s 9
abbrev bL:X:= .s 10
abbrev bS:X:= .s 11
abbrev b7:X:= .s 12
abbrev bT:X:= .s 13
abbrev bK:X:= .s 14
abbrev cq:X:= .s 15
abbrev b8:X:= .s 16
abbrev cJ:X:= .s 17
abbrev cD:X:= .s 18
abbrev cZ:X:= .s 19
abbrev dh:X:= .s 20
abbrev dt:X:= .s 21
abbrev dv:X:= .s 22
abbrev dB:X:= .s 23
abbrev de:X:= .s 24
abbrev c7:X:= .s 25
abbrev eh:X:= .s 26
abbrev dR:X:= .s 27
abbrev eJ:X:= .s 28
abbrev eK:X:= .s 29
abbrev fi:X:= .s 30
abbrev fb:X:= .s 31
abbrev fj:X:= .s 32
abbrev ff:X:= .s 33
abbrev fx:X:= .s 34
abbrev fu:X:= .s 35
abbrev fz:X:= .s 36
abbrev fX:X:= .s 37
abbrev gx:X:= .s 38
abbrev gm:X:= .s 39
abbrev gT:X:= .s 40
abbrev gK:X:= .s 41
abbrev iA:X:= .s 42
abbrev iL:X:= .s 43
abbrev jo:X:= .s 44
abbrev jD:X:= .s 45
abbrev jE:X:= .s 46
abbrev j9:X:= .s 47
abbrev jb:X:= .s 48
abbrev jq:X:= .s 49
abbrev kX:X:= .s 50
abbrev kb:X:= .s 51
abbrev kr:X:= .s 52
abbrev ku:X:= .s 53
abbrev kY:X:= .s 54
abbrev lF:X:= .s 55
abbrev mI:X:= .s 56
abbrev nu:X:= .s 57
abbrev mJ:X:= .s 58
abbrev kZ:X:= .s 59
abbrev oE:X:= .s 60
abbrev p8:X:= .s 61
abbrev p9:X:= .s 62
abbrev qa:X:= .s 63
abbrev rj:X:= .s 64
abbrev uD:X:= .s 65
abbrev vW:X:= .s 66
abbrev uE:X:= .s 67
abbrev uF:X:= .s 68
abbrev xK:X:= .s 69
abbrev vX:X:= .s 70
abbrev BQ:X:= .s 71
abbrev zB:X:= .s 72
abbrev BR:X:= .s 73
abbrev BS:X:= .s 74
abbrev BT:X:= .s 75
abbrev zC:X:= .s 76
abbrev BU:X:= .s 77
abbrev zD:X:= .s 78
abbrev JK:X:= .s 79
abbrev JL:X:= .s 80
abbrev JM:X:= .s 81
abbrev JN:X:= .s 82
abbrev JO:X:= .s 83
abbrev JP:X:= .s 84
abbrev JQ:X:= .s 85
abbrev JR:X:= .s 86
abbrev JS:X:= .s 87
abbrev JT:X:= .s 88
abbrev JU:X:= .s 89
abbrev JV:X:= .s 90
abbrev JW:X:= .s 91
abbrev JX:X:= .s 92
abbrev Pr:X:= .s 93
abbrev Ps:X:= .s 94
abbrev Pu:X:= .s 95
abbrev Ww:X:= .s 96
abbrev Wx:X:= .s 97
abbrev Wy:X:= .s 98
abbrev Wz:X:= .s 99
abbrev Rv:X:= .s 100
abbrev Rw:X:= .s 101
abbrev Rx:X:= .s 102
abbrev Ry:X:= .s 103
abbrev Rz:X:= .s 104
abbrev RA:X:= .s 105
abbrev RB:X:= .s 106
abbrev RC:X:= .s 107
abbrev RE:X:= .s 108
abbrev RF:X:= .s 109
abbrev RG:X:= .s 110
abbrev RH:X:= .s 111
abbrev RI:X:= .s 112
abbrev RJ:X:= .s 113
abbrev RK:X:= .s 114
abbrev RL:X:= .s 115
abbrev RM:X:= .s 116
abbrev RN:X:= .s 117
abbrev RO:X:= .s 118
abbrev RP:X:= .s 119
abbrev RQ:X:= .s 120
abbrev RR:X:= .s 121
abbrev RS:X:= .s 122
abbrev RT:X:= .s 123
abbrev RU:X:= .s 124
abbrev RV:X:= .s 125
abbrev RW:X:= .s 126
abbrev RX:X:= .s 127
abbrev RY:X:= .s 128
abbrev RZ:X:= .s 129
abbrev R0:X:= .s 130
abbrev R1:X:= .s 131
abbrev JY:X:= .s 132
abbrev R3:X:= .s 133
abbrev R4:X:= .s 134
abbrev R5:X:= .s 135
abbrev R6:X:= .s 136
abbrev R7:X:= .s 137
abbrev R8:X:= .s 138
abbrev R9:X:= .s 139
abbrev Sb:X:= .s 140
abbrev Sc:X:= .s 141
abbrev Sd:X:= .s 142
abbrev JZ:X:= .s 143
abbrev Se:X:= .s 144
abbrev D0:X:= .s 145
abbrev Sf:X:= .s 146
abbrev Sg:X:= .s 147
abbrev Si:X:= .s 148
abbrev Sj:X:= .s 149
abbrev Sk:X:= .s 150
abbrev Sl:X:= .s 151
abbrev ZQ:X:= .s 152
abbrev ZR:X:= .s 153
abbrev ZS:X:= .s 154
abbrev ZT:X:= .s 155
abbrev ZU:X:= .s 156
abbrev ZV:X:= .s 157
abbrev ZW:X:= .s 158
abbrev ZX:X:= .s 159
abbrev ZY:X:= .s 160
abbrev ZZ:X:= .s 161
abbrev Z0:X:= .s 162
abbrev Z1:X:= .s 163
abbrev Z2:X:= .s 164
abbrev Z3:X:= .s 165
abbrev Z4:X:= .s 166
abbrev Z5:X:= .s 167
abbrev Z6:X:= .s 168
abbrev Z7:X:= .s 169
abbrev Z8:X:= .s 170
abbrev Z9:X:= .s 171
abbrev aac:X:= .s 172
abbrev aad:X:= .s 173
abbrev aae:X:= .s 174
abbrev aaf:X:= .s 175
abbrev aag:X:= .s 176
abbrev aah:X:= .s 177
abbrev Q04:AC:= .cond bf (.seq (.run [.o 2 (.mv (.k (.bool false)))]) .ret) .skip
abbrev Q09:AC:= .cond bY (.seq (.run [.o 2 (.mv (.k (.bool true)))]) .ret) .skip
abbrev Q0N:AC:= .cond de (.run [.o 29 (.load a8 true 2), .c 30 ky [eK], .op none none (.store bE fi 2)]) (.seq (.run [.o 32 (.load a8 true 2), .c 33 np [fj], .o 34 (.oH ff 0 false 1), .o 35 (.bin .neq fx (.k (.int .i64 0))), .m 31 fu]) (.cond fb (.run [.o 36 (.load a8 true 2), .c 37 np [fz], .op none none (.store bE fX 2)]) (.run [.o 10 (.load a8 true 2), .c 11 ow [bL], .op none none (.store bE bS 2)])))
abbrev Q0P:AC:= .cond cJ (.run [.o 22 (.load a8 true 2), .c 23 iy [dv], .op none none (.store bE dB 2)]) (.seq (.run [.o 25 (.load a8 true 2), .c 26 ky [c7], .o 27 (.oH eh 0 false 1), .o 28 (.bin .neq dR (.k (.int .i64 0))), .m 24 eJ]) Q0N)
abbrev Q0R:AC:= .cond b7 (.run [(.o 16 (.build [(.int .i64 0),(.int .i64 0)] [(0,(1,(.k (.int .i64 1))))])), .op none none (.store bE b8 2)]) (.seq (.run [.o 18 (.load a8 true 2), .c 19 iy [cD], .o 20 (.oH cZ 0 false 1), .o 21 (.bin .neq dh (.k (.int .i64 0))), .m 17 dt]) Q0P)
abbrev Q0U:AC:= .par [.o 38 (.load a8 true 2), .c 39 my [gx], .o 40 (.load bE true 2), .o 41 (.eqs false [0,0] gm gT), .m 42 gK, .g 43 42 true (.load a8 true 2), .d 44 42 true qt [iL], .g 45 42 true (.av bE 0), .g 46 42 true (.load jD false 1), .g 47 42 true (.bin .eql jE (.k (.int .i64 0))), .g 48 42 true (.w9 false jo j9), .o 49 (.pick iA jb (.k (.bool false))), .m 2 jq] [(0,0),(1,0),(2,1),(3,0),(4,0),(5,0),(6,0),(7,0),(8,1),(9,0),(10,0),(11,0),(12,0)]
abbrev Q0X:AC:= .seq (.run [.o 9 (.build [(.int .i64 0),(.int .i64 0)] []), .o 3 (.alloc [(.int .i64 0),(.int .i64 0)]), .op none none (.store bE cv 2)]) (.seq (.block 0 (.seq (.run [.o 13 (.load a8 true 2), .c 14 o7 [bT], .o 15 (.un .not bK), .m 12 cq]) Q0R)) (.seq Q0U .ret))
abbrev Q10:AC:= .seq (.run [.o 1 (.box aQ), .o 2 (.mv (.k (.bool false)))]) (.seq (.seq (.run [.c 4 o6 [], .o 5 (.un .not cQ)]) Q04) (.seq (.seq (.run [.o 6 (.load a8 true 2), .c 7 uw [bG], .o 8 (.un .not bF)]) Q09) Q0X))
abbrev Q15:AC:= .seq (.run [.c 4 ra [], .c 5 sy [cQ], .m 3 bf, .o 6 (.ext bE 0), .o 7 (.ext bE 1), .o 1 (.alloc [(.slice .full 0 []),(.slice .full 0 [])]), .o 2 (.alloc [(.int .i64 0),(.int .i64 0)]), .op none none (.store a8 bG 2), .op none none (.store dr bF 2)]) (.seq (.run [.c 8 ux [], .c 9 qt [bY], .m 10 cv, .g 11 10 true (.av dr 0), .g 12 10 true (.load bS false 1), .g 13 10 true (.bin .eql b7 (.k (.int .i64 0))), .o 14 (.pick bL bT (.k (.bool false))), .m 15 bK, .g 16 15 true (.load a8 true 2), .d 17 15 true sA [b8], .g 18 15 true (.bin .eql cJ (.k (.int .i64 8))), .o 19 (.pick cq cD (.k (.bool false))), .m 20 cZ, .g 21 20 true (.build [(.slice .full 0 []),(.slice .full 0 [])] []), .d 22 20 true my [dt], .g 23 20 true (.oH dv 0 false 1), .g 24 20 true (.bin .eql dB (.k (.int .i64 5))), .o 25 (.pick dh de (.k (.bool false))), .m 0 c7]) .ret)
abbrev Q16:AC:= .seq (.run [.o 0 (.mv (.k (.bool false)))]) Q15
abbrev Q1E:AC:= .par [.o 26 (.av bf 4), .o 27 (.load eh false 1), .o 28 (.av bf 2), .o 29 (.load eJ false 1), .o 30 (.av bf 0), .o 31 (.load fi false 1), .m 32 bE, .c 33 fE [fb,fj], .c 34 ik [eK,ff], .c 35 ik [dR,fx], .m 3 fu] [(4,0),(5,0),(6,0),(7,0),(2,0),(3,1),(8,0),(0,0),(1,2),(9,0),(10,0)]
abbrev Q1N:AC:= .seq (.seq (.run [.m 36 bG, .o 37 (.av bf 1), .o 38 (.load fX false 1), .o 39 (.len gx), .o 40 (.bin .lss fz gm), .m 41 gT, .g 42 41 true (.mv bE), .g 43 41 true (.bin .leq iA (.k (.int .i64 20000))), .o 44 (.pick gK iL (.k (.bool false)))]) (.cond jo .skip (.exit 2))) (.seq (.block 3 (.run [.o 47 (.av bf 1), .o 48 (.load j9 false 1), .m 49 bG, .o 50 (.cu jb jq 2), .o 51 (.av kX 0), .o 52 (.load kb false 1), .m 53 bE, .c 54 fE [kr,ku], .m 3 kY])) (.run [.m 45 bG, .o 46 (.bin .add jD (.k (.int .i64 1))), .m 6 jE]))
abbrev Q1S:AC:= .seq (.seq (.run [.o 6 (.mv (.k (.int .i64 0)))]) (.block 2 (.loop Q1N))) (.run [.o 55 (.av bf 3), .o 56 (.load lF false 1), .m 57 bE, .c 58 jv [mI,nu], .m 3 mJ])
abbrev Q1X:AC:= .seq (.block 1 (.seq (.run [.o 21 (.av a8 1), .o 22 (.load dt false 1), .m 23 cQ, .o 24 (.cu dv dB 5), .o 25 (.load de true 5), .o 5 (.alloc [(.str []),(.slice .full 0 []),(.slice .full 0 []),(.slice .full 0 []),(.slice .full 0 [])]), .op none none (.store bf c7 5)]) (.seq Q1E Q1S))) (.run [.m 19 cQ, .o 20 (.bin .add cZ (.k (.int .i64 1))), .m 4 dh])
abbrev Q1Y:AC:= .seq (.seq (.run [.m 10 cQ, .o 11 (.av a8 1), .o 12 (.load bS false 1), .o 13 (.len b7), .o 14 (.bin .lss bL bT), .m 15 bK, .g 16 15 true (.mv bE), .g 17 15 true (.bin .leq b8 (.k (.int .i64 20000))), .o 18 (.pick cq cJ (.k (.bool false)))]) (.cond cD .skip (.exit 0))) Q1X
abbrev Q24:AC:= .seq (.seq (.run [.o 4 (.mv (.k (.int .i64 0)))]) (.block 0 (.loop Q1Y))) (.seq (.run [.m 59 bE, .o 60 (.bin .leq kZ (.k (.int .i64 20000))), .m 2 oE]) .ret)
abbrev Q26:AC:= .seq (.run [.o 1 (.box aQ), .o 2 (.mv (.k (.bool false)))]) (.seq (.run [.o 7 (.av a8 0), .o 8 (.load bF false 1), .c 9 ik [bY,(.k (.int .i64 0))], .m 3 cv]) Q24)
abbrev Q2A:AC:= .seq (.run [(.o 7 (.build [(.int .i64 0),(.int .i64 0)] [(0,(1,(.k (.int .i64 1))))])), .op none none (.store dr bF 2)]) .ret
abbrev Q2S:AC:= .seq (.seq (.run [.o 20 (.av bE 0), .o 21 (.load dh false 1), .o 22 (.bin .eql dt (.k (.int .i64 0)))]) (.cond dv (.run [.o 23 (.load a8 true 2), .c 24 ow [dB], .op none none (.store bE de 2)]) .skip)) (.seq (.run [.o 25 (.load bE true 2), .op none none (.store dr c7 2)]) .ret)
abbrev Q2T:AC:= .seq (.seq (.run [.o 15 (.av bE 0), .o 16 (.load cq false 1), .o 17 (.bin .eql b8 (.k (.int .i64 0)))]) (.cond cJ (.run [.o 18 (.load a8 true 2), .c 19 np [cD], .op none none (.store bE cZ 2)]) .skip)) Q2S
abbrev Q2U:AC:= .seq (.seq (.run [.o 10 (.av bE 0), .o 11 (.load bL false 1), .o 12 (.bin .eql bS (.k (.int .i64 0)))]) (.cond b7 (.run [.o 13 (.load a8 true 2), .c 14 ky [bT], .op none none (.store bE bK 2)]) .skip)) Q2T
abbrev Q2X:AC:= .seq (.run [.o 1 (.box aQ), .o 2 (.alloc [(.int .i64 0),(.int .i64 0)])]) (.seq (.seq (.run [.o 4 (.load a8 true 2), .c 5 o7 [cQ], .o 6 (.un .not bf)]) (.cond bG Q2A .skip)) (.seq (.run [.o 8 (.load a8 true 2), .c 9 iy [bY], .o 3 (.alloc [(.int .i64 0),(.int .i64 0)]), .op none none (.store bE cv 2)]) Q2U))
abbrev Q31:AC:= .seq (.run [.o 1 (.box aQ), .o 2 (.mv (.k (.bool false)))]) (.seq (.run [.o 3 (.load a8 true 2), .c 4 my [bE], .o 5 (.oH cQ 0 false 1), .o 6 (.bin .eql bf (.k (.int .i64 0))), .m 2 bG]) .ret)
abbrev Q39:AC:= .par [.o 19 (.build [(.slice .full 0 []),(.slice .full 0 [])] []), .o 20 (.load bf true 2), .op none none (.store dr cZ 2), .op none none (.store bE dh 2)] [(0,0),(2,0),(1,1),(3,0)]
abbrev Q3F:AC:= .seq (.seq (.run [.o 16 (.av bf 0), .o 17 (.load b8 false 1), .o 18 (.bin .neq cJ (.k (.int .i64 0)))]) (.cond cD (.seq Q39 .ret) .skip)) (.seq (.run [.o 21 (.load cQ true 2), .o 22 (.build [(.int .i64 0),(.int .i64 0)] []), .op none none (.store dr dt 2), .op none none (.store bE dv 2)]) .ret)
abbrev Q3G:AC:= .seq (.seq (.run [.o 11 (.av bf 0), .o 12 (.load bS false 1), .o 13 (.bin .eql b7 (.k (.int .i64 0)))]) (.cond bT (.run [.o 14 (.load cQ true 2), .c 15 my [bK], .op none none (.store bf cq 2)]) .skip)) Q3F
abbrev Q3I:AC:= .seq (.run [.o 2 (.alloc [(.slice .full 0 []),(.slice .full 0 [])]), .o 3 (.alloc [(.int .i64 0),(.int .i64 0)])]) (.seq (.run [.m 7 aQ, .c 8 q9 [bF], .m 6 bY, .o 9 (.ext bG 0), .o 10 (.ext bG 1), .o 4 (.alloc [(.slice .full 0 []),(.slice .full 0 [])]), .o 5 (.alloc [(.int .i64 0),(.int .i64 0)]), .op none none (.store cQ cv 2), .op none none (.store bf bL 2)]) Q3G)
abbrev Q3N:AC:= .cond dB (.seq (.run [.o 2 (.mv (.k (.bool false)))]) .ret) .skip
abbrev Q3U:AC:= .run [.o 33 (.av bf 1), .o 34 (.load ff false 1), .o 35 (.len fx), .o 36 (.bin .gtr fu (.k (.int .i64 8))), .m 37 fz, .g 38 37 false (.av bf 2), .g 39 37 false (.load gx false 1), .g 40 37 false (.len gm), .g 41 37 false (.bin .gtr gT (.k (.int .i64 16))), .o 42 (.pick fX (.k (.bool true)) gK), .m 43 iA, .g 44 43 false (.av bf 0), .g 45 43 false (.load jo false 1), .d 46 43 false l6 [jD], .g 47 43 false (.un .not jE), .o 48 (.pick iL (.k (.bool true)) j9), .m 49 jb, .g 50 49 false (.av bf 2), .g 51 49 false (.load kX false 1), .d 52 49 false lB [kb], .g 53 49 false (.un .not kr), .o 54 (.pick jq (.k (.bool true)) ku), .m 55 kY, .g 56 55 false (.av bf 4), .g 57 55 false (.load mI false 1), .d 58 55 false lB [nu], .g 59 55 false (.un .not mJ), .o 60 (.pick lF (.k (.bool true)) kZ)]
abbrev Q3X:AC:= .cond oE (.seq (.run [.o 2 (.mv (.k (.bool false)))]) .ret) .skip
abbrev Q46:AC:= .cond BQ (.seq (.run [.o 2 (.mv (.k (.bool false)))]) .ret) .skip
abbrev Q4B:AC:= .seq (.block 3 (.seq (.run [.o 66 (.cu p9 rj 2), .o 67 (.load vW true 2), .o 7 (.alloc [(.str []),(.bool false)]), .op none none (.store bF uE 2)]) (.seq (.run [.o 68 (.av bF 0), .o 69 (.load uF false 1), .c 70 l6 [xK], .o 71 (.un .not vX)]) Q46))) (.run [.o 72 (.bin .add rj (.k (.int .i64 1))), .m 64 zB])
abbrev Q4F:AC:= .block 2 (.loop (.seq (.run [.o 65 (.bin .lss rj qa)]) (.seq (.cond uD .skip (.exit 2)) Q4B)))
abbrev Q4K:AC:= .cond BU (.seq (.run [.o 2 (.mv (.k (.bool false)))]) .ret) .skip
abbrev Q4M:AC:= .seq (.seq (.run [.o 61 (.av bf 1), .o 62 (.load p8 false 1), .o 63 (.len p9), .o 64 (.mv (.k (.int .i64 0)))]) Q4F) (.seq (.run [.m 73 bE, .o 74 (.av bf 3), .o 75 (.load BS false 1), .c 76 iY [BR,BT,(.k (.int .i64 1))], .o 77 (.un .not zC)]) Q4K)
abbrev Q4R:AC:= .seq (.block 1 (.seq (.run [.o 31 (.cu dR eK 5), .o 32 (.load fb true 5), .o 5 (.alloc [(.str []),(.slice .full 0 []),(.slice .full 0 []),(.slice .full 0 []),(.slice .full 0 [])]), .op none none (.store bf fj 5)]) (.seq (.seq Q3U Q3X) Q4M))) (.run [.o 78 (.bin .add eK (.k (.int .i64 1))), .m 29 zD])
abbrev Q4V:AC:= .block 0 (.loop (.seq (.run [.o 30 (.bin .lss eK eJ)]) (.seq (.cond fi .skip (.exit 0)) Q4R)))
abbrev Q4Z:AC:= .seq (.seq (.run [.o 26 (.av a8 1), .o 27 (.load eh false 1), .o 28 (.len dR), .o 29 (.mv (.k (.int .i64 0)))]) Q4V) (.seq (.run [.o 2 (.mv (.k (.bool true)))]) .ret)
abbrev Q51:AC:= .seq (.seq (.run [.o 8 (.av a8 0), .o 9 (.load bY false 1), .o 10 (.len cv), .o 11 (.bin .gtr bL (.k (.int .i64 16))), .m 12 bS, .g 13 12 false (.av a8 1), .g 14 12 false (.load bT false 1), .g 15 12 false (.len bK), .g 16 12 false (.bin .gtr cq (.k (.int .i64 16))), .o 17 (.pick b7 (.k (.bool true)) b8), .m 18 cJ, .g 19 18 false (.av a8 0), .g 20 18 false (.load cZ false 1), .d 21 18 false lB [dh], .g 22 18 false (.un .not dt), .o 23 (.pick cD (.k (.bool true)) dv)]) Q3N) (.seq (.run [.o 24 (.build [(.int .i64 0)] []), .o 25 (.box de), .m 3 c7]) Q4Z)
abbrev Q52:AC:= .seq (.run [.o 1 (.box aQ), .o 2 (.mv (.k (.bool false)))]) Q51
abbrev Q56:AC:= .seq (.run [(.o 16 (.build [(.int .i64 0),(.int .i64 0)] [(0,(1,(.k (.int .i64 1))))])), .op none none (.store dr b8 2)]) .ret
abbrev Q5I:AC:= .seq (.block 1 (.seq (.run [.o 22 (.cu cD dh 5), .o 23 (.load dv true 5), .o 5 (.alloc [(.str []),(.slice .full 0 []),(.slice .full 0 []),(.slice .full 0 []),(.slice .full 0 [])]), .op none none (.store bf dB 5)]) (.run [.m 24 bE, .o 25 (.av bf 0), .o 26 (.load c7 false 1), .o 27 (.cP [(.str [])] 1 1 [(0,eh)]), .o 28 (.app 1 16 de dR), .m 3 eJ]))) (.run [.o 29 (.bin .add dh (.k (.int .i64 1))), .m 20 eK])
abbrev Q5M:AC:= .block 0 (.loop (.seq (.run [.o 21 (.bin .lss dh cZ)]) (.seq (.cond dt .skip (.exit 0)) Q5I)))
abbrev Q5R:AC:= .seq (.run [(.o 53 (.build [(.int .i64 0),(.int .i64 0)] [(0,(1,(.k (.int .i64 5))))])), .op none none (.store dr ku 2)]) .ret
abbrev Q62:AC:= .seq (.run [(.o 73 (.build [(.int .i64 0),(.int .i64 0)] [(0,(1,(.k (.int .i64 5))))])), .op none none (.store dr BR 2)]) .ret
abbrev Q6B:AC:= .seq (.run [.o 89 (.av b7 0), .o 90 (.av JU 0), .o 91 (.load JV false 1),(.o 92 (.build [(.int .i64 0),(.int .i64 0)] [(0,(1,(.k (.int .i64 5)))),(1,(1,JW))])), .op none none (.store dr JX 2)]) .ret
abbrev Q6H:AC:= .seq (.block 5 (.seq (.run [.o 80 (.cu zC zD 17), .o 81 (.load JL true 17), .o 12 (.alloc [(.int .i64 0),(.int .i64 0),(.slice .full 0 []),(.str []),(.str []),(.int .i64 0),(.int .i64 0),(.str []),(.slice .full 0 []),(.bool false),(.slice .full 0 []),(.slice .full 0 []),(.slice .full 0 []),(.int .i64 0),(.int .i64 0),(.int .i64 0),(.int .i64 0)]), .op none none (.store b7 JM 17)]) (.seq (.run [.o 82 (.load a8 true 2), .o 83 (.load cv true 5), .m 84 bE, .o 85 (.av b7 0), .o 86 (.load JQ true 13), .c 87 ox [JN,JO,JP,JR], .o 88 (.un .not JS)]) (.cond JT Q6B .skip)))) (.run [.o 93 (.bin .add zD (.k (.int .i64 1))), .m 78 Pr])
abbrev Q6L:AC:= .block 4 (.loop (.seq (.run [.o 79 (.bin .lss zD BU)]) (.seq (.cond JK .skip (.exit 4)) Q6H)))
abbrev Q6N:AC:= .seq (.seq (.run [.m 66 bL, .c 67 ml [vW], .m 68 uE, .g 69 68 false (.mv bL), .g 70 68 false (.rD 63 [a8]), .d 71 68 false fw [xK,vX], .o 72 (.pick uF (.k (.bool true)) BQ)]) (.cond zB Q62 .skip)) (.seq (.run [.m 74 bF, .m 75 bY, .c 76 fT [BS,BT], .o 77 (.len zC), .o 78 (.mv (.k (.int .i64 0)))]) Q6L)
abbrev Q6S:AC:= .seq (.block 3 (.seq (.run [.m 61 kZ, .o 62 (.cu nu kZ 5), .o 63 (.load p9 true 5), .o 9 (.alloc [(.str []),(.slice .full 0 []),(.slice .full 0 []),(.slice .full 0 []),(.slice .full 0 [])]), .m 8 p8, .op none none (.store cv qa 5)]) (.seq (.run [.o 64 (.load cv true 5), .c 65 uy [rj], .m 10 uD]) Q6N))) (.run [.o 94 (.bin .add kZ (.k (.int .i64 1))), .m 59 Ps])
abbrev Q6W:AC:= .block 2 (.loop (.seq (.run [.o 60 (.bin .lss kZ mJ)]) (.seq (.cond oE .skip (.exit 2)) Q6S)))
abbrev Q70:AC:= .seq (.seq (.run [.o 56 (.av a8 1), .o 57 (.load mI false 1), .o 58 (.len nu), .o 59 (.mv (.k (.int .i64 0)))]) Q6W) (.seq (.run [.o 95 (.build [(.int .i64 0),(.int .i64 0)] []), .op none none (.store dr Pu 2)]) .ret)
abbrev Q72:AC:= .seq (.seq (.run [.o 32 (.av a8 0), .o 33 (.load fj false 1), .c 34 ml [ff], .m 35 fx, .g 36 35 false (.mv bE), .d 37 35 false ml [fz], .o 38 (.pick fu (.k (.bool true)) fX), .m 39 gx, .g 40 39 false (.mv bG), .g 41 39 false (.bin .lss gT (.k (.int .i64 0))), .o 42 (.pick gm (.k (.bool true)) gK), .m 43 iA, .g 44 43 false (.av a8 1), .g 45 43 false (.load jo false 1), .g 46 43 false (.mv bG), .g 47 43 false (.cu jD jE 5), .g 48 43 false (.av j9 1), .g 49 43 false (.load jb false 1), .g 50 43 false (.len jq), .g 51 43 false (.bin .gtr kX (.k (.int .i64 0))), .o 52 (.pick iL (.k (.bool true)) kb)]) (.cond kr Q5R .skip)) (.seq (.run [.o 54 (.load a8 true 2), .c 55 kJ [kY], .m 7 lF]) Q70)
abbrev Q74:AC:= .seq (.seq (.run [.o 17 (.av a8 1), .o 18 (.load cJ false 1), .o 19 (.len cD), .o 20 (.mv (.k (.int .i64 0)))]) Q5M) (.seq (.run [.m 30 bE,(.c 31 gW [fi,(.k (.str [109,97,105,110]))]), .m 6 fb]) Q72)
abbrev Q76:AC:= .seq (.seq (.run [.o 13 (.load a8 true 2), .c 14 o7 [bT], .o 15 (.un .not bK)]) (.cond cq Q56 .skip)) (.seq (.run [.o 3 (.mv (.k (.slice .full 0 [])))]) Q74)
abbrev Q77:AC:= .seq (.run [.o 1 (.box aQ), .o 2 (.alloc [(.int .i64 0),(.int .i64 0)])]) Q76
abbrev Q7B:AC:= .seq (.run [(.o 9 (.build [(.int .i64 0),(.int .i64 0)] [(0,(1,(.k (.int .i64 1))))])), .op none none (.store dr cv 2)]) .ret
abbrev Q7K:AC:= .seq (.run [.o 31 (.av cQ 0), .o 32 (.av fb 0), .o 33 (.load fj false 1),(.o 34 (.build [(.int .i64 0),(.int .i64 0)] [(0,(1,(.k (.int .i64 6)))),(1,(1,ff))])), .op none none (.store dr fx 2)]) .ret
abbrev Q7N:AC:= .seq (.run [.o 18 (.cu bK b8 17), .o 19 (.load cD true 17), .o 4 (.alloc [(.int .i64 0),(.int .i64 0),(.slice .full 0 []),(.str []),(.str []),(.int .i64 0),(.int .i64 0),(.str []),(.slice .full 0 []),(.bool false),(.slice .full 0 []),(.slice .full 0 []),(.slice .full 0 []),(.int .i64 0),(.int .i64 0),(.int .i64 0),(.int .i64 0)]), .op none none (.store cQ cZ 17)]) (.seq (.run [.o 20 (.av cQ 0), .o 21 (.av dh 1), .o 22 (.load dt false 1), .o 23 (.bin .eql dv (.k (.int .i64 4))), .m 24 dB, .g 25 24 true (.load a8 true 2), .g 26 24 true (.av cQ 0), .g 27 24 true (.load eh true 13), .d 28 24 true sB [c7,dR], .g 29 24 true (.un .not eJ), .o 30 (.pick de eK (.k (.bool false)))]) (.cond fi Q7K .skip))
abbrev Q7R:AC:= .seq (.cond cJ .skip (.exit 0)) (.seq (.block 1 Q7N) (.run [.o 35 (.bin .add b8 (.k (.int .i64 1))), .m 16 fu]))
abbrev Q7V:AC:= .seq (.run [.o 10 (.load a8 true 2), .c 11 kJ [bL], .o 12 (.c6 bS), .o 13 (.av b7 2), .o 14 (.load bT false 1), .o 15 (.len bK), .o 16 (.mv (.k (.int .i64 0)))]) (.block 0 (.loop (.seq (.run [.o 17 (.bin .lss b8 cq)]) Q7R)))
abbrev Q7Z:AC:= .seq (.seq (.run [.o 5 (.load a8 true 2), .c 6 iy [bf], .o 7 (.oH bG 0 false 1), .o 8 (.bin .neq bF (.k (.int .i64 0)))]) (.cond bY Q7B .skip)) (.seq Q7V (.seq (.run [.o 36 (.build [(.int .i64 0),(.int .i64 0)] []), .op none none (.store dr fz 2)]) .ret))
abbrev Q80:AC:= .seq (.run [.o 1 (.box aQ), .o 2 (.alloc [(.int .i64 0),(.int .i64 0)])]) Q7Z
abbrev Q85:AC:= .seq (.run [(.o 14 (.build [(.int .i64 0),(.int .i64 0)] [(0,(1,(.k (.int .i64 1))))])), .op none none (.store dr bK 2)]) .ret
abbrev Q8L:AC:= .seq (.run [.o 47 (.av cv 0), .o 48 (.av j9 0), .o 49 (.load jb false 1),(.o 50 (.build [(.int .i64 0),(.int .i64 0)] [(0,(1,(.k (.int .i64 7)))),(1,(1,jq))])), .op none none (.store dr kX 2)]) .ret
abbrev Q8O:AC:= .seq (.run [.m 32 bG, .o 33 (.av cv 0), .o 34 (.av ff 2), .o 35 (.load fx false 1), .c 36 oc [fj,fu], .m 31 fz, .o 37 (.ext fb 0), .o 38 (.ext fb 1), .m 6 fX, .m 7 gx]) (.seq (.run [.m 39 bF, .o 40 (.un .not gm), .m 41 gT, .g 42 41 false (.mv bE), .g 43 41 false (.load cv true 17), .d 44 41 false sC [iA,iL], .g 45 41 false (.un .not jo), .o 46 (.pick gK (.k (.bool true)) jD)]) (.cond jE Q8L .skip))
abbrev Q8S:AC:= .seq (.block 3 (.seq (.run [.o 29 (.cu c7 dR 17), .o 30 (.load eK true 17), .o 9 (.alloc [(.int .i64 0),(.int .i64 0),(.slice .full 0 []),(.str []),(.str []),(.int .i64 0),(.int .i64 0),(.str []),(.slice .full 0 []),(.bool false),(.slice .full 0 []),(.slice .full 0 []),(.slice .full 0 []),(.int .i64 0),(.int .i64 0),(.int .i64 0),(.int .i64 0)]), .op none none (.store cv fi 17)]) Q8O)) (.run [.o 51 (.bin .add dR (.k (.int .i64 1))), .m 27 kb])
abbrev Q8W:AC:= .block 2 (.loop (.seq (.run [.o 28 (.bin .lss dR eh)]) (.seq (.cond eJ .skip (.exit 2)) Q8S)))
abbrev Q91:AC:= .seq (.run [(.o 61 (.build [(.int .i64 0),(.int .i64 0)] [(0,(1,(.k (.int .i64 7))))])), .op none none (.store dr p8 2)]) .ret
abbrev Q95:AC:= .seq (.seq (.run [.m 23 bE, .m 24 cQ, .c 25 fT [dB,de], .o 26 (.len c7), .o 27 (.mv (.k (.int .i64 0)))]) Q8W) (.seq (.run [.m 53 bG, .o 54 (.av bf 4), .o 55 (.load kY false 1), .c 56 oc [ku,lF], .m 52 mI, .o 57 (.ext kr 0), .o 58 (.ext kr 1), .m 7 mJ]) (.seq (.run [.m 59 bF, .o 60 (.un .not kZ)]) (.cond oE Q91 .skip)))
abbrev Q97:AC:= .seq (.run [.o 6 (.mv (.k (.slice .full 0 [])))]) (.seq (.run [.o 7 (.mv (.k (.bool true)))]) Q95)
abbrev Q9B:AC:= .seq (.block 1 (.seq (.run [.m 20 cD, .o 21 (.cu b8 cD 5), .o 22 (.load dt true 5), .o 5 (.alloc [(.str []),(.slice .full 0 []),(.slice .full 0 []),(.slice .full 0 []),(.slice .full 0 [])]), .m 4 dh, .op none none (.store bf dv 5)]) Q97)) (.run [.o 62 (.bin .add cD (.k (.int .i64 1))), .m 18 p9])
abbrev Q9F:AC:= .block 0 (.loop (.seq (.run [.o 19 (.bin .lss cD cJ)]) (.seq (.cond cZ .skip (.exit 0)) Q9B)))
abbrev Q9J:AC:= .seq (.seq (.run [.o 15 (.av a8 1), .o 16 (.load cq false 1), .o 17 (.len b8), .o 18 (.mv (.k (.int .i64 0)))]) Q9F) (.seq (.run [.o 63 (.build [(.int .i64 0),(.int .i64 0)] []), .op none none (.store dr qa 2)]) .ret)
abbrev Q9L:AC:= .seq (.run [.o 10 (.load a8 true 2), .c 11 o8 [bL], .m 3 bS]) (.seq (.seq (.run [.m 12 bE, .o 13 (.Ct false b7 (.k .eQ))]) (.cond bT Q85 .skip)) Q9J)
abbrev Q9M:AC:= .seq (.run [.o 1 (.box aQ), .o 2 (.alloc [(.int .i64 0),(.int .i64 0)])]) Q9L
abbrev Q9Q:AC:= .seq (.run [(.o 12 (.build [(.int .i64 0),(.int .i64 0)] [(0,(1,(.k (.int .i64 1))))])), .op none none (.store dr b7 2)]) .ret
abbrev Q9Y:AC:= .par [.m 21 bE, .o 22 (.av bf 0), .o 23 (.load dv false 1), .o 24 (.load a8 true 2), .o 25 (.av bf 0), .o 26 (.load c7 false 1), .c 27 o9 [de,eh], .op none none (.vH dt dB dR)] [(3,0),(4,0),(5,0),(6,0),(0,0),(1,0),(2,1),(7,0)]
abbrev QA2:AC:= .seq (.block 1 (.seq (.run [.o 19 (.cu cq cJ 5), .o 20 (.load cZ true 5), .o 5 (.alloc [(.str []),(.slice .full 0 []),(.slice .full 0 []),(.slice .full 0 []),(.slice .full 0 [])]), .op none none (.store bf dh 5)]) Q9Y)) (.run [.o 28 (.bin .add cJ (.k (.int .i64 1))), .m 17 eJ])
abbrev QA6:AC:= .block 0 (.loop (.seq (.run [.o 18 (.bin .lss cJ b8)]) (.seq (.cond cD .skip (.exit 0)) QA2)))
abbrev QAE:AC:= .seq (.run [.o 54 (.av bF 0), .o 55 (.av kY 0), .o 56 (.load lF false 1),(.o 57 (.build [(.int .i64 0),(.int .i64 0)] [(0,(1,(.k (.int .i64 8)))),(1,(1,mI))])), .op none none (.store dr nu 2)]) .ret
abbrev QAH:AC:= .seq (.run [.o 37 (.cu ff fu 17), .o 38 (.load fX true 17), .o 7 (.alloc [(.int .i64 0),(.int .i64 0),(.slice .full 0 []),(.str []),(.str []),(.int .i64 0),(.int .i64 0),(.str []),(.slice .full 0 []),(.bool false),(.slice .full 0 []),(.slice .full 0 []),(.slice .full 0 []),(.int .i64 0),(.int .i64 0),(.int .i64 0),(.int .i64 0)]), .op none none (.store bF gx 17)]) (.seq (.run [.o 39 (.av bF 0), .o 40 (.av gm 1), .o 41 (.load gT false 1), .o 42 (.bin .eql gK (.k (.int .i64 4))), .m 43 iA, .g 44 43 true (.av bF 0), .g 45 43 true (.load jo true 13), .g 46 43 true (.mv bE), .g 47 43 true (.av bF 0), .g 48 43 true (.av j9 4), .g 49 43 true (.load jb false 1), .g 50 43 true (.s8 jE jq (.slice .full 0 [])), .d 51 43 true p7 [jD,kX], .g 52 43 true (.un .not kb), .o 53 (.pick iL kr (.k (.bool false)))]) (.cond ku QAE .skip))
abbrev QAL:AC:= .seq (.cond fz .skip (.exit 2)) (.seq (.block 3 QAH) (.run [.o 58 (.bin .add fu (.k (.int .i64 1))), .m 35 mJ]))
abbrev QAP:AC:= .seq (.run [.o 29 (.load a8 true 2), .c 30 kJ [eK], .o 31 (.c6 fi), .o 32 (.av fb 2), .o 33 (.load fj false 1), .o 34 (.len ff), .o 35 (.mv (.k (.int .i64 0)))]) (.block 2 (.loop (.seq (.run [.o 36 (.bin .lss fu fx)]) QAL)))
abbrev QAT:AC:= .seq (.seq (.run [.o 14 (.av a8 1), .o 15 (.load bK false 1), .o 16 (.len cq), .o 17 (.mv (.k (.int .i64 0)))]) QA6) (.seq QAP (.seq (.run [.o 59 (.build [(.int .i64 0),(.int .i64 0)] []), .op none none (.store dr kZ 2)]) .ret))
abbrev QAV:AC:= .seq (.seq (.run [.o 8 (.load a8 true 2), .c 9 ky [bY], .o 10 (.oH cv 0 false 1), .o 11 (.bin .neq bL (.k (.int .i64 0)))]) (.cond bS Q9Q .skip)) (.seq (.run [.op (some 13) none .rE, .m 3 bT]) QAT)
abbrev QAW:AC:= .seq (.run [.o 1 (.box aQ), .o 2 (.alloc [(.int .i64 0),(.int .i64 0)])]) QAV
abbrev QB0:AC:= .par [.o 16 (.build [(.slice .full 0 []),(.slice .full 0 [])] []), .o 17 (.load bf true 2), .op none none (.store dr b8 2), .op none none (.store bE cJ 2)] [(0,0),(2,0),(1,1),(3,0)]
abbrev QB7:AC:= .par [.o 29 (.build [(.slice .full 0 []),(.slice .full 0 [])] []), .m 30 bG, .o 31 (.c6 fi), .o 32 (.av fb 2), .o 33 (.load fj true 2), .op none none (.store dr eK 2), .op none none (.store bE ff 2)] [(0,0),(5,0),(1,0),(2,0),(3,0),(4,1),(6,0)]
abbrev QBD:AC:= .seq (.seq (.run [.m 23 bG, .o 24 (.c6 dB), .o 25 (.av de 2), .o 26 (.av c7 0), .o 27 (.load eh false 1), .o 28 (.bin .neq dR (.k (.int .i64 0)))]) (.cond eJ (.seq QB7 .ret) .skip)) (.seq (.run [.o 34 (.load bF true 2), .c 35 oy [fx], .o 36 (.build [(.int .i64 0),(.int .i64 0)] []), .op none none (.store dr fu 2), .op none none (.store bE fz 2)]) .ret)
abbrev QBG:AC:= .seq (.seq (.run [.o 13 (.av bf 0), .o 14 (.load bT false 1), .o 15 (.bin .neq bK (.k (.int .i64 0)))]) (.cond cq (.seq QB0 .ret) .skip)) (.seq (.run [.m 18 cQ, .o 19 (.build [(.slice .full 0 []),(.int .i64 0),(.int .i64 0),(.int .i64 0),(.int .i64 0)] [(0,(1,cD))]), .o 20 (.box cZ), .m 6 dh]) (.seq (.run [.m 21 bG, .c 22 kU [dt], .o 7 (.alloc [(.slice .full 0 []),(.slice .full 0 [])]), .op none none (.store bF dv 2)]) QBD))
abbrev QBI:AC:= .seq (.run [.o 2 (.alloc [(.slice .full 0 []),(.slice .full 0 [])]), .o 3 (.alloc [(.int .i64 0),(.int .i64 0)])]) (.seq (.run [.m 9 aQ, .c 10 xH [cv], .m 8 bL, .o 11 (.ext bY 0), .o 12 (.ext bY 1), .o 5 (.alloc [(.int .i64 0),(.int .i64 0)]), .m 4 bS, .op none none (.store bf b7 2)]) QBG)
abbrev QBN:AC:= .cond b8 (.seq (.run [.o 2 (.mv (.k (.bool false)))]) .ret) .skip
abbrev QBR:AC:= .seq (.seq (.run [.m 3 aQ, .o 4 (.ko bE), .o 5 (.bin .lss cQ (.k (.int .i64 1))), .m 6 bf, .g 7 6 false (.mv aQ), .g 8 6 false (.ko bF), .g 9 6 false (.bin .gtr bY (.k (.int .i64 8))), .o 10 (.pick bG (.k (.bool true)) cv), .m 11 bL, .g 12 11 false (.mv aQ), .g 13 11 false (.na b7 (.k (.int .i64 0))), .d 14 11 false nq [bT], .g 15 11 false (.un .not bK), .o 16 (.pick bS (.k (.bool true)) cq)]) QBN) (.seq (.run [.m 17 aQ, .c 18 tz [cJ,(.k (.int .i64 0))], .m 19 aQ, .o 20 (.ko cZ), .o 21 (.bin .eql cD dh), .m 22 dt, .g 23 22 true (.mv aQ), .d 24 22 true rN [dB], .g 25 22 true (.un .not de), .o 26 (.pick dv c7 (.k (.bool false))), .m 2 eh]) .ret)
abbrev QBS:AC:= .seq (.run [.o 2 (.mv (.k (.bool false)))]) QBR
abbrev QC3:AC:= .seq (.block 1 (.seq (.run [.o 11 (.cu bF cv 5), .o 12 (.load bS true 5), .o 5 (.alloc [(.str []),(.slice .full 0 []),(.slice .full 0 []),(.slice .full 0 []),(.slice .full 0 [])]), .op none none (.store bf b7 5)]) (.run [.m 13 bE, .o 14 (.av bf 3), .o 15 (.load bK false 1), .c 16 iZ [cq], .o 17 (.bin .add bT b8), .m 3 cJ]))) (.run [.o 18 (.bin .add cv (.k (.int .i64 1))), .m 9 cD])
abbrev QC7:AC:= .block 0 (.loop (.seq (.run [.o 10 (.bin .lss cv bY)]) (.seq (.cond bL .skip (.exit 0)) QC3)))
abbrev QCB:AC:= .seq (.seq (.run [.o 6 (.av a8 1), .o 7 (.load bG false 1), .o 8 (.len bF), .o 9 (.mv (.k (.int .i64 0)))]) QC7) (.seq (.run [.m 19 bE, .m 2 cZ]) .ret)
abbrev QCD:AC:= .seq (.run [.o 1 (.box aQ), .o 2 (.mv (.k (.int .i64 0)))]) (.seq (.run [.o 3 (.mv (.k (.int .i64 0)))]) QCB)
end Go.Abs

/-! Have0 -/

namespace Go.Abs
open Go.Proofs
theorem gn:Has Tryz.prog qQ 50 [(2,none)] Q10:=⟨Tryz.f5,by kernel_rfl,by kernel_rfl⟩
theorem yC:Has Tryz.prog o6 26 [(0,none)] Q16:=⟨Tryz.f12,by kernel_rfl,by kernel_rfl⟩
theorem Dz:Has Tryz.prog uw 61 [(2,none)] Q26:=⟨Tryz.f13,by kernel_rfl,by kernel_rfl⟩
theorem mn:Has Tryz.prog my 26 [(2,(some (true,2)))] Q2X:=⟨Tryz.f14,by kernel_rfl,by kernel_rfl⟩
theorem DA:Has Tryz.prog qt 7 [(2,none)] Q31:=⟨Tryz.f16,by kernel_rfl,by kernel_rfl⟩
theorem qb:Has Tryz.prog sy 23 [(2,(some (true,2))),(3,(some (true,2)))] Q3I:=⟨Tryz.f19,by kernel_rfl,by kernel_rfl⟩
theorem Fb:Has Tryz.prog o7 79 [(2,none)] Q52:=⟨Tryz.f22,by kernel_rfl,by kernel_rfl⟩
theorem tA:Has Tryz.prog iy 96 [(2,(some (true,2)))] Q77:=⟨Tryz.f23,by kernel_rfl,by kernel_rfl⟩
theorem tB:Has Tryz.prog ky 37 [(2,(some (true,2)))] Q80:=⟨Tryz.f24,by kernel_rfl,by kernel_rfl⟩
theorem u9:Has Tryz.prog np 64 [(2,(some (true,2)))] Q9M:=⟨Tryz.f25,by kernel_rfl,by kernel_rfl⟩
theorem tC:Has Tryz.prog ow 60 [(2,(some (true,2)))] QAW:=⟨Tryz.f26,by kernel_rfl,by kernel_rfl⟩
theorem Az:Has Tryz.prog q9 37 [(2,(some (true,2))),(3,(some (true,2)))] QBI:=⟨Tryz.f27,by kernel_rfl,by kernel_rfl⟩
theorem lG:Has Tryz.prog l6 27 [(2,none)] QBS:=⟨Tryz.f28,by kernel_rfl,by kernel_rfl⟩
theorem BV:Has Tryz.prog sA 20 [(2,none)] QCD:=⟨Tryz.f33,by kernel_rfl,by kernel_rfl⟩
end Go.Abs

/-! Codes1 -/

namespace Go.Abs
abbrev QCF:AC:= .run [.o 0 (.mv (.k (.str [103,108,111,98,97,108,32,103,59,10,112,114,111,99,32,109,97,105,110,40,41,32,123,10,32,118,97,114,32,118,59,10,32,118,32,61,32,50,59,10,32,103,32,61,32,112,40,51,44,32,114,101,102,32,118,41,59,10,32,112,114,105,110,116,32,118,59,10,32,112,114,105,110,116,32,103,59,10,125,10,112,114,111,99,32,112,40,120,44,32,114,101,102,32,121,41,32,123,10,32,121,32,61,32,121,32,43,32,120,59,10,32,105,102,32,40,121,32,62,32,57,41,32,123,10,32,32,103,111,116,111,32,101,59,10,32,125,10,32,114,101,116,117,114,110,32,121,59,10,101,58,32,125,10])))]
abbrev QCH:AC:= .seq (.run [.o 0 (.mv (.k (.str [])))]) (.seq QCF .ret)
abbrev QCJ:AC:= .run [(.o 3 (.cP [(.str [])] 1 1 [(0,(.k (.str [118])))])), .c 4 pb [(.k (.int .i64 2))],(.o 5 (.build [(.int .i64 0),(.int .i64 0),(.slice .full 0 []),(.str []),(.str []),(.int .i64 0),(.int .i64 0),(.str []),(.slice .full 0 []),(.bool false),(.slice .full 0 []),(.slice .full 0 []),(.slice .full 0 [])] [(0,(1,(.k (.int .i64 1)))),(1,(1,(.k (.int .i64 1)))),(3,(1,(.k (.str [118])))),(5,(4,cQ))])), .c 6 pb [(.k (.int .i64 3))], .o 7 (.build [(.bool false),(.str []),(.int .i64 0),(.int .i64 0),(.str []),(.slice .full 0 [])] [(2,(4,bG))]),(.o 8 (.build [(.bool false),(.str []),(.int .i64 0),(.int .i64 0),(.str []),(.slice .full 0 [])] [(0,(1,(.k (.bool true)))),(1,(1,(.k (.str [118]))))])), .o 9 (.cP [(.bool false),(.str []),(.int .i64 0),(.int .i64 0),(.str []),(.slice .full 0 [])] 6 2 [(0,bF),(1,bY)]),(.o 10 (.build [(.int .i64 0),(.int .i64 0),(.slice .full 0 []),(.str []),(.str []),(.int .i64 0),(.int .i64 0),(.str []),(.slice .full 0 []),(.bool false),(.slice .full 0 []),(.slice .full 0 []),(.slice .full 0 [])] [(0,(1,(.k (.int .i64 2)))),(1,(1,(.k (.int .i64 4)))),(3,(1,(.k (.str [103])))),(4,(1,(.k (.str [112])))),(10,(1,cv))])),(.c 11 jL [(.k (.str [118]))]),(.o 12 (.build [(.int .i64 0),(.int .i64 0),(.slice .full 0 []),(.str []),(.str []),(.int .i64 0),(.int .i64 0),(.str []),(.slice .full 0 []),(.bool false),(.slice .full 0 []),(.slice .full 0 []),(.slice .full 0 [])] [(0,(1,(.k (.int .i64 3)))),(1,(1,(.k (.int .i64 3)))),(5,(4,bS))])),(.c 13 jL [(.k (.str [103]))]),(.o 14 (.build [(.int .i64 0),(.int .i64 0),(.slice .full 0 []),(.str []),(.str []),(.int .i64 0),(.int .i64 0),(.str []),(.slice .full 0 []),(.bool false),(.slice .full 0 []),(.slice .full 0 []),(.slice .full 0 [])] [(0,(1,(.k (.int .i64 4)))),(1,(1,(.k (.int .i64 3)))),(5,(4,bT))])), .o 15 (.cP [(.int .i64 0),(.int .i64 0),(.slice .full 0 []),(.str []),(.str []),(.int .i64 0),(.int .i64 0),(.str []),(.slice .full 0 []),(.bool false),(.slice .full 0 []),(.slice .full 0 []),(.slice .full 0 [])] 13 4 [(0,bf),(1,bL),(2,b7),(3,bK)]),(.o 16 (.build [(.str []),(.slice .full 0 []),(.slice .full 0 []),(.slice .full 0 []),(.slice .full 0 [])] [(0,(1,(.k (.str [109,97,105,110])))),(2,(1,bE)),(3,(1,cq))])), .o 1 (.alloc [(.str []),(.slice .full 0 []),(.slice .full 0 []),(.slice .full 0 []),(.slice .full 0 [])]), .op none none (.store a8 b8 5)]
abbrev QCK:AC:= .run [(.o 17 (.build [(.str []),(.bool false)] [(0,(1,(.k (.str [120]))))])),(.o 18 (.build [(.str []),(.bool false)] [(0,(1,(.k (.str [121])))),(1,(1,(.k (.bool true))))])), .o 19 (.cP [(.str []),(.bool false)] 2 2 [(0,cJ),(1,cD)]),(.o 20 (.cP [(.str [])] 1 1 [(0,(.k (.str [101])))])),(.c 21 jL [(.k (.str [121]))]),(.c 22 jL [(.k (.str [120]))]), .c 23 rO [(.k (.int .i64 8)),dt,dv],(.o 24 (.build [(.int .i64 0),(.int .i64 0),(.slice .full 0 []),(.str []),(.str []),(.int .i64 0),(.int .i64 0),(.str []),(.slice .full 0 []),(.bool false),(.slice .full 0 []),(.slice .full 0 []),(.slice .full 0 [])] [(0,(1,(.k (.int .i64 5)))),(1,(1,(.k (.int .i64 1)))),(3,(1,(.k (.str [121])))),(5,(4,dB))])),(.c 25 jL [(.k (.str [121]))]), .c 26 pb [(.k (.int .i64 9))], .c 27 rO [(.k (.int .i64 12)),c7,eh],(.o 28 (.build [(.int .i64 0),(.int .i64 0),(.slice .full 0 []),(.str []),(.str []),(.int .i64 0),(.int .i64 0),(.str []),(.slice .full 0 []),(.bool false),(.slice .full 0 []),(.slice .full 0 []),(.slice .full 0 [])] [(0,(1,(.k (.int .i64 7)))),(1,(1,(.k (.int .i64 10)))),(3,(1,(.k (.str [101]))))])), .o 29 (.cP [(.int .i64 0),(.int .i64 0),(.slice .full 0 []),(.str []),(.str []),(.int .i64 0),(.int .i64 0),(.str []),(.slice .full 0 []),(.bool false),(.slice .full 0 []),(.slice .full 0 []),(.slice .full 0 [])] 13 1 [(0,eJ)]),(.o 30 (.build [(.int .i64 0),(.int .i64 0),(.slice .full 0 []),(.str []),(.str []),(.int .i64 0),(.int .i64 0),(.str []),(.slice .full 0 []),(.bool false),(.slice .full 0 []),(.slice .full 0 []),(.slice .full 0 [])] [(0,(1,(.k (.int .i64 6)))),(1,(1,(.k (.int .i64 5)))),(5,(4,dR)),(11,(1,eK))])),(.c 31 jL [(.k (.str [121]))]),(.o 32 (.build [(.int .i64 0),(.int .i64 0),(.slice .full 0 []),(.str []),(.str []),(.int .i64 0),(.int .i64 0),(.str []),(.slice .full 0 []),(.bool false),(.slice .full 0 []),(.slice .full 0 []),(.slice .full 0 [])] [(0,(1,(.k (.int .i64 8)))),(1,(1,(.k (.int .i64 9)))),(9,(1,(.k (.bool true)))),(5,(4,fb))])), .o 33 (.cP [(.int .i64 0),(.int .i64 0),(.slice .full 0 []),(.str []),(.str []),(.int .i64 0),(.int .i64 0),(.str []),(.slice .full 0 []),(.bool false),(.slice .full 0 []),(.slice .full 0 []),(.slice .full 0 [])] 13 3 [(0,de),(1,fi),(2,fj)]),(.o 34 (.build [(.str []),(.slice .full 0 []),(.slice .full 0 []),(.slice .full 0 []),(.slice .full 0 [])] [(0,(1,(.k (.str [112])))),(1,(1,cZ)),(4,(1,dh)),(3,(1,ff))])), .o 2 (.alloc [(.str []),(.slice .full 0 []),(.slice .full 0 []),(.slice .full 0 []),(.slice .full 0 [])]), .op none none (.store dr fx 5)]
abbrev QCM:AC:= .seq (.run [(.o 35 (.cP [(.str [])] 1 1 [(0,(.k (.str [103])))])), .o 36 (.load a8 true 5), .o 37 (.load dr true 5), .o 38 (.cP [(.str []),(.slice .full 0 []),(.slice .full 0 []),(.slice .full 0 []),(.slice .full 0 [])] 5 2 [(0,fz),(1,fX)]), .o 39 (.build [(.slice .full 0 []),(.slice .full 0 [])] [(0,(1,fu)),(1,(1,gx))]), .op none none (.store aQ gm 2)]) .ret
abbrev QCP:AC:= .seq (.run [.o 0 (.alloc [(.slice .full 0 []),(.slice .full 0 [])])]) (.seq QCJ (.seq QCK QCM))
abbrev QCZ:AC:= .seq (.seq (.run [.m 6 bf, .m 7 aQ, .o 8 (.len bF), .o 9 (.bin .lss bG bY), .m 10 cv, .g 11 10 true (.mv a8), .g 12 10 true (.bin .leq bS (.k (.int .i64 20000))), .o 13 (.pick bL b7 (.k (.bool false)))]) (.cond bT .skip (.exit 0))) (.seq (.block 1 (.run [.m 16 aQ, .m 17 bf, .o 18 (.cu b8 cJ 1), .o 19 (.load cD false 1), .m 20 a8, .c 21 fE [cZ,dh], .m 1 dt])) (.run [.m 14 bf, .o 15 (.bin .add bK (.k (.int .i64 1))), .m 5 cq]))
abbrev QD5:AC:= .seq (.seq (.run [.o 5 (.mv (.k (.int .i64 0)))]) (.block 0 (.loop QCZ))) (.seq (.run [.m 22 a8, .m 4 dv]) .ret)
abbrev QD6:AC:= .seq (.run [.o 4 (.mv (.k (.int .i64 0)))]) QD5
abbrev QDB:AC:= .cond bT (.seq (.run [.o 4 (.mv (.k (.int .i64 20001)))]) .ret) .skip
abbrev QDF:AC:= .seq (.seq (.run [.m 5 a8, .o 6 (.bin .gtr bf (.k (.int .i64 20000))), .m 7 bG, .g 8 7 false (.mv aQ), .g 9 7 false (.ko bY), .g 10 7 false (.mv a8), .g 11 7 false (.bin .sub (.k (.int .i64 20000)) bL), .g 12 7 false (.bin .geq cv bS), .o 13 (.pick bF (.k (.bool true)) b7)]) QDB) (.seq (.run [.m 14 a8, .o 15 (.bin .add bK (.k (.int .i64 1))), .m 16 aQ, .o 17 (.ko b8), .o 18 (.bin .add cq cJ), .m 4 cD]) .ret)
abbrev QDG:AC:= .seq (.run [.o 4 (.mv (.k (.int .i64 0)))]) QDF
abbrev QDN:AC:= .par [.o 22 (.av bG 4), .o 23 (.load dv false 1), .o 24 (.av bG 3), .o 25 (.load de false 1), .o 26 (.av bG 2), .o 27 (.load eh false 1), .o 28 (.av bG 5), .o 29 (.load eJ true 4), .m 30 a8, .c 31 iJ [eK,fi], .c 32 ik [dR,fb], .c 33 fE [c7,fj], .c 34 fE [dB,ff], .m 1 fx] [(6,0),(7,0),(8,0),(9,0),(4,0),(5,1),(10,0),(2,0),(3,2),(11,0),(0,0),(1,3),(12,0),(13,0)]
abbrev QDS:AC:= .par [.o 46 (.av bG 10), .o 47 (.load jE false 1), .m 48 bF, .o 49 (.cu j9 jb 6), .o 50 (.av jq 1), .o 51 (.load kX false 1), .o 52 (.av bG 10), .o 53 (.load kr false 1), .m 54 bF, .o 55 (.cu ku kY 6), .o 56 (.av lF 2), .o 57 (.load mI true 4), .m 58 a8, .c 59 iJ [nu,mJ], .c 60 fE [kb,kZ], .m 1 oE] [(6,0),(7,0),(8,0),(9,0),(10,0),(11,0),(12,0),(13,0),(0,0),(1,1),(2,0),(3,0),(4,0),(5,1),(14,0),(15,0)]
abbrev QDW:AC:= .seq (.seq (.run [.m 35 bF, .o 36 (.av bG 10), .o 37 (.load fz false 1), .o 38 (.len fX), .o 39 (.bin .lss fu gx), .m 40 gm, .g 41 40 true (.mv a8), .g 42 40 true (.bin .leq gK (.k (.int .i64 20000))), .o 43 (.pick gT iA (.k (.bool false)))]) (.cond iL .skip (.exit 2))) (.seq (.block 3 QDS) (.run [.m 44 bF, .o 45 (.bin .add jo (.k (.int .i64 1))), .m 7 jD]))
abbrev QE0:AC:= .par [.o 61 (.av bG 12), .o 62 (.load p8 false 1), .o 63 (.av bG 11), .o 64 (.load qa false 1), .m 65 a8, .c 66 jv [rj,uD], .c 67 jv [p9,vW], .m 1 uE] [(2,0),(3,0),(4,0),(5,0),(0,0),(1,1),(6,0),(7,0)]
abbrev QE1:AC:= .seq (.seq (.run [.o 7 (.mv (.k (.int .i64 0)))]) (.block 2 (.loop QDW))) QE0
abbrev QE6:AC:= .seq (.block 1 (.seq (.run [.m 18 aQ, .m 19 bf, .o 20 (.cu cD cZ 13), .o 21 (.load dh true 13), .o 6 (.alloc [(.int .i64 0),(.int .i64 0),(.slice .full 0 []),(.str []),(.str []),(.int .i64 0),(.int .i64 0),(.str []),(.slice .full 0 []),(.bool false),(.slice .full 0 []),(.slice .full 0 []),(.slice .full 0 [])]), .op none none (.store bG dt 13)]) (.seq QDN QE1))) (.run [.m 16 bf, .o 17 (.bin .add b8 (.k (.int .i64 1))), .m 5 cJ])
abbrev QE7:AC:= .seq (.seq (.run [.m 8 bf, .m 9 aQ, .o 10 (.len cv), .o 11 (.bin .lss bY bL), .m 12 bS, .g 13 12 true (.mv a8), .g 14 12 true (.bin .leq bT (.k (.int .i64 20000))), .o 15 (.pick b7 bK (.k (.bool false)))]) (.cond cq .skip (.exit 0))) QE6
abbrev QED:AC:= .seq (.seq (.run [.o 5 (.mv (.k (.int .i64 0)))]) (.block 0 (.loop QE7))) (.seq (.run [.m 68 a8, .m 4 uF]) .ret)
abbrev QEE:AC:= .seq (.run [.o 4 (.mv (.k (.int .i64 0)))]) QED
abbrev QEN:AC:= .cond bT (.seq (.run [.o 2 (.mv (.k (.bool false)))]) .ret) .skip
abbrev QES:AC:= .seq (.block 1 (.seq (.run [.o 9 (.cu bf bF 1), .o 10 (.load cv false 1), .m 4 bL]) (.seq (.run [.m 11 cQ, .c 12 l6 [bS], .o 13 (.un .not b7)]) QEN))) (.run [.o 14 (.bin .add bF (.k (.int .i64 1))), .m 7 bK])
abbrev QEW:AC:= .block 0 (.loop (.seq (.run [.o 8 (.bin .lss bF bG)]) (.seq (.cond bY .skip (.exit 0)) QES)))
abbrev QF0:AC:= .seq (.seq (.run [.m 5 aQ, .o 6 (.len bf), .o 7 (.mv (.k (.int .i64 0)))]) QEW) (.seq (.run [.o 2 (.mv (.k (.bool true)))]) .ret)
abbrev QF1:AC:= .seq (.run [.o 2 (.mv (.k (.bool false)))]) QF0
abbrev QF6:AC:= .cond cq (.seq (.run [.o 6 (.mv (.k (.bool false)))]) .ret) .skip
abbrev QFD:AC:= .par [.m 29 aQ, .o 30 (.c6 eK), .o 31 (.av fi 0), .o 32 (.load fb false 1), .o 33 (.bin .gtr fj (.k (.int .i64 200))), .m 34 ff, .g 35 34 false (.av bY 0), .g 36 34 false (.load fu false 1), .g 37 34 false (.mv aQ), .g 38 34 false (.c6 fX), .g 39 34 false (.av gx 0), .g 40 34 false (.load gm false 1), .g 41 34 false (.bin .neq fz gT), .o 42 (.pick fx (.k (.bool true)) gK), .m 43 iA, .g 44 43 false (.av bY 2), .g 45 43 false (.load jo false 1), .d 46 43 false lB [jD], .g 47 43 false (.un .not jE), .o 48 (.pick iL (.k (.bool true)) j9), .m 49 jb, .g 50 49 false (.load bY true 13), .d 51 49 false rb [kX], .g 52 49 false (.un .not kb), .o 53 (.pick jq (.k (.bool true)) kr)] [(0,0),(1,0),(2,0),(3,0),(4,0),(5,0),(6,0),(7,0),(8,0),(9,0),(10,0),(11,0),(12,0),(13,0),(14,0),(15,0),(16,0),(17,0),(18,0),(19,0),(20,0),(21,0),(22,0),(23,0),(24,0)]
abbrev QFG:AC:= .cond ku (.seq (.run [.o 6 (.mv (.k (.bool false)))]) .ret) .skip
abbrev QFL:AC:= .cond xK (.seq (.run [.o 6 (.mv (.k (.bool false)))]) .ret) .skip
abbrev QFN:AC:= .seq (.seq QFD QFG) (.seq (.run [.m 54 aQ, .o 55 (.av bY 11), .o 56 (.load lF false 1), .m 57 dr, .o 58 (.bin .add nu (.k (.int .i64 1))), .c 59 iY [kY,mI,mJ], .o 60 (.un .not kZ), .m 61 oE, .g 62 61 false (.mv aQ), .g 63 61 false (.av bY 12), .g 64 61 false (.load qa false 1), .g 65 61 false (.mv dr), .g 66 61 false (.bin .add uD (.k (.int .i64 1))), .d 67 61 false iY [p9,rj,vW], .g 68 61 false (.un .not uE), .o 69 (.pick p8 (.k (.bool true)) uF)]) QFL)
abbrev QFP:AC:= .seq (.run [.o 20 (.cu b8 cD 13), .o 21 (.load dh true 13), .o 8 (.alloc [(.int .i64 0),(.int .i64 0),(.slice .full 0 []),(.str []),(.str []),(.int .i64 0),(.int .i64 0),(.str []),(.slice .full 0 []),(.bool false),(.slice .full 0 []),(.slice .full 0 []),(.slice .full 0 [])]), .op none none (.store bY dt 13)]) (.seq (.run [.m 22 aQ, .o 23 (.c6 dv), .o 24 (.av dB 0), .o 25 (.load de false 1), .o 26 (.bin .add c7 (.k (.int .i64 1))), .o 27 (.c6 dv), .o 28 (.av dR 0), .op none none (.store eJ eh 1)]) QFN)
abbrev QFT:AC:= .seq (.cond cZ .skip (.exit 0)) (.seq (.block 1 QFP) (.run [.o 70 (.bin .add cD (.k (.int .i64 1))), .m 18 vX]))
abbrev QFX:AC:= .seq (.run [.m 16 a8, .o 17 (.len b8), .o 18 (.mv (.k (.int .i64 0)))]) (.block 0 (.loop (.seq (.run [.o 19 (.bin .lss cD cJ)]) QFT)))
abbrev QG0:AC:= .seq QFX (.seq (.run [.o 6 (.mv (.k (.bool true)))]) .ret)
abbrev QG1:AC:= .seq (.seq (.run [.m 9 dr, .o 10 (.bin .gtr cv (.k (.int .i64 12))), .m 11 bL, .g 12 11 true (.mv a8), .g 13 11 true (.len b7), .g 14 11 true (.bin .gtr bT (.k (.int .i64 0))), .o 15 (.pick bS bK (.k (.bool false)))]) QF6) QG0
abbrev QG2:AC:= .seq (.run [.o 6 (.mv (.k (.bool false)))]) QG1
abbrev QGE:AC:= .block 1 (.seq (.run [.m 10 bY, .m 5 bL]) (.seq (.run [.m 11 a8, .m 12 aQ, .m 13 bf, .o 14 (.cu b7 bT 1), .o 15 (.load bK false 1), .o 16 (.bin .eql bS cq)]) (.cond b8 (.seq (.run [.m 17 bf, .m 4 cJ]) .ret) .skip)))
abbrev QGH:AC:= .seq (.cond cv .skip (.exit 0)) (.seq QGE (.run [.o 18 (.bin .add bY (.k (.int .i64 1))), .m 8 cD]))
abbrev QGL:AC:= .seq (.run [.m 6 aQ, .o 7 (.len bG), .o 8 (.mv (.k (.int .i64 0)))]) (.block 0 (.loop (.seq (.run [.o 9 (.bin .lss bY bF)]) QGH)))
abbrev QGN:AC:= .seq (.run [(.o 4 (.mv (.k (.int .i64 (-1)))))]) .ret
abbrev QGP:AC:= .seq (.run [.o 4 (.mv (.k (.int .i64 0)))]) (.seq QGL QGN)
abbrev QGY:AC:= .cond b8 (.seq (.run [.o 2 (.mv (.k (.bool true)))]) .ret) .skip
abbrev QH1:AC:= .block 1 (.seq (.run [.m 9 bF, .o 10 (.cu bf bF 1), .o 11 (.load bL false 1), .m 3 cv, .m 4 bS]) (.seq (.run [.m 12 aQ, .m 13 bE, .o 14 (.Ec 1 b7 none (some bT)), .m 15 cQ, .c 16 bQ [bK,cq]]) QGY))
abbrev QH4:AC:= .seq (.cond bY .skip (.exit 0)) (.seq QH1 (.run [.o 17 (.bin .add bF (.k (.int .i64 1))), .m 7 cJ]))
abbrev QH8:AC:= .seq (.run [.m 5 aQ, .o 6 (.len bf), .o 7 (.mv (.k (.int .i64 0)))]) (.block 0 (.loop (.seq (.run [.o 8 (.bin .lss bF bG)]) QH4)))
abbrev QHB:AC:= .seq QH8 (.seq (.run [.o 2 (.mv (.k (.bool false)))]) .ret)
abbrev QHC:AC:= .seq (.run [.o 2 (.mv (.k (.bool false)))]) QHB
abbrev QHJ:AC:= .par [.m 17 bE, .m 18 bE, .o 19 (.c6 cD), .o 20 (.av cZ 3), .o 21 (.load dh false 1), .m 22 bE, .o 23 (.c6 dv), .o 24 (.av dB 2), .o 25 (.load de false 1), .o 26 (.len c7), .o 27 (.bin .add eh (.k (.int .i64 1))), .o 28 (.cP [(.int .i64 0)] 1 1 [(0,dR)]), .o 29 (.app 1 8 dt eJ), .o 30 (.c6 cJ), .o 31 (.av fi 3), .op none none (.store fb eK 1)] [(1,0),(2,0),(3,0),(4,0),(5,0),(6,0),(7,0),(8,0),(9,0),(10,0),(11,0),(12,0),(0,0),(13,0),(14,0),(15,0)]
abbrev QHL:AC:= .par [.m 38 bE, .m 39 bE, .o 40 (.c6 gm), .o 41 (.av gT 4), .o 42 (.load gK false 1), .m 43 bE, .o 44 (.c6 iL), .o 45 (.av jo 2), .o 46 (.load jD false 1), .o 47 (.len jE), .o 48 (.bin .add j9 (.k (.int .i64 1))), .o 49 (.cP [(.int .i64 0)] 1 1 [(0,jb)]), .o 50 (.app 1 8 iA jq), .o 51 (.c6 gx), .o 52 (.av kb 4), .op none none (.store kr kX 1)] [(1,0),(2,0),(3,0),(4,0),(5,0),(6,0),(7,0),(8,0),(9,0),(10,0),(11,0),(12,0),(0,0),(13,0),(14,0),(15,0)]
abbrev QHM:AC:= .seq (.run [.m 32 bE, .o 33 (.av bf 3), .o 34 (.load ff false 1), .m 35 cQ,(.o 36 (.build [(.int .i64 0),(.int .i64 0),(.slice .full 0 []),(.str []),(.str []),(.int .i64 0),(.int .i64 0),(.str []),(.slice .full 0 []),(.bool false),(.slice .full 0 []),(.slice .full 0 []),(.slice .full 0 []),(.int .i64 0),(.int .i64 0),(.int .i64 0),(.int .i64 0)] [(13,(1,fu)),(15,(1,(.k (.int .i64 (-1)))))])), .c 37 iK [fj,fx,fz]]) QHL
abbrev QHR:AC:= .seq (.block 1 (.seq (.run [.m 14 b7, .o 15 (.cu bL b7 5), .o 16 (.load cq true 5), .o 5 (.alloc [(.str []),(.slice .full 0 []),(.slice .full 0 []),(.slice .full 0 []),(.slice .full 0 [])]), .m 4 bK, .op none none (.store bf b8 5)]) (.seq QHJ QHM))) (.run [.o 53 (.bin .add b7 (.k (.int .i64 1))), .m 12 ku])
abbrev QHV:AC:= .block 0 (.loop (.seq (.run [.o 13 (.bin .lss b7 bS)]) (.seq (.cond bT .skip (.exit 0)) QHR)))
abbrev QHZ:AC:= .seq (.seq (.run [.o 9 (.av a8 1), .o 10 (.load cv false 1), .o 11 (.len bL), .o 12 (.mv (.k (.int .i64 0)))]) QHV) (.seq (.run [.m 54 bE, .m 2 kY]) .ret)
abbrev QI1:AC:= .seq (.run [.o 1 (.box aQ), .o 2 (.mv (.k .eQ))]) (.seq (.run [.o 6 (.load a8 true 2), .o 7 (.build [(.slice .full 0 []),(.slice .full 0 []),(.slice .full 0 []),(.slice .full 0 []),(.slice .full 0 [])] [(0,(2,bG))]), .o 8 (.box bF), .m 3 bY]) QHZ)
abbrev QIC:AC:= .seq (.block 1 (.seq (.run [.o 11 (.cu bF cv 2), .o 12 (.load bS true 2), .o 5 (.alloc [(.str []),(.bool false)]), .op none none (.store bf b7 2)]) (.run [.m 13 bE, .o 14 (.av bf 0), .o 15 (.load bK false 1), .o 16 (.cP [(.str [])] 1 1 [(0,cq)]), .o 17 (.app 1 16 bT b8), .m 3 cJ]))) (.run [.o 18 (.bin .add cv (.k (.int .i64 1))), .m 9 cD])
abbrev QIG:AC:= .block 0 (.loop (.seq (.run [.o 10 (.bin .lss cv bY)]) (.seq (.cond bL .skip (.exit 0)) QIC)))
abbrev QIK:AC:= .seq (.seq (.run [.o 6 (.av a8 1), .o 7 (.load bG false 1), .o 8 (.len bF), .o 9 (.mv (.k (.int .i64 0)))]) QIG) (.seq (.run [.m 19 bE, .o 20 (.av a8 2), .o 21 (.load dh false 1), .o 22 (.app 1 16 cZ dt), .m 2 dv]) .ret)
abbrev QIM:AC:= .seq (.run [.o 1 (.box aQ), .o 2 (.mv (.k (.slice .full 0 [])))]) (.seq (.run [.o 3 (.mv (.k (.slice .full 0 [])))]) QIK)
abbrev QIQ:AC:= .seq (.run [.o 4 (.mv (.k (.bool false)))]) (.seq (.run [.m 5 aQ, .m 6 a8, .c 7 jC [bf,bG], .o 8 (.bin .geq bF (.k (.int .i64 0))), .m 4 bY]) .ret)
abbrev QIU:AC:= .seq (.run [.o 3 (.mv (.k (.bool false)))]) (.seq (.run [.o 4 (.av a8 0), .o 5 (.load cQ false 1), .m 6 aQ, .c 7 bQ [bf,bG], .m 3 bF]) .ret)
abbrev QIY:AC:= .seq (.run [.o 4 (.mv (.k (.bool false)))]) (.seq (.run [.m 5 aQ, .m 6 a8, .c 7 gW [bf,bG], .o 8 (.bin .geq bF (.k (.int .i64 0))), .m 4 bY]) .ret)
abbrev QJ0:AC:= .par [.m 5 aQ, .o 6 (.c6 bf), .o 7 (.av bG 2), .o 8 (.load bF false 1), .m 9 aQ, .o 10 (.c6 cv), .o 11 (.av bL 3), .o 12 (.load bS false 1), .m 13 a8, .o 14 (.cu b7 bT 1), .o 15 (.load bK false 1), .o 16 (.bin .sub cq (.k (.int .i64 1))), .m 17 aQ, .o 18 (.c6 cJ), .o 19 (.av cD 4), .o 20 (.load cZ false 1), .m 21 a8, .o 22 (.cu dh dt 1), .o 23 (.load dv false 1), .o 24 (.bin .sub dB (.k (.int .i64 1))), .o 25 (.Ec 17 bY (some b8) (some de)), .m 4 c7] [(0,0),(1,0),(2,0),(3,0),(4,0),(5,0),(6,0),(7,0),(8,0),(9,0),(10,0),(11,0),(12,0),(13,0),(14,0),(15,0),(16,0),(17,0),(18,0),(19,0),(20,0),(21,0)]
abbrev QJ2:AC:= .seq (.run [.o 4 (.mv (.k (.slice .full 0 [])))]) (.seq QJ0 .ret)
abbrev QJB:AC:= .cond dv (.seq (.run [.o 8 (.mv (.k (.bool false)))]) .ret) .skip
abbrev QJD:AC:= .seq (.run [.o 16 (.cu b7 bK 1), .o 17 (.load b8 false 1), .m 10 cJ]) (.seq (.run [.o 18 (.load cQ true 2), .o 19 (.load bf true 5), .m 20 bL, .c 21 sD [cD,cZ,dh], .o 22 (.bin .eql dt (.k (.int .i64 0)))]) QJB)
abbrev QJH:AC:= .seq (.cond cq .skip (.exit 0)) (.seq (.block 1 QJD) (.run [.o 23 (.bin .add bK (.k (.int .i64 1))), .m 14 dB]))
abbrev QJL:AC:= .seq (.run [.o 11 (.load bF true 13), .c 12 pd [bS], .o 13 (.len b7), .o 14 (.mv (.k (.int .i64 0)))]) (.block 0 (.loop (.seq (.run [.o 15 (.bin .lss bK bT)]) QJH)))
abbrev QJO:AC:= .seq QJL (.seq (.run [.o 24 (.av bF 1), .o 25 (.load de false 1), .o 26 (.bin .neq c7 (.k (.int .i64 4))), .m 27 eh, .g 28 27 false (.av bF 4), .g 29 27 false (.load eJ false 1), .g 30 27 false (.bin .neq eK (.k (.str [109,97,105,110]))), .g 31 27 false (.mv fi), .g 32 31 true (.mv dr), .g 33 31 true (.av bF 4), .g 34 31 true (.load ff false 1), .d 35 31 true bQ [fj,fx], .g 36 27 false (.pick fb fu (.k (.bool false))), .o 37 (.pick dR (.k (.bool true)) fz), .m 8 fX]) .ret)
abbrev QJP:AC:= .seq (.run [.o 4 (.box aQ), .o 5 (.box a8), .o 7 (.box bE), .o 8 (.mv (.k (.bool false)))]) QJO
abbrev QJU:AC:= .cond cv (.seq (.run [.o 4 (.mv (.k (.bool false)))]) .ret) .skip
abbrev QK5:AC:= .seq (.run [.o 15 (.cu bS bT 5), .o 16 (.load cq true 5), .o 6 (.alloc [(.str []),(.slice .full 0 []),(.slice .full 0 []),(.slice .full 0 []),(.slice .full 0 [])]), .op none none (.store bG b8 5)]) (.seq (.run [.o 17 (.av bG 0), .o 18 (.load cJ false 1), .o 19 (.av bE 4), .o 20 (.load cZ false 1), .o 21 (.bin .eql cD dh)]) (.cond dt (.seq (.run [.o 22 (.av bG 1), .o 23 (.load dv false 1), .o 24 (.av bE 10), .o 25 (.load de false 1), .c 26 sE [dB,c7], .m 4 eh]) .ret) .skip))
abbrev QK9:AC:= .seq (.cond bK .skip (.exit 0)) (.seq (.block 1 QK5) (.run [.o 27 (.bin .add bT (.k (.int .i64 1))), .m 13 dR]))
abbrev QKD:AC:= .seq (.run [.o 10 (.av dr 1), .o 11 (.load bL false 1), .o 12 (.len bS), .o 13 (.mv (.k (.int .i64 0)))]) (.block 0 (.loop (.seq (.run [.o 14 (.bin .lss bT b7)]) QK9)))
abbrev QKG:AC:= .seq QKD (.seq (.run [.o 4 (.mv (.k (.bool false)))]) .ret)
abbrev QKH:AC:= .seq (.seq (.run [.o 7 (.av bE 1), .o 8 (.load bF false 1), .o 9 (.bin .neq bY (.k (.int .i64 4)))]) QJU) QKG
abbrev QKI:AC:= .seq (.run [.o 2 (.box aQ), .o 3 (.box a8), .o 4 (.mv (.k (.bool false)))]) QKH
abbrev QKO:AC:= .seq (.run [.o 3 (.load a8 true 2), .c 4 iy [bE], .o 5 (.oH cQ 0 false 1), .o 6 (.bin .neq bf (.k (.int .i64 0)))]) (.cond bG (.seq (.run [.o 2 (.mv (.k .eQ))]) .ret) .skip)
abbrev QKS:AC:= .seq (.run [.o 1 (.box aQ), .o 2 (.mv (.k .eQ))]) (.seq QKO (.seq (.run [.o 7 (.load a8 true 2), .c 8 kJ [bF], .m 2 bY]) .ret))
abbrev QL1:AC:= .cond b8 (.seq (.run [.m 17 aQ, .m 4 cJ, .o 5 (.mv (.k (.bool false)))]) .ret) .skip
abbrev QL6:AC:= .block 1 (.seq (.run [.o 12 (.cu bY bL 1), .o 13 (.load b7 false 1), .m 7 bT]) (.seq (.seq (.run [.m 14 aQ, .m 15 bF, .c 16 bQ [bK,cq]]) QL1) (.run [.m 18 aQ, .m 19 bF, .o 20 (.cP [(.str [])] 1 1 [(0,cZ)]), .o 21 (.app 1 16 cD dh), .m 0 dt])))
abbrev QL9:AC:= .seq (.cond bS .skip (.exit 0)) (.seq QL6 (.run [.o 22 (.bin .add bL (.k (.int .i64 1))), .m 10 dv]))
abbrev QLD:AC:= .seq (.run [.m 8 a8, .o 9 (.len bY), .o 10 (.mv (.k (.int .i64 0)))]) (.block 0 (.loop (.seq (.run [.o 11 (.bin .lss bL cv)]) QL9)))
abbrev QLG:AC:= .seq QLD (.seq (.run [.m 23 aQ, .m 4 dB, .o 5 (.mv (.k (.bool true)))]) .ret)
abbrev QLH:AC:= .seq (.run [.o 4 (.mv (.k (.slice .full 0 []))), .o 5 (.mv (.k (.bool false)))]) QLG
abbrev QLN:AC:= .seq (.run [.o 11 (.bin .eql cv (.k (.int .i64 7))), .m 10 bS]) (.cond bL .skip (.run [.o 12 (.bin .eql cv (.k (.int .i64 8))), .m 10 b7]))
abbrev QLX:AC:= .cond bL (.seq (.run [.o 13 (.av bE 16), .o 14 (.load bT false 1), .o 15 (.bin .neq bK (.k (.int .i64 0))), .m 4 cq]) .ret) (.seq (.run [.o 17 (.bin .eql cv (.k (.int .i64 10))), .m 16 cJ]) (.cond b8 (.seq (.run [.m 19 aQ, .o 20 (.av bE 13), .o 21 (.load dh false 1), .o 22 (.av bE 0), .o 23 (.av dv 3), .o 24 (.load dB false 1), .c 25 pe [cZ,dt,de], .m 18 c7, .o 26 (.ext cD 0), .o 27 (.ext cD 1), .m 5 eh, .m 6 dR]) (.seq (.run [.m 28 bG, .m 4 eJ]) .ret)) .skip))
abbrev QM3:AC:= .seq (.seq (.run [.o 7 (.av bE 0), .o 8 (.av bF 1), .o 9 (.load bY false 1)]) (.block 0 (.seq QLN QLX))) (.seq (.run [.o 4 (.mv (.k (.bool true)))]) .ret)
abbrev QM4:AC:= .seq (.run [.o 3 (.box a8), .o 4 (.mv (.k (.bool false)))]) QM3
abbrev QM9:AC:= .cond b8 (.seq (.run [.o 4 (.mv (.k (.slice .full 0 [])))]) .ret) .skip
abbrev QMT:AC:= .seq (.run [.o 43 (.cu gm gK 1), .o 44 (.load iL false 1), .m 12 jo]) (.seq (.run [.o 45 (.av dr 0), .o 46 (.load jD false 1), .m 47 b7, .c 48 bQ [jE,j9]]) (.cond jb (.run [.m 49 bG, .m 50 b7, .o 51 (.cP [(.str [])] 1 1 [(0,kX)]), .o 52 (.app 1 16 jq kb), .m 6 kr]) .skip))
abbrev QMX:AC:= .seq (.cond iA .skip (.exit 4)) (.seq (.block 5 QMT) (.run [.o 53 (.bin .add gK (.k (.int .i64 1))), .m 41 ku]))
abbrev QN1:AC:= .seq (.run [.o 37 (.av bL 0), .o 38 (.load fX true 13), .c 39 pd [gx], .o 40 (.len gm), .o 41 (.mv (.k (.int .i64 0)))]) (.block 4 (.loop (.seq (.run [.o 42 (.bin .lss gK gT)]) QMX)))
abbrev QN5:AC:= .seq (.block 3 (.seq (.run [.o 35 (.cu fb ff 17), .o 36 (.load fu true 17), .o 10 (.alloc [(.int .i64 0),(.int .i64 0),(.slice .full 0 []),(.str []),(.str []),(.int .i64 0),(.int .i64 0),(.str []),(.slice .full 0 []),(.bool false),(.slice .full 0 []),(.slice .full 0 []),(.slice .full 0 []),(.int .i64 0),(.int .i64 0),(.int .i64 0),(.int .i64 0)]), .op none none (.store bL fz 17)]) QN1)) (.run [.o 54 (.bin .add ff (.k (.int .i64 1))), .m 33 kY])
abbrev QN9:AC:= .block 2 (.loop (.seq (.run [.o 34 (.bin .lss ff fj)]) (.seq (.cond fx .skip (.exit 2)) QN5)))
abbrev QNB:AC:= .seq (.run [.o 25 (.cu dt dB 1), .o 26 (.load c7 false 1), .m 8 eh]) (.seq (.run [.m 27 bf, .m 28 bf, .m 29 bY, .c 30 lk [eJ,eK], .c 31 fT [dR,fi], .o 32 (.len fb), .o 33 (.mv (.k (.int .i64 0)))]) QN9)
abbrev QNF:AC:= .seq (.cond de .skip (.exit 0)) (.seq (.block 1 QNB) (.run [.o 55 (.bin .add dB (.k (.int .i64 1))), .m 23 lF]))
abbrev QNJ:AC:= .seq (.run [.m 19 bf, .m 20 a8, .c 21 uz [cZ,dh], .o 22 (.len dt), .o 23 (.mv (.k (.int .i64 0)))]) (.block 0 (.loop (.seq (.run [.o 24 (.bin .lss dB dv)]) QNF)))
abbrev QNQ:AC:= .seq (.run [.o 17 (.load dr true 2), .c 18 kJ [cJ], .m 5 cD]) (.seq (.run [.o 6 (.mv (.k (.slice .full 0 [])))]) (.seq QNJ (.seq (.run [.m 56 bG, .c 57 hO [mI]]) (.seq (.run [.m 58 bG, .c 59 iB [mJ], .m 4 kZ]) .ret))))
abbrev QNS:AC:= .seq (.run [.o 2 (.box aQ), .o 4 (.mv (.k (.slice .full 0 [])))]) (.seq (.seq (.run [.o 13 (.load dr true 2), .m 14 a8, .c 15 rf [bT,bK], .o 16 (.un .not cq)]) QM9) QNQ)
abbrev QO5:AC:= .cond fx (.seq (.run [.o 4 (.mv (.k (.bool false)))]) .ret) .skip
abbrev QO8:AC:= .seq (.seq (.run [.m 18 bf, .o 19 (.av bF 1), .o 20 (.load cZ false 1), .c 21 bQ [cD,dh], .m 22 dt, .g 23 22 false (.av bF 1), .g 24 22 false (.load dB false 1), .g 25 22 false (.av dr 3), .g 26 22 false (.load c7 false 1), .g 27 22 false (.bin .eql de eh), .o 28 (.pick dv (.k (.bool true)) dR), .m 29 eJ, .g 30 29 false (.mv a8), .g 31 29 false (.av bF 1), .g 32 29 false (.load fb false 1), .d 33 29 false bQ [fi,fj], .o 34 (.pick eK (.k (.bool true)) ff)]) QO5) (.run [.m 35 bf, .o 36 (.av bF 1), .o 37 (.load fz false 1), .o 38 (.cP [(.str [])] 1 1 [(0,fX)]), .o 39 (.app 1 16 fu gx), .m 5 gm])
abbrev QOB:AC:= .block 1 (.seq (.run [.o 13 (.cu cv bS 6), .o 14 (.load bT true 6), .o 7 (.alloc [(.bool false),(.str []),(.int .i64 0),(.int .i64 0),(.str []),(.slice .full 0 [])]), .op none none (.store bF bK 6)]) (.seq (.seq (.run [.o 15 (.av bF 0), .o 16 (.load cq false 1), .o 17 (.un .not b8)]) (.cond cJ (.exit 1) .skip)) QO8))
abbrev QOE:AC:= .seq (.cond b7 .skip (.exit 0)) (.seq QOB (.run [.o 40 (.bin .add bS (.k (.int .i64 1))), .m 11 gT]))
abbrev QOI:AC:= .seq (.run [.o 8 (.av dr 10), .o 9 (.load bY false 1), .o 10 (.len cv), .o 11 (.mv (.k (.int .i64 0)))]) (.block 0 (.loop (.seq (.run [.o 12 (.bin .lss bS bL)]) QOE)))
abbrev QOL:AC:= .seq QOI (.seq (.run [.o 4 (.mv (.k (.bool true)))]) .ret)
abbrev QON:AC:= .seq (.run [.o 2 (.box aQ), .o 4 (.mv (.k (.bool false)))]) (.seq (.run [.o 5 (.mv (.k (.slice .full 0 [])))]) QOL)
abbrev QOU:AC:= .seq (.run [(.o 13 (.build [(.int .i64 0),(.int .i64 0)] [(0,(1,(.k (.int .i64 4))))])), .o 2 (.mv (.k (.slice .full 0 []))), .op none none (.store bE bT 2)]) .ret
abbrev QP0:AC:= .cond cJ (.seq (.run [.m 18 cQ, .m 19 aQ, .o 20 (.ko cZ), .o 21 (.build [(.int .i64 0),(.str []),(.int .i64 0),(.int .i64 0)] [(3,(1,dh))]), .o 22 (.cP [(.int .i64 0),(.str []),(.int .i64 0),(.int .i64 0)] 4 1 [(0,dt)]), .o 23 (.app 4 40 cD dv), .o 24 (.build [(.int .i64 0),(.int .i64 0)] []), .m 2 dB, .op none none (.store bE de 2)]) .ret) .skip
abbrev QPE:AC:= .cond j9 (.goto 1) (.seq (.run [.m 51 cv, .c 52 nq [kb], .m 50 kr]) (.cond kX (.goto 2) (.seq (.run [.m 54 cv, .c 55 od [kY], .m 53 lF]) (.cond ku (.goto 3) .skip))))
abbrev QPG:AC:= .cond fi (.seq (.run [.m 45 bG, .o 46 (.bin .add jD (.k (.int .i64 1))), .m 6 jE]) (.goto 0)) (.seq (.run [.m 48 cv, .o 49 (.bin .eql jb (.k (.int .u8 35))), .m 47 jq]) QPE)
abbrev QPI:AC:= .block 0 (.seq (.run [.m 31 cv, .o 32 (.bin .eql fb (.k (.int .u8 32))), .m 33 fj, .g 34 33 false (.mv cv), .g 35 33 false (.bin .eql fx (.k (.int .u8 9))), .o 36 (.pick ff (.k (.bool true)) fu), .m 37 fz, .g 38 37 false (.mv cv), .g 39 37 false (.bin .eql gx (.k (.int .u8 10))), .o 40 (.pick fX (.k (.bool true)) gm), .m 41 gT, .g 42 41 false (.mv cv), .g 43 41 false (.bin .eql iA (.k (.int .u8 13))), .o 44 (.pick gK (.k (.bool true)) iL), .m 30 jo]) QPG)
abbrev QPW:AC:= .seq (.seq (.run [.m 72 bG, .m 73 aQ, .o 74 (.ko BR), .o 75 (.bin .lss zB BS), .m 76 BT, .g 77 76 true (.mv aQ), .g 78 76 true (.mv bG), .g 79 76 true (.na BU zD), .g 80 76 true (.bin .neq JK (.k (.int .u8 10))), .o 81 (.pick zC JL (.k (.bool false)))]) (.cond JM .skip (.exit 1))) (.block 2 (.run [.m 82 bG, .o 83 (.bin .add JN (.k (.int .i64 1))), .m 6 JO]))
abbrev QQ0:AC:= .par [.m 87 aQ, .o 88 (.av bf 3), .o 89 (.load JT false 1), .m 90 bG, .o 91 (.vG JS (some JU) (some JV)), .o 92 (.av bf 0), .op none none (.store JX (.k (.int .i64 1)) 1), .o 93 (.av bf 1), .op none none (.store Pr JW 1)] [(1,0),(2,0),(5,0),(6,0),(0,0),(3,0),(4,0),(7,0),(8,0)]
abbrev QQ4:AC:= .seq (.run [.o 94 (.av bf 1), .o 95 (.load Ps false 1), .c 96 rN [Pu]]) (.cond Ww (.run [.o 97 (.av bf 0), .op none none (.store Wx (.k (.int .i64 3)) 1)]) .skip)
abbrev WA:AC:= .seq (.seq (.run [.m 103 bG, .m 104 aQ, .o 105 (.ko Rz), .o 106 (.bin .lss Ry RA), .m 107 RB, .g 108 107 true (.mv aQ), .g 109 107 true (.mv bG), .g 110 107 true (.na RE RF), .d 111 107 true od [RG], .o 112 (.pick RC RH (.k (.bool false)))]) (.cond RI .skip (.exit 3))) (.block 4 (.run [.m 113 bG, .o 114 (.bin .add RJ (.k (.int .i64 1))), .m 6 RK]))
abbrev QQH:AC:= .par [.m 115 aQ, .o 116 (.av bf 3), .o 117 (.load RM false 1), .m 118 bG, .o 119 (.vG RL (some RN) (some RO)), .o 120 (.av bf 0), .op none none (.store RQ (.k (.int .i64 2)) 1), .o 121 (.av bf 1), .op none none (.store RR RP 1), .o 7 (.mv (.k (.int .i64 2)))] [(1,0),(2,0),(5,0),(6,0),(0,0),(3,0),(4,0),(7,0),(8,0),(9,0)]
abbrev QQV:AC:= .par [.m 148 bF, .o 149 (.av bf 3), .o 150 (.load Sj false 1), .o 151 (.build [(.int .i64 0),(.int .i64 0)] [(0,(1,Si)),(1,(1,Sk))]), .o 2 (.mv (.k (.slice .full 0 []))), .op none none (.store bE Sl 2)] [(0,0),(1,0),(2,0),(3,0),(4,0),(5,0)]
abbrev QR0:AC:= .seq (.seq (.run [.m 141 cQ, .o 142 (.len Sc), .o 143 (.bin .eql Sd (.k (.int .i64 2000)))]) (.cond JZ (.goto 5) .skip)) (.seq (.run [.m 144 cQ, .o 145 (.load bf true 4), .o 146 (.cP [(.int .i64 0),(.str []),(.int .i64 0),(.int .i64 0)] 4 1 [(0,D0)]), .o 147 (.app 4 40 Se Sf), .m 4 Sg]) (.seq (.goto 0) (.seq (.label 5) (.seq QQV .ret))))
abbrev QR2:AC:= .seq (.label 4) (.seq (.run [.o 7 (.mv (.k (.int .i64 4)))]) QR0)
abbrev QR5:AC:= .seq (.run [.o 133 (.av bf 1), .o 134 (.load R3 false 1), .c 135 sF [R4], .m 132 R5, .o 136 (.ext JY 0), .o 137 (.ext JY 1), .o 138 (.av bf 2), .op none none (.store R8 R6 1), .m 8 R7]) (.seq (.run [.o 7 (.mv (.k (.int .i64 4)))]) (.seq (.seq (.run [.m 139 bY, .o 140 (.un .not R9)]) (.cond Sb (.goto 5) .skip)) QR2))
abbrev QR6:AC:= .seq (.seq (.run [.o 122 (.av bf 1), .o 123 (.load RS false 1), .o 124 (.ko RT), .o 125 (.bin .gtr RU (.k (.int .i64 1))), .m 126 RV, .g 127 126 true (.av bf 1), .g 128 126 true (.load RX false 1), .g 129 126 true (.na RY (.k (.int .i64 0))), .g 130 126 true (.bin .eql RZ (.k (.int .u8 48))), .o 131 (.pick RW R0 (.k (.bool false)))]) (.cond R1 (.goto 5) .skip)) QR5
abbrev WB:AC:= .seq QQH QR6
abbrev QRB:AC:= .seq (.seq (.run [.m 98 bG, .o 99 (.av bf 3), .o 100 (.load Wz false 1), .o 101 (.bin .sub Wy Rv), .o 102 (.bin .gtr Rw (.k (.int .i64 8)))]) (.cond Rx (.goto 5) .skip)) (.seq (.goto 4) (.seq (.label 3) (.seq (.block 3 (.loop WA)) WB)))
abbrev QRD:AC:= .seq QQ4 (.seq (.run [.o 7 (.mv (.k (.int .i64 4)))]) QRB)
abbrev QRJ:AC:= .seq (.label 1) (.seq (.block 1 (.loop QPW)) (.seq (.goto 0) (.seq (.label 2) (.seq (.run [.m 84 aQ, .m 85 bG, .c 86 tz [JP,JQ], .m 6 JR]) (.seq QQ0 QRD)))))
abbrev QRN:AC:= .seq (.run [.m 62 aQ, .o 63 (.av bf 3), .o 64 (.load qa false 1), .m 65 bG, .o 66 (.vG p9 (some rj) (some uD)), .o 67 (.av bf 1), .op none none (.store uE vW 1)]) (.seq (.run [.o 7 (.mv (.k (.int .i64 2)))]) (.seq (.seq (.run [.m 68 bG, .o 69 (.av bf 3), .o 70 (.load xK false 1), .o 71 (.bin .gtr uF vX)]) (.cond BQ (.goto 4) .skip)) (.seq (.goto 5) QRJ)))
abbrev QRQ:AC:= .seq (.seq (.run [.m 27 aQ, .m 28 bG, .o 29 (.na dR eJ), .m 9 eK]) QPI) (.seq (.run [.o 56 (.av bf 0), .op none none (.store mI (.k (.int .i64 4)) 1)]) (.seq (.run [.m 57 bG, .m 58 aQ, .m 59 bG, .c 60 vU [mJ,kZ], .o 61 (.bin .add nu oE), .m 6 p8]) QRN))
abbrev xL:AC:= .seq (.seq (.run [.m 14 bG, .m 15 aQ, .o 16 (.ko cq), .o 17 (.bin .geq bK b8)]) QP0) (.seq (.run [.m 25 bG, .o 26 (.build [(.int .i64 0),(.str []),(.int .i64 0),(.int .i64 0)] [(3,(1,c7))]), .op none none (.store bf eh 4)]) QRQ)
abbrev QRU:AC:= .seq (.seq (.run [.m 10 aQ, .o 11 (.ko bL), .o 12 (.bin .gtr bS (.k (.int .i64 100000)))]) (.cond b7 QOU .skip)) (.seq (.label 0) xL)
abbrev QRW:AC:= .seq (.run [.o 5 (.alloc [(.int .i64 0),(.str []),(.int .i64 0),(.int .i64 0)])]) (.seq (.run [.o 6 (.mv (.k (.int .i64 0))), .o 7 (.mv (.k (.int .i64 0))), .o 8 (.mv (.k (.bool true)))]) QRU)
abbrev sK:AC:= .seq (.run [.o 4 (.mv (.k (.slice .full 0 [])))]) QRW
abbrev QRY:AC:= .scope sK
abbrev QRZ:AC:= .seq (.run [.o 2 (.mv (.k (.slice .full 0 []))), .o 3 (.alloc [(.int .i64 0),(.int .i64 0)])]) QRY
abbrev QS7:AC:= .seq (.seq (.run [.m 4 aQ,(.c 5 dc [cQ,(.k (.str [103,108,111,98,97,108]))])]) (.cond bf .skip (.exit 0))) (.block 1 (.run [.m 6 aQ, .o 7 (.av bE 0), .o 8 (.load bF false 1), .c 9 ib [bG,bY,(.k (.int .i64 16))], .o 10 (.av bE 0), .op none none (.store bL cv 1)]))
abbrev QSJ:AC:= .seq (.run [.o 17 (.av bE 1), .o 18 (.load cJ false 1), .o 19 (.len cD), .o 20 (.bin .eql cZ (.k (.int .i64 16)))]) (.cond dh (.seq (.run [.m 21 aQ, .c 22 eg [dt,(.k (.int .i64 4))]]) (.seq (.run [.o 23 (.load bE true 2), .op none none (.store dr dB 2)]) .ret)) .skip)
abbrev QSL:AC:= .par [.o 31 (.av bE 1), .o 32 (.load fb false 1), .m 33 aQ, .c 34 mF [ff], .o 35 (.cP [(.str []),(.slice .full 0 []),(.slice .full 0 []),(.slice .full 0 []),(.slice .full 0 [])] 5 1 [(0,fx)]), .o 36 (.app 5 112 fj fu), .o 37 (.av bE 1), .op none none (.store fX fz 1)] [(2,0),(3,0),(0,0),(1,1),(4,0),(5,0),(6,0),(7,0)]
abbrev QSN:AC:= .seq QSJ (.seq (.run [.m 24 aQ, .o 25 (.c6 de), .o 26 (.av c7 1), .o 27 (.load eh false 1), .o 28 (.bin .add dR (.k (.int .i64 1))), .o 29 (.c6 de), .o 30 (.av eK 1), .op none none (.store fi eJ 1)]) QSL)
abbrev QSP:AC:= .seq (.seq (.run [.m 11 aQ, .c 12 cm [bS], .m 13 b7, .g 14 13 true (.mv aQ),(.d 15 13 true fc [bK,(.k (.str [112,114,111,99]))]), .o 16 (.pick bT cq (.k (.bool false)))]) (.cond b8 .skip (.exit 2))) (.block 3 QSN)
abbrev QSY:AC:= .seq (.seq (.run [.m 38 aQ, .c 39 cm [gx], .m 40 gm, .g 41 40 true (.mv aQ), .d 42 40 true dd [gK], .g 43 40 true (.oH iA 0 false 1), .g 44 40 true (.bin .neq iL (.k (.int .i64 0))), .o 45 (.pick gT jo (.k (.bool false)))]) (.cond jD (.run [.m 46 aQ, .c 47 eg [jE,(.k (.int .i64 3))]]) .skip)) (.seq (.run [.o 48 (.load bE true 2), .op none none (.store dr jb 2)]) .ret)
abbrev QT2:AC:= .seq (.run [.o 2 (.alloc [(.slice .full 0 []),(.slice .full 0 [])])]) (.seq (.run [.o 3 (.alloc [(.slice .full 0 []),(.slice .full 0 [])])]) (.seq (.block 0 (.loop QS7)) (.seq (.block 2 (.loop QSP)) QSY)))
abbrev QTA:AC:= .par [.o 19 (.av bG 0), .o 20 (.load cZ false 1), .o 21 (.av bG 1), .o 22 (.load dt false 1), .c 23 j8 [dv], .o 24 (.av bG 2), .o 25 (.load de false 1), .c 26 fZ [c7], .o 27 (.av bG 4), .o 28 (.load dR false 1), .c 29 fZ [eJ], .o 30 (.build [(.str []),(.slice .full 0 []),(.slice .full 0 []),(.slice .full 0 []),(.slice .full 0 [])] [(0,(1,dh)),(1,(1,dB)),(2,(1,eh)),(4,(1,eK))]), .o 7 (.alloc [(.str []),(.slice .full 0 []),(.slice .full 0 []),(.slice .full 0 []),(.slice .full 0 [])]), .op none none (.store bF fi 5)] [(2,0),(3,0),(4,0),(5,0),(6,1),(7,0),(8,0),(9,2),(10,0),(12,0),(0,0),(1,4),(11,0),(13,0)]
abbrev QTF:AC:= .seq (.run [.o 17 (.cu bT cq 5), .o 18 (.load cJ true 5), .o 6 (.alloc [(.str []),(.slice .full 0 []),(.slice .full 0 []),(.slice .full 0 []),(.slice .full 0 [])]), .op none none (.store bG cD 5)]) (.seq QTA (.seq (.run [.o 32 (.av bG 3), .o 33 (.load fj false 1), .m 34 bE, .c 35 jn [ff,fx,(.k (.bool true))], .m 31 fu, .o 36 (.ext fb 0), .o 37 (.ext fb 1), .o 38 (.av bF 3), .op none none (.store gx fz 1), .m 3 fX]) (.run [.o 39 (.av cQ 1), .o 40 (.load gm false 1), .o 41 (.load bF true 5), .o 42 (.cP [(.str []),(.slice .full 0 []),(.slice .full 0 []),(.slice .full 0 []),(.slice .full 0 [])] 5 1 [(0,gK)]), .o 43 (.app 5 112 gT iA), .o 44 (.av cQ 1), .op none none (.store jo iL 1)])))
abbrev QTJ:AC:= .seq (.cond b8 .skip (.exit 0)) (.seq (.block 1 QTF) (.run [.o 45 (.bin .add cq (.k (.int .i64 1))), .m 15 jD]))
abbrev QTN:AC:= .seq (.run [.o 12 (.av a8 1), .o 13 (.load b7 false 1), .o 14 (.len bT), .o 15 (.mv (.k (.int .i64 0)))]) (.block 0 (.loop (.seq (.run [.o 16 (.bin .lss cq bK)]) QTJ)))
abbrev QTS:AC:= .seq (.run [.o 3 (.mv (.k (.int .i64 0)))]) (.seq (.run [.o 8 (.av a8 0), .o 9 (.load bY false 1), .c 10 fZ [cv], .o 11 (.build [(.slice .full 0 []),(.slice .full 0 [])] [(0,(1,bL))]), .o 4 (.alloc [(.slice .full 0 []),(.slice .full 0 [])]), .op none none (.store cQ bS 2)]) (.seq QTN (.seq (.run [.o 46 (.load cQ true 2), .op none none (.store dr jE 2)]) .ret)))
abbrev QTT:AC:= .seq (.run [.o 1 (.box aQ), .o 2 (.alloc [(.slice .full 0 []),(.slice .full 0 [])])]) QTS
abbrev QTX:AC:= .seq (.run [.o 2 (.mv (.k (.bool false)))]) (.seq (.run [.m 3 aQ, .o 4 (.bin .geq bE (.k (.int .u8 97))), .m 5 cQ, .g 6 5 true (.mv aQ), .g 7 5 true (.bin .leq bG (.k (.int .u8 122))), .o 8 (.pick bf bF (.k (.bool false))), .m 2 bY]) .ret)
abbrev QU4:AC:= .seq (.seq (.run [.m 5 a8, .m 6 aQ, .o 7 (.ko bG), .o 8 (.bin .lss bf bF), .m 9 bY, .g 10 9 true (.mv aQ), .g 11 9 true (.mv a8), .g 12 9 true (.na bL bS), .d 13 9 true nq [b7], .g 14 9 true (.mv bT), .g 15 14 false (.mv aQ), .g 16 14 false (.mv a8), .g 17 14 false (.na cq b8), .d 18 14 false od [cJ], .g 19 9 true (.pick bK (.k (.bool true)) cD), .o 20 (.pick cv cZ (.k (.bool false)))]) (.cond dh .skip (.exit 0))) (.block 1 (.run [.m 21 a8, .o 22 (.bin .add dt (.k (.int .i64 1))), .m 1 dv]))
abbrev QUA:AC:= .seq (.run [.o 4 (.mv (.k (.int .i64 0)))]) (.seq (.block 0 (.loop QU4)) (.seq (.run [.m 23 a8, .m 4 dB]) .ret))
abbrev QUR:AC:= .seq (.run [.o 16 (.bin .eql bE (.k (.str [114,101,97,100]))), .m 4 b8]) (.cond cQ .skip (.run [.o 17 (.bin .eql bE (.k (.str [112,114,105,110,116]))), .m 4 cJ]))
abbrev QUU:AC:= .cond cQ .skip (.seq (.run [.o 15 (.bin .eql bE (.k (.str [103,111,116,111]))), .m 4 cq]) (.cond cQ .skip QUR))
abbrev QUW:AC:= .cond cQ .skip (.seq (.run [.o 14 (.bin .eql bE (.k (.str [114,101,116,117,114,110]))), .m 4 bK]) QUU)
abbrev QUY:AC:= .cond cQ .skip (.seq (.run [.o 13 (.bin .eql bE (.k (.str [99,111,110,116,105,110,117,101]))), .m 4 bT]) QUW)
abbrev QV0:AC:= .cond cQ .skip (.seq (.run [.o 12 (.bin .eql bE (.k (.str [98,114,101,97,107]))), .m 4 b7]) QUY)
abbrev QV2:AC:= .cond cQ .skip (.seq (.run [.o 11 (.bin .eql bE (.k (.str [119,104,105,108,101]))), .m 4 bS]) QV0)
abbrev QV4:AC:= .cond cQ .skip (.seq (.run [.o 10 (.bin .eql bE (.k (.str [101,108,115,101]))), .m 4 bL]) QV2)
abbrev QV6:AC:= .cond cQ .skip (.seq (.run [.o 9 (.bin .eql bE (.k (.str [105,102]))), .m 4 cv]) QV4)
abbrev QV8:AC:= .cond cQ .skip (.seq (.run [.o 8 (.bin .eql bE (.k (.str [114,101,102]))), .m 4 bY]) QV6)
abbrev QVA:AC:= .cond cQ .skip (.seq (.run [.o 7 (.bin .eql bE (.k (.str [118,97,114]))), .m 4 bF]) QV8)
abbrev QVC:AC:= .cond cQ .skip (.seq (.run [.o 6 (.bin .eql bE (.k (.str [112,114,111,99]))), .m 4 bG]) QVA)
abbrev QVG:AC:= .cond cQ (.seq (.run [.o 2 (.mv (.k (.bool true)))]) .ret) .skip
abbrev QVH:AC:= .seq (.seq (.run [.o 5 (.bin .eql bE (.k (.str [103,108,111,98,97,108]))), .m 4 bf]) QVC) QVG
abbrev QVM:AC:= .seq (.seq (.run [.m 3 aQ]) (.block 0 QVH)) (.seq (.run [.o 2 (.mv (.k (.bool false)))]) .ret)
abbrev QVN:AC:= .seq (.run [.o 2 (.mv (.k (.bool false)))]) QVM
end Go.Abs

/-! Have1 -/

namespace Go.Abs
open Go.Proofs
theorem AA:Has Tryz.prog ra 1 [(0,none)] QCH:=⟨Tryz.f44,by kernel_rfl,by kernel_rfl⟩
theorem DB:Has Tryz.prog ux 40 [(0,(some (true,2)))] QCP:=⟨Tryz.f45,by kernel_rfl,by kernel_rfl⟩
theorem wU:Has Tryz.prog ik 23 [(4,none)] QD6:=⟨Tryz.f46,by kernel_rfl,by kernel_rfl⟩
theorem nw:Has Tryz.prog fE 19 [(4,none)] QDG:=⟨Tryz.f47,by kernel_rfl,by kernel_rfl⟩
theorem pR:Has Tryz.prog jv 69 [(4,none)] QEE:=⟨Tryz.f48,by kernel_rfl,by kernel_rfl⟩
theorem BW:Has Tryz.prog lB 15 [(2,none)] QF1:=⟨Tryz.f56,by kernel_rfl,by kernel_rfl⟩
theorem pj:Has Tryz.prog iY 71 [(6,none)] QG2:=⟨Tryz.f57,by kernel_rfl,by kernel_rfl⟩
theorem sZ:Has Tryz.prog gW 19 [(4,none)] QGP:=⟨Tryz.f58,by kernel_rfl,by kernel_rfl⟩
theorem AB:Has Tryz.prog ml 18 [(2,none)] QHC:=⟨Tryz.f59,by kernel_rfl,by kernel_rfl⟩
theorem Fc:Has Tryz.prog kJ 55 [(2,none)] QI1:=⟨Tryz.f60,by kernel_rfl,by kernel_rfl⟩
theorem DC:Has Tryz.prog uy 23 [(2,none)] QIM:=⟨Tryz.f61,by kernel_rfl,by kernel_rfl⟩
theorem po:Has Tryz.prog fw 9 [(4,none)] QIQ:=⟨Tryz.f62,by kernel_rfl,by kernel_rfl⟩
theorem yD:Has Tryz.prog mS 8 [(3,none)] QIU:=⟨Tryz.f63,by kernel_rfl,by kernel_rfl⟩
theorem rk:Has Tryz.prog bQ 9 [(4,none)] QIY:=⟨Tryz.f64,by kernel_rfl,by kernel_rfl⟩
theorem yE:Has Tryz.prog fT 26 [(4,none)] QJ2:=⟨Tryz.f65,by kernel_rfl,by kernel_rfl⟩
theorem AE:Has Tryz.prog ox 38 [(8,none)] QJP:=⟨Tryz.f66,by kernel_rfl,by kernel_rfl⟩
theorem va:Has Tryz.prog sB 28 [(4,none)] QKI:=⟨Tryz.f67,by kernel_rfl,by kernel_rfl⟩
theorem vb:Has Tryz.prog o8 9 [(2,none)] QKS:=⟨Tryz.f68,by kernel_rfl,by kernel_rfl⟩
theorem DD:Has Tryz.prog oc 24 [(4,none),(5,none)] QLH:=⟨Tryz.f69,by kernel_rfl,by kernel_rfl⟩
theorem nL:Has Tryz.prog sC 29 [(4,none)] QM4:=⟨Tryz.f70,by kernel_rfl,by kernel_rfl⟩
theorem rA:Has Tryz.prog o9 60 [(4,none)] QNS:=⟨Tryz.f71,by kernel_rfl,by kernel_rfl⟩
theorem zE:Has Tryz.prog p7 41 [(4,none)] QON:=⟨Tryz.f72,by kernel_rfl,by kernel_rfl⟩
theorem GR:Has Tryz.prog xH 152 [(2,none),(3,(some (true,2)))] QRZ:=⟨Tryz.f73,by kernel_rfl,by kernel_rfl⟩
theorem sL:Has Tryz.prog kU 49 [(2,(some (true,2)))] QT2:=⟨Tryz.f74,by kernel_rfl,by kernel_rfl⟩
theorem AG:Has Tryz.prog oy 47 [(2,(some (true,2)))] QTT:=⟨Tryz.f75,by kernel_rfl,by kernel_rfl⟩
theorem BX:Has Tryz.prog nq 9 [(2,none)] QTX:=⟨Tryz.f76,by kernel_rfl,by kernel_rfl⟩
theorem GU:Has Tryz.prog tz 24 [(4,none)] QUA:=⟨Tryz.f77,by kernel_rfl,by kernel_rfl⟩
theorem Fe:Has Tryz.prog rN 18 [(2,none)] QVN:=⟨Tryz.f78,by kernel_rfl,by kernel_rfl⟩
end Go.Abs

/-! Codes2 -/

namespace Go.Abs
abbrev QVU:AC:= .par [.m 12 bE, .m 13 aQ, .m 14 cQ, .o 15 (.cu bT bK 13), .o 16 (.av cq 11), .o 17 (.load b8 false 1), .c 18 iZ [cJ], .m 19 aQ, .m 20 cQ, .o 21 (.cu cZ dh 13), .o 22 (.av dt 12), .o 23 (.load dv false 1), .c 24 iZ [dB], .o 25 (.bin .add cD de), .o 26 (.bin .add b7 c7), .m 3 eh] [(1,0),(2,0),(3,0),(4,0),(5,0),(6,0),(7,0),(8,0),(9,0),(10,0),(11,1),(12,0),(0,0),(13,0),(14,0),(15,0)]
abbrev QVZ:AC:= .seq (.cond bL .skip (.exit 0)) (.seq (.block 1 (.seq (.run [.m 11 cv, .m 4 bS]) QVU)) (.run [.o 27 (.bin .add cv (.k (.int .i64 1))), .m 9 dR]))
abbrev QW3:AC:= .seq (.run [.m 7 aQ, .o 8 (.len bF), .o 9 (.mv (.k (.int .i64 0)))]) (.block 0 (.loop (.seq (.run [.o 10 (.bin .lss cv bY)]) QVZ)))
abbrev QW8:AC:= .seq (.run [.o 2 (.mv (.k (.int .i64 0)))]) (.seq (.run [.m 5 aQ, .o 6 (.len bf), .m 3 bG]) (.seq QW3 (.seq (.run [.m 28 bE, .m 2 eJ]) .ret)))
abbrev QWB:AC:= .seq (.run [.m 3 aQ,(.o 4 (.build [(.int .i64 0),(.int .i64 0),(.str []),(.slice .full 0 [])] [(0,(1,(.k (.int .i64 1)))),(1,(1,bE))])), .op none none (.store dr cQ 4)]) .ret
abbrev QWC:AC:= .seq (.run [.o 2 (.alloc [(.int .i64 0),(.int .i64 0),(.str []),(.slice .full 0 [])])]) QWB
abbrev QWF:AC:= .seq (.run [.m 3 aQ,(.o 4 (.build [(.int .i64 0),(.int .i64 0),(.str []),(.slice .full 0 [])] [(0,(1,(.k (.int .i64 2)))),(2,(1,bE))])), .op none none (.store dr cQ 4)]) .ret
abbrev QWG:AC:= .seq (.run [.o 2 (.alloc [(.int .i64 0),(.int .i64 0),(.str []),(.slice .full 0 [])])]) QWF
abbrev QWK:AC:= .seq (.run [.o 4 (.box a8), .o 5 (.box dr), .o 6 (.alloc [(.int .i64 0),(.int .i64 0),(.str []),(.slice .full 0 [])])]) (.seq (.run [.m 7 aQ, .o 8 (.load cQ true 4), .o 9 (.load bf true 4), .o 10 (.cP [(.int .i64 0),(.int .i64 0),(.str []),(.slice .full 0 [])] 4 2 [(0,bY),(1,cv)]), .o 11 (.build [(.int .i64 0),(.int .i64 0),(.str []),(.slice .full 0 [])] [(0,(1,bF)),(3,(1,bL))]), .op none none (.store bG bS 4)]) .ret)
abbrev QWV:AC:= .seq (.seq (.run [.m 10 bf, .o 11 (.av dr 3), .o 12 (.load bS false 1), .o 13 (.len b7), .o 14 (.bin .lss bL bT), .m 15 bK, .g 16 15 true (.mv a8), .g 17 15 true (.bin .leq b8 (.k (.int .i64 20000))), .o 18 (.pick cq cJ (.k (.bool false)))]) (.cond cD .skip (.exit 0))) (.seq (.block 1 (.run [.o 21 (.av dr 3), .o 22 (.load dt false 1), .m 23 bf, .o 24 (.cu dv dB 4), .o 25 (.load de true 4), .m 26 a8, .c 27 iJ [c7,eh], .m 1 dR])) (.run [.m 19 bf, .o 20 (.bin .add cZ (.k (.int .i64 1))), .m 5 dh]))
abbrev QX1:AC:= .seq (.seq (.run [.o 5 (.mv (.k (.int .i64 0)))]) (.block 0 (.loop QWV))) (.seq (.run [.m 28 a8, .m 4 eJ]) .ret)
abbrev QX3:AC:= .seq (.run [.o 2 (.box aQ), .o 4 (.mv (.k (.int .i64 0)))]) (.seq (.run [.o 6 (.av dr 2), .o 7 (.load bG false 1), .m 8 a8, .c 9 fE [bF,bY], .m 1 cv]) QX1)
abbrev QX5:AC:= .par [.o 10 (.av a8 9), .o 11 (.load bL false 1), .o 3 (.mv (.k (.bool false))), .o 4 (.mv (.k (.bool false))), .o 5 (.mv (.k (.bool false))), .m 6 bS, .o 7 (.mv (.k (.bool false))), .o 8 (.mv (.k (.bool false)))] [(0,0),(1,0),(2,0),(3,0),(4,0),(5,0),(6,0),(7,0)]
abbrev QXD:AC:= .seq (.run [.o 20 (.bin .eql b8 (.k (.int .i64 2))), .m 19 dh]) (.cond cZ .skip (.run [.o 21 (.bin .eql b8 (.k (.int .i64 10))), .m 19 dt]))
abbrev QXS:AC:= .seq (.run [.o 38 (.bin .eql b8 (.k (.int .i64 7))), .m 37 gx]) (.cond fX .skip (.run [.o 39 (.bin .eql b8 (.k (.int .i64 8))), .m 37 gm]))
abbrev QXV:AC:= .cond fX .skip (.seq (.run [.o 2 (.mv (.k (.bool false)))]) .ret)
abbrev QXY:AC:= .seq (.run [.o 34 (.bin .eql b8 (.k (.int .i64 9))), .m 33 fx]) (.cond ff (.run [.o 35 (.av a8 9), .o 36 (.load fu false 1), .m 5 fz, .o 6 (.mv (.k (.bool false)))]) (.seq QXS QXV))
abbrev QY0:AC:= .seq (.run [.o 32 (.bin .eql b8 (.k (.int .i64 6))), .m 31 fj]) (.cond fb (.run [.o 5 (.mv (.k (.bool true))), .o 7 (.mv (.k (.bool true)))]) QXY)
abbrev QY2:AC:= .seq (.run [.o 30 (.bin .eql b8 (.k (.int .i64 5))), .m 29 fi]) (.cond eK (.run [.o 5 (.mv (.k (.bool true))), .o 7 (.mv (.k (.bool true))), .o 8 (.mv (.k (.bool true)))]) QY0)
abbrev QY4:AC:= .seq (.run [.o 25 (.bin .eql b8 (.k (.int .i64 4))), .m 24 c7]) (.cond de (.run [.o 26 (.av a8 3), .o 27 (.load eh false 1), .o 28 (.bin .neq dR (.k (.str []))), .m 3 eJ, .o 4 (.mv (.k (.bool true)))]) QY2)
abbrev QY6:AC:= .seq (.run [.o 23 (.bin .eql b8 (.k (.int .i64 3))), .m 22 dB]) (.cond dv (.run [.o 5 (.mv (.k (.bool true)))]) QY4)
abbrev QY8:AC:= .seq QXD (.cond cZ (.run [.o 3 (.mv (.k (.bool true)))]) QY6)
abbrev QYA:AC:= .seq (.run [.o 18 (.bin .eql b8 (.k (.int .i64 1))), .m 17 cD]) (.cond cJ (.run [.o 3 (.mv (.k (.bool true))), .o 5 (.mv (.k (.bool true)))]) QY8)
abbrev QYD:AC:= .run [.m 40 bG, .m 41 gT, .g 42 41 false (.mv bF), .g 43 41 false (.un .not iA), .g 44 41 false (.mv iL), .g 45 44 true (.av a8 11), .g 46 44 true (.load jD false 1), .g 47 44 true (.len jE), .g 48 44 true (.bin .gtr j9 (.k (.int .i64 0))), .g 49 41 false (.pick jo jb (.k (.bool false))), .o 50 (.pick gK (.k (.bool true)) jq), .m 51 kX, .g 52 51 false (.mv bY), .g 53 51 false (.un .not kr), .g 54 51 false (.mv ku), .g 55 54 true (.av a8 12), .g 56 54 true (.load lF false 1), .g 57 54 true (.len mI), .g 58 54 true (.bin .gtr nu (.k (.int .i64 0))), .g 59 51 false (.pick kY mJ (.k (.bool false))), .o 60 (.pick kb (.k (.bool true)) kZ), .m 61 oE, .g 62 61 false (.mv cv), .g 63 61 false (.un .not p9), .g 64 61 false (.mv qa), .g 65 64 true (.av a8 10), .g 66 64 true (.load uD false 1), .g 67 64 true (.len vW), .g 68 64 true (.bin .gtr uE (.k (.int .i64 0))), .g 69 61 false (.pick rj uF (.k (.bool false))), .o 70 (.pick p8 (.k (.bool true)) xK)]
abbrev QYG:AC:= .cond vX (.seq (.run [.o 2 (.mv (.k (.bool false)))]) .ret) .skip
abbrev QYL:AC:= .cond JU (.seq (.run [.o 2 (.mv (.k (.bool false)))]) .ret) .skip
abbrev QYP:AC:= .seq (.seq (.run [.o 71 (.av a8 3), .o 72 (.load BQ false 1), .m 73 bE, .c 74 nr [zB,BR], .o 75 (.un .not BS), .m 76 BT, .g 77 76 false (.av a8 4), .g 78 76 false (.load BU false 1), .g 79 76 false (.mv cQ), .d 80 76 false nr [zD,JK], .g 81 76 false (.un .not JL), .o 82 (.pick zC (.k (.bool true)) JM), .m 83 JN, .g 84 83 false (.av a8 5), .g 85 83 false (.load JP true 4), .g 86 83 false (.mv bf), .d 87 83 false pf [JQ,JR], .g 88 83 false (.un .not JS), .o 89 (.pick JO (.k (.bool true)) JT)]) QYL) (.seq (.run [.o 90 (.av a8 10), .o 91 (.load JV false 1), .c 92 rh [JW], .m 2 JX]) .ret)
abbrev QYQ:AC:= .seq (.seq QYD QYG) QYP
abbrev WC:AC:= .seq (.seq (.run [.o 15 (.av a8 1), .o 16 (.load cq false 1)]) (.block 0 QYA)) QYQ
abbrev QYS:AC:= .seq (.run [.o 12 (.av a8 1), .o 13 (.load b7 false 1), .o 14 (.bin .eql bT (.k (.int .i64 4))), .m 9 bK]) WC
abbrev QYT:AC:= .seq QX5 QYS
abbrev QYU:AC:= .seq (.run [.o 1 (.box aQ), .o 2 (.mv (.k (.bool false)))]) QYT
abbrev QZ7:AC:= .par [.m 37 aQ, .m 38 aQ, .o 39 (.c6 gx), .o 40 (.av gm 2), .o 41 (.load gT false 1), .o 42 (.load cv true 17), .o 43 (.cP [(.int .i64 0),(.int .i64 0),(.slice .full 0 []),(.str []),(.str []),(.int .i64 0),(.int .i64 0),(.str []),(.slice .full 0 []),(.bool false),(.slice .full 0 []),(.slice .full 0 []),(.slice .full 0 []),(.int .i64 0),(.int .i64 0),(.int .i64 0),(.int .i64 0)] 17 1 [(0,iA)]), .o 44 (.app 17 240 gK iL), .o 45 (.c6 fX), .o 46 (.av jD 2), .op none none (.store jE jo 1)] [(1,0),(2,0),(3,0),(4,0),(5,0),(6,0),(7,0),(0,0),(8,0),(9,0),(10,0)]
abbrev QZ8:AC:= .run [.o 47 (.av bf 13), .o 48 (.load j9 false 1), .m 49 bY, .o 50 (.av cv 15), .o 51 (.load kX false 1), .o 52 (.av bf 16), .o 53 (.load kr false 1), .o 54 (.build [(.int .i64 0),(.int .i64 0),(.slice .full 0 []),(.str []),(.str []),(.int .i64 0),(.int .i64 0),(.str []),(.slice .full 0 []),(.bool false),(.slice .full 0 []),(.slice .full 0 []),(.slice .full 0 []),(.int .i64 0),(.int .i64 0),(.int .i64 0),(.int .i64 0)] [(13,(1,jb)),(14,(1,jq)),(15,(1,kb)),(16,(1,ku))]), .o 10 (.alloc [(.int .i64 0),(.int .i64 0),(.slice .full 0 []),(.str []),(.str []),(.int .i64 0),(.int .i64 0),(.str []),(.slice .full 0 []),(.bool false),(.slice .full 0 []),(.slice .full 0 []),(.slice .full 0 []),(.int .i64 0),(.int .i64 0),(.int .i64 0),(.int .i64 0)]), .op none none (.store bL kY 17)]
abbrev QZG:AC:= .seq (.seq (.run [.o 55 (.av bF 1), .o 56 (.load lF false 1), .o 57 (.bin .eql mI (.k (.int .i64 6)))]) (.cond nu (.run [.m 58 bY, .m 59 bY, .o 60 (.av bL 15), .op none none (.store oE mJ 1), .o 61 (.av bL 16), .op none none (.store p8 kZ 1)]) .skip)) (.seq (.run [.m 62 aQ, .o 63 (.av bF 11), .o 64 (.load qa false 1), .o 65 (.load bL true 17), .c 66 iK [p9,rj,uD]]) (.run [.m 67 aQ, .o 68 (.av bF 12), .o 69 (.load uF false 1), .o 70 (.load bL true 17), .c 71 iK [uE,xK,vX]]))
abbrev QZJ:AC:= .seq (.seq (.run [.m 27 bG, .o 28 (.bin .add dR (.k (.int .i64 1))), .m 29 a8, .o 30 (.len eK), .o 31 (.bin .lss eJ fi)]) (.cond fb (.run [.m 32 bY, .o 33 (.load bF true 13), .c 34 kV [ff], .o 35 (.bin .add fj fx), .o 36 (.av cv 15), .op none none (.store fz fu 1)]) .skip)) (.seq QZ7 (.seq QZ8 QZG))
abbrev QZN:AC:= .seq (.run [.m 15 bT, .o 16 (.cu bS bT 13), .o 17 (.load b8 true 13), .o 7 (.alloc [(.int .i64 0),(.int .i64 0),(.slice .full 0 []),(.str []),(.str []),(.int .i64 0),(.int .i64 0),(.str []),(.slice .full 0 []),(.bool false),(.slice .full 0 []),(.slice .full 0 []),(.slice .full 0 [])]), .m 6 cq, .op none none (.store bF cJ 13)]) (.seq (.run [.m 18 aQ, .o 19 (.c6 cD), .o 20 (.av cZ 2), .o 21 (.load dh false 1), .o 22 (.len dt), .o 23 (.bin .add dv (.k (.int .i64 1))), .m 8 dB]) (.seq (.run [.o 24 (.load bf true 17), .o 9 (.alloc [(.int .i64 0),(.int .i64 0),(.slice .full 0 []),(.str []),(.str []),(.int .i64 0),(.int .i64 0),(.str []),(.slice .full 0 []),(.bool false),(.slice .full 0 []),(.slice .full 0 []),(.slice .full 0 []),(.int .i64 0),(.int .i64 0),(.int .i64 0),(.int .i64 0)]), .op none none (.store cv de 17)]) (.seq (.run [.o 25 (.load bF true 13), .o 26 (.av cv 0), .op none none (.store eh c7 13)]) QZJ)))
abbrev QZR:AC:= .seq (.cond bK .skip (.exit 0)) (.seq (.block 1 QZN) (.run [.o 72 (.bin .add bT (.k (.int .i64 1))), .m 13 zB]))
abbrev QZV:AC:= .seq (.run [.m 11 a8, .o 12 (.len bS), .o 13 (.mv (.k (.int .i64 0)))]) (.block 0 (.loop (.seq (.run [.o 14 (.bin .lss bT b7)]) QZR)))
abbrev QZW:AC:= .seq (.run [.o 5 (.box dr)]) QZV
abbrev acX:AC:= .block 1 (.seq (.run [.m 10 bY, .m 5 bL]) (.seq (.run [.m 11 a8, .m 12 aQ, .m 13 bf, .o 14 (.cu b7 bT 1), .o 15 (.load bK false 1),(.gY (some 16) none 11 [cq])]) (.cond b8 (.seq (.run [.m 17 bf, .m 4 cJ]) .ret) .skip)))
abbrev acY:AC:= .seq (.cond cv .skip (.exit 0)) (.seq acX (.run [.o 18 (.bin .add bY (.k (.int .i64 1))), .m 8 cD]))
abbrev acZ:AC:= .seq (.run [.m 6 aQ, .o 7 (.len bG), .o 8 (.mv (.k (.int .i64 0)))]) (.block 0 (.loop (.seq (.run [.o 9 (.bin .lss bY bF)]) acY)))
abbrev ac0:AC:= .seq (.run [(.o 4 (.mv (.k (.int .i64 (-1)))))]) .ret
abbrev ac1:AC:= .seq (.run [.o 4 (.mv (.k (.int .i64 0)))]) (.seq acZ ac0)
abbrev ac2:AC:= .seq (.seq (.run [.o 31 (.av bf 0), .o 32 (.load fb false 1)]) (.cond fj (.run [.m 33 bE, .o 34 (.av bf 1), .o 35 (.load fx false 1), .o 36 (.cP [(.str [])] 1 1 [(0,fu)]), .o 37 (.app 1 16 ff fz), .m 3 fX]) .skip)) (.run [.m 38 bE, .o 39 (.av bf 2), .o 40 (.load gm true 4), .c 41 pg [gT], .o 42 (.app 1 16 gx gK), .m 3 iA])
abbrev ac3:AC:= .seq (.block 1 (.seq (.run [.o 29 (.cu c7 dR 6), .o 30 (.load eK true 6), .o 5 (.alloc [(.bool false),(.str []),(.int .i64 0),(.int .i64 0),(.str []),(.slice .full 0 [])]), .op none none (.store bf fi 6)]) ac2)) (.run [.o 43 (.bin .add dR (.k (.int .i64 1))), .m 27 iL])
abbrev ac4:AC:= .block 0 (.loop (.seq (.run [.o 28 (.bin .lss dR eh)]) (.seq (.cond eJ .skip (.exit 0)) ac3)))
abbrev ac5:AC:= .seq (.seq (.run [.o 24 (.av a8 10), .o 25 (.load de false 1), .o 26 (.len c7), .o 27 (.mv (.k (.int .i64 0)))]) ac4) (.seq (.run [.m 44 bE, .m 2 jo]) .ret)
abbrev ac6:AC:= .seq (.seq (.run [.o 6 (.av a8 1), .o 7 (.load bG false 1), .o 8 (.bin .neq bF (.k (.int .i64 10))), .m 9 bY, .g 10 9 true (.av a8 3), .g 11 9 true (.load bL false 1), .g 12 9 true (.bin .neq bS (.k (.str []))), .o 13 (.pick cv b7 (.k (.bool false)))]) (.cond bT (.run [.m 14 bE, .o 15 (.av a8 3), .o 16 (.load cq false 1), .o 17 (.cP [(.str [])] 1 1 [(0,b8)]), .o 18 (.app 1 16 bK cJ), .m 3 cD]) .skip)) (.seq (.run [.m 19 bE, .o 20 (.av a8 5), .o 21 (.load dh true 4), .c 22 pg [dt], .o 23 (.app 1 16 cZ dv), .m 3 dB]) ac5)
abbrev ac7:AC:= .seq (.run [.o 1 (.box aQ), .o 2 (.mv (.k (.slice .full 0 [])))]) (.seq (.run [.o 3 (.mv (.k (.slice .full 0 [])))]) ac6)
end Go.Abs

/-! Have2 -/

namespace Go.Abs
open Go.Proofs
theorem BY:Has Tryz.prog iZ 29 [(2,none)] QW8:=⟨Tryz.f86,by kernel_rfl,by kernel_rfl⟩
theorem Ff:Has Tryz.prog pb 5 [(2,(some (true,4)))] QWC:=⟨Tryz.f95,by kernel_rfl,by kernel_rfl⟩
theorem DE:Has Tryz.prog jL 5 [(2,(some (true,4)))] QWG:=⟨Tryz.f96,by kernel_rfl,by kernel_rfl⟩
theorem Fg:Has Tryz.prog rO 12 [(6,(some (true,4)))] QWK:=⟨Tryz.f97,by kernel_rfl,by kernel_rfl⟩
theorem xM:Has Tryz.prog iJ 29 [(4,none)] QX3:=⟨Tryz.f98,by kernel_rfl,by kernel_rfl⟩
theorem AH:Has Tryz.prog rb 93 [(2,none)] QYU:=⟨Tryz.f116,by kernel_rfl,by kernel_rfl⟩
theorem xN:Has Tryz.prog iK 73 [] QZW:=⟨Tryz.f117,by kernel_rfl,by kernel_rfl⟩
theorem qR:Has Tryz.prog jC 19 [(4,none)] ac1:=⟨Tryz.f118,by kernel_rfl,by kernel_rfl⟩
theorem B0:Has Tryz.prog pd 45 [(2,none)] ac7:=⟨Tryz.f119,by kernel_rfl,by kernel_rfl⟩
end Go.Abs

/-! Codes3 -/

namespace Go.Abs
abbrev ac8:AC:= .cond dB (.seq (.run [.o 6 (.mv (.k (.int .i64 3)))]) .ret) .skip
abbrev ac9:AC:= .cond dR (.seq (.run [.o 6 (.mv (.k (.int .i64 2)))]) .ret) .skip
abbrev ada:AC:= .seq (.seq (.run [.o 16 (.av bY 0), .o 17 (.load b8 false 1), .m 18 dr, .o 19 (.bin .eql cJ cD), .m 20 cZ, .g 21 20 true (.av bY 1), .g 22 20 true (.load dt false 1), .o 23 (.pick dh dv (.k (.bool false)))]) ac8) (.seq (.run [.o 24 (.av bY 0), .o 25 (.load de false 1), .m 26 dr, .o 27 (.bin .eql c7 eh)]) ac9)
abbrev adb:AC:= .seq (.block 1 (.seq (.run [.o 14 (.cu bL b7 2), .o 15 (.load bK true 2), .o 8 (.alloc [(.str []),(.bool false)]), .op none none (.store bY cq 2)]) ada)) (.run [.o 28 (.bin .add b7 (.k (.int .i64 1))), .m 12 eJ])
abbrev ade:AC:= .block 0 (.loop (.seq (.run [.o 13 (.bin .lss b7 bS)]) (.seq (.cond bT .skip (.exit 0)) adb)))
abbrev adf:AC:= .cond fj (.seq (.run [.o 6 (.mv (.k (.int .i64 4)))]) .ret) .skip
abbrev adg:AC:= .cond fz (.seq (.run [.o 6 (.mv (.k (.int .i64 1)))]) .ret) .skip
abbrev adh:AC:= .seq (.seq (.run [.o 33 (.av bE 0), .o 34 (.load ff false 1), .m 35 dr, .c 36 bQ [fx,fu]]) adg) (.seq (.run [.o 6 (.mv (.k (.int .i64 0)))]) .ret)
abbrev adi:AC:= .seq (.seq (.run [.o 9 (.av cQ 1), .o 10 (.load cv false 1), .o 11 (.len bL), .o 12 (.mv (.k (.int .i64 0)))]) ade) (.seq (.seq (.run [.o 29 (.av cQ 2), .o 30 (.load eK false 1), .m 31 dr, .c 32 bQ [fi,fb]]) adf) adh)
abbrev adj:AC:= .seq (.run [.o 3 (.box aQ), .o 4 (.box a8), .o 6 (.mv (.k (.int .i64 0)))]) adi
abbrev adk:AC:= .cond bS (.seq (.run [.o 4 (.mv (.k (.bool false)))]) .ret) .skip
abbrev adl:AC:= .par [.o 19 (.av bG 1), .o 20 (.load cZ false 1), .m 21 a8, .m 22 bf, .o 23 (.cu dt dv 6), .o 24 (.av dB 0), .o 25 (.load de false 1), .o 26 (.w9 true dh c7)] [(0,0),(1,0),(2,0),(3,0),(4,0),(5,0),(6,0),(7,0)]
abbrev adn:AC:= .cond eh (.seq (.run [.o 4 (.mv (.k (.bool false)))]) .ret) .skip
abbrev ado:AC:= .seq (.block 1 (.seq (.run [.m 16 bK, .o 17 (.cu b7 bK 2), .o 18 (.load cJ true 2), .o 6 (.alloc [(.str []),(.bool false)]), .m 5 b8, .op none none (.store bG cD 2)]) (.seq adl adn))) (.run [.o 27 (.bin .add bK (.k (.int .i64 1))), .m 14 dR])
abbrev adp:AC:= .block 0 (.loop (.seq (.run [.o 15 (.bin .lss bK bT)]) (.seq (.cond cq .skip (.exit 0)) ado)))
abbrev adq:AC:= .seq (.seq (.run [.m 12 aQ, .o 13 (.len b7), .o 14 (.mv (.k (.int .i64 0)))]) adp) (.seq (.run [.o 4 (.mv (.k (.bool true)))]) .ret)
abbrev adr:AC:= .seq (.run [.o 4 (.mv (.k (.bool false)))]) (.seq (.seq (.run [.m 7 aQ, .o 8 (.len bF), .m 9 a8, .o 10 (.len cv), .o 11 (.bin .neq bY bL)]) adk) adq)
abbrev ads:AC:= .cond dv (.seq (.run [.o 23 (.av cv 0), .o 24 (.av dB 0), .o 25 (.load de false 1), .m 6 c7, .o 7 (.mv (.k (.bool true)))]) .ret) .skip
abbrev adt:AC:= .seq (.block 1 (.seq (.run [.o 16 (.cu b7 bK 17), .o 17 (.load b8 true 17), .o 9 (.alloc [(.int .i64 0),(.int .i64 0),(.slice .full 0 []),(.str []),(.str []),(.int .i64 0),(.int .i64 0),(.str []),(.slice .full 0 []),(.bool false),(.slice .full 0 []),(.slice .full 0 []),(.slice .full 0 []),(.int .i64 0),(.int .i64 0),(.int .i64 0),(.int .i64 0)]), .op none none (.store cv cJ 17)]) (.seq (.run [.o 18 (.av cv 0), .o 19 (.av cD 2), .o 20 (.load cZ false 1), .m 21 dr, .c 22 bQ [dh,dt]]) ads))) (.run [.o 26 (.bin .add bK (.k (.int .i64 1))), .m 14 eh])
abbrev adu:AC:= .block 0 (.loop (.seq (.run [.o 15 (.bin .lss bK bT)]) (.seq (.cond cq .skip (.exit 0)) adt)))
abbrev adv:AC:= .seq (.run [(.o 6 (.mv (.k (.int .i64 (-1))))), .o 7 (.mv (.k (.bool true)))]) .ret
abbrev adw:AC:= .seq (.seq (.run [.m 27 aQ, .o 28 (.c6 dR), .o 29 (.av eJ 0), .o 30 (.av eK 1), .o 31 (.load fi false 1), .m 32 a8, .o 33 (.cu fb fj 5), .o 34 (.av ff 4), .o 35 (.load fx false 1), .m 36 dr, .c 37 bQ [fu,fz]]) (.cond fX adv .skip)) (.seq (.run [.o 6 (.mv (.k (.int .i64 0))), .o 7 (.mv (.k (.bool false)))]) .ret)
abbrev adx:AC:= .seq (.seq (.run [.m 10 aQ, .m 11 a8, .c 12 fT [bL,bS], .o 13 (.len b7), .o 14 (.mv (.k (.int .i64 0)))]) adu) adw
abbrev ady:AC:= .seq (.run [.o 6 (.mv (.k (.int .i64 0))), .o 7 (.mv (.k (.bool false)))]) adx
abbrev adz:AC:= .seq (.run [.o 2 (.box aQ), .o 3 (.box a8), .o 4 (.mv (.k (.bool false)))]) (.seq (.run [.o 5 (.load dr true 2), .c 6 iy [bf], .o 7 (.oH bG 0 false 1), .o 8 (.bin .eql bF (.k (.int .i64 0))), .m 9 bY, .g 10 9 true (.av dr 1), .g 11 9 true (.load bL false 1), .g 12 9 true (.rD 164 [bE]), .d 13 9 true fU [bS,b7], .o 14 (.pick cv bT (.k (.bool false))), .m 4 bK]) .ret)
abbrev adA:AC:= .seq (.run [.o 26 (.cu dv de 1), .o 27 (.load eh false 1), .m 8 dR]) (.seq (.run [.m 28 bf, .m 29 bY, .c 30 bQ [eJ,eK], .o 31 (.un .not fi)]) (.cond fb (.run [.m 32 bf, .m 33 bY, .o 34 (.cP [(.str [])] 1 1 [(0,ff)]), .o 35 (.app 1 16 fj fx), .m 5 fu]) .skip))
abbrev adB:AC:= .seq (.cond c7 .skip (.exit 2)) (.seq (.block 3 adA) (.run [.o 36 (.bin .add de (.k (.int .i64 1))), .m 24 fz]))
abbrev adC:AC:= .seq (.run [.m 17 aQ, .m 18 bf, .m 19 bG, .o 20 (.cu cD cZ 1), .o 21 (.load dh false 1), .c 22 ri [cJ,dt], .o 23 (.len dv), .o 24 (.mv (.k (.int .i64 0)))]) (.block 2 (.loop (.seq (.run [.o 25 (.bin .lss de dB)]) adB)))
abbrev adD:AC:= .seq (.seq (.run [.m 11 bG, .m 12 bf, .o 13 (.len b7), .o 14 (.bin .lss bS bT)]) (.cond bK .skip (.exit 0))) (.seq (.block 1 adC) (.run [.m 15 bG, .o 16 (.bin .add cq (.k (.int .i64 1))), .m 6 b8]))
abbrev WD:AC:= .seq (.run [.m 39 bf, .m 4 gm]) .ret
abbrev adE:AC:= .seq (.seq (.run [.o 6 (.mv (.k (.int .i64 0)))]) (.block 0 (.loop adD))) (.seq (.run [.m 37 bf, .c 38 hO [fX]]) WD)
abbrev adF:AC:= .seq (.run [.o 4 (.mv (.k (.slice .full 0 [])))]) (.seq (.run [.m 9 a8, .o 10 (.cP [(.str [])] 1 1 [(0,cv)]), .m 5 bL]) adE)
abbrev adG:AC:= .seq (.run [.o 3 (.box a8), .o 4 (.mv (.k (.int .i64 0)))]) (.seq (.run [.m 5 aQ, .o 6 (.c6 bf), .o 7 (.av bG 0), .o 8 (.av bF 1), .o 9 (.load bY false 1), .o 10 (.rD 167 [bE]), .c 11 fB [cv,bL], .m 4 bS]) .ret)
abbrev adH:AC:= .seq (.run [.o 2 (.mv (.k (.bool false)))]) (.seq (.run [.m 3 aQ, .o 4 (.bin .geq bE (.k (.int .u8 48))), .m 5 cQ, .g 6 5 true (.mv aQ), .g 7 5 true (.bin .leq bG (.k (.int .u8 57))), .o 8 (.pick bf bF (.k (.bool false))), .m 2 bY]) .ret)
abbrev adI:AC:= .seq (.run [.o 20 (.bin .eql bK (.k (.str [38,38]))), .m 15 dh]) (.cond cq .skip (.run [.o 21 (.bin .eql bK (.k (.str [124,124]))), .m 15 dt]))
abbrev adJ:AC:= .cond cq .skip (.seq (.run [.o 19 (.bin .eql bK (.k (.str [62,61]))), .m 15 cZ]) (.cond cq .skip adI))
abbrev adK:AC:= .cond cq .skip (.seq (.run [.o 18 (.bin .eql bK (.k (.str [60,61]))), .m 15 cD]) adJ)
abbrev adL:AC:= .cond cq .skip (.seq (.run [.o 17 (.bin .eql bK (.k (.str [33,61]))), .m 15 cJ]) adK)
abbrev adM:AC:= .cond cq (.seq (.run [.o 4 (.mv (.k (.int .i64 2)))]) .ret) .skip
abbrev adN:AC:= .seq (.seq (.run [.o 16 (.bin .eql bK (.k (.str [61,61]))), .m 15 b8]) adL) adM
abbrev adO:AC:= .cond cv (.seq (.run [.m 10 aQ, .m 11 a8, .m 12 a8, .o 13 (.bin .add b7 (.k (.int .i64 2))), .o 14 (.vG bL (some bS) (some bT))]) (.block 0 adN)) .skip
abbrev adP:AC:= .seq (.run [.o 40 (.bin .eql de (.k (.int .u8 47))), .m 25 gT]) (.cond c7 .skip (.run [.o 41 (.bin .eql de (.k (.int .u8 37))), .m 25 gK]))
abbrev adQ:AC:= .cond c7 .skip (.seq (.run [.o 39 (.bin .eql de (.k (.int .u8 42))), .m 25 gm]) (.cond c7 .skip adP))
abbrev adR:AC:= .cond c7 .skip (.seq (.run [.o 38 (.bin .eql de (.k (.int .u8 45))), .m 25 gx]) adQ)
abbrev adS:AC:= .cond c7 .skip (.seq (.run [.o 37 (.bin .eql de (.k (.int .u8 43))), .m 25 fX]) adR)
abbrev adT:AC:= .cond c7 .skip (.seq (.run [.o 36 (.bin .eql de (.k (.int .u8 62))), .m 25 fz]) adS)
abbrev adU:AC:= .cond c7 .skip (.seq (.run [.o 35 (.bin .eql de (.k (.int .u8 60))), .m 25 fu]) adT)
abbrev adV:AC:= .cond c7 .skip (.seq (.run [.o 34 (.bin .eql de (.k (.int .u8 33))), .m 25 fx]) adU)
abbrev adW:AC:= .cond c7 .skip (.seq (.run [.o 33 (.bin .eql de (.k (.int .u8 61))), .m 25 ff]) adV)
abbrev adX:AC:= .cond c7 .skip (.seq (.run [.o 32 (.bin .eql de (.k (.int .u8 58))), .m 25 fj]) adW)
abbrev adY:AC:= .cond c7 .skip (.seq (.run [.o 31 (.bin .eql de (.k (.int .u8 59))), .m 25 fb]) adX)
abbrev adZ:AC:= .cond c7 .skip (.seq (.run [.o 30 (.bin .eql de (.k (.int .u8 44))), .m 25 fi]) adY)
abbrev ad0:AC:= .cond c7 .skip (.seq (.run [.o 29 (.bin .eql de (.k (.int .u8 125))), .m 25 eK]) adZ)
abbrev ad1:AC:= .cond c7 .skip (.seq (.run [.o 28 (.bin .eql de (.k (.int .u8 123))), .m 25 eJ]) ad0)
abbrev ad2:AC:= .cond c7 .skip (.seq (.run [.o 27 (.bin .eql de (.k (.int .u8 41))), .m 25 dR]) ad1)
abbrev ad3:AC:= .cond c7 (.seq (.run [.o 4 (.mv (.k (.int .i64 1)))]) .ret) .skip
abbrev ad4:AC:= .seq (.seq (.run [.o 26 (.bin .eql de (.k (.int .u8 40))), .m 25 eh]) ad2) ad3
abbrev ad5:AC:= .seq (.seq (.run [.m 22 aQ, .m 23 a8, .o 24 (.na dv dB)]) (.block 1 ad4)) (.seq (.run [.o 4 (.mv (.k (.int .i64 0)))]) .ret)
abbrev ad6:AC:= .seq (.seq (.run [.m 5 a8, .o 6 (.bin .add bf (.k (.int .i64 1))), .m 7 aQ, .o 8 (.ko bF), .o 9 (.bin .lss bG bY)]) adO) ad5
abbrev ad7:AC:= .seq (.run [.o 4 (.mv (.k (.int .i64 0)))]) ad6
abbrev ad8:AC:= .cond dv (.seq (.run [.o 2 (.mv (.k (.int .i64 0))), .o 3 (.mv (.k (.bool false)))]) .ret) .skip
abbrev ad9:AC:= .seq (.seq (.run [.m 18 cQ, .m 19 bG, .o 20 (.bin .sub (.k (.int .i64 9223372036854775807)) cZ), .o 21 (.bin .quo dh (.k (.int .i64 10))), .o 22 (.bin .gtr cD dt)]) ad8) (.run [.m 23 cQ, .o 24 (.bin .mul dB (.k (.int .i64 10))), .m 25 bG, .o 26 (.bin .add de c7), .m 4 eh])
abbrev aea:AC:= .block 1 (.seq (.run [.m 13 aQ, .m 14 bf, .o 15 (.na bT bK), .o 16 (.bin .sub cq (.k (.int .u8 48))), .o 17 (.conv .i64 b8), .m 6 cJ]) ad9)
abbrev aeb:AC:= .seq (.seq (.run [.m 7 bf, .m 8 aQ, .o 9 (.ko bY), .o 10 (.bin .lss bF cv)]) (.cond bL .skip (.exit 0))) (.seq aea (.run [.m 11 bf, .o 12 (.bin .add bS (.k (.int .i64 1))), .m 5 b7]))
abbrev aec:AC:= .seq (.seq (.run [.o 5 (.mv (.k (.int .i64 0)))]) (.block 0 (.loop aeb))) (.seq (.run [.m 27 cQ, .m 2 dR, .o 3 (.mv (.k (.bool true)))]) .ret)
abbrev aed:AC:= .seq (.run [.o 2 (.mv (.k (.int .i64 0))), .o 3 (.mv (.k (.bool false)))]) (.seq (.run [.o 4 (.mv (.k (.int .i64 0)))]) aec)
abbrev aee:AC:= .cond bT (.seq (.run [.o 4 (.mv (.k (.bool false)))]) .ret) .skip
abbrev aef:AC:= .seq (.run [.m 14 aQ, .o 15 (.c6 bK), .o 16 (.av cq 1), .o 17 (.load b8 false 1), .o 18 (.bin .add cJ (.k (.int .i64 1))), .o 19 (.c6 bK), .o 20 (.av cZ 1), .op none none (.store dh cD 1)]) (.seq (.run [.o 4 (.mv (.k (.bool true)))]) .ret)
abbrev aeg:AC:= .seq (.seq (.run [.m 5 aQ, .c 6 cm [bf], .o 7 (.un .not bG), .m 8 bF, .g 9 8 false (.mv aQ), .g 10 8 false (.mv a8), .d 11 8 false fc [cv,bL], .g 12 8 false (.un .not bS), .o 13 (.pick bY (.k (.bool true)) b7)]) aee) aef
abbrev aeh:AC:= .seq (.run [.o 4 (.mv (.k (.bool false)))]) aeg
abbrev aei:AC:= .cond dh (.seq (.run [.m 21 aQ,(.c 22 cH [dt,(.k (.str [59]))])]) (.seq (.run [.m 23 a8, .m 6 dB]) .ret)) .skip
abbrev aej:AC:= .seq (.run [.m 9 a8, .m 10 aQ, .m 11 a8, .o 12 (.len bS), .m 13 dr, .o 14 (.bin .lss b7 bT), .c 15 dU [bL,bK], .o 16 (.cP [(.str [])] 1 1 [(0,cq)]), .o 17 (.app 1 16 cv b8), .m 1 cJ]) (.seq (.run [.m 18 aQ,(.c 19 dc [cD,(.k (.str [44]))]), .o 20 (.un .not cZ)]) aei)
abbrev aek:AC:= .block 0 (.loop (.seq (.seq (.run [.m 7 aQ, .c 8 cm [bF]]) (.cond bY .skip (.exit 0))) (.block 1 aej)))
abbrev ael:AC:= .seq (.run [.o 6 (.mv (.k (.slice .full 0 [])))]) (.seq aek (.seq (.run [.m 24 a8, .m 6 de]) .ret))
abbrev aem:AC:= .seq (.run [.o 2 (.mv (.k (.bool false)))]) (.seq (.run [.m 3 aQ, .o 4 (.c6 bE), .o 5 (.av cQ 2), .o 6 (.av bf 0), .o 7 (.load bG false 1), .o 8 (.bin .eql bF (.k (.int .i64 0))), .m 2 bY]) .ret)
abbrev aen:AC:= .seq (.run [.m 6 aQ, .c 7 dd [bG], .o 5 (.alloc [(.int .i64 0),(.str []),(.int .i64 0),(.int .i64 0)]), .op none none (.store bf bF 4)]) (.seq (.run [.o 8 (.av bf 0), .o 9 (.load bY false 1), .o 10 (.bin .eql cv (.k (.int .i64 3))), .m 11 bL, .g 12 11 false (.av bf 0), .g 13 11 false (.load b7 false 1), .g 14 11 false (.bin .eql bT (.k (.int .i64 4))), .o 15 (.pick bS (.k (.bool true)) bK), .m 16 cq, .g 17 16 true (.av bf 1), .g 18 16 true (.load cJ false 1), .g 19 16 true (.mv a8), .g 20 16 true (.bin .eql cD cZ), .o 21 (.pick b8 dh (.k (.bool false))), .m 4 dt]) .ret)
abbrev aeo:AC:= .seq (.run [.o 4 (.mv (.k (.bool false)))]) aen
abbrev aep:AC:= .seq (.run [.m 4 aQ, .c 5 cm [cQ]]) (.cond bf (.run [.m 6 aQ, .m 7 a8, .m 8 aQ, .c 9 dd [bY], .o 10 (.oH cv 3 false 1), .o 11 (.build [(.int .i64 0),(.int .i64 0)] [(0,(1,bF)),(1,(1,bL))]), .o 12 (.c6 bG), .o 13 (.av b7 2), .op none none (.store bT bS 2)]) .skip)
abbrev aeq:AC:= .par [.o 21 (.av bE 1), .o 22 (.load dt false 1), .m 23 aQ, .o 24 (.av bE 1), .o 25 (.load de false 1), .o 26 (.len c7), .o 27 (.bin .lss eh (.k (.int .i64 8))), .c 28 dU [dB,dR], .m 29 cQ, .o 30 (.build [(.str []),(.bool false)] [(0,(1,eJ)),(1,(1,eK))]), .o 31 (.cP [(.str []),(.bool false)] 2 1 [(0,fi)]), .o 32 (.app 2 24 dv fb), .o 33 (.av bE 1), .op none none (.store ff fj 1)] [(2,0),(3,0),(4,0),(5,0),(6,0),(7,0),(0,0),(1,1),(8,0),(9,0),(10,0),(11,0),(12,0),(13,0)]
abbrev aer:AC:= .seq aeq (.seq (.run [.m 34 aQ,(.c 35 dc [fx,(.k (.str [44]))]), .o 36 (.un .not fu)]) (.cond fz (.exit 0) .skip))
abbrev aes:AC:= .block 1 (.seq (.run [.m 19 aQ,(.c 20 dc [cZ,(.k (.str [114,101,102]))]), .m 4 dh]) aer)
abbrev aet:AC:= .block 0 (.loop (.seq (.seq (.run [.m 17 aQ, .c 18 cm [cJ]]) (.cond cD .skip (.exit 0))) aes))
abbrev WE:AC:= .seq (.seq (.run [.m 41 aQ,(.c 42 dc [gK,(.k (.str [118,97,114]))])]) (.cond iA .skip (.exit 2))) (.block 3 (.run [.m 43 aQ, .o 44 (.av bE 2), .o 45 (.load jo false 1), .c 46 ib [iL,jD,(.k (.int .i64 16))], .o 47 (.av bE 2), .op none none (.store j9 jE 1)]))
abbrev WG:AC:= .seq (.run [.m 49 aQ, .c 50 fO [jq,(.k (.int .i64 1)),(.k (.bool true))], .m 48 kX, .o 51 (.ext jb 0), .o 52 (.ext jb 1), .o 53 (.av bE 3), .op none none (.store ku kb 1), .o 54 (.av bE 4), .op none none (.store kY kr 1)]) (.seq (.run [.o 55 (.load bE true 5), .op none none (.store dr lF 5)]) .ret)
abbrev aeu:AC:= .seq (.run [.m 37 aQ,(.c 38 cH [fX,(.k (.str [41]))])]) (.seq (.run [.m 39 aQ,(.c 40 cH [gm,(.k (.str [123]))])]) (.seq (.block 2 (.loop WE)) WG))
abbrev aev:AC:= .seq (.seq (.run [.m 10 aQ, .c 11 cm [bL], .m 12 bS, .g 13 12 true (.mv aQ),(.d 14 12 true fc [bT,(.k (.str [41]))]), .g 15 12 true (.un .not bK), .o 16 (.pick b7 cq (.k (.bool false)))]) (.cond b8 aet .skip)) aeu
abbrev aew:AC:= .seq (.run [.m 5 aQ, .c 6 dU [bf,(.k (.bool true))], .o 7 (.build [(.str []),(.slice .full 0 []),(.slice .full 0 []),(.slice .full 0 []),(.slice .full 0 [])] [(0,(1,bG))]), .o 3 (.alloc [(.str []),(.slice .full 0 []),(.slice .full 0 []),(.slice .full 0 []),(.slice .full 0 [])]), .op none none (.store bE bF 5)]) (.seq (.run [.m 8 aQ,(.c 9 cH [bY,(.k (.str [40]))])]) aev)
abbrev aex:AC:= .seq (.run [.o 2 (.alloc [(.str []),(.slice .full 0 []),(.slice .full 0 []),(.slice .full 0 []),(.slice .full 0 [])])]) aew
abbrev aey:AC:= .par [.m 3 aQ, .o 4 (.c6 bE), .o 5 (.av cQ 0), .o 6 (.load bf false 1), .m 7 aQ, .o 8 (.c6 bF), .o 9 (.av bY 1), .o 10 (.load cv false 1), .o 11 (.cu bG bL 4), .o 12 (.load bS true 4), .op none none (.store dr b7 4)] [(0,0),(1,0),(2,0),(3,0),(4,0),(5,0),(6,0),(7,0),(8,0),(9,0),(10,0)]
abbrev aez:AC:= .seq (.run [.o 2 (.alloc [(.int .i64 0),(.str []),(.int .i64 0),(.int .i64 0)])]) (.seq aey .ret)
abbrev aeA:AC:= .cond cQ (.seq (.run [.o 2 (.mv (.k (.slice .full 0 [])))]) .ret) .skip
abbrev aeB:AC:= .seq (.run [.o 2 (.mv (.k (.slice .full 0 [])))]) (.seq (.seq (.run [.m 3 aQ, .nil (some 4) none false bE]) aeA) (.seq (.run [.o 5 (.cP [(.str [])] 1 0 []), .m 6 aQ, .o 7 (.app 1 16 bf bG), .m 2 bF]) .ret))
abbrev aeC:AC:= .cond cQ (.seq (.run [.o 2 (.mv (.k (.slice .full 0 [])))]) .ret) .skip
abbrev aeD:AC:= .seq (.run [.o 2 (.mv (.k (.slice .full 0 [])))]) (.seq (.seq (.run [.m 3 aQ, .nil (some 4) none false bE]) aeC) (.seq (.run [.o 5 (.cP [(.str []),(.bool false)] 2 0 []), .m 6 aQ, .o 7 (.app 2 24 bf bG), .m 2 bF]) .ret))
abbrev aeE:AC:= .par [.o 26 (.av bL 2), .o 27 (.load eh false 1), .c 28 fZ [dR], .o 29 (.av bL 5), .o 30 (.load eK true 4), .c 31 kW [fi], .o 32 (.av bS 2), .op none none (.store fj eJ 1), .o 33 (.av bS 5), .op none none (.store ff fb 4), .o 34 (.av bS 10), .op none none (.store fx (.k (.slice .full 0 [])) 1)] [(0,0),(1,0),(2,0),(3,0),(4,1),(5,0),(6,0),(7,0),(8,0),(9,0),(10,0),(11,0)]
abbrev aeF:AC:= .block 3 (.seq (.run [.o 40 (.cu fz gx 6), .o 41 (.load gT true 6), .o 13 (.alloc [(.bool false),(.str []),(.int .i64 0),(.int .i64 0),(.str []),(.slice .full 0 [])]), .op none none (.store bT gK 6)]) (.seq (.run [.o 42 (.av bT 2), .o 43 (.load iA true 4), .c 44 kW [iL], .o 45 (.av bT 2), .op none none (.store jD jo 4)]) (.run [.o 46 (.av bS 10), .o 47 (.load jE false 1), .o 48 (.load bT true 6), .o 49 (.cP [(.bool false),(.str []),(.int .i64 0),(.int .i64 0),(.str []),(.slice .full 0 [])] 6 1 [(0,jb)]), .o 50 (.app 6 80 j9 jq), .o 51 (.av bS 10), .op none none (.store kb kX 1)])))
abbrev aeG:AC:= .seq (.cond gm .skip (.exit 2)) (.seq aeF (.run [.o 52 (.bin .add gx (.k (.int .i64 1))), .m 38 kr]))
abbrev aeH:AC:= .seq (.run [.o 35 (.av bL 10), .o 36 (.load fu false 1), .o 37 (.len fz), .o 38 (.mv (.k (.int .i64 0)))]) (.block 2 (.loop (.seq (.run [.o 39 (.bin .lss gx fX)]) aeG)))
abbrev aeI:AC:= .seq aeH (.seq (.run [.o 54 (.av bL 11), .o 55 (.load kY false 1), .m 56 a8, .m 57 dr, .c 58 jn [lF,mI,nu], .m 53 mJ, .o 59 (.ext ku 0), .o 60 (.ext ku 1), .o 61 (.av bS 11), .op none none (.store p8 kZ 1), .m 1 oE]) (.seq (.run [.o 63 (.av bL 12), .o 64 (.load qa false 1), .m 65 a8, .m 66 dr, .c 67 jn [rj,uD,vW], .m 62 uE, .o 68 (.ext p9 0), .o 69 (.ext p9 1), .o 70 (.av bS 12), .op none none (.store vX uF 1), .m 1 xK]) (.run [.m 71 bY, .o 72 (.load bS true 13), .o 73 (.cP [(.int .i64 0),(.int .i64 0),(.slice .full 0 []),(.str []),(.str []),(.int .i64 0),(.int .i64 0),(.str []),(.slice .full 0 []),(.bool false),(.slice .full 0 []),(.slice .full 0 []),(.slice .full 0 [])] 13 1 [(0,zB)]), .o 74 (.app 13 208 BQ BR), .m 8 BS])))
abbrev aeJ:AC:= .seq (.run [.o 22 (.load bL true 13), .o 11 (.alloc [(.int .i64 0),(.int .i64 0),(.slice .full 0 []),(.str []),(.str []),(.int .i64 0),(.int .i64 0),(.str []),(.slice .full 0 []),(.bool false),(.slice .full 0 []),(.slice .full 0 []),(.slice .full 0 [])]), .op none none (.store bS dv 13)]) (.seq (.seq (.run [.m 23 dr]) (.cond dB (.run [.m 24 a8, .o 25 (.av bS 0), .op none none (.store c7 de 1)]) .skip)) (.seq aeE aeI))
abbrev aeK:AC:= .seq (.run [.o 18 (.cu bK b8 13), .o 19 (.load cD true 13), .o 10 (.alloc [(.int .i64 0),(.int .i64 0),(.slice .full 0 []),(.str []),(.str []),(.int .i64 0),(.int .i64 0),(.str []),(.slice .full 0 []),(.bool false),(.slice .full 0 []),(.slice .full 0 []),(.slice .full 0 [])]), .op none none (.store bL cZ 13)]) (.seq (.run [.m 20 a8, .o 21 (.bin .add dh (.k (.int .i64 1))), .m 1 dt]) aeJ)
abbrev aeL:AC:= .seq (.cond cJ .skip (.exit 0)) (.seq (.block 1 aeK) (.run [.o 75 (.bin .add b8 (.k (.int .i64 1))), .m 16 BT]))
abbrev aeM:AC:= .seq (.run [.m 14 aQ, .o 15 (.len bK), .o 16 (.mv (.k (.int .i64 0)))]) (.block 0 (.loop (.seq (.run [.o 17 (.bin .lss b8 cq)]) aeL)))
abbrev aeN:AC:= .seq (.run [.o 6 (.mv (.k (.slice .full 0 []))), .o 7 (.mv (.k (.int .i64 0)))]) (.seq (.run [.o 8 (.mv (.k (.slice .full 0 [])))]) (.seq aeM (.seq (.run [.m 76 bY, .m 77 a8, .m 6 zC, .m 7 BU]) .ret)))
abbrev aeO:AC:= .cond bT (.seq (.run [.o 2 (.mv (.k (.bool false)))]) .ret) .skip
abbrev aeP:AC:= .seq (.block 1 (.seq (.run [.o 9 (.cu bf bF 1), .o 10 (.load cv false 1), .m 4 bL]) (.seq (.run [.m 11 cQ, .c 12 jM [bS], .o 13 (.un .not b7)]) aeO))) (.run [.o 14 (.bin .add bF (.k (.int .i64 1))), .m 7 bK])
abbrev aeQ:AC:= .block 0 (.loop (.seq (.run [.o 8 (.bin .lss bF bG)]) (.seq (.cond bY .skip (.exit 0)) aeP)))
abbrev aeR:AC:= .seq (.seq (.run [.m 5 aQ, .o 6 (.len bf), .o 7 (.mv (.k (.int .i64 0)))]) aeQ) (.seq (.run [.o 2 (.mv (.k (.bool true)))]) .ret)
abbrev aeS:AC:= .seq (.run [.o 2 (.mv (.k (.bool false)))]) aeR
abbrev aeT:AC:= .cond b8 (.seq (.run [.o 2 (.mv (.k (.bool false)))]) .ret) .skip
abbrev aeU:AC:= .cond fx (.seq (.run [.o 2 (.mv (.k (.bool false)))]) .ret) .skip
abbrev aeV:AC:= .block 1 (.seq (.run [.m 23 aQ, .m 24 bE, .o 25 (.na dB de), .c 26 ph [c7], .o 27 (.un .not eh), .m 28 dR, .g 29 28 true (.mv aQ), .g 30 28 true (.mv bE), .g 31 28 true (.na eK fi), .d 32 28 true sH [fb], .g 33 28 true (.un .not fj), .o 34 (.pick eJ ff (.k (.bool false)))]) aeU)
abbrev aeW:AC:= .seq (.seq (.run [.m 17 bE, .m 18 aQ, .o 19 (.ko cD), .o 20 (.bin .lss cJ cZ)]) (.cond dh .skip (.exit 0))) (.seq aeV (.run [.m 21 bE, .o 22 (.bin .add dt (.k (.int .i64 1))), .m 3 dv]))
abbrev aeX:AC:= .seq (.seq (.run [.o 3 (.mv (.k (.int .i64 1)))]) (.block 0 (.loop aeW))) (.seq (.run [.m 35 aQ, .c 36 uA [fu], .o 37 (.un .not fz), .m 2 fX]) .ret)
abbrev aeY:AC:= .seq (.seq (.run [.m 4 aQ, .o 5 (.bin .eql cQ (.k (.str []))), .m 6 bf, .g 7 6 false (.mv aQ), .g 8 6 false (.ko bF), .g 9 6 false (.bin .gtr bY (.k (.int .i64 8))), .o 10 (.pick bG (.k (.bool true)) cv), .m 11 bL, .g 12 11 false (.mv aQ), .g 13 11 false (.na b7 (.k (.int .i64 0))), .d 14 11 false ph [bT], .g 15 11 false (.un .not bK), .o 16 (.pick bS (.k (.bool true)) cq)]) aeT) aeX
abbrev aeZ:AC:= .seq (.run [.o 2 (.mv (.k (.bool false)))]) aeY
abbrev ae0:AC:= .run [.o 8 (.av a8 1), .o 9 (.load bY false 1), .o 10 (.bin .eql cv (.k (.int .i64 1))), .m 11 bL, .g 12 11 false (.av a8 1), .g 13 11 false (.load b7 false 1), .g 14 11 false (.bin .eql bT (.k (.int .i64 3))), .o 15 (.pick bS (.k (.bool true)) bK), .m 16 cq, .g 17 16 false (.av a8 1), .g 18 16 false (.load cJ false 1), .g 19 16 false (.bin .eql cD (.k (.int .i64 5))), .o 20 (.pick b8 (.k (.bool true)) cZ), .m 21 dh, .g 22 21 false (.av a8 1), .g 23 21 false (.load dv false 1), .g 24 21 false (.bin .eql dB (.k (.int .i64 6))), .o 25 (.pick dt (.k (.bool true)) de), .m 26 c7, .g 27 26 false (.av a8 1), .g 28 26 false (.load dR false 1), .g 29 26 false (.bin .eql eJ (.k (.int .i64 9))), .g 30 26 false (.mv eK), .g 31 30 true (.av a8 9), .g 32 30 true (.load fb false 1), .g 33 26 false (.pick fi fj (.k (.bool false))), .o 34 (.pick eh (.k (.bool true)) ff), .m 3 fx]
abbrev ae1:AC:= .run [.o 51 (.av a8 1), .o 52 (.load kb false 1), .o 53 (.bin .lss kr (.k (.int .i64 1))), .m 54 ku, .g 55 54 false (.av a8 1), .g 56 54 false (.load lF false 1), .g 57 54 false (.bin .gtr mI (.k (.int .i64 10))), .o 58 (.pick kY (.k (.bool true)) nu), .m 59 mJ, .g 60 59 false (.av a8 2), .g 61 59 false (.load oE false 1), .d 62 59 false sG [p8], .g 63 59 false (.un .not p9), .o 64 (.pick kZ (.k (.bool true)) qa), .m 65 rj, .g 66 65 false (.mv bE), .g 67 65 false (.mv vW), .g 68 67 true (.av a8 5), .g 69 67 true (.load uF true 4), .d 70 67 true nJ [xK], .g 71 67 true (.un .not vX), .g 72 65 false (.pick uE BQ (.k (.bool false))), .o 73 (.pick uD (.k (.bool true)) zB), .m 74 BR, .g 75 74 false (.mv bE), .g 76 74 false (.un .not BT), .g 77 74 false (.mv zC), .g 78 77 true (.av a8 5), .g 79 77 true (.load zD true 4), .d 80 77 true qu [JK], .g 81 77 true (.un .not JL), .g 82 74 false (.pick BU JM (.k (.bool false))), .o 83 (.pick BS (.k (.bool true)) JN), .m 84 JO, .g 85 84 false (.av a8 9), .g 86 84 false (.load JQ false 1), .g 87 84 false (.mv JR), .g 88 87 true (.av a8 1), .g 89 87 true (.load JT false 1), .g 90 87 true (.bin .neq JU (.k (.int .i64 9))), .g 91 84 false (.pick JS JV (.k (.bool false))), .o 92 (.pick JP (.k (.bool true)) JW)]
abbrev ae2:AC:= .cond JX (.seq (.run [.o 2 (.mv (.k (.bool false)))]) .ret) .skip
abbrev ae3:AC:= .run [.m 93 cQ, .m 94 Pr, .g 95 94 true (.av a8 3), .g 96 94 true (.load Pu false 1), .d 97 94 true jM [Ww], .g 98 94 true (.un .not Wx), .o 99 (.pick Ps Wy (.k (.bool false))), .m 100 Wz, .g 101 100 false (.mv cQ), .g 102 100 false (.un .not Rw), .g 103 100 false (.mv Rx), .g 104 103 true (.av a8 3), .g 105 103 true (.load Rz false 1), .g 106 103 true (.bin .neq RA (.k (.str []))), .g 107 100 false (.pick Ry RB (.k (.bool false))), .g 108 100 false (.mv RC), .g 109 108 true (.mv bf), .g 110 108 true (.mv RF), .g 111 110 true (.av a8 3), .g 112 110 true (.load RH false 1), .d 113 110 true jM [RI], .g 114 108 true (.pick RG RJ (.k (.bool false))), .g 115 108 true (.un .not RK), .g 116 100 false (.pick RE RL (.k (.bool false))), .o 117 (.pick Rv (.k (.bool true)) RM)]
abbrev ae4:AC:= .cond RN (.seq (.run [.o 2 (.mv (.k (.bool false)))]) .ret) .skip
abbrev ae5:AC:= .run [.m 118 bf, .o 119 (.av a8 4), .o 120 (.load RP false 1), .o 121 (.bin .neq RQ (.k (.str []))), .o 122 (.w9 true RO RR), .m 123 RS, .g 124 123 false (.mv bf), .g 125 123 false (.mv RU), .g 126 125 true (.av a8 4), .g 127 125 true (.load RW false 1), .d 128 125 true jM [RX], .g 129 125 true (.un .not RY), .g 130 123 false (.pick RV RZ (.k (.bool false))), .o 131 (.pick RT (.k (.bool true)) R0), .m 132 R1, .g 133 132 false (.mv bf), .g 134 132 false (.un .not R3), .g 135 132 false (.mv R4), .g 136 135 true (.av a8 10), .g 137 135 true (.load R6 false 1), .g 138 135 true (.len R7), .g 139 135 true (.bin .gtr R8 (.k (.int .i64 0))), .g 140 132 false (.pick R5 R9 (.k (.bool false))), .o 141 (.pick JY (.k (.bool true)) Sb)]
abbrev ae6:AC:= .cond Sc (.seq (.run [.o 2 (.mv (.k (.bool false)))]) .ret) .skip
abbrev ae7:AC:= .cond Sl (.seq (.run [.o 2 (.mv (.k (.bool false)))]) .ret) .skip
abbrev ae8:AC:= .seq (.block 1 (.seq (.run [.o 147 (.cu JZ D0 6), .o 148 (.load Sg true 6), .o 7 (.alloc [(.bool false),(.str []),(.int .i64 0),(.int .i64 0),(.str []),(.slice .full 0 [])]), .op none none (.store bF Si 6)]) (.seq (.run [.o 149 (.load bF true 6), .c 150 vV [Sj], .o 151 (.un .not Sk)]) ae7))) (.run [.o 152 (.bin .add D0 (.k (.int .i64 1))), .m 145 ZQ])
abbrev ae9:AC:= .block 0 (.loop (.seq (.run [.o 146 (.bin .lss D0 Se)]) (.seq (.cond Sf .skip (.exit 0)) ae8)))
abbrev afa:AC:= .run [.o 153 (.av a8 11), .o 154 (.load ZR false 1), .o 155 (.len ZS), .o 156 (.bin .eql ZT (.k (.int .i64 0))), .m 157 ZU, .g 158 157 false (.av a8 1), .g 159 157 false (.load ZW false 1), .g 160 157 false (.bin .eql ZX (.k (.int .i64 5))), .o 161 (.pick ZV (.k (.bool true)) ZY), .m 162 ZZ, .g 163 162 false (.av a8 1), .g 164 162 false (.load Z1 false 1), .g 165 162 false (.bin .eql Z2 (.k (.int .i64 6))), .o 166 (.pick Z0 (.k (.bool true)) Z3), .m 167 Z4, .g 168 167 true (.av a8 12), .g 169 167 true (.load Z6 false 1), .g 170 167 true (.len Z7), .g 171 167 true (.bin .eql Z8 (.k (.int .i64 0))), .g 172 167 true (.mv Z9), .g 173 172 false (.av a8 1), .g 174 172 false (.load aad false 1), .g 175 172 false (.bin .eql aae (.k (.int .i64 5))), .g 176 167 true (.pick aac (.k (.bool true)) aaf), .o 177 (.pick Z5 aag (.k (.bool false))), .m 2 aah]
abbrev WH:AC:= .seq (.seq (.run [.o 142 (.av a8 10), .o 143 (.load Sd false 1), .o 144 (.len JZ), .o 145 (.mv (.k (.int .i64 0)))]) ae9) (.seq afa .ret)
abbrev WI:AC:= .seq (.seq ae5 ae6) WH
abbrev WJ:AC:= .seq (.seq ae3 ae4) WI
abbrev WK:AC:= .seq (.seq ae1 ae2) WJ
abbrev WL:AC:= .seq (.run [.o 48 (.av a8 1), .o 49 (.load jb false 1), .o 50 (.bin .eql jq (.k (.int .i64 4))), .m 5 kX]) WK
abbrev WM:AC:= .seq (.run [.o 35 (.av a8 1), .o 36 (.load fu false 1), .o 37 (.bin .eql fz (.k (.int .i64 1))), .m 38 fX, .g 39 38 false (.av a8 1), .g 40 38 false (.load gm false 1), .g 41 38 false (.bin .eql gT (.k (.int .i64 2))), .o 42 (.pick gx (.k (.bool true)) gK), .m 43 iA, .g 44 43 false (.av a8 1), .g 45 43 false (.load jo false 1), .g 46 43 false (.bin .eql jD (.k (.int .i64 10))), .o 47 (.pick iL (.k (.bool true)) jE), .m 4 j9]) WL
abbrev WN:AC:= .seq ae0 WM
abbrev afb:AC:= .seq (.run [.o 1 (.box aQ), .o 2 (.mv (.k (.bool false)))]) WN
abbrev afc:AC:= .seq (.run [.o 4 (.mv (.k (.bool false)))]) (.seq (.run [.m 5 a8, .m 6 bf, .g 7 6 true (.mv aQ), .d 8 6 true l6 [bF], .o 9 (.pick bG bY (.k (.bool false))), .m 10 cv, .g 11 10 false (.mv a8), .g 12 10 false (.un .not bS), .g 13 10 false (.mv b7), .g 14 13 true (.mv aQ), .g 15 13 true (.bin .eql bK (.k (.str []))), .g 16 10 false (.pick bT cq (.k (.bool false))), .o 17 (.pick bL (.k (.bool true)) b8), .m 4 cJ]) .ret)
abbrev afd:AC:= .seq (.run [.o 2 (.box aQ), .o 4 (.mv (.k (.bool false)))]) (.seq (.run [.m 5 a8, .m 6 bf, .g 7 6 true (.load dr true 4), .d 8 6 true nK [bF], .o 9 (.pick bG bY (.k (.bool false))), .m 10 cv, .g 11 10 false (.mv a8), .g 12 10 false (.un .not bS), .g 13 10 false (.mv b7), .g 14 13 true (.load dr true 4), .d 15 13 true uB [bK], .g 16 10 false (.pick bT cq (.k (.bool false))), .o 17 (.pick bL (.k (.bool true)) b8), .m 4 cJ]) .ret)
abbrev afe:AC:= .cond c7 (.seq (.run [.o 2 (.mv (.k (.bool false)))]) .ret) .skip
abbrev aff:AC:= .seq (.run [.o 9 (.cu bf bF 6), .o 10 (.load cv true 6), .o 4 (.alloc [(.bool false),(.str []),(.int .i64 0),(.int .i64 0),(.str []),(.slice .full 0 [])]), .op none none (.store cQ bL 6)]) (.seq (.run [.o 11 (.av cQ 1), .o 12 (.load bS false 1), .o 13 (.av cQ 0), .o 14 (.load bT false 1), .c 15 nr [b7,bK], .o 16 (.un .not cq), .m 17 b8, .g 18 17 false (.av cQ 2), .g 19 17 false (.load cD true 4), .g 20 17 false (.av cQ 0), .g 21 17 false (.load dh false 1), .g 22 17 false (.un .not dt), .d 23 17 false pf [cZ,dv], .g 24 17 false (.un .not dB), .o 25 (.pick cJ (.k (.bool true)) de)]) afe)
abbrev afg:AC:= .seq (.cond bY .skip (.exit 0)) (.seq (.block 1 aff) (.run [.o 26 (.bin .add bF (.k (.int .i64 1))), .m 7 eh]))
abbrev afh:AC:= .seq (.run [.m 5 aQ, .o 6 (.len bf), .o 7 (.mv (.k (.int .i64 0)))]) (.block 0 (.loop (.seq (.run [.o 8 (.bin .lss bF bG)]) afg)))
abbrev afi:AC:= .seq afh (.seq (.run [.o 2 (.mv (.k (.bool true)))]) .ret)
abbrev afj:AC:= .seq (.run [.o 2 (.mv (.k (.bool false)))]) afi
abbrev afk:AC:= .seq (.block 1 (.seq (.run [.o 13 (.cu cv bS 13), .o 14 (.load bT true 13), .o 5 (.alloc [(.int .i64 0),(.int .i64 0),(.slice .full 0 []),(.str []),(.str []),(.int .i64 0),(.int .i64 0),(.str []),(.slice .full 0 []),(.bool false),(.slice .full 0 []),(.slice .full 0 []),(.slice .full 0 [])]), .op none none (.store bf bK 13)]) (.run [.m 15 bE, .o 16 (.load bf true 13), .c 17 kV [b8], .o 18 (.bin .add cq cJ), .m 3 cD]))) (.run [.o 19 (.bin .add bS (.k (.int .i64 1))), .m 11 cZ])
abbrev afl:AC:= .block 0 (.loop (.seq (.run [.o 12 (.bin .lss bS bL)]) (.seq (.cond b7 .skip (.exit 0)) afk)))
abbrev afm:AC:= .seq (.block 3 (.seq (.run [.o 25 (.cu dt dB 13), .o 26 (.load c7 true 13), .o 7 (.alloc [(.int .i64 0),(.int .i64 0),(.slice .full 0 []),(.str []),(.str []),(.int .i64 0),(.int .i64 0),(.str []),(.slice .full 0 []),(.bool false),(.slice .full 0 []),(.slice .full 0 []),(.slice .full 0 [])]), .op none none (.store bF eh 13)]) (.run [.m 27 bE, .o 28 (.load bF true 13), .c 29 kV [eJ], .o 30 (.bin .add dR eK), .m 3 fi]))) (.run [.o 31 (.bin .add dB (.k (.int .i64 1))), .m 23 fb])
abbrev afn:AC:= .block 2 (.loop (.seq (.run [.o 24 (.bin .lss dB dv)]) (.seq (.cond de .skip (.exit 2)) afm)))
abbrev afo:AC:= .seq (.seq (.run [.o 20 (.av a8 12), .o 21 (.load dh false 1), .o 22 (.len dt), .o 23 (.mv (.k (.int .i64 0)))]) afn) (.seq (.run [.m 32 bE, .m 2 fj]) .ret)
abbrev afp:AC:= .seq (.seq (.run [.o 8 (.av a8 11), .o 9 (.load bY false 1), .o 10 (.len cv), .o 11 (.mv (.k (.int .i64 0)))]) afl) afo
abbrev afq:AC:= .seq (.run [.o 1 (.box aQ), .o 2 (.mv (.k (.int .i64 0)))]) (.seq (.run [.o 3 (.mv (.k (.int .i64 1)))]) afp)
abbrev afr:AC:= .cond bf (.seq (.run [.o 2 (.mv (.k (.slice .full 0 [])))]) .ret) .skip
abbrev afs:AC:= .seq (.seq (.run [.o 3 (.load a8 true 4), .c 4 nK [bE], .o 5 (.un .not cQ)]) afr) (.seq (.run [.o 6 (.load a8 true 4),(.c 7 gN [bG,(.k (.slice .full 0 []))]), .m 2 bF]) .ret)
abbrev aft:AC:= .seq (.run [.o 1 (.box aQ), .o 2 (.mv (.k (.slice .full 0 [])))]) afs
abbrev afu:AC:= .seq (.run [.o 4 (.mv (.k (.bool false)))]) (.seq (.run [.m 5 aQ, .m 6 a8, .c 7 fB [bf,bG], .o 8 (.bin .geq bF (.k (.int .i64 0))), .m 4 bY]) .ret)
abbrev afv:AC:= .seq (.run [.o 2 (.box aQ), .o 3 (.mv (.k (.bool false)))]) (.seq (.run [.o 4 (.av dr 0), .o 5 (.load cQ false 1), .o 6 (.load a8 false 1), .o 7 (.bin .eql bf bG), .m 3 bF]) .ret)
abbrev afw:AC:= .seq (.run [.o 16 (.cu b7 bK 17), .o 17 (.load b8 true 17), .o 7 (.alloc [(.int .i64 0),(.int .i64 0),(.slice .full 0 []),(.str []),(.str []),(.int .i64 0),(.int .i64 0),(.str []),(.slice .full 0 []),(.bool false),(.slice .full 0 []),(.slice .full 0 []),(.slice .full 0 []),(.int .i64 0),(.int .i64 0),(.int .i64 0),(.int .i64 0)]), .op none none (.store bF cJ 17)]) (.seq (.run [.o 18 (.av bF 0), .o 19 (.av cD 1), .o 20 (.load cZ false 1), .o 21 (.bin .eql dh (.k (.int .i64 4)))]) (.cond dt (.run [.m 22 bf, .o 23 (.av bF 0), .o 24 (.av dB 4), .o 25 (.load de false 1), .o 26 (.cP [(.str [])] 1 1 [(0,c7)]), .o 27 (.app 1 16 dv eh), .m 5 dR]) .skip))
abbrev afx:AC:= .seq (.cond cq .skip (.exit 0)) (.seq (.block 1 afw) (.run [.o 28 (.bin .add bK (.k (.int .i64 1))), .m 14 eJ]))
abbrev afy:AC:= .seq (.run [.m 8 aQ, .m 9 aQ, .m 10 a8, .c 11 lk [cv,bL], .c 12 fT [bY,bS], .o 13 (.len b7), .o 14 (.mv (.k (.int .i64 0)))]) (.block 0 (.loop (.seq (.run [.o 15 (.bin .lss bK bT)]) afx)))
abbrev afz:AC:= .seq (.run [.o 4 (.mv (.k (.slice .full 0 [])))]) (.seq (.run [.o 5 (.mv (.k (.slice .full 0 [])))]) (.seq afy (.seq (.run [.m 29 bf, .c 30 hO [eK]]) (.seq (.run [.m 31 bf, .c 32 iB [fb], .m 4 fj]) .ret))))
end Go.Abs
