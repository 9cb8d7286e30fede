/-
  What is proved here: part 4 of the road to the claim (Jm1, Jm2, Jm3, Rj1, Swap0, Swap2p, ToP, Al1, Al2, Al3, Prs3, Prs4, Prs5, Prs6, Lex3, MirParse, Prs7, Room1, Al4, Full1, Fits1, Fits2, MirEq, RefEq, RefEq2, LawTo1, AlP, SwP, Ck1, Tot, Tot2, Tot3, Parsed2, RefLex2, Ref4, Ref5, Ref6, MirNum, Ref7, Ref9, Ref10, Glue2, LawAll, Ck2, MayLaw, MayLaw2, MayLaw3, Lx, Lx2, Sim, Sim2, Sim3, Sim4, MayLaw4, Full2, Binds1, Full3, Full4, Prim, Prim2, Pr1, Binds2, BindsL, BindsL2, Full5, Full6, Full7, Pe1, Pe2, Bld, Pr2, Pr3, Pr4, Ps1, Ps2, PrMay, Pr5, Pr6).
  No conditions.
-/
import Derived.Test.YtiopamakecmpkaaGreatCkV3
import Derived.KernelRfl
import Derived.RowKit3
import Derived.Test.YtiopamakecmpkaaGreatRows
import Derived.WalkKit
import Derived.ProofKit
import Derived.OpenShut
import Derived.ShutString
import Derived.ChangeMaps5
import Derived.Lib.ItoaMem
import Derived.Shelf.Strings.Builder1
import Derived.Lib.Join

set_option linter.unusedSimpArgs false
set_option linter.unusedVariables false
namespace Go.Abs
set_option maxRecDepth 8000
open Go.Proofs
theorem Ps : ∀ (l:List Pc) (n:Nat) (h:Sh),h.lo.length=n→h.hi.length=n→rj h.L.length ((l.map fun f=>Sm.eW f.body).flatten)→
 ∃ lo hi,Sh.go n h l = ⟨h.L++Ip n l,h.lo++lo,h.hi++hi⟩∧lo.length=l.length∧hi.length=l.length∧
  ∀ (i:Nat) (f:Pc),l[i]? = some f→∃ a e:List Im,lo[i]? = some (((h.L++a).length:Int)+1)∧hi[i]? = some (((h.L++a++Sm.mS ((n+i:Nat):Int) 0 (-1) 0 f.body).length:Int)+1)∧Ip n l=a++Sm.mS ((n+i:Nat):Int) 0 (-1) 0 f.body++e
 | [],n,h,hl,hh,_=>⟨[],[],by simp[Sh.go,Ip],rfl,rfl,fun i f h=>by simp at h⟩
 | f::l,n,h,hl,hh,hi=>by
  simp only[List.map_cons,List.flatten_cons]at hi
  simp only[Sh.go,Ip]
  have e1:=BG (n:Int) 0 (-1) 0 h.L f.body hi.left
  obtain⟨lo,jd,h2,h3,h4,h5⟩:=Ps l (n+1) ⟨Im.rows (n:Int) 0 (-1) 0 h.L f.body,h.lo++ [(h.L.length:Int)+1],h.hi++ [((Im.rows (n:Int) 0 (-1) 0 h.L f.body).length:Int)+1]⟩ (by simp[hl]) (by simp[hh]) (by
   show rj (Im.rows (n:Int) 0 (-1) 0 h.L f.body).length _
   rw[e1,List.length_append,MP];exact hi.right)
  refine⟨((h.L.length:Int)+1)::lo,(((Im.rows (n:Int) 0 (-1) 0 h.L f.body).length:Int)+1)::jd, ?_,by simp[h3],by simp[h4],fun i g jd=>?_⟩
  ·rw[h2,e1];simp
  ·cases i with
   |zero=>
    simp only[List.getElem?_cons_zero,Option.some.injEq]at jd
    subst jd
    exact⟨[],Ip (n+1) l,by simp,by rw[e1];simp,by simp⟩
   |succ i=>
    simp only[List.getElem?_cons_succ]at jd
    obtain⟨a,e,g1,g2,g3⟩:=h5 i g jd
    have en:n+1+i=n+(i+1):=by omega
    rw[en]at g2 g3
    refine⟨Sm.mS n 0 (-1) 0 f.body++a,e, ?_, ?_,by rw[g3];simp⟩
    ·rw[List.getElem?_cons_succ,g1,e1];simp
    ·rw[List.getElem?_cons_succ,g2,e1];simp
theorem af5 {p:Pg} (hb:p.may=true) {i:Nat} {f:Pc} (hf:p.procs[i]? = some f) (hs:Pc.aT p.procs<1000000000) (s:St) :
 aA Tryz.prog iD [.eJ (jo p) 0, .int .i64 (i:Int)] s (.slice .shared 17 ((Sm.mS (i:Int) 0 (-1) 0 f.body).map fD)) s:=by
 obtain⟨lo,hi,h1,h2,h3,h4⟩:=Ps p.procs 0 ⟨[],[],[]⟩ rfl rfl (acv hb)
 obtain⟨a,e,g1,g2,g3⟩:=h4 i f hf
 simp only[Nat.zero_add,List.nil_append]at g1 g2 g3 h1
 refine afA hs (a:=a) (e:=e) ?_ ?_ ?_ s
 ·show(Sh.go 0 ⟨[],[],[]⟩ p.procs).lo[i]? = _
  rw[h1];exact g1
 ·show(Sh.go 0 ⟨[],[],[]⟩ p.procs).hi[i]? = _
  rw[h1];exact g2
 ·show(Sh.go 0 ⟨[],[],[]⟩ p.procs).L=_
  rw[h1];exact g3
theorem aA.aug {P:Program} {f:FuncId} {pre post:List D} {rows mW:List (List D)} {z z' k k':Nat} {b:Bool} (h:aA P f (pre++ .slice (.tok 0) z rows::post) ⟨[],[some k]⟩ (.tuple [.slice (.tok 0) z' mW, .bool b]) ⟨[],[some k']⟩)
 (hp:D.bN 0 0 pre=true) (ha:D.bN 0 0 post=true) (hw:D.kc 0 0 rows=true) (TV:D.kc 0 0 mW=true)
 {s:St} {t:Nat} (ht:s.aD[t]? = some (some k)):aA P f (pre++ .slice (.tok t) z rows::post) s (.tuple [.slice (.tok t) z' mW, .bool b]) ⟨s.az,s.aD.set t (some k')⟩:=by
 refine fh.frame [] [t] h (by simp) (by simp) (by simp) (by simpa using (List.getElem?_eq_some_iff.1 ht).1) rfl (fun i o' ds e1 e2=>by simp at e1) rfl (fun i t' e1=>?_)
  ?_ ?_ ?_
 ·cases i with
  |zero=>simp at e1;subst e1;simp[ht]
  |succ i=>simp at e1
 ·have h1:=fX [] [t] _ hp
  have h2:=fX [] [t] _ ha
  rw[gD]at h1 h2
  simp[gD,D.ey,Tag.ey,h1,h2,kD _ _ _ hw]
 ·have h1:=jf (n':=0) (m':=1) (Nat.le_refl 0) (Nat.zero_le 1) _ hp
  have h2:=jf (n':=0) (m':=1) (Nat.le_refl 0) (Nat.zero_le 1) _ ha
  rw[CQ]at h1 h2 ⊢
  simp only[List.length_nil,List.length_cons,List.all_append,h1,Bool.true_and,List.all_cons,h2,Bool.and_true,D.ok,Tag.ok,o6 (Nat.zero_le 0) (Nat.zero_le 1) _ hw]
  rfl
 ·rintro _ _ ⟨rfl,rfl⟩
  refine⟨by simp[D.back,D.ey,D.iu,Tag.ey,lF,kD _ _ _ TV], ?_⟩
  simp[St.back,lK]
theorem af6 {seen l:List ay} (hl:seen.length+l.length<1000000000):aA Tryz.prog rA [.slice (.tok 0) 1 (seen.map encStr), .slice .shared 1 (l.map encStr)] ⟨[],[some seen.length]⟩
 (.tuple [.slice (.tok 0) 1 ((lh seen l).1.map encStr), .bool (lh seen l).2]) ⟨[],[some (lh seen l).1.length]⟩:=by
 generalize hR:lh seen l=R
 refine aA.go J4 rfl fun B Q hB hQ=>?_
 have⟨hY,hZ,gA,gB⟩:=bu
 repeat' (first
 |simp only[go_sem,hY,hZ,gA,gB]
 |(with_reducible refine aB hQ ?_;exact aU))
 refine cq 0 1 (bn.ind (ι:=List ay×Nat×List ay×Nat) (fun i=>l.drop i.2.1=i.1∧lh i.2.2.1 i.1=R∧i.2.2.2=i.2.2.1.length∧i.2.2.1.length+i.1.length<1000000000) (fun i=>i.1.length)
  (fun i=> [(0, .slice (.tok 0) 1 (i.2.2.1.map encStr)),(8, .slice .shared 1 (l.map encStr)),(9, .int .i64 (l.length:Int)),(10, .int .i64 (i.2.1:Int))]) (fun i=>⟨[],[some i.2.2.2]⟩) ?_ (l,0,seen,seen.length) ⟨rfl,hR,rfl,hl⟩)
 clear hR
 rintro⟨rest,k,out,n⟩ ⟨h1,h2,h3,h4⟩ IH
 dsimp only at h1 h2 h3 h4
 subst h3
 cases rest with
 |nil=>
  have hY:=drop_nil h1
  simp only[lh]at h2
  subst h2
  repeat' (first
 |simp only[go_sem,hY,hZ,gA,gB]
 |(with_reducible refine aB hQ ?_;exact aU))
 | cons x rest=>
  obtain⟨hZ,g2,hY,g4⟩:=drop_cons h1
  have cd:k<4611686018427387904:=by omega
  simp only[List.length_cons]at h4
  have gA:(out.length+1)*17≤aF:=by unfold aF;omega
  have G6:=fun g s=>kr (l:=out) (by omega) x g s
  simp only[lh]at h2
  rcases Bool.eq_false_or_eq_true (fM out x)with c1|c1
  ·simp only [c1,if_true]at h2
   subst h2
   repeat' (first
 |simp only[go_sem,hY,hZ,gA,gB,c1]
 |(with_reducible refine CU (G6 _ _) ?_)
 | (with_reducible refine aB hQ ?_;exact aU))
  ·simp only [c1,Bool.false_eq_true,if_false]at h2
   repeat' (first
 |simp only[go_sem,hY,hZ,gA,gB,c1]
 |(with_reducible refine CU (G6 _ _) ?_)
 | (with_reducible refine aB hQ ?_;exact aU))
   refine eQ 0 1 ?_ ?_ (IH (rest,k+1,out++ [x],out.length+1) ⟨g2,h2,by simp,by simp;omega⟩ (Nat.lt_succ_self _))
   ·(simp only[go_sem,hY,hZ,gA,gB,aM cd,List.map_append,List.map_cons,List.map_nil,encStr];try exact bQ)
   ·(simp only[go_sem,hY,hZ,gA,gB,aM cd,List.map_append,List.map_cons,List.map_nil,encStr];try exact bQ)
theorem Vo {seen l:List ay} (hl:seen.length+l.length<1000000000) {s:St} {t:Nat} (ht:s.aD[t]? = some (some seen.length)):aA Tryz.prog rA [.slice (.tok t) 1 (seen.map encStr), .slice .shared 1 (l.map encStr)] s
 (.tuple [.slice (.tok t) 1 ((lh seen l).1.map encStr), .bool (lh seen l).2]) ⟨s.az,s.aD.set t (some (lh seen l).1.length)⟩:=
 (af6 hl).aug (pre:= []) (post:= [_]) rfl (by simp[D.bN,D.ok,Tag.ok,fw]) (fw _) (fw _) ht
set_option maxRecDepth 8000
open Go.Proofs
theorem YN (x:Im):(fD x)[2]? = some (.slice .shared 1 (x.s.labels.map encStr)):=nd rfl
theorem Vp (x:Im):(fD x)[3]? = some (.str x.s.name):=nd rfl
attribute [go_sem] YN Vp
def tn (fin:List ay) (label:ay):List Sm→Int×Bool
 | []=>if fM fin label then(-1,true)else(0,false)
 |v::l=>if fM v.labels label then(v.id,true)else tn fin label l
theorem Jz (fin:List ay) (label:ay) : ∀ l:List Sm,(tn fin label l).2=fM (ky l++fin) label
 | []=>by simp only[tn,ky,List.nil_append];split<;>simp_all
 | v::l=>by
  simp only[tn,ky,List.append_assoc]
  have h:=Jz fin label l
  rw[Bool.eq_iff_iff,kY]at h
  split
  ·rename_i c
   exact((kY _ _).2 (List.mem_append.2 (.inl ((kY _ _).1 c)))).symm
  ·rename_i c
   have:label∉v.labels:=fun m=>c ((kY _ _).2 m)
   rw[Bool.eq_iff_iff,h,kY]
   exact⟨fun m=>List.mem_append.2 (.inr m),fun m=>(List.mem_append.1 m).resolve_left this⟩
theorem MQ {p:Pg} {v:Sm} (ho:p.my) {f:Pc} (hf:f∈p.procs) (hv:v∈Sm.eW f.body):v.labels.length≤900000:=by
 have key : ∀ n:Nat,(∀ s:Sm,s.pre.length≤n→∀ v∈s.pre,v.labels.length≤s.size)∧(∀ l:List Sm,(Sm.eW l).length≤n→∀ v∈Sm.eW l,v.labels.length≤Sm.aT l):=by
  intro n
  induction n with
  |zero=>
   refine⟨fun s h=>by rw[Sm.Mq]at h;simp at h,fun l h v m=>?_⟩
   have:=List.eq_nil_of_length_eq_zero (Nat.le_zero.1 h)
   rw[this]at m;cases m
  | succ n ih=>
   have h1 : ∀ s:Sm,s.pre.length≤n+1→∀ v∈s.pre,v.labels.length≤s.size:=by
    intro s h v m
    rw[Sm.Mq]at h m
    simp only[List.length_cons,List.length_append]at h
    obtain⟨id,kind,labels,name,proc,x,has,args,aS,aL⟩:=s
    simp only[Sm.size]
    rcases List.mem_cons.1 m with rfl|m
    ·dsimp only;omega
    ·rcases List.mem_append.1 m with m | m
     ·have:=ih.2 aS (by dsimp only at h;omega) v m;omega
     ·have:=ih.2 aL (by dsimp only at h;omega) v m;omega
   refine⟨h1,fun l=>?_⟩
   induction l with
   |nil=>intro _ v m;cases m
   |cons s l Gd=>
    intro h v m
    simp only[Sm.eW,List.length_append]at h
    simp only[Sm.eW]at m
    simp only[Sm.aT]
    rcases List.mem_append.1 m with m|m
    ·have:=h1 s (by omega) v m;omega
    ·have:=Gd (by omega) v m;omega
 have h1:=(key (Sm.eW f.body).length).2 f.body (Nat.le_refl _) v hv
 have h2:=Pc.bJ hf
 have h3:=ho.procs.2.1
 simp only[Pc.size]at h2
 omega
theorem JA {p:Pg} (ho:p.my) {f:Pc} (hf:f∈p.procs):f.fin.length≤900000:=by
 have h2:=Pc.bJ hf
 have h3:=ho.procs.2.1
 simp only[Pc.size]at h2
 omega
theorem Hb {p:Pg} (ho:p.my) {f:Pc} (hf:f∈p.procs):(Sm.eW f.body).length≤900000:=by
 rw[← BF]
 have:=mn f.body
 have h2:=Pc.bJ hf
 have h3:=ho.procs.2.1
 simp only[Pc.size]at h2
 omega
theorem auh {p:Pg} (ho:p.my) (hb:p.may=true) {i:Nat} {f:Pc} (hf:p.procs[i]? = some f) (label:ay) (s:St) :
 aA Tryz.prog sY [.eJ (jo p) 0, .int .i64 (i:Int), .str label] s (.tuple [.int .i64 (tn f.fin label (Sm.eW f.body)).1, .bool (tn f.fin label (Sm.eW f.body)).2]) s:=by
 refine aA.pure ?_ (by simp[D.bN,D.ok,Bs]) rfl s
 obtain⟨sI,q7,wk⟩:=ho.procs
 have yF:=List.mem_of_getElem? hf
 have GZ:=fun s=>af5 hb hf (by omega) s
 have zI:=AH (i:Int) 0 (-1) 0 f.body
 have MR:=Hb ho yF
 have aui:=JA ho yF
 have EH:=fun s=>td (l:=f.fin) (by omega) label s
 have rr:i<p.procs.length:=(List.getElem?_eq_some_iff.1 hf).1
 generalize hI:Sm.mS (i:Int) 0 (-1) 0 f.body=I at *
 have hIl:I.length≤900000:=by rw[← zI,List.length_map]at MR;exact MR
 obtain⟨R,hR⟩ : ∃ R,tn f.fin label (Sm.eW f.body)=R:=⟨_,rfl⟩
 rw[hR]
 rw[← zI]at hR
 unfold S0
 refine aA.go Eg rfl fun B Q hB hQ=>?_
 have⟨hY,hZ,gA,gB⟩:=bu
 repeat' (first
 |simp only[go_sem,hY,hZ,gA,gB]
 |(with_reducible refine CU (GZ _) ?_)
 |(with_reducible refine aB hQ ?_;exact aU))
 refine cq 0 0 (bn.ind (ι:=List Im×Nat) (fun j=>I.drop j.2=j.1∧tn f.fin label (j.1.map Im.s)=R) (fun j=>j.1.length)
  (fun j=> [(0, .eJ (jo p) 0),(1, .int .i64 (i:Int)),(2, .str label),(12, .slice .shared 17 (I.map fD)),(13, .int .i64 (I.length:Int)),(14, .int .i64 (j.2:Int))]) (fun j=>⟨[],[]⟩) ?_ (I,0) ⟨rfl,hR⟩)
 clear hR
 rintro⟨rest,k⟩ ⟨h1,h2⟩ IH
 dsimp only at h1 h2
 cases rest with
 | nil=>
  have hY:=drop_nil h1
  simp only[List.map_nil,tn]at h2
  rcases Bool.eq_false_or_eq_true (fM f.fin label)with c1|c1
  ·simp only [c1,if_true]at h2
   subst h2
   repeat' (first
 |simp only[go_sem,hY,hZ,gA,gB,uf,hf,c1]
 |(with_reducible refine CU (EH _) ?_)
 | (with_reducible refine aB hQ ?_;exact aU))
  ·simp only [c1,Bool.false_eq_true,if_false]at h2
   subst h2
   repeat' (first
 |simp only[go_sem,hY,hZ,gA,gB,uf,hf,c1]
 |(with_reducible refine CU (EH _) ?_)
 |(with_reducible refine aB hQ ?_;exact aU))
 | cons a rest=>
  obtain⟨hZ,g2,hY,g4⟩:=drop_cons h1
  have cd:k<4611686018427387904:=by omega
  have Jm:a.s∈Sm.eW f.body:=by rw[← zI];exact List.mem_map_of_mem (List.mem_of_getElem? hZ)
  have zW:=fun s=>td (l:=a.s.labels) (by have:=MQ ho yF Jm;omega) label s
  simp only[List.map_cons,tn]at h2
  rcases Bool.eq_false_or_eq_true (fM a.s.labels label)with c1|c1
  ·simp only [c1,if_true]at h2
   subst h2
   repeat' (first
 |simp only[go_sem,hY,hZ,gA,gB,c1]
 |(with_reducible refine CU (zW _) ?_)
 | (with_reducible refine aB hQ ?_;exact aU))
  ·simp only [c1,Bool.false_eq_true,if_false]at h2
   repeat' (first
 |simp only[go_sem,hY,hZ,gA,gB,c1]
 |(with_reducible refine CU (zW _) ?_)
 | (with_reducible refine aB hQ ?_;exact aU))
   refine eQ 0 0 ?_ ?_ (IH (rest,k+1) ⟨g2,h2⟩ (Nat.lt_succ_self _))
   ·(simp only[go_sem,hY,hZ,gA,gB,aM cd];try exact bQ)
   ·(simp only[go_sem,hY,hZ,gA,gB,aM cd];try exact bQ)
theorem acw {p:Pg} (ho:p.my) (hb:p.may=true) {i:Nat} {f:Pc} (hf:p.procs[i]? = some f) (m:Im) (hm:m.proc=(i:Int)) (s:St) :
 aA Tryz.prog xw [.eJ (jo p) 0, .agg (fD m)] s (.bool (G9 f.labels m.s m.loop)) s:=by
 refine aA.pure ?_ (by simp[D.bN,D.ok,Bs,Sg]) rfl s
 have v8:=fun s=>auh ho hb hf m.s.name s
 have af7:=Jz f.fin m.s.name (Sm.eW f.body)
 rw[← hm]at v8
 obtain⟨A,hA⟩ : ∃ A,tn f.fin m.s.name (Sm.eW f.body)=A:=⟨_,rfl⟩
 rw[hA]at v8 af7
 obtain⟨R,hR⟩ : ∃ R,G9 f.labels m.s m.loop=R:=⟨_,rfl⟩
 rw[hR]
 unfold G9 Pc.labels at hR
 unfold S0
 rcases Bool.eq_false_or_eq_true (m.s.kind==7)with c1|c1
 ·simp only [c1,Bool.true_or,if_true]at hR
  subst hR
  refine aA.go qO rfl fun B Q hB hQ=>?_
  have⟨hY,hZ,gA,gB⟩:=bu
  repeat' (first
 |simp only[go_sem,hY,hZ,gA,gB,c1]
 |(with_reducible refine aB hQ ?_;exact aU))
 rcases Bool.eq_false_or_eq_true (m.s.kind==8)with c2|c2
 ·simp only [c1,c2,Bool.or_true,if_true]at hR
  subst hR
  refine aA.go qO rfl fun B Q hB hQ=>?_
  have⟨hY,hZ,gA,gB⟩:=bu
  repeat' (first
 |simp only[go_sem,hY,hZ,gA,gB,c1,c2]
 |(with_reducible refine aB hQ ?_;exact aU))
 rcases Bool.eq_false_or_eq_true (m.s.kind==10)with c3|c3
 ·simp only [c1,c2,c3,Bool.or_self,Bool.false_eq_true,if_false,if_true, ← af7]at hR
  subst hR
  refine aA.go qO rfl fun B Q hB hQ=>?_
  have⟨hY,hZ,gA,gB⟩:=bu
  repeat' (first
 |simp only[go_sem,hY,hZ,gA,gB,c1,c2,c3]
 |(with_reducible refine CU (v8 _) ?_)
 |(with_reducible refine aB hQ ?_;exact aU))
 ·simp only [c1,c2,c3,Bool.or_self,Bool.false_eq_true,if_false]at hR
  subst hR
  refine aA.go qO rfl fun B Q hB hQ=>?_
  have⟨hY,hZ,gA,gB⟩:=bu
  repeat' (first
 |simp only[go_sem,hY,hZ,gA,gB,c1,c2,c3]
 |(with_reducible refine aB hQ ?_;exact aU))
end Go.Abs
namespace Go.Abs
set_option maxRecDepth 8000
open Go.Proofs
theorem acx {p:Pg} (h:p.my) (oS:(p.scope.1==0)=true) (s:St):aA Tryz.prog sS [.agg (bY p)] s (.eJ (jo p) 0) s:=by
 refine aA.pure ?_ (by simp[D.bN,D.ok,jP]) (by simp[D.ok,Bs]) s
 obtain⟨sI,q7,wk⟩:=h.procs
 have v7:=fun s=>xS h s
 have eK:=fun s=>GC (p:=p) (by omega) s
 have b0:(p.scope.1 != 0) = !(p.scope.1==0):=rfl
 rw[oS]at b0
 unfold S0
 refine aA.go Ae rfl fun B Q hB hQ=>?_
 have⟨hY,hZ,gA,gB⟩:=bu
 repeat' (first
 |simp only[go_sem,hY,hZ,gA,gB,b0,Bool.not_true]
 |(with_reducible refine CU (v7 _) ?_)
 |(with_reducible refine CU (eK _) ?_)
 |(with_reducible refine aB hQ ?_;exact aU))
theorem acy {p:Pg} (h:p.my) (oS:(p.scope.1==0)=false) (s:St):aA Tryz.prog sS [.agg (bY p)] s .fS s:=by
 refine aA.pure ?_ (by simp[D.bN,D.ok,jP]) rfl s
 have v7:=fun s=>xS h s
 have b0:(p.scope.1 != 0) = !(p.scope.1==0):=rfl
 rw[oS]at b0
 unfold S0
 refine aA.go Ae rfl fun B Q hB hQ=>?_
 have⟨hY,hZ,gA,gB⟩:=bu
 repeat' (first
 |simp only[go_sem,hY,hZ,gA,gB,b0,Bool.not_false]
 |(with_reducible refine CU (v7 _) ?_)
 |(with_reducible refine aB hQ ?_;exact aU))
mutual
theorem YO {pr up next loop:Int} : ∀ (s:Sm) (m:Im),m∈s.AG pr up next loop→m.proc=pr
 | ⟨id,kind,labels,name,pc,x,has,args,aS,aL⟩,m,h=>by
  simp only[Sm.AG]at h
  rcases List.mem_cons.1 h with rfl|h
  ·rfl
  ·rcases List.mem_append.1 h with h | h
   ·exact yQ aS m h
   ·exact yQ aL m h
theorem yQ {pr up next loop:Int} : ∀ (l:List Sm) (m:Im),m∈Sm.mS pr up next loop l→m.proc=pr
 |s::l,m,h=>by
  simp only[Sm.mS]at h
  rcases List.mem_append.1 h with h|h
  ·exact YO s m h
  ·exact yQ l m h
end
theorem zM : ∀ a b:List Sm,ky (a++b)=ky a++ky b
 | [],b=>rfl
 |v::a,b=>by simp only[List.cons_append,ky,zM a b,List.append_assoc]
mutual
theorem OB : ∀ s:Sm,(ky s.pre).length≤s.size
 |⟨id,kind,labels,name,pc,x,has,args,aS,aL⟩=>by
  have:=tp aS;have:=tp aL
  simp only[Sm.pre,ky,zM,List.length_append,Sm.size];omega
theorem tp : ∀ l:List Sm,(ky (Sm.eW l)).length≤Sm.aT l
 | []=>Nat.le_refl _
 |s::l=>by
  have:=OB s;have:=tp l
  simp only[Sm.eW,zM,List.length_append,Sm.aT];omega
end
theorem Vq (seen l:List ay):(lh seen l).1.length≤seen.length+l.length:=(Jy l seen).2
theorem YP {p:Pg} (h:p.my) (s:St):aA Tryz.prog xq [.agg (bY p)] s (.agg [.int .i64 p.jump.1, .int .i64 p.jump.2]) s:=by
 refine aA.pure ?_ (by simp[D.bN,D.ok,jP]) rfl s
 obtain⟨sI,q7,wk⟩:=h.procs
 obtain⟨R,hR⟩ : ∃ R,p.jump=R:=⟨_,rfl⟩
 rw[hR]
 unfold Pg.jump at hR
 unfold S0
 rcases Bool.eq_false_or_eq_true (p.scope.1==0)with oS|oS
 case inr=>
  have hs:=fun s=>acy h oS s
  simp only[oS,Bool.false_eq_true,if_false]at hR
  subst hR
  refine aA.go Ab rfl fun B Q hB hQ=>?_
  have⟨hY,hZ,gA,gB⟩:=bu
  repeat' (first
 |simp only[go_sem,hY,hZ,gA,gB]
 |(with_reducible refine CU (hs _) ?_)
 |(with_reducible refine aB hQ ?_;exact aU))
 have hs:=fun s=>acx h oS s
 have hb:=Jo oS
 simp only[oS,if_true]at hR
 refine aA.go Ab rfl fun B Q hB hQ=>?_
 have⟨hY,hZ,gA,gB⟩:=bu
 repeat' (first
 |simp only[go_sem,hY,hZ,gA,gB]
 |(with_reducible refine CU (hs _) ?_)
 |(with_reducible refine aB hQ ?_;exact aU))
 refine cq 2 0 (bn.ind (ι:=List Pc×Nat) (fun i=>p.procs.drop i.2=i.1∧AJ 7 (Ha i.1)=R) (fun i=>i.1.length)
  (fun i=> [(1, .ptr 0 0),(2, .ptr 1 0),(3, .eJ (jo p) 0),(16, .slice .shared 5 (p.procs.map cH)),(17, .int .i64 (p.procs.length:Int)),(18, .int .i64 (i.2:Int))]) (fun i=>⟨[bY p,[.int .i64 0, .int .i64 0]],[]⟩) ?_ (p.procs,0) ⟨rfl,hR⟩)
 clear hR
 rintro⟨rest,k⟩ ⟨h1,hR⟩ IH
 dsimp only at h1 hR
 cases rest with
 |nil=>
  have hY:=drop_nil h1
  simp only[Ha,AJ]at hR
  subst hR
  repeat' (first
 |simp only[go_sem,hY,hZ,gA,gB]
 |(with_reducible refine aB hQ ?_;exact aU))
 | cons f rest=>
  obtain⟨hZ,g2,hY,g4⟩:=drop_cons h1
  have cd:k<4611686018427387904:=by omega
  have yF:=List.mem_of_getElem? hZ
  have GZ:=fun s=>af5 hb hZ (by omega) s
  have zI:=AH (k:Int) 0 (-1) 0 f.body
  have Cd:=YM (k:Int) f
  have rR:=fun m=>yQ (pr:=(k:Int)) (up:=0) (next:= -1) (loop:=0) f.body m
  have MR:=Hb h yF
  have aui:=JA h yF
  have MS:(ky (Sm.eW f.body)).length≤900000:=by
   have h1:=tp f.body
   have h2:=Pc.bJ yF
   simp only[Pc.size]at h2
   omega
  rw[← zI]at MS
  generalize hI:Sm.mS (k:Int) 0 (-1) 0 f.body=I at *
  have hIl:I.length≤900000:=by rw[← zI,List.length_map]at MR;exact MR
  simp only[Ha, ← Cd]at hR
  obtain⟨J,hJ⟩ : ∃ J,D2 f.labels f.fin [] (I.map Im.pair)=J:=⟨_,rfl⟩
  rw[hJ]at hR
  have hld:=fun(m:Im) (hm:m∈I) s=>acw h hb hZ m (rR m hm) s
  repeat' (first
 |simp only[go_sem,hY,hZ,gA,gB]
 |(with_reducible refine CU (GZ _) ?_)
 | (with_reducible refine aB hQ ?_;exact aU))
  refine bn.oZ 6 1 rfl ?_
  simp only[go_sem,hY,hZ,gA,gB]
  refine cq 3 1 (bn.ind (ι:=List Im×Nat×List ay×Nat) (fun i=>I.drop i.2.1=i.1∧D2 f.labels f.fin i.2.2.1 (i.1.map Im.pair)=J∧i.2.2.2=i.2.2.1.length∧i.2.2.1.length+(ky (i.1.map Im.s)).length≤900000) (fun i=>i.1.length)
   (fun i=> [(1, .ptr 0 0),(2, .ptr 1 0),(3, .eJ (jo p) 0),(5, .ptr 2 0),(6, .slice (.tok 0) 1 (i.2.2.1.map encStr)),(16, .slice .shared 5 (p.procs.map cH)),(17, .int .i64 (p.procs.length:Int)),(18, .int .i64 (k:Int)),
    (25, .slice .shared 17 (I.map fD)),(26, .int .i64 (I.length:Int)),(27, .int .i64 (i.2.1:Int))]) (fun i=>⟨[bY p,[.int .i64 0, .int .i64 0],cH f],[some i.2.2.2]⟩) ?_ (I,0,[],0) ⟨rfl,hJ,rfl,by simpa using MS⟩)
  clear hJ
  rintro⟨yO,k2,seen,n2⟩ ⟨j1,j2,j3,j4⟩ vo
  dsimp only at j1 j2 j3 j4
  subst j3
  cases yO with
  | nil=>
   have Sx:=drop_nil j1
   simp only[List.map_nil,D2]at j2
   simp only[List.map_nil,ky,List.length_nil,Nat.add_zero]at j4
   have JB:=fun {s:St} {t:Nat} (ht:s.aD[t]? = some (some seen.length))=>Vo (seen:=seen) (l:=f.fin) (by omega) ht
   obtain⟨P1,hP1⟩ : ∃ P1,lh seen f.fin=P1:=⟨_,rfl⟩
   rw[hP1]at j2 JB
   rcases Bool.eq_false_or_eq_true P1.2 with c1|c1
   ·simp only [c1,if_true]at j2
    subst j2
    simp only at hR
    repeat' (first
 |simp only[go_sem,hY,hZ,gA,gB,Sx,c1,Bool.not_true]
 |(with_reducible refine CU (JB (by with_unfolding_all rfl)) ?_)
 | (with_reducible refine aB hQ ?_;exact aU))
    refine eQ 2 0 ?_ ?_ (IH (rest,k+1) ⟨g2,hR⟩ (Nat.lt_succ_self _))
    ·(simp only[go_sem,hY,hZ,gA,gB,aM cd];try exact bQ)
    ·(simp only[go_sem,hY,hZ,gA,gB,aM cd];try exact bQ)
   ·simp only [c1,Bool.false_eq_true,if_false]at j2
    subst j2
    simp only[AJ]at hR
    subst hR
    repeat' (first
 |simp only[go_sem,hY,hZ,gA,gB,Sx,c1,Bool.not_false]
 |(with_reducible refine CU (JB (by with_unfolding_all rfl)) ?_)
 | (with_reducible refine aB hQ ?_;exact aU))
  | cons m yO=>
   obtain⟨qA,j5,Az,j6⟩:=drop_cons j1
   have vn:k2<4611686018427387904:=by omega
   have hmm:=List.mem_of_getElem? qA
   have hlm:=fun s=>hld m hmm s
   simp only[List.map_cons,Im.pair,D2]at j2
   simp only[List.map_cons,ky,List.length_append]at j4
   have JB:=fun {s:St} {t:Nat} (ht:s.aD[t]? = some (some seen.length))=>Vo (seen:=seen) (l:=m.s.labels) (by omega) ht
   have ZV:=Vq seen m.s.labels
   obtain⟨P1,hP1⟩ : ∃ P1,lh seen m.s.labels=P1:=⟨_,rfl⟩
   rw[hP1]at j2 JB ZV
   rcases Bool.eq_false_or_eq_true P1.2 with c1|c1
   ·rcases Bool.eq_false_or_eq_true (G9 f.labels m.s m.loop)with c2 | c2
    ·simp only [c1,c2,if_true]at j2
     repeat' (first
 |simp only[go_sem,hY,hZ,gA,gB,qA,Az,c1,c2,Bool.not_true]
 |(with_reducible refine CU (JB (by with_unfolding_all rfl)) ?_)
 |(with_reducible refine CU (hlm _) ?_)
 | (with_reducible refine aB hQ ?_;exact aU))
     refine eQ 3 1 ?_ ?_ (vo (yO,k2+1,P1.1,P1.1.length) ⟨j5,j2,rfl,by dsimp only;omega⟩ (Nat.lt_succ_self _))
     ·(simp only[go_sem,hY,hZ,gA,gB,aM vn];try exact bQ)
     ·(simp only[go_sem,hY,hZ,gA,gB,aM vn];try exact bQ)
    ·simp only [c1,c2,if_true,Bool.false_eq_true,if_false]at j2
     subst j2
     simp only[AJ]at hR
     subst hR
     repeat' (first
 |simp only[go_sem,hY,hZ,gA,gB,qA,Az,c1,c2,Bool.not_true,Bool.not_false]
 |(with_reducible refine CU (JB (by with_unfolding_all rfl)) ?_)
 |(with_reducible refine CU (hlm _) ?_)
 | (with_reducible refine aB hQ ?_;exact aU))
   ·simp only [c1,Bool.false_eq_true,if_false]at j2
    subst j2
    simp only[AJ]at hR
    subst hR
    repeat' (first
 |simp only[go_sem,hY,hZ,gA,gB,qA,Az,c1,Bool.not_false]
 |(with_reducible refine CU (JB (by with_unfolding_all rfl)) ?_)
 |(with_reducible refine CU (hlm _) ?_)
 |(with_reducible refine aB hQ ?_;exact aU))
theorem YQ (x:It):(fN x)[2]? = some (.slice .shared 1 (x.s.labels.map encStr)):=nd rfl
theorem Vr (x:It):(fN x)[14]? = some (.int .i64 x.aN):=nd rfl
attribute [go_sem] YQ Vr
end Go.Abs
namespace Go.Abs
def EL (a b t:ay):ay:=if t==a then b else if t==b then a else t
mutual
def Ex.swap (a b:ay):Ex→Ex
 |⟨op,n,name,kids⟩=>⟨op,n,EL a b name,Ex.yR a b kids⟩
def Ex.yR (a b:ay):List Ex→List Ex
 | []=> []
 |x::l=>x.swap a b::Ex.yR a b l
end
def Ar.swap (a b:ay) (x:Ar):Ar:=⟨x.ref,EL a b x.name,x.x.swap a b⟩
mutual
def Sm.swap (a b:ay):Sm→Sm
 |⟨id,kind,labels,name,proc,x,has,args,aS,aL⟩=>⟨id,kind,labels.map (EL a b),EL a b name,EL a b proc,x.swap a b,has,args.map (Ar.swap a b),Sm.yR a b aS,Sm.yR a b aL⟩
def Sm.yR (a b:ay):List Sm→List Sm
 | []=> []
 |s::l=>s.swap a b::Sm.yR a b l
end
def Pm.swap (a b:ay) (x:Pm):Pm:=⟨EL a b x.name,x.ref⟩
def Pc.swap (a b:ay) (f:Pc):Pc:=⟨EL a b f.name,f.params.map (Pm.swap a b),f.vars.map (EL a b),Sm.yR a b f.body,f.fin.map (EL a b)⟩
def Pg.swap (a b:ay) (p:Pg):Pg:=⟨p.globals.map (EL a b),p.procs.map (Pc.swap a b)⟩
def It.swap (a b:ay) (i:It):It:=⟨i.s.swap a b,i.deep,i.aN,i.aL⟩
def aaY:List Sm→List ay
 | []=> []
 |v::l=>v.said++aaY l
def ai0 (p:Pg):List ay→List ay
 | []=> []
 |n::l=>aaY (vu p n)++ai0 p l
set_option maxRecDepth 8000
open Go.Proofs
def qU (nm:ay) (T:List ay) (seen:List ay):List Ar→Bool
 | []=>true
 |a::l=>if a.ref then(if fM seen a.name ||(a.name==nm ||fM T a.name)then false else qU nm T (seen++ [a.name]) l)else qU nm T seen l
def apM (T:List ay) (seen:List ay):List Ar→Bool
 | []=>true
 |a::l=>if a.ref then(if fM seen a.name ||fM T a.name then false else apM T (seen++ [a.name]) l)else apM T seen l
def Sm.aul (v:Sm):List ay:=if v.name != []then [v.name]else []
theorem YR {v:Sm} (ry:v.args.length<1000000000) {T:List ay} (hT:T.length<4611686018427387904) (s:St) :
 aA Tryz.prog tX [.agg (bh v), .slice .shared 1 (T.map encStr)] s (.bool (qU v.name T [] v.args)) s:=by
 refine aA.pure ?_ (by simp[D.bN,D.ok,np,Tag.ok,fw]) rfl s
 generalize hR:qU v.name T [] v.args=R
 have hcT:=fun x s=>td hT x s
 unfold S0
 refine aA.go Fq rfl fun B Q hB hQ=>?_
 have⟨hY,hZ,gA,gB⟩:=bu
 repeat' (first
 |simp only[go_sem,hY,hZ,gA,gB]
 |(with_reducible refine aB hQ ?_;exact aU))
 refine bn.oZ 5 1 rfl ?_
 simp only[go_sem,hY,hZ,gA,gB]
 refine cq 1 1 (bn.ind (ι:=List Ar×Nat×List ay×Nat) (fun i=>v.args.drop i.2.1=i.1∧qU v.name T i.2.2.1 i.1=R∧i.2.2.1.length≤i.2.1∧i.2.2.2=i.2.2.1.length) (fun i=>i.1.length)
  (fun i=> [(1, .slice .shared 1 (T.map encStr)),(2, .ptr 0 0),(5, .slice (.tok 0) 1 (i.2.2.1.map encStr)),(9, .slice .shared 6 (v.args.map fb)),(10, .int .i64 (v.args.length:Int)),(11, .int .i64 (i.2.1:Int))]) (fun i=>⟨[bh v],[some i.2.2.2]⟩) ?_ (v.args,0,[],0) ⟨rfl,hR,Nat.le_refl _,rfl⟩)
 clear hR
 rintro⟨rest,k,seen,n'⟩ ⟨h1,h2,h3,h4⟩ IH
 dsimp only at h1 h2 h3 h4
 subst h4
 cases rest with
 |nil=>
  have hY:=drop_nil h1
  simp only[qU]at h2
  subst h2
  repeat' (first
 |simp only[go_sem,hY,hZ,gA,gB]
 |(with_reducible refine aB hQ ?_;exact aU))
 | cons a rest=>
  obtain⟨hZ,g2,hY,g4⟩:=drop_cons h1
  have cd:k<4611686018427387904:=by omega
  have gA:(seen.length+1)*17≤aF:=by unfold aF;omega
  have qn:=fun g s=>kr (l:=seen) (by omega) a.name g s
  simp only[qU]at h2
  rcases Bool.eq_false_or_eq_true a.ref with c1|c1
  case inr=>
   simp only[c1,Bool.false_eq_true,if_false]at h2
   repeat' (first
 |simp only[go_sem,hY,hZ,gA,gB,c1,Bool.not_false]
 | (with_reducible refine aB hQ ?_;exact aU))
   refine eQ 1 1 ?_ ?_ (IH (rest,k+1,seen,_) ⟨g2,h2,by dsimp only;omega,rfl⟩ (Nat.lt_succ_self _))
   ·(simp only[go_sem,hY,hZ,gA,gB,aM cd];try exact bQ)
   ·(simp only[go_sem,hY,hZ,gA,gB,aM cd];try exact bQ)
  simp only[c1,if_true]at h2
  rcases Bool.eq_false_or_eq_true (fM seen a.name)with c2|c2
  ·simp only [c2,Bool.true_or,if_true]at h2
   subst h2
   repeat' (first
 |simp only[go_sem,hY,hZ,gA,gB,c1,c2,Bool.not_true]
 |(with_reducible refine CU (qn _ _) ?_)
 |(with_reducible refine CU (hcT _ _) ?_)
 | (with_reducible refine aB hQ ?_;exact aU))
  rcases Bool.eq_false_or_eq_true (a.name==v.name)with c3|c3
  ·simp only [c2,c3,Bool.false_or,Bool.true_or,if_true]at h2
   subst h2
   repeat' (first
 |simp only[go_sem,hY,hZ,gA,gB,c1,c2,c3,Bool.not_true]
 |(with_reducible refine CU (qn _ _) ?_)
 |(with_reducible refine CU (hcT _ _) ?_)
 | (with_reducible refine aB hQ ?_;exact aU))
  rcases Bool.eq_false_or_eq_true (fM T a.name)with c4|c4
  ·simp only [c2,c3,c4,Bool.false_or,if_true]at h2
   subst h2
   repeat' (first
 |simp only[go_sem,hY,hZ,gA,gB,c1,c2,c3,c4,Bool.not_true]
 |(with_reducible refine CU (qn _ _) ?_)
 |(with_reducible refine CU (hcT _ _) ?_)
 | (with_reducible refine aB hQ ?_;exact aU))
  ·simp only [c2,c3,c4,Bool.false_or,Bool.false_eq_true,if_false]at h2
   repeat' (first
 |simp only[go_sem,hY,hZ,gA,gB,c1,c2,c3,c4,Bool.not_true]
 |(with_reducible refine CU (qn _ _) ?_)
 |(with_reducible refine CU (hcT _ _) ?_)
 | (with_reducible refine aB hQ ?_;exact aU))
   refine eQ 1 1 ?_ ?_ (IH (rest,k+1,seen++ [a.name],seen.length+1) ⟨g2,h2,by simp;omega,by simp⟩ (Nat.lt_succ_self _))
   ·(simp only[go_sem,hY,hZ,gA,gB,aM cd,List.map_append,List.map_cons,List.map_nil,encStr];try exact bQ)
   ·(simp only[go_sem,hY,hZ,gA,gB,aM cd,List.map_append,List.map_cons,List.map_nil,encStr];try exact bQ)
def oI (p:Pg):List Pc→List D
 | []=> []
 |f::l=> .str f.name:: .slice .shared 1 ((p.rJ f.name).map encStr)::oI p l
theorem Vs (p:Pg) : ∀ l,D.bN 0 0 (oI p l)=true
 | []=>rfl
 |f::l=>by simp only[oI,D.bN,D.ok,Tag.ok,fw,Vs p l];rfl
theorem acz (n m:Nat) (p:Pg) (l:List Pc):D.je n m (oI p l)=oI p l:=jx n m _ (Vs p l)
attribute [go_sem] acz
theorem MT (p:Pg) : ∀ l m,oI p (l++m)=oI p l++oI p m
 | [],m=>rfl
 |f::l,m=>by simp only[List.cons_append,oI,MT p l m]
theorem MU {p:Pg} {nm:ay} {d:D} : ∀ {l:List Pc},nm∉l.map (·.name)→zg nm d (oI p l)=some (oI p l++ [.str nm,d])
 | [],_=>rfl
 |f::l,h=>by
  simp only[List.map_cons,List.mem_cons,not_or]at h
  have:(f.name==nm)=false:=by simpa using fun e=>h.1 e.symm
  simp only[oI,zg,this,Bool.false_eq_true,if_false,MU h.2,List.cons_append]
theorem MV {p:Pg} {nm:ay} {z:D} : ∀ {l:List Pc} {f:Pc},mg nm l=some f→A0 nm z (oI p l)=some (.slice .shared 1 ((p.rJ nm).map encStr))
 | g::l,f,h=>by
  simp only[mg]at h
  simp only[oI,A0]
  split at h
  ·rename_i e
   rw[if_pos e,eq_of_beq e]
  ·rename_i e
   rw[if_neg e]
   exact MV h
theorem acA (l:List ay) : ∀ (s:List ay),EG s l=false→∀ a x b,l=a++x::b→x∉s++a:=by
 induction l with
 |nil=>intro s _ a x b e;cases a<;>cases e
 | cons y l ih=>
  intro s h a x b e
  simp only[EG]at h
  split at h
  ·cases h
  ·rename_i hy
   cases a with
   |nil=>cases e;simpa[← kY]using hy
   |cons z a=>
    cases e
    have:=ih (s++ [y]) h a x b rfl
    simpa using this
end Go.Abs
namespace Go.Abs
set_option maxRecDepth 8000
open Go.Proofs
theorem YS {p:Pg} (h:(p.arity.1==0)=true):(p.scope.1==0)=true∧∀ v∈p.pre,(v.kind==4)=true→v.uP p=true:=by
 unfold Pg.arity at h
 split at h
 ·rename_i e
  refine⟨e,fun v hv hk=>?_⟩
  have : ∀ l:List Sm,((tj 6 (ME p l)).1==0)=true→∀ v∈l,(v.kind==4)=true→v.uP p=true:=by
   intro l
   induction l with
   |nil=>intro _ v m;cases m
   | cons a l ih=>
    intro h v m hk
    simp only[ME]at h
    split at h
    ·cases h
    ·rename_i c
     rcases List.mem_cons.1 m with rfl|m
     ·simpa[hk]using c
     ·exact ih h v m hk
  exact this _ h v hv hk
 ·cases h
theorem Vt {p:Pg} {v:Sm} (h:v.uP p=true) : ∃ f,p.find v.proc=some f:=by
 unfold Sm.uP at h
 cases e:p.find v.proc with
 |some f=>exact⟨f,rfl⟩
 |none=>rw[e]at h;simp at h
def Sm.Pu (p:Pg) (v:Sm):Bool:=qU v.name (p.rJ v.proc) [] v.args
def Vu (p:Pg):List Sm→Option Sm
 | []=>none
 |v::l=>if v.kind==4 && !(v.Pu p)then some v else Vu p l
def Pg.alias (p:Pg):Int×Int:=if p.arity.1==0 then tj 8 (Vu p p.pre)else(1,0)
theorem MW {p:Pg} (h:p.my) (nm:ay):(p.rJ nm).length<4611686018427387904:=by
 unfold Pg.rJ
 cases hs:p.Bz nm with
 |none=>dsimp only;decide
 |some f=>
  obtain⟨oS,hf⟩:=Jx hs
  have h1:=(MO oS hf).len
  have h2:=h.procs
  have h3:=(BD h (lf (p.work nm)) []).2
  have h4:(lf (p.work nm)).length*1800000≤900000*1800000:=Nat.mul_le_mul_right _ (by omega)
  have h5:(lf (p.uk nm)).length≤(p.uk nm).length:=yM _ _ (wP (nL _).1) fun x m=>((nL _).2 x).1 m
  dsimp only
  unfold Pg.uk at *
  simp only[List.length_nil]at h3
  omega
theorem Sz {v:Sm} (hv:v.rI):v.args.length<1000000000:=by have:=Ar.cu v.args;have:=hv.2.2;omega
theorem Vv {p:Pg} (h:p.my) (s:St):aA Tryz.prog vK [.agg (bY p)] s (.agg [.int .i64 p.alias.1, .int .i64 p.alias.2]) s:=by
 refine aA.pure ?_ (by simp[D.bN,D.ok,jP]) rfl s
 obtain⟨sI,q7,wk⟩:=h.procs
 have v7:=fun s=>MF h s
 have eK:=fun s=>GC (p:=p) (by omega) s
 have hL:=(sk p).1
 have hll:=sn p
 generalize hR:p.alias=R
 simp only[Pg.alias]at hR
 unfold S0
 have b0:(p.arity.1 != 0) = !(p.arity.1==0):=rfl
 rcases Bool.eq_false_or_eq_true (p.arity.1==0)with b1|b1
 case inr=>
  rw[b1]at b0
  simp only[b1,Bool.false_eq_true,if_false]at hR
  subst hR
  refine aA.go yA rfl fun B Q hB hQ=>?_
  have⟨hY,hZ,gA,gB⟩:=bu
  repeat' (first
 |simp only[go_sem,hY,hZ,gA,gB,b0,Bool.not_false]
 |(with_reducible refine CU (v7 _) ?_)
 |(with_reducible refine aB hQ ?_;exact aU))
 rw[b1]at b0
 obtain⟨oS,kI⟩:=YS b1
 have htw:=(MK oS).2.1
 simp only[b1,if_true, ← hL]at hR
 refine aA.go yA rfl fun B Q hB hQ=>?_
 have⟨hY,hZ,gA,gB⟩:=bu
 repeat' (first
 |simp only[go_sem,hY,hZ,gA,gB,b0,Bool.not_true]
 |(with_reducible refine CU (v7 _) ?_)
 |(with_reducible refine aB hQ ?_;exact aU))
 refine eQ 3 0 ?_ ?_ (bn.ind (ι:=List Pc×Nat×List Pc) (fun i=>p.procs.drop i.2.1=i.1∧p.procs=i.2.2++i.1) (fun i=>i.1.length)
  (fun i=> [(1, .ptr 0 0),(2, .ptr 1 0),(3, .iI 2),(15, .slice .shared 5 (p.procs.map cH)),(16, .int .i64 (p.procs.length:Int)),(17, .int .i64 (i.2.1:Int))]) (fun i=>⟨[bY p,[.int .i64 0, .int .i64 0],oI p i.2.2],[]⟩) ?_ (p.procs,0,[]) ⟨rfl,rfl⟩)
 ·(simp only[go_sem,hY,hZ,gA,gB,oI];try exact bQ)
 ·(simp only[go_sem,hY,hZ,gA,gB,oI];try exact bQ)
 rintro⟨rest,k,done⟩ ⟨h1,h2⟩ IH
 dsimp only at h1 h2
 cases rest with
 | cons a rest=>
  obtain⟨hZ,g2,hY,g4⟩:=drop_cons h1
  have cd:k<4611686018427387904:=by omega
  have CC:=fun s=>Vl h a.name s
  have tM:a.name∉done.map (·.name):=by
   have:=acA _ [] htw (done.map (·.name)) a.name (rest.map (·.name)) (by simp[Pg.pn,h2])
   simpa using this
  have hmp:zg a.name (.slice .shared 1 ((p.rJ a.name).map encStr)) (oI p done)=some (oI p (done++ [a])):=by
   rw[MU tM,MT];rfl
  repeat' (first
 |simp only[go_sem,hY,hZ,gA,gB,hmp]
 |(with_reducible refine CU (CC _) ?_)
 |(with_reducible refine aB hQ ?_;exact aU))
  refine eQ 3 0 ?_ ?_ (IH (rest,k+1,done++ [a]) ⟨g2,by rw[h2];simp⟩ (Nat.lt_succ_self _))
  ·(simp only[go_sem,hY,hZ,gA,gB,aM cd];try exact bQ)
  ·(simp only[go_sem,hY,hZ,gA,gB,aM cd];try exact bQ)
 |nil=>
  have hY:=drop_nil h1
  rw[List.append_nil]at h2
  subst h2
  repeat' (first
 |simp only[go_sem,hY,hZ,gA,gB,uf]
 |(with_reducible refine CU (eK _) ?_)
 | (with_reducible refine aB hQ ?_;exact aU))
  refine cq 3 0 (bn.ind (ι:=List Im×Nat) (fun i=>p.fR.L.drop i.2=i.1∧tj 8 (Vu p (i.1.map Im.s))=R) (fun i=>i.1.length)
   (fun i=> [(1, .ptr 0 0),(2, .ptr 1 0),(3, .iI 2),(33, .slice .shared 17 (p.fR.L.map fD)),(34, .int .i64 (p.fR.L.length:Int)),(35, .int .i64 (i.2:Int))]) (fun i=>⟨[bY p,[.int .i64 0, .int .i64 0],oI p p.procs],[]⟩) ?_ (p.fR.L,0) ⟨rfl,hR⟩)
  clear hR
  rintro⟨rest,k⟩ ⟨h1,hR⟩ IH
  dsimp only at h1 hR
  cases rest with
  |nil=>
   have hY:=drop_nil h1
   simp only[List.map_nil,Vu,tj]at hR
   subst hR
   repeat' (first
 |simp only[go_sem,hY,hZ,gA,gB]
 | (with_reducible refine aB hQ ?_;exact aU))
  | cons a rest=>
   obtain⟨hZ,g2,hY,g4⟩:=drop_cons h1
   have cd:k<4611686018427387904:=by omega
   have Jm:a.s∈p.pre:=by rw[← hL];exact List.mem_map_of_mem (List.mem_of_getElem? hZ)
   have OT:=fun s=>YR (Sz (h.pre _ Jm)) (MW h a.s.proc) s
   simp only[List.map_cons,Vu,Sm.Pu]at hR
   rcases Bool.eq_false_or_eq_true (a.s.kind==4)with c1|c1
   ·obtain⟨f,hf⟩:=Vt (kI _ Jm c1)
    have hmg:=fun z=>MV (p:=p) (z:=z) hf
    rcases Bool.eq_false_or_eq_true (qU a.s.name (p.rJ a.s.proc) [] a.s.args)with c2|c2
    ·simp only [c1,c2,Bool.not_true,Bool.and_false,Bool.false_eq_true,if_false]at hR
     repeat' (first
 |simp only[go_sem,hY,hZ,gA,gB,c1,c2,hmg]
 |(with_reducible refine CU (OT _) ?_)
 | (with_reducible refine aB hQ ?_;exact aU))
     refine eQ 3 0 ?_ ?_ (IH (rest,k+1) ⟨g2,hR⟩ (Nat.lt_succ_self _))
     ·(simp only[go_sem,hY,hZ,gA,gB,aM cd];try exact bQ)
     ·(simp only[go_sem,hY,hZ,gA,gB,aM cd];try exact bQ)
    ·simp only [c1,c2,Bool.not_false,Bool.and_true,if_true,tj]at hR
     subst hR
     repeat' (first
 |simp only[go_sem,hY,hZ,gA,gB,c1,c2,hmg]
 |(with_reducible refine CU (OT _) ?_)
 | (with_reducible refine aB hQ ?_;exact aU))
   ·simp only [c1,Bool.false_and,Bool.false_eq_true,if_false]at hR
    repeat' (first
 |simp only[go_sem,hY,hZ,gA,gB,c1]
 |(with_reducible refine CU (OT _) ?_)
 | (with_reducible refine aB hQ ?_;exact aU))
    refine eQ 3 0 ?_ ?_ (IH (rest,k+1) ⟨g2,hR⟩ (Nat.lt_succ_self _))
    ·(simp only[go_sem,hY,hZ,gA,gB,aM cd];try exact bQ)
    ·(simp only[go_sem,hY,hZ,gA,gB,aM cd];try exact bQ)
def Sm.aga (p:Pg) (v:Sm):Bool:=v.uP p && apM (p.rJ v.proc) v.aul v.args
def apF (p:Pg):List Sm→Option Sm
 | []=>none
 |v::l=>if v.kind==4 && !(v.aga p)then some v else apF p l
theorem acB {n:Nat} {l:List ay} {cZ:Int} {r:Rd} {p:List ay×Rd} (h:Rd.names n l cZ r=some p) :
 aA Tryz.prog kn [.ptr 0 0, .slice (.tok 0) 1 (l.map encStr), .int .i64 cZ] ⟨[cR r],[some l.length]⟩ (.slice (.tok 0) 1 (p.1.map encStr)) ⟨[cR p.2],[some p.1.length]⟩:=by
 refine aA.go zG rfl fun B Q hB hQ=>?_
 have⟨hY,hZ,gA,gB⟩:=bu
 repeat' (first
 |simp only[go_sem,hY,hZ,gA,gB]
 |(with_reducible first|refine bq fun hc=>?_|refine br fun hc=>?_|refine bt (fun hc=>?_) fun hc=>?_)<;>(try simp only[hc,bs,↓reduceIte]at h)<;>try simp only[hc]
 |(with_reducible refine aB hQ ?_;exact aU))
 refine cq 1 1 (bn.ind (ι:=Nat×List ay×Rd×Nat) (fun i=>Rd.names i.1 i.2.1 cZ i.2.2.1=some p∧i.2.2.2=i.2.1.length) (fun i=>i.1)
  (fun i=> [(0, .ptr 0 0),(1, .slice (.tok 0) 1 (i.2.1.map encStr)),(2, .int .i64 cZ)]) (fun i=>⟨[cR i.2.2.1],[some i.2.2.2]⟩) ?_ (n,l,r,l.length) ⟨h,rfl⟩)
 rintro⟨n,l,r,k⟩ ⟨h,hk⟩ IH
 dsimp only at hk;subst hk
 cases n with
 |zero=>simp only[Rd.names]at h;cases h
 |succ n=>
  simp only[Rd.names]at h
  repeat' (first
 |simp only[go_sem,hY,hZ,gA,gB]
 |(rw[Option.bind_eq_some_iff]at h;obtain⟨_,h1,h⟩:=h;first|(with_reducible refine CU (As h1 (by with_unfolding_all rfl)) ?_)|(obtain⟨gA,qV⟩:=qs h1;subst qV;simp only[go_sem,hY,hZ,gA,gB])|(with_reducible refine CU (vl h1 (by with_unfolding_all rfl)) ?_)|(with_reducible refine CU (rH h1 (by with_unfolding_all rfl)) ?_))
 |(with_reducible refine CU (lY (by with_unfolding_all rfl)) ?_)
 |(with_reducible first|refine bq fun hc=>?_|refine br fun hc=>?_|refine bt (fun hc=>?_) fun hc=>?_)<;>(try simp only[hc,bs,↓reduceIte]at h)<;>try simp only[hc]
 |(with_reducible refine aB hQ ?_;exact eo))
  refine cq 1 1 (IH (n,_,_,l.length+1) ⟨h,by simp⟩ (Nat.lt_succ_self _))
theorem Pv {n:Nat} {l:List ay} {cZ:Int} {r:Rd} {p:List ay×Rd} (h:Rd.names n l cZ r=some p) {s:St} {o t:Nat} (ho:s.az[o]? = some (cR r)) (ht:s.aD[t]? = some (some l.length)) :
 aA Tryz.prog kn [.ptr o 0, .slice (.tok t) 1 (l.map encStr), .int .i64 cZ] s (.slice (.tok t) 1 (p.1.map encStr)) ⟨s.az.set o (cR p.2),s.aD.set t (some p.1.length)⟩:=
 (acB h).ahx rfl (gl r) (gl p.2) (fw l) (fw p.1) ho ht
theorem MX {n:Nat} {r:Rd} {p:List ay×Rd} (h:Rd.labels n [] r=some p) {s:St} {o:Nat} (ho:s.az[o]? = some (cR r)) :
 aA Tryz.prog oz [.ptr o 0] s (.slice .shared 1 (p.1.map encStr)) ⟨s.az.set o (cR p.2),s.aD⟩:=by
 refine aA.lL ?_ rfl (gl r) (gl p.2) (by simp[D.ok,fw,Tag.ok]) ho
 refine aA.go ya rfl fun B Q hB hQ=>?_
 have⟨hY,hZ,gA,gB⟩:=bu
 repeat' (first
 |simp only[go_sem,hY,hZ,gA,gB]
 |(with_reducible first|refine bq fun hc=>?_|refine br fun hc=>?_|refine bt (fun hc=>?_) fun hc=>?_)<;>(try simp only[hc,bs,↓reduceIte]at h)<;>try simp only[hc]
 |(with_reducible refine aB hQ ?_;exact aU))
 refine bn.oZ 3 1 rfl ?_
 simp only[go_sem,hY,hZ,gA,gB]
 refine cq 1 1 (bn.ind (ι:=Nat×List ay×Rd×Nat) (fun i=>Rd.labels i.1 i.2.1 i.2.2.1=some p∧i.2.2.2=i.2.1.length) (fun i=>i.1)
  (fun i=> [(0, .ptr 0 0),(3, .slice (.tok 0) 1 (i.2.1.map encStr))]) (fun i=>⟨[cR i.2.2.1],[some i.2.2.2]⟩) ?_ (n,[],r,0) ⟨h,rfl⟩)
 rintro⟨n,l,r,k⟩ ⟨h,hk⟩ IH
 dsimp only at hk;subst hk
 cases n with
 |zero=>simp only[Rd.labels]at h;cases h
 |succ n=>
  simp only[Rd.labels,Rd.ahead]at h
  repeat' (first
 |simp only[go_sem,hY,hZ,gA,gB]
 |(rw[Option.bind_eq_some_iff]at h;obtain⟨_,h1,h⟩:=h;first|(with_reducible refine CU (qy h1 (by with_unfolding_all rfl)) ?_;have hY:=ub h1)|(obtain⟨gA,qV⟩:=qs h1;subst qV;simp only[go_sem,hY,hZ,gA,gB])|(obtain⟨Sx,hZ⟩:=CZ h1;simp only[go_sem,hZ,hY,hZ,gA,gB]))
 |(with_reducible refine CU (lY (by with_unfolding_all rfl)) ?_)
 |(with_reducible first|refine bq fun hc=>?_|refine br fun hc=>?_|refine bt (fun hc=>?_) fun hc=>?_)<;>(try simp only[hc,bs,↓reduceIte]at h)<;>try simp only[hc]
 |(with_reducible refine aB hQ ?_;exact eo))
  refine cq 1 1 (IH (n,_,_,l.length+1) ⟨h,by simp⟩ (Nat.lt_succ_self _))
theorem YT {r:Rd} {b:Bool} (h:r.Ge=some b) {s:St} {o:Nat} (ho:s.az[o]? = some (cR r)) :
 aA Tryz.prog oA [.ptr o 0] s (.bool b) ⟨s.az.set o (cR r),s.aD⟩:=by
 refine aA.lL ?_ rfl (gl r) (gl r) rfl ho
 unfold Rd.Ge at h
 refine aA.go yc rfl fun B Q hB hQ=>?_
 have⟨hY,hZ,gA,gB⟩:=bu
 repeat' (first
 |simp only[go_sem,hY,hZ,gA,gB]
 |(rw[Option.bind_eq_some_iff]at h;obtain⟨_,h1,h⟩:=h;first|(with_reducible refine CU (qy h1 (by with_unfolding_all rfl)) ?_))
 |(with_reducible first|refine bq fun hc=>?_|refine br fun hc=>?_|refine bt (fun hc=>?_) fun hc=>?_)<;>(try simp only[hc,bs,↓reduceIte]at h)<;>try simp only[hc]
 |(with_reducible refine aB hQ ?_;exact eo))
theorem agb {m:Nat} {name proc:ay} {r:Rd} {p:Sm×Rd} (h:Rd.call m name proc r=some p) {s:St} {o:Nat} (ho:s.az[o]? = some (cR r)) :
 aA Tryz.prog nf [.ptr o 0, .str name, .str proc] s (.agg (bh p.1)) ⟨s.az.set o (cR p.2),s.aD⟩:=by
 refine aA.lL ?_ rfl (gl r) (gl p.2) (by simp[D.ok,np]) ho
 unfold Rd.call Rd.other at h
 refine aA.go Ak rfl fun B Q hB hQ=>?_
 have⟨hY,hZ,gA,gB⟩:=bu
 repeat' (first
 |simp only[go_sem,hY,hZ,gA,gB]
 |(rw[Option.bind_eq_some_iff]at h;obtain⟨_,h1,h⟩:=h;first|(with_reducible refine CU (rH h1 (by with_unfolding_all rfl)) ?_)|(with_reducible refine CU (C9 h1 (by with_unfolding_all rfl)) ?_))
 |(with_reducible refine CU (lY (by with_unfolding_all rfl)) ?_)
 |(with_reducible first|refine bq fun hc=>?_|refine br fun hc=>?_|refine bt (fun hc=>?_) fun hc=>?_)<;>(try simp only[hc,bs,↓reduceIte]at h)<;>try simp only[hc]
 |(with_reducible refine aB hQ ?_;exact eo)
 |(cases h;replace h:=hr;clear hr;(try simp only[bs,↓reduceIte]at h))
 |(cases h;done))
 rw[Option.bind_eq_some_iff]at h
 obtain⟨q,h,hr⟩:=h
 refine bn.xn 2 10 6 rfl rfl ?_
 simp only[go_sem,hY,hZ,gA,gB]
 refine cq 3 1 (bn.ind (ι:=Nat×List Ar×Rd×Nat) (fun i=>Rd.sO m i.1 i.2.1 i.2.2.1=some q∧i.2.2.2=i.2.1.length) (fun i=>i.1)
  (fun i=> [(0, .ptr 0 0),(6, .ptr 1 0),(7, .ptr 2 0)]) (fun i=>⟨[cR i.2.2.1,bh LX,[.int .i64 0, .int .i64 4, .slice .shared 1 [], .str name, .str proc, .int .i64 0, .int .i64 0, .str [], .slice .shared 4 [], .bool false, .slice (.tok 0) 6 (i.2.1.map fb), .slice .shared 13 [], .slice .shared 13 []]],[some i.2.2.2]⟩) ?_ (m,[],_,0) ⟨h,rfl⟩)
 rintro⟨n,l,r,k⟩ ⟨h,hk⟩ IH
 dsimp only at hk;subst hk
 cases n with
 |zero=>simp only[Rd.sO]at h;cases h
 |succ n=>
  simp only[Rd.sO]at h
  repeat' (first
 |simp only[go_sem,hY,hZ,gA,gB]
 |(rw[Option.bind_eq_some_iff]at h;obtain⟨_,h1,h⟩:=h;first|(with_reducible refine CU (vl h1 (by with_unfolding_all rfl)) ?_)|(obtain⟨gA,qV⟩:=qs h1;subst qV;simp only[go_sem,hY,hZ,gA,gB])|(with_reducible refine CU (As h1 (by with_unfolding_all rfl)) ?_)|(with_reducible refine CU (DX h1 (by with_unfolding_all rfl)) ?_)|(with_reducible refine CU (rH h1 (by with_unfolding_all rfl)) ?_))
 |(with_reducible refine CU (lY (by with_unfolding_all rfl)) ?_)
 |(with_reducible first|refine bq fun hc=>?_|refine br fun hc=>?_|refine bt (fun hc=>?_) fun hc=>?_)<;>(try simp only[hc,bs,↓reduceIte]at h)<;>try simp only[hc]
 |(with_reducible refine aB hQ ?_;exact eo)
 |(cases h;replace h:=hr;clear hr;(try simp only[bs,↓reduceIte]at h))
 |(cases h;done))
  ·refine cq 3 1 (IH (n,_,_,l.length+1) ⟨h,by simp⟩ (Nat.lt_succ_self _))
  ·refine cq 3 1 (IH (n,_,_,l.length+1) ⟨h,by simp⟩ (Nat.lt_succ_self _))
theorem YU {m:Nat} {r:Rd} {p:Sm×Rd} (h:Rd.named m r=some p) {s:St} {o:Nat} (ho:s.az[o]? = some (cR r)) :
 aA Tryz.prog o8 [.ptr o 0] s (.agg (bh p.1)) ⟨s.az.set o (cR p.2),s.aD⟩:=by
 refine aA.lL ?_ rfl (gl r) (gl p.2) (by simp[D.ok,np]) ho
 unfold Rd.named Rd.ahead at h
 refine aA.go zC rfl fun B Q hB hQ=>?_
 have⟨hY,hZ,gA,gB⟩:=bu
 repeat' (first
 |simp only[go_sem,hY,hZ,gA,gB]
 |(rw[Option.bind_eq_some_iff]at h;obtain⟨_,h1,h⟩:=h;first|(with_reducible refine CU (As h1 (by with_unfolding_all rfl)) ?_)|(with_reducible refine CU (rH h1 (by with_unfolding_all rfl)) ?_)|(with_reducible refine CU (C9 h1 (by with_unfolding_all rfl)) ?_)|(with_reducible refine CU (qy h1 (by with_unfolding_all rfl)) ?_;have hY:=ub h1)|(obtain⟨Sx,hZ⟩:=CZ h1;simp only[go_sem,hZ,hY,hZ,gA,gB])|(with_reducible refine CU (DX h1 (by with_unfolding_all rfl)) ?_))
 |(with_reducible refine CU (lY (by with_unfolding_all rfl)) ?_)
 |(with_reducible refine CU (agb h (by with_unfolding_all rfl)) ?_)
 |(with_reducible first|refine bq fun hc=>?_|refine br fun hc=>?_|refine bt (fun hc=>?_) fun hc=>?_)<;>(try simp only[hc,bs,↓reduceIte]at h)<;>try simp only[hc]
 |(with_reducible refine aB hQ ?_;exact eo))
theorem acC {m:Nat} {word:ay} {r:Rd} {p:Sm×Rd} (h:Rd.plain m word r=some p) {s:St} {o:Nat} (ho:s.az[o]? = some (cR r)) :
 aA Tryz.prog o9 [.ptr o 0, .str word] s (.agg (bh p.1)) ⟨s.az.set o (cR p.2),s.aD⟩:=by
 refine aA.lL ?_ rfl (gl r) (gl p.2) (by simp[D.ok,np]) ho
 unfold Rd.plain at h
 refine aA.go zE rfl fun B Q hB hQ=>?_
 have⟨hY,hZ,gA,gB⟩:=bu
 repeat' (first
 |simp only[go_sem,hY,hZ,gA,gB]
 |(rw[Option.bind_eq_some_iff]at h;obtain⟨_,h1,h⟩:=h;first|(with_reducible refine CU (As h1 (by with_unfolding_all rfl)) ?_)|(with_reducible refine CU (C9 h1 (by with_unfolding_all rfl)) ?_)|(with_reducible refine CU (DX h1 (by with_unfolding_all rfl)) ?_))
 |(with_reducible first|refine bq fun hc=>?_|refine br fun hc=>?_|refine bt (fun hc=>?_) fun hc=>?_)<;>(try simp only[hc,bs,↓reduceIte]at h)<;>try simp only[hc]
 |(with_reducible refine aB hQ ?_;exact eo))
theorem Vw {m:Nat} {r:Rd} {p:Ex×Rd} (h:Rd.head m r=some p) {s:St} {o:Nat} (ho:s.az[o]? = some (cR r)) :
 aA Tryz.prog nc [.ptr o 0] s (.agg (bx p.1)) ⟨s.az.set o (cR p.2),s.aD⟩:=by
 refine aA.lL ?_ rfl (gl r) (gl p.2) (by simp[D.ok,gE]) ho
 unfold Rd.head at h
 refine aA.go Aj rfl fun B Q hB hQ=>?_
 have⟨hY,hZ,gA,gB⟩:=bu
 repeat' (first
 |simp only[go_sem,hY,hZ,gA,gB]
 |(rw[Option.bind_eq_some_iff]at h;obtain⟨_,h1,h⟩:=h;first|(with_reducible refine CU (rH h1 (by with_unfolding_all rfl)) ?_)|(with_reducible refine CU (DX h1 (by with_unfolding_all rfl)) ?_))
 |(with_reducible first|refine bq fun hc=>?_|refine br fun hc=>?_|refine bt (fun hc=>?_) fun hc=>?_)<;>(try simp only[hc,bs,↓reduceIte]at h)<;>try simp only[hc]
 |(with_reducible refine aB hQ ?_;exact eo))
abbrev MY (m n:Nat):Prop:=∀ {nest:Int} {body:Bool} {r:Rd} {p:(List Sm×List ay)×Rd},Rd.rows m n nest body r=some p→∀ {s:St} {o:Nat},s.az[o]? = some (cR r)→
 aA Tryz.prog ix [.ptr o 0, .int .i64 nest, .bool body] s (.tuple [.slice .shared 13 (p.1.1.map bh), .slice .shared 1 (p.1.2.map encStr)]) ⟨s.az.set o (cR p.2),s.aD⟩
abbrev Du (m n:Nat):Prop:=∀ {nest:Int} {r:Rd} {p:Sm×Rd},Rd.stmt m n nest r=some p→∀ {s:St} {o:Nat},s.az[o]? = some (cR r)→
 aA Tryz.prog pR [.ptr o 0, .int .i64 nest] s (.agg (bh p.1)) ⟨s.az.set o (cR p.2),s.aD⟩
abbrev D3 (m n:Nat):Prop:=∀ {nest:Int} {r:Rd} {p:List Sm×Rd},Rd.block m n nest r=some p→∀ {s:St} {o:Nat},s.az[o]? = some (cR r)→
 aA Tryz.prog ko [.ptr o 0, .int .i64 nest] s (.slice .shared 13 (p.1.map bh)) ⟨s.az.set o (cR p.2),s.aD⟩
abbrev FC (m n:Nat):Prop:=∀ {nest:Int} {r:Rd} {p:Sm×Rd},Rd.choice m n nest r=some p→∀ {s:St} {o:Nat},s.az[o]? = some (cR r)→
 aA Tryz.prog oB [.ptr o 0, .int .i64 nest] s (.agg (bh p.1)) ⟨s.az.set o (cR p.2),s.aD⟩
theorem OC {m n:Nat} (Ir:D3 m n):FC m (n+1):=by
 intro nest r p h s o ho
 refine aA.lL ?_ rfl (gl r) (gl p.2) (by simp[D.ok,np]) ho
 unfold Rd.choice at h
 refine aA.go yd rfl fun B Q hB hQ=>?_
 have⟨hY,hZ,gA,gB⟩:=bu
 repeat' (first
 |simp only[go_sem,hY,hZ,gA,gB]
 |(rw[Option.bind_eq_some_iff]at h;obtain⟨_,h1,h⟩:=h;first|(with_reducible refine CU (Vw h1 (by with_unfolding_all rfl)) ?_)|(with_reducible refine CU (Ir h1 (by with_unfolding_all rfl)) ?_)|(with_reducible refine CU (vl h1 (by with_unfolding_all rfl)) ?_))
 |(with_reducible first|refine bq fun hc=>?_|refine br fun hc=>?_|refine bt (fun hc=>?_) fun hc=>?_)<;>(try simp only[hc,bs,↓reduceIte]at h)<;>try simp only[hc]
 |(with_reducible refine aB hQ ?_;exact eo))
theorem SA {m n:Nat} (MZ:MY m n):D3 m (n+1):=by
 intro nest r p h s o ho
 refine aA.lL ?_ rfl (gl r) (gl p.2) (by simp[D.ok,mZ,Tag.ok]) ho
 unfold Rd.block at h
 refine aA.go zD rfl fun B Q hB hQ=>?_
 have⟨hY,hZ,gA,gB⟩:=bu
 repeat' (first
 |simp only[go_sem,hY,hZ,gA,gB]
 |(rw[Option.bind_eq_some_iff]at h;obtain⟨_,h1,h⟩:=h;first|(with_reducible refine CU (rH h1 (by with_unfolding_all rfl)) ?_)|(obtain⟨gB,hik⟩:=Ux h1;subst hik;simp only[go_sem,gB,hY,hZ,gA,gB])|(with_reducible refine CU (MZ h1 (by with_unfolding_all rfl)) ?_))
 |(with_reducible first|refine bq fun hc=>?_|refine br fun hc=>?_|refine bt (fun hc=>?_) fun hc=>?_)<;>(try simp only[hc,bs,↓reduceIte]at h)<;>try simp only[hc]
 |(with_reducible refine aB hQ ?_;exact eo))
theorem Vx {m n:Nat} (Ir:D3 m n) (YV:FC m n):Du m (n+1):=by
 intro nest r p h s o ho
 refine aA.lL ?_ rfl (gl r) (gl p.2) (by simp[D.ok,np]) ho
 unfold Rd.stmt at h
 refine aA.go Ai rfl fun B Q hB hQ=>?_
 have⟨hY,hZ,gA,gB⟩:=bu
 repeat' (first
 |simp only[go_sem,hY,hZ,gA,gB]
 |(rw[Option.bind_eq_some_iff]at h;obtain⟨_,h1,h⟩:=h;first|(with_reducible refine CU (YT h1 (by with_unfolding_all rfl)) ?_)|(obtain⟨gB,hik⟩:=XV h1;subst hik;simp only[go_sem,gB,hY,hZ,gA,gB])|(with_reducible refine CU (qy h1 (by with_unfolding_all rfl)) ?_;have hY:=ub h1)|(with_reducible refine CU (Vw h1 (by with_unfolding_all rfl)) ?_)|(with_reducible refine CU (Ir h1 (by with_unfolding_all rfl)) ?_)|(with_reducible refine CU (acC h1 (by with_unfolding_all rfl)) ?_)|(with_reducible refine CU (rH h1 (by with_unfolding_all rfl)) ?_)|(with_reducible refine CU (Gx h1 (by with_unfolding_all rfl)) ?_))
 |(with_reducible refine CU (YV h (by with_unfolding_all rfl)) ?_)
 |(with_reducible refine CU (YU h (by with_unfolding_all rfl)) ?_)
 |(with_reducible first|refine bq fun hc=>?_|refine br fun hc=>?_|refine bt (fun hc=>?_) fun hc=>?_)<;>(try simp only[hc,bs,↓reduceIte]at h)<;>try simp only[hc]
 |(with_reducible refine aB hQ ?_;exact eo))
theorem Vy {m n:Nat} (AL : ∀ j<n,Du m j) {nest:Int} {r:Rd} {p:(List Sm×List ay)×Rd} (h:Rd.rows m (n+1) nest true r=some p) :
 aA Tryz.prog ix [.ptr 0 0, .int .i64 nest, .bool true] ⟨[cR r],[]⟩ (.tuple [.slice .shared 13 (p.1.1.map bh), .slice .shared 1 (p.1.2.map encStr)]) ⟨[cR p.2],[]⟩:=by
 unfold Rd.rows at h
 refine aA.go si rfl fun B Q hB hQ=>?_
 have⟨hY,hZ,gA,gB⟩:=bu
 repeat' (first
 |simp only[go_sem,hY,hZ,gA,gB]
 |(with_reducible first|refine bq fun hc=>?_|refine br fun hc=>?_|refine bt (fun hc=>?_) fun hc=>?_)<;>(try simp only[hc,bs,↓reduceIte]at h)<;>try simp only[hc]
 |(with_reducible refine aB hQ ?_;exact aU))
 refine bn.oZ 8 13 rfl ?_
 simp only[go_sem,hY,hZ,gA,gB]
 refine cq 1 1 (bn.ind (ι:=Nat×List Sm×Rd×Nat) (fun i=>Rd.sP m i.1 nest true i.2.1 i.2.2.1=some p∧i.2.2.2=i.2.1.length∧i.1≤n) (fun i=>i.1)
  (fun i=> [(0, .ptr 0 0),(1, .int .i64 nest),(2, .bool true),(8, .slice (.tok 0) 13 (i.2.1.map bh))]) (fun i=>⟨[cR i.2.2.1],[some i.2.2.2]⟩) ?_ (n,[],r,0) ⟨h,rfl,Nat.le_refl _⟩)
 rintro⟨j,l,r,k⟩ ⟨h,hk,hj⟩ IH
 dsimp only at hk hj;subst hk
 cases j with
 |zero=>simp only[Rd.sP]at h;cases h
 |succ j=>
  have M3:=@AL j (by omega)
  simp only[Rd.sP]at h
  repeat' (first
 |simp only[go_sem,hY,hZ,gA,gB,dF]
 |(rw[Option.bind_eq_some_iff]at h;obtain⟨_,h1,h⟩:=h;first|(with_reducible refine CU (MX h1 (by with_unfolding_all rfl)) ?_)|(with_reducible refine CU (C9 h1 (by with_unfolding_all rfl)) ?_;have hY:=is_lt h1)|(obtain⟨gA,qV⟩:=qs h1;subst qV;simp only[go_sem,hY,hZ,gA,gB])|(with_reducible refine CU (M3 h1 (by with_unfolding_all rfl)) ?_))
 |(with_reducible refine CU (lY (by with_unfolding_all rfl)) ?_)
 |(with_reducible first|refine bq fun hc=>?_|refine br fun hc=>?_|refine bt (fun hc=>?_) fun hc=>?_)<;>(try simp only[hc,bs,↓reduceIte]at h)<;>try simp only[hc]
 | (with_reducible refine aB hQ ?_;(try cases h);simp only [cj,cr,dK,dL,go_sem,hY,hZ,gA,gB,dF];try exact dM))
  ·refine eQ 1 1 ?_ ?_ (IH (j,_,_,l.length+1) ⟨h,by simp,by dsimp only;omega⟩ (Nat.lt_succ_self _))
   ·(simp only[go_sem,hY,hZ,gA,gB,dF];try exact bQ)
   ·(simp only[go_sem,hY,hZ,gA,gB,dF];try exact bQ)
theorem SB {m n:Nat} (AL : ∀ j<n,Du m j) {nest:Int} {r:Rd} {p:(List Sm×List ay)×Rd} (h:Rd.rows m (n+1) nest false r=some p) :
 aA Tryz.prog ix [.ptr 0 0, .int .i64 nest, .bool false] ⟨[cR r],[]⟩ (.tuple [.slice .shared 13 (p.1.1.map bh), .slice .shared 1 (p.1.2.map encStr)]) ⟨[cR p.2],[]⟩:=by
 unfold Rd.rows at h
 refine aA.go si rfl fun B Q hB hQ=>?_
 have⟨hY,hZ,gA,gB⟩:=bu
 repeat' (first
 |simp only[go_sem,hY,hZ,gA,gB]
 |(with_reducible first|refine bq fun hc=>?_|refine br fun hc=>?_|refine bt (fun hc=>?_) fun hc=>?_)<;>(try simp only[hc,bs,↓reduceIte]at h)<;>try simp only[hc]
 |(with_reducible refine aB hQ ?_;exact aU))
 refine bn.oZ 8 13 rfl ?_
 simp only[go_sem,hY,hZ,gA,gB]
 refine cq 1 1 (bn.ind (ι:=Nat×List Sm×Rd×Nat) (fun i=>Rd.sP m i.1 nest false i.2.1 i.2.2.1=some p∧i.2.2.2=i.2.1.length∧i.1≤n) (fun i=>i.1)
  (fun i=> [(0, .ptr 0 0),(1, .int .i64 nest),(2, .bool false),(8, .slice (.tok 0) 13 (i.2.1.map bh))]) (fun i=>⟨[cR i.2.2.1],[some i.2.2.2]⟩) ?_ (n,[],r,0) ⟨h,rfl,Nat.le_refl _⟩)
 rintro⟨j,l,r,k⟩ ⟨h,hk,hj⟩ IH
 dsimp only at hk hj;subst hk
 cases j with
 |zero=>simp only[Rd.sP]at h;cases h
 |succ j=>
  have M3:=@AL j (by omega)
  simp only[Rd.sP]at h
  repeat' (first
 |simp only[go_sem,hY,hZ,gA,gB,dF]
 |(rw[Option.bind_eq_some_iff]at h;obtain⟨_,h1,h⟩:=h;first|(with_reducible refine CU (MX h1 (by with_unfolding_all rfl)) ?_)|(with_reducible refine CU (C9 h1 (by with_unfolding_all rfl)) ?_;have hY:=is_lt h1)|(obtain⟨gA,qV⟩:=qs h1;subst qV;simp only[go_sem,hY,hZ,gA,gB])|(with_reducible refine CU (M3 h1 (by with_unfolding_all rfl)) ?_))
 |(with_reducible refine CU (lY (by with_unfolding_all rfl)) ?_)
 |(with_reducible first|refine bq fun hc=>?_|refine br fun hc=>?_|refine bt (fun hc=>?_) fun hc=>?_)<;>(try simp only[hc,bs,↓reduceIte]at h)<;>try simp only[hc]
 | (with_reducible refine aB hQ ?_;(try cases h);simp only [cj,cr,dK,dL,go_sem,hY,hZ,gA,gB,dF];try exact dM))
  ·refine eQ 1 1 ?_ ?_ (IH (j,_,_,l.length+1) ⟨h,by simp,by dsimp only;omega⟩ (Nat.lt_succ_self _))
   ·(simp only[go_sem,hY,hZ,gA,gB,dF];try exact bQ)
   ·(simp only[go_sem,hY,hZ,gA,gB,dF];try exact bQ)
  ·refine eQ 1 1 ?_ ?_ (IH (j,_,_,l.length+1) ⟨h,by simp,by dsimp only;omega⟩ (Nat.lt_succ_self _))
   ·(simp only[go_sem,hY,hZ,gA,gB,dF];try exact bQ)
   ·(simp only[go_sem,hY,hZ,gA,gB,dF];try exact bQ)
theorem Vz {m n:Nat} (AL : ∀ j<n,Du m j):MY m (n+1):=by
 intro nest body r p h s o ho
 refine aA.lL ?_ rfl (gl r) (gl p.2) (by simp[D.ok,D.bN,mZ,fw,Tag.ok]) ho
 cases body
 ·exact SB AL h
 ·exact Vy AL h
theorem agd (m:Nat) : ∀ n,∀ k<n,MY m k∧Du m k∧D3 m k∧FC m k:=by
 intro n
 induction n with
 |zero=>intro k h;exact absurd h (Nat.not_lt_zero _)
 | succ n ih=>
  intro k hk
  cases k with
  |zero=>
   refine⟨?_, ?_, ?_, ?_⟩
   ·intro nest body r p h;simp only[Rd.rows]at h;cases h
   ·intro nest r p h;simp only[Rd.stmt]at h;cases h
   ·intro nest r p h;simp only[Rd.block]at h;cases h
   ·intro nest r p h;simp only[Rd.choice]at h;cases h
  |succ k=>
   obtain⟨h1,h2,h3,h4⟩:=ih k (by omega)
   exact⟨Vz fun j hj=>(ih j (by omega)).2.1,Vx h3 h4,SA h1,OC h3⟩
theorem MZ {m n:Nat} {nest:Int} {body:Bool} {r:Rd} {p:(List Sm×List ay)×Rd} (h:Rd.rows m n nest body r=some p) {s:St} {o:Nat} (ho:s.az[o]? = some (cR r)) :
 aA Tryz.prog ix [.ptr o 0, .int .i64 nest, .bool body] s (.tuple [.slice .shared 13 (p.1.1.map bh), .slice .shared 1 (p.1.2.map encStr)]) ⟨s.az.set o (cR p.2),s.aD⟩:=
 (agd m (n+1) n (Nat.lt_succ_self _)).1 h ho
theorem yS {m:Nat} {B:fZ} {Q:Exit→Tm→St→Prop} {row:List D} {name:ay} {p:Pc×Rd} (hB:B.s = ⟨[row],[]⟩) (hQ:jO 1 0 [(2,some (true,5))] (.agg (cH p.1)) ⟨[cR p.2],[]⟩=Q)
 (ps:List Pm) (r:Rd) (h:Rd.wE m name ps r=some p) :
 bn Tryz.prog B 56 ae6 (gI 2 (jF (gS Tryz.prog B 56 ae7 Q) Q)) [(0, .ptr 0 0),(2, .ptr 1 0),(3, .ptr 2 0)]
  ⟨[cR r,[.str [], .slice .full 0 [], .slice .full 0 [], .slice .full 0 [], .slice .full 0 []],[.str name, .slice .shared 2 (ps.map fC), .slice .full 0 [], .slice .full 0 [], .slice .full 0 []]],[]⟩:=by
 have⟨hY,hZ,gA,gB⟩:=bu
 unfold Rd.wE at h
 rw[Option.bind_eq_some_iff]at h
 obtain⟨q,h,hr⟩:=h
 refine bn.xn 2 2 1 rfl rfl ?_
 simp only[go_sem,hY,hZ,gA,gB]
 refine cq 3 1 (bn.ind (ι:=Nat×List ay×Rd×Nat) (fun i=>Rd.vars m i.1 i.2.1 i.2.2.1=some q∧i.2.2.2=i.2.1.length) (fun i=>i.1)
  (fun i=> [(0, .ptr 0 0),(2, .ptr 1 0),(3, .ptr 2 0)]) (fun i=>⟨[cR i.2.2.1,[.str [], .slice .full 0 [], .slice .full 0 [], .slice .full 0 [], .slice .full 0 []],[.str name, .slice .shared 2 (ps.map fC), .slice (.tok 0) 1 (i.2.1.map encStr), .slice .full 0 [], .slice .full 0 []]],[some i.2.2.2]⟩) ?_ (m,[],r,0) ⟨h,rfl⟩)
 rintro⟨n,l,r,k⟩ ⟨h,hk⟩ IH
 dsimp only at hk;subst hk
 cases n with
 |zero=>simp only[Rd.vars]at h;cases h
 |succ n=>
  simp only[Rd.vars]at h
  repeat' (first
 |simp only[go_sem,hY,hZ,gA,gB]
 |(rw[Option.bind_eq_some_iff]at h;obtain⟨_,h1,h⟩:=h;first|(with_reducible refine CU (vl h1 (by with_unfolding_all rfl)) ?_)|(with_reducible refine CU (Pv h1 (by with_unfolding_all rfl) (by with_unfolding_all rfl)) ?_)|(with_reducible refine CU (MZ h1 (by with_unfolding_all rfl)) ?_))
 |(with_reducible first|refine bq fun hc=>?_|refine br fun hc=>?_|refine bt (fun hc=>?_) fun hc=>?_)<;>(try simp only[hc,bs,↓reduceIte]at h)<;>try simp only[hc]
 |(with_reducible refine aB hQ ?_;exact eo)
 |(cases h;replace h:=hr;clear hr;(try simp only[bs,↓reduceIte]at h))
 |(cases h;done))
  refine cq 3 1 (IH (n,_,_,_) ⟨h,rfl⟩ (Nat.lt_succ_self _))
theorem age {m:Nat} {r:Rd} {p:Pc×Rd} (h:Rd.proc m r=some p) {s:St} {o:Nat} (ho:s.az[o]? = some (cR r)) :
 aA Tryz.prog pQ [.ptr o 0] s (.agg (cH p.1)) ⟨s.az.set o (cR p.2),s.aD⟩:=by
 refine aA.lL ?_ rfl (gl r) (gl p.2) (by simp[D.ok,Bf]) ho
 unfold Rd.proc Rd.other at h
 refine aA.go Ao rfl fun B Q hB hQ=>?_
 have⟨hY,hZ,gA,gB⟩:=bu
 repeat' (first
 |simp only[go_sem,hY,hZ,gA,gB]
 |(rw[Option.bind_eq_some_iff]at h;obtain⟨_,h1,h⟩:=h;first|(with_reducible refine CU (rH h1 (by with_unfolding_all rfl)) ?_)|(with_reducible refine CU (C9 h1 (by with_unfolding_all rfl)) ?_)|(with_reducible refine CU (As h1 (by with_unfolding_all rfl)) ?_))
 |(with_reducible refine CU (lY (by with_unfolding_all rfl)) ?_)
 |(with_reducible first|refine bq fun hc=>?_|refine br fun hc=>?_|refine bt (fun hc=>?_) fun hc=>?_)<;>(try simp only[hc,bs,↓reduceIte]at h)<;>try simp only[hc]
 |(with_reducible refine aB hQ ?_;exact aU))
 ·refine cq 3 0 (yS hB hQ [] _ h)
 ·rename_i nm _ _ _ _ _
  rw[Option.bind_eq_some_iff]at h
  obtain⟨q,h,hr⟩:=h
  refine bn.xn 2 1 2 rfl rfl ?_
  simp only[go_sem,hY,hZ,gA,gB]
  refine cq 3 1 (bn.ind (ι:=Nat×List Pm×Rd×Nat) (fun i=>Rd.params i.1 i.2.1 i.2.2.1=some q∧i.2.2.2=i.2.1.length) (fun i=>i.1)
   (fun i=> [(0, .ptr 0 0),(2, .ptr 1 0),(3, .ptr 2 0)]) (fun i=>⟨[cR i.2.2.1,[.str [], .slice .full 0 [], .slice .full 0 [], .slice .full 0 [], .slice .full 0 []],[.str nm.1, .slice (.tok 0) 2 (i.2.1.map fC), .slice .full 0 [], .slice .full 0 [], .slice .full 0 []]],[some i.2.2.2]⟩) ?_ (m,[],_,0) ⟨h,rfl⟩)
  rintro⟨n,l,r,k⟩ ⟨h,hk⟩ IH
  dsimp only at hk;subst hk
  cases n with
  |zero=>simp only[Rd.params]at h;cases h
  |succ n=>
   simp only[Rd.params]at h
   repeat' (first
 |simp only[go_sem,hY,hZ,gA,gB]
 |(rw[Option.bind_eq_some_iff]at h;obtain⟨_,h1,h⟩:=h;first|(with_reducible refine CU (vl h1 (by with_unfolding_all rfl)) ?_)|(with_reducible refine CU (As h1 (by with_unfolding_all rfl)) ?_)|(obtain⟨gA,qV⟩:=qs h1;subst qV;simp only[go_sem,hY,hZ,gA,gB])|(with_reducible refine CU (rH h1 (by with_unfolding_all rfl)) ?_))
 |(with_reducible refine CU (lY (by with_unfolding_all rfl)) ?_)
 |(with_reducible first|refine bq fun hc=>?_|refine br fun hc=>?_|refine bt (fun hc=>?_) fun hc=>?_)<;>(try simp only[hc,bs,↓reduceIte]at h)<;>try simp only[hc]
 |(with_reducible refine aB hQ ?_;exact eo)
 |(cases h;replace h:=hr;clear hr;(try simp only[bs,↓reduceIte]at h))
 | (cases h;done))
   ·refine cq 3 1 (IH (n,_,_,l.length+1) ⟨h,by simp⟩ (Nat.lt_succ_self _))
   ·refine cq 3 0 (yS hB hQ _ _ h)
   ·refine cq 3 0 (yS hB hQ _ _ h)
 ·refine cq 3 0 (yS hB hQ [] _ h)
theorem M4 {m:Nat} {B:fZ} {Q:Exit→Tm→St→Prop} {row:List D} {g:List ay} {p:Pg×Rd} (hB:B.s = ⟨[row],[]⟩) (hQ:jO 1 0 [(2,some (true,2))] (.agg (bY p.1)) ⟨[cR p.2],[]⟩=Q)
 (r:Rd) {k:Nat} (h:((Rd.procs m k [] r).bind fun q=>some (⟨g,q.1⟩,q.2))=some p) :
 bn Tryz.prog B 49 QZO (gI 2 (jF (gS Tryz.prog B 49 QZX Q) Q)) [(0, .ptr 0 0),(2, .ptr 1 0),(3, .ptr 2 0)]
  ⟨[cR r,[.slice .full 0 [], .slice .full 0 []],[.slice .shared 1 (g.map encStr), .slice .full 0 []]],[]⟩:=by
 have⟨hY,hZ,gA,gB⟩:=bu
 rw[Option.bind_eq_some_iff]at h
 obtain⟨q,h,hr⟩:=h
 cases hr
 refine bn.xn 2 1 5 rfl rfl ?_
 simp only[go_sem,hY,hZ,gA,gB]
 refine cq 3 1 (bn.ind (ι:=Nat×List Pc×Rd×Nat) (fun i=>Rd.procs m i.1 i.2.1 i.2.2.1=some q∧i.2.2.2=i.2.1.length) (fun i=>i.1)
  (fun i=> [(0, .ptr 0 0),(2, .ptr 1 0),(3, .ptr 2 0)]) (fun i=>⟨[cR i.2.2.1,[.slice .full 0 [], .slice .full 0 []],[.slice .shared 1 (g.map encStr), .slice (.tok 0) 5 (i.2.1.map cH)]],[some i.2.2.2]⟩) ?_ (k,[],r,0) ⟨h,rfl⟩)
 rintro⟨n,l,r,k⟩ ⟨h,hk⟩ IH
 dsimp only at hk;subst hk
 cases n with
 |zero=>simp only[Rd.procs]at h;cases h
 |succ n=>
  simp only[Rd.procs,Rd.Gf,Rd.Gg]at h
  repeat' (first
 |simp only[go_sem,hY,hZ,gA,gB]
 |(rw[Option.bind_eq_some_iff]at h;obtain⟨_,h1,h⟩:=h;first|(with_reducible refine CU (C9 h1 (by with_unfolding_all rfl)) ?_;have hY:=is_lt h1)|(with_reducible refine CU (Gx h1 (by with_unfolding_all rfl)) ?_)|(with_reducible refine CU (age h1 (by with_unfolding_all rfl)) ?_)|(obtain⟨gA,qV⟩:=qs h1;subst qV;simp only[go_sem,hY,hZ,gA,gB])|(with_reducible refine CU (qy h1 (by with_unfolding_all rfl)) ?_))
 |(with_reducible refine CU (lY (by with_unfolding_all rfl)) ?_)
 |(with_reducible first|refine bq fun hc=>?_|refine br fun hc=>?_|refine bt (fun hc=>?_) fun hc=>?_)<;>(try simp only[hc,bs,↓reduceIte]at h)<;>try simp only[hc]
 |(with_reducible refine aB hQ ?_;exact eo))
  ·refine cq 3 1 (IH (n,_,_,l.length+1) ⟨h,by simp⟩ (Nat.lt_succ_self _))
theorem YW {c:UInt8} {r:ay} (h:kE c=true):0<oE (c::r):=by simp[oE,h]
theorem SC {text:ay} (hl:text.length≤100000) {B:fZ} {Q:Exit→Tm→St→Prop} {p:List aX×Int×Int} (hB:B.s=S0)
 (hQ:jO 0 0 [(2,none),(3,some (true,2))] (.tuple [.slice .shared 4 (p.1.map fi), .agg (n4 p.2)]) ⟨[],[]⟩=Q)
 {n pos:Nat} {out:List aX} (ho:out.length≤2000) (hp:pos≤text.length) (IH:uN text B Q p (n+1))
 {c:UInt8} {r:ay} (h1:text.drop pos=c::r) (hb:rG c=false) (hc:((c.toNat:Int)==35)=false) (hL:kN c=false) (hD:kE c=true) (hn:(c::r).length<n+1) (h:mc (n+1) pos (c::r) out=p) :
 gS Tryz.prog B 152 C4 (ld Tryz.prog B 152 xL Q) (p8 text out pos) (qQ out):=by
 have gA:0<1:=Nat.zero_lt_one
 have gB:0<1:=Nat.zero_lt_one
 have hZ:=(drop_cons h1).1
 have g4:=(drop_cons h1).2.2.2
 have hY:pos<4611686018427387904:=by omega
 have fm:decide ((pos:Int)≥(text.length:Int))=false:=by simp;omega
 have gC:(out.length+1)*41≤aF:=by simp only[aF];omega
 have cd:=Mj (c::r)
 have xd:=YW (r:=r) hD
 have vn:(c::r).length=text.length - pos:=by rw[← h1,List.length_drop]
 have zo:=Mk (c::r)
 simp only[mc,hb,Bool.false_eq_true,↓reduceIte,hc,gL,hL,hD]at h
 simp only[rG,Bool.or_eq_false_iff]at hb
 generalize hK:oE (c::r)=k at h cd xd zo
 have hlen:((c::r).take k).length=k:=by rw[List.length_take];omega
 have rk:=fun s=>XZ zo (by rw[hlen];omega) s
 simp only[hlen]at h
 have gm:((c::r).take k)[0]? = some c:=by rw[List.getElem?_take_of_lt xd];rfl
 have e2:(0:Int)≤(pos:Int)∧(pos:Int)≤((pos+k:Nat):Int)∧((pos+k:Nat):Int)≤(text.length:Int):=by omega
 have e3:(text.take (pos+k)).drop pos=(c::r).take k:=by rw[Bq,h1]
 have fin:text.drop (pos+k)=(c::r).drop k:=by rw[← h1,List.drop_drop]
 have wK:((c::r).drop k).length<n:=by rw[List.length_drop];omega
 have hgo:pos+k≤text.length:=by omega
 repeat' (first
 |simp only[go_sem,hY,hZ,gA,gB,fm,hb.1.1.1,hb.1.1.2,hb.1.2,hb.2,hc,hL,hD]
 |(with_reducible refine CU (jk _ _) ?_)
 |(with_reducible refine CU (kW _ _) ?_)
 |(with_reducible refine cG (l:=3) (by with_unfolding_all rfl) ?_)
 |(with_reducible refine aB hQ ?_;exact aU))
 refine cq 2 1 (bn.ind (ι:=ay×Nat) (fun i=>text.drop i.2=i.1∧i.2+oE i.1=pos+k) (fun i=>i.1.length)
  (fun i=>p8 text out i.2) (fun i=>⟨[[.int .i64 0, .int .i64 0],[.int .i64 0, .str [], .int .i64 0, .int .i64 (pos:Int)]],[some out.length]⟩) ?_ (c::r,pos) ⟨h1,by dsimp only;omega⟩)
 rintro⟨rest,j⟩ ⟨j1,j2⟩ IHl
 dsimp only at j1 j2
 have step : ∀ d rM,rest=d::rM→kE d=true→gS Tryz.prog B 152 QXD (jF (bn Tryz.prog B 152 QXD
  (gI 3 (jF (gS Tryz.prog B 152 QY6 (ld Tryz.prog B 152 xL Q)) (ld Tryz.prog B 152 xL Q))))
  (gI 3 (jF (gS Tryz.prog B 152 QY6 (ld Tryz.prog B 152 xL Q)) (ld Tryz.prog B 152 xL Q))))
  (p8 text out j) ⟨[[.int .i64 0, .int .i64 0],[.int .i64 0, .str [], .int .i64 0, .int .i64 (pos:Int)]],[some out.length]⟩:=by
  rintro d rM rfl hd
  obtain⟨hZ,g2,fm,g5⟩:=drop_cons j1
  have hY:j<4611686018427387904:=by omega
  simp only[oE,hd,↓reduceIte]at j2
  repeat' (first
 |simp only[go_sem,hY,hZ,gA,gB,fm,hd]
 |(with_reducible refine CU (kW _ _) ?_)
 |(with_reducible first|refine bq fun hc=>?_|refine br fun hc=>?_|refine bt (fun hc=>?_) fun hc=>?_)<;>(try simp only[hc,bs,↓reduceIte]at h)<;>try simp only[hc]
 |(with_reducible refine aB hQ ?_;(try cases h);simp only[cj,cr,dK,dL,go_sem,hY,hZ,gA,gB,fm,hd];try exact dM))
  refine cq 2 1 (IHl (rM,j+1) ⟨g2,by dsimp only;omega⟩ (Nat.lt_succ_self _))
 cases rest with
 | nil=>
  have fm:=drop_nil j1
  simp only[oE,Nat.add_zero]at j2
  subst j2
  by_cases hz:k > 1∧(c.toNat:Int)=48
  ·have z1:decide ((k:Int) > 1)=true:=by simp;omega
   have z2:((c.toNat:Int)==48)=true:=by simp[hz.2]
   rw[if_pos hz]at h
   dsimp only at h
   repeat' (first
 |simp only[go_sem,hY,hZ,gA,gB,fm,e2,e3,hlen,gm,z1,z2]
 |(with_reducible refine cG (l:=4) (by with_unfolding_all rfl) ?_)
 |(with_reducible refine cG (l:=5) (by with_unfolding_all rfl) ?_)
 |(with_reducible first|refine bq fun hc=>?_|refine br fun hc=>?_|refine bt (fun hc=>?_) fun hc=>?_)<;>(try simp only[hc,bs,↓reduceIte]at h)<;>try simp only[hc]
 | (with_reducible refine aB hQ ?_;(try cases h);simp only [cj,cr,dK,dL,go_sem,hY,hZ,gA,gB,fm,e2,e3,hlen,gm,z1,z2];try exact dM))
  ·have M5:decide ((k:Int) > 1)=false∨(decide ((k:Int) > 1)=true∧((c.toNat:Int)==48)=false):=by
    by_cases h1:k > 1
    ·right;exact⟨by simp;omega,by simp;intro h2;exact hz ⟨h1,h2⟩⟩
    ·left;simp;omega
   rw[if_neg hz]at h
   cases hw:oa 0 ((c::r).take k)with
   |none=>
    have M6:qz ((c::r).take k)=(0,false):=by simp only[qz,hw]
    simp only[M6]at rk
    simp only[hw]at h
    rcases M5 with z1|⟨z1,z2⟩
    ·repeat' (first
 |simp only[go_sem,hY,hZ,gA,gB,fm,e2,e3,hlen,gm,z1]
 |(with_reducible refine CU (rk _) ?_)
 |(with_reducible refine cG (l:=4) (by with_unfolding_all rfl) ?_)
 |(with_reducible refine cG (l:=5) (by with_unfolding_all rfl) ?_)
 |(with_reducible first|refine bq fun hc=>?_|refine br fun hc=>?_|refine bt (fun hc=>?_) fun hc=>?_)<;>(try simp only[hc,bs,↓reduceIte]at h)<;>try simp only[hc]
 | (with_reducible refine aB hQ ?_;(try cases h);simp only [cj,cr,dK,dL,go_sem,hY,hZ,gA,gB,fm,e2,e3,hlen,gm,z1];try exact dM))
    ·repeat' (first
 |simp only[go_sem,hY,hZ,gA,gB,fm,e2,e3,hlen,gm,z1,z2]
 |(with_reducible refine CU (rk _) ?_)
 |(with_reducible refine cG (l:=4) (by with_unfolding_all rfl) ?_)
 |(with_reducible refine cG (l:=5) (by with_unfolding_all rfl) ?_)
 |(with_reducible first|refine bq fun hc=>?_|refine br fun hc=>?_|refine bt (fun hc=>?_) fun hc=>?_)<;>(try simp only[hc,bs,↓reduceIte]at h)<;>try simp only[hc]
 | (with_reducible refine aB hQ ?_;(try cases h);simp only [cj,cr,dK,dL,go_sem,hY,hZ,gA,gB,fm,e2,e3,hlen,gm,z1,z2];try exact dM))
   | some v=>
    have M6:qz ((c::r).take k)=(v,true):=by simp only[qz,hw]
    simp only[M6]at rk
    simp only[hw,hlen]at h
    by_cases tG:out.length=2000
    ·have lD:((out.length:Int)==2000)=true:=by simp [tG]
     simp only[tG,↓reduceIte]at h
     rcases M5 with z1|⟨z1,z2⟩
     ·repeat' (first
 |simp only[go_sem,hY,hZ,gA,gB,fm,e2,e3,hlen,gm,z1,lD]
 |(with_reducible refine CU (rk _) ?_)
 |(with_reducible refine cG (l:=4) (by with_unfolding_all rfl) ?_)
 |(with_reducible refine cG (l:=5) (by with_unfolding_all rfl) ?_)
 |(with_reducible first|refine bq fun hc=>?_|refine br fun hc=>?_|refine bt (fun hc=>?_) fun hc=>?_)<;>(try simp only[hc,bs,↓reduceIte]at h)<;>try simp only[hc]
 |(with_reducible refine aB hQ ?_;(try cases h);simp only[cj,cr,dK,dL,go_sem,hY,hZ,gA,gB,fm,e2,e3,hlen,gm,z1,lD];try exact dM))
     ·repeat' (first
 |simp only[go_sem,hY,hZ,gA,gB,fm,e2,e3,hlen,gm,z1,z2,lD]
 |(with_reducible refine CU (rk _) ?_)
 |(with_reducible refine cG (l:=4) (by with_unfolding_all rfl) ?_)
 |(with_reducible refine cG (l:=5) (by with_unfolding_all rfl) ?_)
 |(with_reducible first|refine bq fun hc=>?_|refine br fun hc=>?_|refine bt (fun hc=>?_) fun hc=>?_)<;>(try simp only[hc,bs,↓reduceIte]at h)<;>try simp only[hc]
 | (with_reducible refine aB hQ ?_;(try cases h);simp only [cj,cr,dK,dL,go_sem,hY,hZ,gA,gB,fm,e2,e3,hlen,gm,z1,z2,lD];try exact dM))
    ·have lD:((out.length:Int)==2000)=false:=by simp;omega
     have EC : ∀ t:aX,(out++ [t]).length≤2000:=by intro t;simp;omega
     simp only[tG,↓reduceIte]at h
     rcases M5 with z1|⟨z1,z2⟩
     ·repeat' (first
 |simp only[go_sem,hY,hZ,gA,gB,fm,e2,e3,hlen,gm,z1,lD,gC]
 |(with_reducible refine CU (rk _) ?_)
 |(with_reducible refine cG (l:=4) (by with_unfolding_all rfl) ?_)
 |(with_reducible refine cG (l:=5) (by with_unfolding_all rfl) ?_)
 |(refine IH.to hB fin h wK (EC _) hgo (Nat.lt_succ_self _) ?_ ?_ ?_<;>((try simp only[go_sem,hY,hZ,gA,gB]);repeat' (first|exact Ok.out|with_reducible refine kM ?_ ?_|omega|(simp;done)));done)
 |(with_reducible first|refine bq fun hc=>?_|refine br fun hc=>?_|refine bt (fun hc=>?_) fun hc=>?_)<;>(try simp only[hc,bs,↓reduceIte]at h)<;>try simp only[hc]
 |(with_reducible refine aB hQ ?_;(try cases h);simp only[cj,cr,dK,dL,go_sem,hY,hZ,gA,gB,fm,e2,e3,hlen,gm,z1,lD,gC];try exact dM))
     ·repeat' (first
 |simp only[go_sem,hY,hZ,gA,gB,fm,e2,e3,hlen,gm,z1,z2,lD,gC]
 |(with_reducible refine CU (rk _) ?_)
 |(with_reducible refine cG (l:=4) (by with_unfolding_all rfl) ?_)
 |(with_reducible refine cG (l:=5) (by with_unfolding_all rfl) ?_)
 |(refine IH.to hB fin h wK (EC _) hgo (Nat.lt_succ_self _) ?_ ?_ ?_<;>((try simp only[go_sem,hY,hZ,gA,gB]);repeat' (first|exact Ok.out|with_reducible refine kM ?_ ?_|omega|(simp;done)));done)
 |(with_reducible first|refine bq fun hc=>?_|refine br fun hc=>?_|refine bt (fun hc=>?_) fun hc=>?_)<;>(try simp only[hc,bs,↓reduceIte]at h)<;>try simp only[hc]
 |(with_reducible refine aB hQ ?_;(try cases h);simp only[cj,cr,dK,dL,go_sem,hY,hZ,gA,gB,fm,e2,e3,hlen,gm,z1,z2,lD,gC];try exact dM))
 | cons d rest=>
  obtain⟨hZ,g2,fm,g5⟩:=drop_cons j1
  have hY:j<4611686018427387904:=by omega
  cases hd:kE d
  ·simp only [oE,hd,Bool.false_eq_true, ↓reduceIte,Nat.add_zero]at j2
   subst j2
   by_cases hz:k > 1∧(c.toNat:Int)=48
   ·have z1:decide ((k:Int) > 1)=true:=by simp;omega
    have z2:((c.toNat:Int)==48)=true:=by simp[hz.2]
    rw[if_pos hz]at h
    dsimp only at h
    repeat' (first
 |simp only[go_sem,hY,hZ,gA,gB,fm,hd,e2,e3,hlen,gm,z1,z2]
 |(with_reducible refine CU (kW _ _) ?_)
 |(with_reducible refine cG (l:=4) (by with_unfolding_all rfl) ?_)
 |(with_reducible refine cG (l:=5) (by with_unfolding_all rfl) ?_)
 |(with_reducible first|refine bq fun hc=>?_|refine br fun hc=>?_|refine bt (fun hc=>?_) fun hc=>?_)<;>(try simp only[hc,bs,↓reduceIte]at h)<;>try simp only[hc]
 | (with_reducible refine aB hQ ?_;(try cases h);simp only [cj,cr,dK,dL,go_sem,hY,hZ,gA,gB,fm,hd,e2,e3,hlen,gm,z1,z2];try exact dM))
   ·have M5:decide ((k:Int) > 1)=false∨(decide ((k:Int) > 1)=true∧((c.toNat:Int)==48)=false):=by
     by_cases h1:k > 1
     ·right;exact⟨by simp;omega,by simp;intro h2;exact hz ⟨h1,h2⟩⟩
     ·left;simp;omega
    rw[if_neg hz]at h
    cases hw:oa 0 ((c::r).take k)with
    |none=>
     have M6:qz ((c::r).take k)=(0,false):=by simp only[qz,hw]
     simp only[M6]at rk
     simp only[hw]at h
     rcases M5 with z1|⟨z1,z2⟩
     ·repeat' (first
 |simp only[go_sem,hY,hZ,gA,gB,fm,hd,e2,e3,hlen,gm,z1]
 |(with_reducible refine CU (kW _ _) ?_)
 |(with_reducible refine CU (rk _) ?_)
 |(with_reducible refine cG (l:=4) (by with_unfolding_all rfl) ?_)
 |(with_reducible refine cG (l:=5) (by with_unfolding_all rfl) ?_)
 |(with_reducible first|refine bq fun hc=>?_|refine br fun hc=>?_|refine bt (fun hc=>?_) fun hc=>?_)<;>(try simp only[hc,bs,↓reduceIte]at h)<;>try simp only[hc]
 |(with_reducible refine aB hQ ?_;(try cases h);simp only[cj,cr,dK,dL,go_sem,hY,hZ,gA,gB,fm,hd,e2,e3,hlen,gm,z1];try exact dM))
     ·repeat' (first
 |simp only[go_sem,hY,hZ,gA,gB,fm,hd,e2,e3,hlen,gm,z1,z2]
 |(with_reducible refine CU (kW _ _) ?_)
 |(with_reducible refine CU (rk _) ?_)
 |(with_reducible refine cG (l:=4) (by with_unfolding_all rfl) ?_)
 |(with_reducible refine cG (l:=5) (by with_unfolding_all rfl) ?_)
 |(with_reducible first|refine bq fun hc=>?_|refine br fun hc=>?_|refine bt (fun hc=>?_) fun hc=>?_)<;>(try simp only[hc,bs,↓reduceIte]at h)<;>try simp only[hc]
 | (with_reducible refine aB hQ ?_;(try cases h);simp only [cj,cr,dK,dL,go_sem,hY,hZ,gA,gB,fm,hd,e2,e3,hlen,gm,z1,z2];try exact dM))
    | some v=>
     have M6:qz ((c::r).take k)=(v,true):=by simp only[qz,hw]
     simp only[M6]at rk
     simp only[hw,hlen]at h
     by_cases tG:out.length=2000
     ·have lD:((out.length:Int)==2000)=true:=by simp [tG]
      simp only[tG,↓reduceIte]at h
      rcases M5 with z1|⟨z1,z2⟩
      ·repeat' (first
 |simp only[go_sem,hY,hZ,gA,gB,fm,hd,e2,e3,hlen,gm,z1,lD]
 |(with_reducible refine CU (kW _ _) ?_)
 |(with_reducible refine CU (rk _) ?_)
 |(with_reducible refine cG (l:=4) (by with_unfolding_all rfl) ?_)
 |(with_reducible refine cG (l:=5) (by with_unfolding_all rfl) ?_)
 |(with_reducible first|refine bq fun hc=>?_|refine br fun hc=>?_|refine bt (fun hc=>?_) fun hc=>?_)<;>(try simp only[hc,bs,↓reduceIte]at h)<;>try simp only[hc]
 |(with_reducible refine aB hQ ?_;(try cases h);simp only[cj,cr,dK,dL,go_sem,hY,hZ,gA,gB,fm,hd,e2,e3,hlen,gm,z1,lD];try exact dM))
      ·repeat' (first
 |simp only[go_sem,hY,hZ,gA,gB,fm,hd,e2,e3,hlen,gm,z1,z2,lD]
 |(with_reducible refine CU (kW _ _) ?_)
 |(with_reducible refine CU (rk _) ?_)
 |(with_reducible refine cG (l:=4) (by with_unfolding_all rfl) ?_)
 |(with_reducible refine cG (l:=5) (by with_unfolding_all rfl) ?_)
 |(with_reducible first|refine bq fun hc=>?_|refine br fun hc=>?_|refine bt (fun hc=>?_) fun hc=>?_)<;>(try simp only[hc,bs,↓reduceIte]at h)<;>try simp only[hc]
 |(with_reducible refine aB hQ ?_;(try cases h);simp only[cj,cr,dK,dL,go_sem,hY,hZ,gA,gB,fm,hd,e2,e3,hlen,gm,z1,z2,lD];try exact dM))
     ·have lD:((out.length:Int)==2000)=false:=by simp;omega
      have EC : ∀ t:aX,(out++ [t]).length≤2000:=by intro t;simp;omega
      simp only[tG,↓reduceIte]at h
      rcases M5 with z1|⟨z1,z2⟩
      ·repeat' (first
 |simp only[go_sem,hY,hZ,gA,gB,fm,hd,e2,e3,hlen,gm,z1,lD,gC]
 |(with_reducible refine CU (kW _ _) ?_)
 |(with_reducible refine CU (rk _) ?_)
 |(with_reducible refine cG (l:=4) (by with_unfolding_all rfl) ?_)
 |(with_reducible refine cG (l:=5) (by with_unfolding_all rfl) ?_)
 |(refine IH.to hB fin h wK (EC _) hgo (Nat.lt_succ_self _) ?_ ?_ ?_<;>((try simp only[go_sem,hY,hZ,gA,gB]);repeat' (first|exact Ok.out|with_reducible refine kM ?_ ?_|omega|(simp;done)));done)
 |(with_reducible first|refine bq fun hc=>?_|refine br fun hc=>?_|refine bt (fun hc=>?_) fun hc=>?_)<;>(try simp only[hc,bs,↓reduceIte]at h)<;>try simp only[hc]
 |(with_reducible refine aB hQ ?_;(try cases h);simp only[cj,cr,dK,dL,go_sem,hY,hZ,gA,gB,fm,hd,e2,e3,hlen,gm,z1,lD,gC];try exact dM))
      ·repeat' (first
 |simp only[go_sem,hY,hZ,gA,gB,fm,hd,e2,e3,hlen,gm,z1,z2,lD,gC]
 |(with_reducible refine CU (kW _ _) ?_)
 |(with_reducible refine CU (rk _) ?_)
 |(with_reducible refine cG (l:=4) (by with_unfolding_all rfl) ?_)
 |(with_reducible refine cG (l:=5) (by with_unfolding_all rfl) ?_)
 |(refine IH.to hB fin h wK (EC _) hgo (Nat.lt_succ_self _) ?_ ?_ ?_<;>((try simp only[go_sem,hY,hZ,gA,gB]);repeat' (first|exact Ok.out|with_reducible refine kM ?_ ?_|omega|(simp;done)));done)
 |(with_reducible refine aB hQ ?_;exact aU))
  ·exact step d rest rfl hd
theorem Pw {text:ay} (hl:text.length≤100000) {B:fZ} {Q:Exit→Tm→St→Prop} {p:List aX×Int×Int} (hB:B.s=S0)
 (hQ:jO 0 0 [(2,none),(3,some (true,2))] (.tuple [.slice .shared 4 (p.1.map fi), .agg (n4 p.2)]) ⟨[],[]⟩=Q)
 {n pos:Nat} {out:List aX} (ho:out.length≤2000) (hp:pos≤text.length) (IH:uN text B Q p (n+1)) {rest:ay} (h1:text.drop pos=rest) (h:mc (n+1) pos rest out=p) (hn:rest.length<n+1) :
 gS Tryz.prog B 152 C4 (ld Tryz.prog B 152 xL Q) (p8 text out pos) (qQ out):=by
 cases rest with
 |nil=>exact lex_nil hl hB hQ ho hp IH h1 h
 | cons c r=>
  cases hb:rG c
  ·cases hc:((c.toNat:Int)==35)
   ·cases hL:kN c
    ·cases hD:kE c
     ·exact X1 hl hB hQ ho hp IH h1 hb hc hL hD hn h
     ·exact SC hl hB hQ ho hp IH h1 hb hc hL hD hn h
    ·exact X2 hl hB hQ ho hp IH h1 hb hc hL hn h
   ·exact Se hl hB hQ ho hp IH h1 hb hc hn h
  ·exact UE hl hB hQ ho hp IH h1 hb hn h
theorem agf {text:ay} (hl:text.length≤100000) {B:fZ} {Q:Exit→Tm→St→Prop} {p:List aX×Int×Int} (hB:B.s=S0)
 (hQ:jO 0 0 [(2,none),(3,some (true,2))] (.tuple [.slice .shared 4 (p.1.map fi), .agg (n4 p.2)]) ⟨[],[]⟩=Q) : ∀ N,uN text B Q p N:=by
 intro N
 induction N with
 |zero=>intro n pos rest out _ _ _ _ _ h;exact absurd h (Nat.not_lt_zero _)
 | succ N ih=>
  intro n pos rest out h1 h h2 h3 h4 h5
  cases n with
  |zero=>omega
  |succ n=>
   refine pP.uH ?_
   show gS Tryz.prog B 152 C4 (ld Tryz.prog B 152 xL Q) (p8 text out pos) (qQ out)
   exact Pw hl hB hQ h3 h4 (fun n' pos' rM cU a b c d e f=>ih n' pos' rM cU a b c d e (by omega)) h1 h h2
theorem ai1 (text:ay) (hl:text.length<4611686018427387904) (s:St) :
 aA Tryz.prog C1 [.str text] s (.tuple [.slice .shared 4 ((oF text).1.map fi), .agg (n4 (oF text).2)]) s:=by
 refine aA.pure ?_ rfl (by simp[D.ok,D.bN,L3,Tag.ok,n4]) s
 generalize h:oF text=p
 unfold oF at h
 unfold S0
 refine aA.go Ot rfl fun B Q hB hQ=>?_
 have⟨hY,hZ,gA,gB⟩:=bu
 repeat' (first
 |simp only[go_sem,hY,hZ,gA,gB]
 |(with_reducible first|refine bq fun hc=>?_|refine br fun hc=>?_|refine bt (fun hc=>?_) fun hc=>?_)<;>(try simp only[hc,bs,↓reduceIte]at h)<;>try simp only[hc]
 |(with_reducible refine aB hQ ?_;exact eo))
 refine pP.once (Sem.ma ?_)
 simp only[go_sem,hY,hZ,gA,gB]
 refine Sem.ma ?_
 simp only[go_sem,hY,hZ,gA,gB]
 refine Sem.ma ?_
 simp only[go_sem,hY,hZ,gA,gB]
 refine Sem.ma ?_
 by_cases hz:text.length > 100000
 ·have pF:decide ((text.length:Int) > 100000)=true:=by simp;omega
  rw[if_pos hz]at h
  repeat' (first
 |simp only[go_sem,hY,hZ,gA,gB,pF]
 |(with_reducible first|refine bq fun hc=>?_|refine br fun hc=>?_|refine bt (fun hc=>?_) fun hc=>?_)<;>(try simp only[hc,bs,↓reduceIte]at h)<;>try simp only[hc]
 |(with_reducible refine aB hQ ?_;(try cases h);simp only[cj,cr,dK,dL,go_sem,hY,hZ,gA,gB,pF];try exact dM))
 ·have pF:decide ((text.length:Int) > 100000)=false:=by simp;omega
  rw[if_neg hz]at h
  have pw:text.length≤100000:=by omega
  have hQ':jO 0 0 [(2,none),(3,some (true,2))] (.tuple [.slice .shared 4 (p.1.map fi), .agg (n4 p.2)]) ⟨[],[]⟩=Q:=hQ
  repeat' (first
 |simp only[go_sem,hY,hZ,gA,gB,pF]
 |(with_reducible refine aB hQ ?_;exact aU))
  refine Sem.ma ?_
  simp only[go_sem,hY,hZ,gA,gB]
  refine Sem.oZ 4 4 rfl ?_
  simp only[go_sem,hY,hZ,gA,gB]
  refine Sem.re _ _ 2 1 (by rw[hB];exact n7 rfl) (by rw[hB];exact n7 rfl) ?_ ?_ (jn (Pw pw hB hQ' (out:= []) (pos:=0) (by simp) (Nat.zero_le _) (agf pw hB hQ' _) rfl h (by simp)))
  ·(simp only[go_sem,hY,hZ,gA,gB];repeat' (first|exact Ok.out|with_reducible refine kM ?_ ?_))
  ·(simp only[go_sem,hY,hZ,gA,gB];repeat' (first|exact Ok.out|with_reducible refine kM ?_ ?_))
def M7 (l:List aX):Rd:=⟨l,0,0,0,0⟩
def AN (m:Nat) (text:ay):Option (Pg×Int×Int):=
 if(oF text).2.1 != 0 then some (F9,(oF text).2)
 else(Rd.program m (M7 (oF text).1)).bind fun p=>if p.2.code != 0 then some (F9,p.2.code,p.2.sN)else(p.1.DU).bind fun q=>some (q,0,0)
def aBF (m:Nat) (text:ay):Option (Ex×Int×Int):=
 if(oF text).2.1 != 0 then some (jY,(oF text).2)
 else(Rd.whole m (M7 (oF text).1)).bind fun x=>x.2.Gg.bind fun b=>
  if b then(x.2.bad 3).bind fun r=>if !r.good then some (jY,r.code,r.sN)else some (x.1,0,0)
  else if !x.2.good then some (jY,x.2.code,x.2.sN)else some (x.1,0,0)
theorem VA {m:Nat} {r:Rd} {p:Pg×Rd} (h:Rd.program m r=some p) {s:St} {o:Nat} (ho:s.az[o]? = some (cR r)) :
 aA Tryz.prog nT [.ptr o 0] s (.agg (bY p.1)) ⟨s.az.set o (cR p.2),s.aD⟩:=by
 refine aA.lL ?_ rfl (gl r) (gl p.2) (by simp[D.ok,jP]) ho
 unfold Rd.program at h
 refine aA.go xM rfl fun B Q hB hQ=>?_
 have⟨hY,hZ,gA,gB⟩:=bu
 repeat' (first
 |simp only[go_sem,hY,hZ,gA,gB]
 |(with_reducible refine aB hQ ?_;exact aU))
 rw[Option.bind_eq_some_iff]at h
 obtain⟨q,h,hr⟩:=h
 refine bn.xn 2 0 1 rfl rfl ?_
 simp only[go_sem,hY,hZ,gA,gB]
 refine cq 3 1 (bn.ind (ι:=Nat×List ay×Rd×Nat) (fun i=>Rd.globals m i.1 i.2.1 i.2.2.1=some q∧i.2.2.2=i.2.1.length) (fun i=>i.1)
  (fun i=> [(0, .ptr 0 0),(2, .ptr 1 0),(3, .ptr 2 0)]) (fun i=>⟨[cR i.2.2.1,[.slice .full 0 [], .slice .full 0 []],[.slice (.tok 0) 1 (i.2.1.map encStr), .slice .full 0 []]],[some i.2.2.2]⟩) ?_ (m,[],r,0) ⟨h,rfl⟩)
 rintro⟨n,l,r,k⟩ ⟨h,hk⟩ IH
 dsimp only at hk;subst hk
 cases n with
 |zero=>simp only[Rd.globals]at h;cases h
 |succ n=>
  simp only[Rd.globals]at h
  repeat' (first
 |simp only[go_sem,hY,hZ,gA,gB]
 |(rw[Option.bind_eq_some_iff]at h;obtain⟨_,h1,h⟩:=h;first|(with_reducible refine CU (vl h1 (by with_unfolding_all rfl)) ?_)|(with_reducible refine CU (Pv h1 (by with_unfolding_all rfl) (by with_unfolding_all rfl)) ?_))
 |(with_reducible first|refine bq fun hc=>?_|refine br fun hc=>?_|refine bt (fun hc=>?_) fun hc=>?_)<;>(try simp only[hc,bs,↓reduceIte]at h)<;>try simp only[hc]
 |(with_reducible refine aB hQ ?_;exact eo)
 |(cases h;replace h:=hr;clear hr;(try simp only[bs,↓reduceIte]at h))
 |(cases h;done))
  ·refine cq 3 1 (IH (n,_,_,_) ⟨h,rfl⟩ (Nat.lt_succ_self _))
  ·refine cq 3 0 (M4 hB hQ _ h)
theorem acD {m:Nat} {text:ay} {p:Pg×Int×Int} (h:AN m text=some p) (hl:text.length<4611686018427387904) (s:St) :
 aA Tryz.prog vL [.str text] s (.tuple [.agg (bY p.1), .agg (n4 p.2)]) s:=by
 refine aA.pure ?_ rfl (by simp[D.ok,D.bN,jP,n4]) s
 unfold AN at h
 have SD:=ai1 text hl
 generalize oF text=t at h SD
 unfold S0
 refine aA.go Gi rfl fun B Q hB hQ=>?_
 have⟨hY,hZ,gA,gB⟩:=bu
 repeat' (first
 |simp only[go_sem,hY,hZ,gA,gB,M7]
 |(rw[Option.bind_eq_some_iff]at h;obtain⟨_,h1,h⟩:=h;first|(with_reducible refine CU (VA h1 (by with_unfolding_all rfl)) ?_)|(with_reducible refine CU (Yx h1 _) ?_))
 |(with_reducible refine CU (SD _) ?_)
 |(with_reducible first|refine bq fun hc=>?_|refine br fun hc=>?_|refine bt (fun hc=>?_) fun hc=>?_)<;>(try simp only[hc,bs,↓reduceIte]at h)<;>try simp only[hc]
 |(with_reducible refine aB hQ ?_;(try cases h);simp only[cj,cr,dK,dL,go_sem,hY,hZ,gA,gB,M7];try exact dM))
def agh (n k:Int):Int:=if Int.tmod n k<0 then Int.tmod n k+k else Int.tmod n k
def ai2 (t:ay):Nat→ay
 | 0=> []
 |n+1=>ai2 t n++t
def two (i:Nat):ay:= [UInt8.ofNat (48+i / 10),UInt8.ofNat (48+i % 10)]
def agi (ahead:ay):Nat→ay
 | 0=> []
 |n+1=>(if n=0 then agi ahead n else agi ahead n++ [44])++(ahead++ [97]++two n)
def agj:Nat→ay
 | 0=> []
 |n+1=>agj n++([112,114,111,99,32,112]++two n++ [40,41,123,125])
theorem wrap_u8 {i:Nat} (h:i<256):IntKind.wrap .u8 (i:Int)=(i:Int):=by
 rw[IntKind.wrap_u8];omega
def agk (k:Int):List It→List Int
 | []=> []
 |i::l=>if k==0 ||i.s.kind==k then i.s.id::agk k l else agk k l
def aBG (l:List Int) (n:Int):Int:=match l[(agh n l.length).toNat]? with|some x=>x|none=>0
def aa1 (id:Int):List It→Option It
 | []=>none
 |i::l=>if i.s.id==id then some i else aa1 id l
def aa2 (id:Int):List Pc→Option (It×ay)
 | []=>none
 |f::l=>match aa1 id f.flat with|some i=>some (i,f.name)|none=>aa2 id l
def it0:It:=⟨LX,0,0,false⟩
def aum (r:Option (It×ay)):D:=match r with
 |some (i,nm)=> .tuple [.agg (fN i), .str nm, .bool true]
 |none=> .tuple [.agg (fN it0), .str [], .bool false]
def Pg.aBH (p:Pg) (id:Int):Sm:=match aa2 id p.procs with|some (i,_)=>i.s|none=>LX
def dq (t:ay) (n:Int):Int:=if n > 20000 then 20001 else if(t.length:Int)≥20000 - n then 20001 else n+1+t.length
mutual
def fy:Ex→Int→Int
 |⟨_,_,name,kids⟩,n=>oJ kids (dq name n)
def oJ:List Ex→Int→Int
 | [],n=>n
 |x::l,n=>if n≤20000 then oJ l (fy x n)else n
end
theorem nM {t:ay} {n:Int} (h0:0≤n):dq t n≤20001∧(n≤20000→n+1≤dq t n)∧0≤dq t n∧(dq t n≤20000→n+1+t.length=dq t n):=by
 unfold dq;split
 ·omega
 ·split<;>omega
theorem xT : ∀ (m:Nat) (x:Ex),x.size≤m→∀ n:Int,0≤n→fy x n≤20001∧(n≤20000→n+1≤fy x n)∧0≤fy x n∧(fy x n≤20000→(x.size:Int)+1≤2*(fy x n - n)∧x.texts):=by
 intro m
 induction m with
 |zero=>rintro⟨op,v,name,kids⟩ h;simp only[Ex.size]at h;omega
 | succ m ih=>
  rintro⟨op,v,name,kids⟩ h n h0
  simp only[Ex.size]at h
  obtain⟨t1,t2,t3,t4⟩:=nM (t:=name) h0
  have go : ∀ (l:List Ex),Ex.aT l≤m→∀ c:Int,0≤c→c≤20001→oJ l c≤20001∧c≤oJ l c∧(oJ l c≤20000→(Ex.aT l:Int)≤2*(oJ l c - c)∧Ex.xN l):=by
   intro l
   induction l with
   |nil=>intro _ c h0 h1;simp only[oJ,Ex.aT];exact⟨h1,Int.le_refl _,fun _=>⟨by omega,trivial⟩⟩
   | cons y l Gd=>
    intro hs c h0 h1
    simp only[Ex.aT]at hs ⊢
    simp only[oJ]
    split
    ·rename_i hc
     obtain⟨a1,a2,a3,a4⟩:=ih y (by omega) c h0
     obtain⟨b1,b2,b3⟩:=Gd (by omega) (fy y c) a3 a1
     have:=a2 hc
     refine⟨b1,by omega,fun hw=>?_⟩
     obtain⟨c1,c2⟩:=b3 hw
     obtain⟨d1,d2⟩:=a4 (by omega)
     exact⟨by omega,d2,c2⟩
    ·exact⟨h1,Int.le_refl _,fun hw=>by omega⟩
  obtain⟨g1,g2,g3⟩:=go kids (by omega) (dq name n) t3 t1
  simp only[fy,Ex.size]
  refine⟨g1,fun hn=>by have:=t2 hn;omega,by omega,fun hw=>?_⟩
  obtain⟨k1,k2⟩:=g3 hw
  have:=t4 (by omega)
  exact⟨by omega,by omega,k2⟩
theorem rZ (t:ay) {n:Int} (h0:0≤n) (h1:n≤20001) (s:St):aA Tryz.prog gY [.str t, .int .i64 n] s (.int .i64 (dq t n)) s:=by
 refine aA.pure ?_ rfl rfl s
 unfold S0
 have w1:IntKind.wrap .i64 (20000 - n)=20000 - n:=bC (by omega) (by omega)
 have w2:IntKind.wrap .i64 (n+1)=n+1:=bC (by omega) (by omega)
 by_cases c:n > 20000
 ·have c1:decide (n > 20000)=true:=by simp;omega
  have e:dq t n=20001:=by simp[dq,c]
  rw[e]
  refine aA.go qx rfl fun B Q hB hQ=>?_
  have⟨hY,hZ,gA,gB⟩:=bu
  repeat' (first
 |simp only[go_sem,hY,hZ,gA,gB,c1,w1,w2]
 |(with_reducible refine aB hQ ?_;exact aU))
 ·have c1:decide (n > 20000)=false:=by simp;omega
  by_cases d:(t.length:Int)≥20000 - n
  ·have d1:decide ((t.length:Int)≥20000 - n)=true:=by simp;omega
   have e:dq t n=20001:=by unfold dq;rw[if_neg c,if_pos d]
   rw[e]
   refine aA.go qx rfl fun B Q hB hQ=>?_
   have⟨hY,hZ,gA,gB⟩:=bu
   repeat' (first
 |simp only[go_sem,hY,hZ,gA,gB,c1,d1,w1,w2]
 | (with_reducible refine aB hQ ?_;exact aU))
  ·have d1:decide ((t.length:Int)≥20000 - n)=false:=by simp;omega
   have e:dq t n=n+1+t.length:=by unfold dq;rw[if_neg c,if_neg d]
   have w3:IntKind.wrap .i64 (n+1+t.length)=n+1+t.length:=bC (by omega) (by omega)
   rw[e]
   refine aA.go qx rfl fun B Q hB hQ=>?_
   have⟨hY,hZ,gA,gB⟩:=bu
   repeat' (first
 |simp only[go_sem,hY,hZ,gA,gB,c1,d1,w1,w2,w3]
 |(with_reducible refine aB hQ ?_;exact aU))
theorem M8 : ∀ (m:Nat) (x:Ex),x.size≤m→∀ {n:Int},0≤n→n≤20000→∀ s:St,aA Tryz.prog kU [.agg (bx x), .int .i64 n] s (.int .i64 (fy x n)) s:=by
 intro m
 induction m with
 |zero=>rintro⟨op,v,name,kids⟩ h;simp only[Ex.size]at h;omega
 |succ m ih=>
  rintro⟨op,v,name,kids⟩ ew n h0 h1 s
  refine aA.pure ?_ (by simp[D.bN,D.ok,gE]) rfl s
  simp only[Ex.size]at ew
  have hk : ∀ y∈kids,∀ {n:Int},0≤n→n≤20000→∀ s:St,aA Tryz.prog kU [.agg (bx y), .int .i64 n] s (.int .i64 (fy y n)) s:=fun y hy=>ih y (by have:=Ex.bJ hy;omega)
  have ht:=fun s=>rZ name h0 (by omega) s
  obtain⟨t1,t2,t3,t4⟩:=nM (t:=name) h0
  unfold S0
  generalize h:fy ⟨op,v,name,kids⟩ n=p
  simp only[fy]at h
  refine aA.go C5 rfl fun B Q hB hQ=>?_
  have⟨hY,hZ,gA,gB⟩:=bu
  repeat' (first
 |simp only[go_sem,hY,hZ,gA,gB]
 |(with_reducible refine CU (ht _) ?_)
 |(with_reducible first|refine bq fun hc=>?_|refine br fun hc=>?_|refine bt (fun hc=>?_) fun hc=>?_)<;>(try simp only[hc,bs,↓reduceIte]at h)<;>try simp only[hc]
 | (with_reducible refine aB hQ ?_;exact eo))
  refine cq 1 0 (bn.ind (ι:=List Ex×Nat×Int) (fun i=>kids.drop i.2.1=i.1∧oJ i.1 i.2.2=p∧(i.2.1:Int)≤i.2.2∧i.2.2≤20001) (fun i=>i.1.length)
   (fun i=> [(1, .int .i64 i.2.2),(2, .ptr 0 0),(5, .int .i64 (i.2.1:Int))]) (fun i=>⟨[bx ⟨op,v,name,kids⟩],[]⟩) ?_ (kids,0,dq name n) ⟨rfl,h,t3,t1⟩)
  rintro⟨rest,k,c⟩ ⟨g1,h,g3,g4⟩ IH
  dsimp only at g1 h g3 g4
  cases rest with
  |nil=>
   have hY:=drop_nil g1
   simp only[oJ]at h
   repeat' (first
 |simp only[go_sem,hY,hZ,gA,gB]
 |(with_reducible first|refine bq fun hc=>?_|refine br fun hc=>?_|refine bt (fun hc=>?_) fun hc=>?_)<;>(try simp only[hc,bs,↓reduceIte]at h)<;>try simp only[hc]
 | (with_reducible refine aB hQ ?_;exact eo))
  | cons y rest=>
   obtain⟨hZ,g2,hY,g5⟩:=drop_cons g1
   simp only[oJ]at h
   by_cases hc:c≤20000
   ·have c1:decide (c≤20000)=true:=by simp;omega
    have hy:=fun s=>hk y (List.mem_of_getElem? hZ) (n:=c) (by omega) hc s
    obtain⟨a1,a2,a3,a4⟩:=xT _ y (Nat.le_refl _) c (by omega)
    have:=a2 hc
    have w3:IntKind.wrap .i64 ((k:Int)+1)=((k+1:Nat):Int):=by rw[bC]<;>omega
    rw[if_pos hc]at h
    repeat' (first
 |simp only[go_sem,hY,hZ,gA,gB,c1,w3]
 |(with_reducible refine CU (hy _) ?_)
 |(with_reducible first|refine bq fun hc=>?_|refine br fun hc=>?_|refine bt (fun hc=>?_) fun hc=>?_)<;>(try simp only[hc,bs,↓reduceIte]at h)<;>try simp only[hc]
 | (with_reducible refine aB hQ ?_;(try cases h);simp only [cj,cr,dK,dL,go_sem,hY,hZ,gA,gB,c1,w3];try exact dM))
    refine cq 1 0 (IH (rest,k+1,fy y c) ⟨g2,h,by dsimp only;omega,a1⟩ (Nat.lt_succ_self _))
   ·have c1:decide (c≤20000)=false:=by simp;omega
    rw[if_neg hc]at h
    repeat' (first
 |simp only[go_sem,hY,hZ,gA,gB,c1]
 |(with_reducible first|refine bq fun hc=>?_|refine br fun hc=>?_|refine bt (fun hc=>?_) fun hc=>?_)<;>(try simp only[hc,bs,↓reduceIte]at h)<;>try simp only[hc]
 |(with_reducible refine aB hQ ?_;(try cases h);simp only[cj,cr,dK,dL,go_sem,hY,hZ,gA,gB,c1];try exact dM))
def eC:List ay→Int→Int
 | [],n=>n
 |t::l,n=>if n≤20000 then eC l (dq t n)else n
def jr:List Ar→Int→Int
 | [],n=>n
 |a::l,n=>if n≤20000 then jr l (dq a.name (fy a.x n))else n
def lH:List Pm→Int→Int
 | [],n=>n
 |a::l,n=>if n≤20000 then lH l (dq a.name n)else n
mutual
def tq:Sm→Int→Int
 |⟨_,_,labels,name,proc,x,_,args,aS,aL⟩,n=>fY aL (fY aS (jr args (dq proc (dq name (eC labels (fy x n))))))
def fY:List Sm→Int→Int
 | [],n=>n
 |s::l,n=>if n≤20000 then fY l (tq s n)else n
end
theorem VB (s:Sm) (n:Int):tq s n=fY s.aL (fY s.aS (jr s.args (dq s.proc (dq s.name (eC s.labels (fy s.x n)))))):=by cases s;simp only[tq]
def vv (f:Pc) (n:Int):Int:=fY f.body (lH f.params (eC f.fin (eC f.vars (dq f.name n))))
def oK:List Pc→Int→Int
 | [],n=>n
 |f::l,n=>if n≤20000 then oK l (vv f n)else n
def Pg.D4 (p:Pg):Int:=oK p.procs (eC p.globals 0)
theorem mh : ∀ (l:List ay) {n:Int},0≤n→n≤20001→eC l n≤20001∧n≤eC l n∧(eC l n≤20000→n+l.length≤eC l n∧∀ t∈l,t.length<4611686018427387904)
 | [],n,h0,h1=>by simp only[eC];exact⟨h1,Int.le_refl _,fun _=>⟨by simp,by simp⟩⟩
 | t::l,n,h0,h1=>by
  simp only[eC]
  split
  ·rename_i hc
   obtain⟨a1,a2,a3,a4⟩:=nM (t:=t) h0
   obtain⟨b1,b2,b3⟩:=mh l (n:=dq t n) a3 a1
   have:=a2 hc
   refine⟨b1,by omega,fun hw=>?_⟩
   obtain⟨c1,c2⟩:=b3 hw
   have:=a4 (by omega)
   refine⟨by simp only[List.length_cons];omega,fun s m=>?_⟩
   rcases List.mem_cons.1 m with rfl|m
   ·omega
   ·exact c2 s m
  ·exact⟨h1,Int.le_refl _,fun hw=>by omega⟩
theorem BH : ∀ (l:List Pm) {n:Int},0≤n→n≤20001→lH l n≤20001∧n≤lH l n∧(lH l n≤20000→n+l.length≤lH l n∧∀ t∈l,t.name.length<4611686018427387904)
 | [],n,h0,h1=>by simp only[lH];exact⟨h1,Int.le_refl _,fun _=>⟨by simp,by simp⟩⟩
 | t::l,n,h0,h1=>by
  simp only[lH]
  split
  ·rename_i hc
   obtain⟨a1,a2,a3,a4⟩:=nM (t:=t.name) h0
   obtain⟨b1,b2,b3⟩:=BH l (n:=dq t.name n) a3 a1
   have:=a2 hc
   refine⟨b1,by omega,fun hw=>?_⟩
   obtain⟨c1,c2⟩:=b3 hw
   have:=a4 (by omega)
   refine⟨by simp only[List.length_cons];omega,fun s m=>?_⟩
   rcases List.mem_cons.1 m with rfl|m
   ·omega
   ·exact c2 s m
  ·exact⟨h1,Int.le_refl _,fun hw=>by omega⟩
theorem BI : ∀ (l:List Ar) {n:Int},0≤n→n≤20001→jr l n≤20001∧n≤jr l n∧
 (jr l n≤20000→(Ar.aT l:Int)≤2*(jr l n - n)∧∀ a∈l,a.x.size<4611686018427387904∧a.x.texts∧a.name.length<4611686018427387904)
 | [],n,h0,h1=>by simp only[jr];exact⟨h1,Int.le_refl _,fun _=>⟨by simp[Ar.aT],by simp⟩⟩
 | a::l,n,h0,h1=>by
  simp only[jr]
  split
  ·rename_i hc
   obtain⟨a1,a2,a3,a4⟩:=xT _ a.x (Nat.le_refl _) n h0
   obtain⟨e1,e2,e3,e4⟩:=nM (t:=a.name) a3
   obtain⟨b1,b2,b3⟩:=BI l (n:=dq a.name (fy a.x n)) e3 e1
   have:=a2 hc
   have:fy a.x n≤dq a.name (fy a.x n):=by
    by_cases h:fy a.x n≤20000
    ·have:=e2 h;omega
    ·have:dq a.name (fy a.x n)=20001:=by unfold dq;rw [if_pos (by omega)]
     omega
   refine⟨b1,by omega,fun hw=>?_⟩
   obtain⟨c1,c2⟩:=b3 hw
   have:=e4 (by omega)
   obtain⟨d1,d2⟩:=a4 (by omega)
   refine⟨by simp only[Ar.aT];omega,fun s m=>?_⟩
   rcases List.mem_cons.1 m with rfl|m
   ·exact⟨by omega,d2,by omega⟩
   ·exact c2 s m
  ·exact⟨h1,Int.le_refl _,fun hw=>by omega⟩
theorem mz {t:ay} {n:Int} (h0:0≤n) (h1:n≤20001):n≤dq t n∧dq t n≤20001∧(dq t n≤20000→n+1≤dq t n∧t.length<4611686018427387904):=by
 obtain⟨e1,e2,e3,e4⟩:=nM (t:=t) h0
 by_cases h:n≤20000
 ·have:=e2 h
  exact⟨by omega,e1,fun hw=>⟨by omega,by have:=e4 hw;omega⟩⟩
 ·have:dq t n=20001:=by unfold dq;rw [if_pos (by omega)]
  exact⟨by omega,e1,fun hw=>by omega⟩
mutual
theorem JC : ∀ (s:Sm) {n:Int},0≤n→n≤20000→tq s n≤20001∧n+1≤tq s n∧(tq s n≤20000→(s.size:Int)+1≤2*(tq s n - n)∧s.uO)
 |⟨id,kind,labels,name,proc,x,has,args,aS,aL⟩,n,h0,h1=>by
  obtain⟨a1,a2,a3,a4⟩:=xT _ x (Nat.le_refl _) n h0
  have a2:=a2 h1
  obtain⟨b1,b2,b3⟩:=mh labels a3 a1
  obtain⟨c1,c2,c3⟩:=mz (t:=name) (n:=eC labels (fy x n)) (by omega) b1
  obtain⟨d1,d2,d3⟩:=mz (t:=proc) (n:=dq name (eC labels (fy x n))) (by omega) c2
  obtain⟨e1,e2,e3⟩:=BI args (n:=dq proc (dq name (eC labels (fy x n)))) (by omega) d2
  obtain⟨f1,f2,f3⟩:=tr aS (n:=jr args (dq proc (dq name (eC labels (fy x n))))) (by omega) e1
  obtain⟨g1,g2,g3⟩:=tr aL (n:=fY aS (jr args (dq proc (dq name (eC labels (fy x n)))))) (by omega) f1
  simp only[tq,Sm.size]
  refine⟨g1,by omega,fun hw=>?_⟩
  obtain⟨g4,g5⟩:=g3 hw
  obtain⟨f4,f5⟩:=f3 (by omega)
  obtain⟨e4,e5⟩:=e3 (by omega)
  obtain⟨d4,d5⟩:=d3 (by omega)
  obtain⟨c4,c5⟩:=c3 (by omega)
  obtain⟨b4,b5⟩:=b3 (by omega)
  obtain⟨a5,a6⟩:=a4 (by omega)
  have:=Ar.cu args
  refine⟨by omega, ?_⟩
  rw[Fw]
  exact⟨⟨b5,by dsimp only;omega,c5,d5,by dsimp only;omega,a6,by dsimp only;omega,e5⟩,f5,g5⟩
theorem tr : ∀ (l:List Sm) {n:Int},0≤n→n≤20001→fY l n≤20001∧n≤fY l n∧(fY l n≤20000→(Sm.aT l:Int)≤2*(fY l n - n)∧Sm.j8 l)
 | [],n,h0,h1=>by simp only[fY];exact⟨h1,Int.le_refl _,fun _=>⟨by simp[Sm.aT],by simp only[Sm.j8]⟩⟩
 | s::l,n,h0,h1=>by
  simp only[fY]
  split
  ·rename_i hc
   obtain⟨a1,a2,a3⟩:=JC s h0 hc
   obtain⟨b1,b2,b3⟩:=tr l (n:=tq s n) (by omega) a1
   refine⟨b1,by omega,fun hw=>?_⟩
   obtain⟨c1,c2⟩:=b3 hw
   obtain⟨d1,d2⟩:=a3 (by omega)
   exact⟨by simp only[Sm.aT];omega,d2,c2⟩
  ·exact⟨h1,Int.le_refl _,fun hw=>by omega⟩
end
theorem JD (f:Pc) {n:Int} (h0:0≤n) (h1:n≤20000):vv f n≤20001∧n+1≤vv f n∧(vv f n≤20000→(f.size:Int)+1≤2*(vv f n - n)∧
 (f.name.length<4611686018427387904∧(∀ t∈f.vars,t.length<4611686018427387904)∧(∀ t∈f.fin,t.length<4611686018427387904)∧∀ a∈f.params,a.name.length<4611686018427387904)∧Sm.j8 f.body):=by
 obtain⟨c1,c2,c3⟩:=mz (t:=f.name) h0 (by omega:n≤20001)
 have c4:=(nM (t:=f.name) h0).2.1 h1
 obtain⟨d1,d2,d3⟩:=mh f.vars (n:=dq f.name n) (by omega) c2
 obtain⟨e1,e2,e3⟩:=mh f.fin (n:=eC f.vars (dq f.name n)) (by omega) d1
 obtain⟨g1,g2,g3⟩:=BH f.params (n:=eC f.fin (eC f.vars (dq f.name n))) (by omega) e1
 obtain⟨k1,k2,k3⟩:=tr f.body (n:=lH f.params (eC f.fin (eC f.vars (dq f.name n)))) (by omega) g1
 unfold vv Pc.size
 refine⟨k1,by omega,fun hw=>?_⟩
 obtain⟨k4,k5⟩:=k3 hw
 obtain⟨g4,g5⟩:=g3 (by omega)
 obtain⟨e4,e5⟩:=e3 (by omega)
 obtain⟨d4,d5⟩:=d3 (by omega)
 obtain⟨_,c5⟩:=c3 (by omega)
 exact⟨by omega,⟨c5,d5,e5,g5⟩,k5⟩
theorem Hd : ∀ (l:List Pc) {n:Int},0≤n→n≤20001→oK l n≤20001∧n≤oK l n∧(oK l n≤20000→(Pc.aT l:Int)≤2*(oK l n - n)∧∀ f∈l,
 (f.name.length<4611686018427387904∧(∀ t∈f.vars,t.length<4611686018427387904)∧(∀ t∈f.fin,t.length<4611686018427387904)∧∀ a∈f.params,a.name.length<4611686018427387904)∧Sm.j8 f.body)
 | [],n,h0,h1=>by simp only[oK];exact⟨h1,Int.le_refl _,fun _=>⟨by simp[Pc.aT],by simp⟩⟩
 | f::l,n,h0,h1=>by
  simp only[oK]
  split
  ·rename_i hc
   obtain⟨a1,a2,a3⟩:=JD f h0 hc
   obtain⟨b1,b2,b3⟩:=Hd l (n:=vv f n) (by omega) a1
   refine⟨b1,by omega,fun hw=>?_⟩
   obtain⟨c1,c2⟩:=b3 hw
   obtain⟨d1,d2⟩:=a3 (by omega)
   refine⟨by simp only[Pc.aT];omega,fun s m=>?_⟩
   rcases List.mem_cons.1 m with rfl|m
   ·exact d2
   ·exact c2 s m
  ·exact⟨h1,Int.le_refl _,fun hw=>by omega⟩
theorem SF {p:Pg} (h:p.D4≤20000):p.size≤40001∧p.GM:=by
 unfold Pg.D4 at h
 obtain⟨a1,a2,a3⟩:=mh p.globals (n:=0) (by omega) (by omega)
 obtain⟨b1,b2,b3⟩:=Hd p.procs (n:=eC p.globals 0) (by omega) a1
 obtain⟨c1,c2⟩:=b3 h
 obtain⟨d1,d2⟩:=a3 (by omega)
 have:p.size≤40001:=by unfold Pg.size;omega
 exact⟨this,by omega,d2,fun f m=>(c2 f m).1,fun f m=>(c2 f m).2⟩
theorem yT {l:List ay} {n:Int} (h0:0≤n) (h1:n≤20001) (s:St):aA Tryz.prog kx [.slice .shared 1 (l.map encStr), .int .i64 n] s (.int .i64 (eC l n)) s:=by
 refine aA.pure ?_ (by simp[D.bN,D.ok,fw,Tag.ok]) rfl s
 unfold S0
 generalize h:eC l n=p
 refine aA.go Cg rfl fun B Q hB hQ=>?_
 have⟨hY,hZ,gA,gB⟩:=bu
 repeat' (first
 |simp only[go_sem,hY,hZ,gA,gB]
 |(with_reducible refine aB hQ ?_;exact aU))
 refine cq 0 0 (bn.ind (ι:=List ay×Nat×Int) (fun i=>l.drop i.2.1=i.1∧eC i.1 i.2.2=p∧(i.2.1:Int)≤i.2.2∧i.2.2≤20001) (fun i=>i.1.length)
  (fun i=> [(0, .slice .shared 1 (l.map encStr)),(1, .int .i64 i.2.2),(5, .int .i64 (i.2.1:Int))]) (fun i=>⟨[],[]⟩) ?_ (l,0,n) ⟨rfl,h,h0,h1⟩)
 rintro⟨rest,k,c⟩ ⟨g1,h,g3,g4⟩ IH
 dsimp only at g1 h g3 g4
 cases rest with
 |nil=>
  have hY:=drop_nil g1
  simp only[eC]at h
  subst h
  repeat' (first
 |simp only[go_sem,hY,hZ,gA,gB]
 |(with_reducible refine aB hQ ?_;exact aU))
 | cons y rest=>
  obtain⟨hZ,g2,hY,g5⟩:=drop_cons g1
  simp only[eC]at h
  by_cases hc:c≤20000
  ·have c1:decide (c≤20000)=true:=by simp;omega
   have hy:=fun s=>rZ y (n:=c) (by omega) g4 s
   obtain⟨a1,a2,a3,a4⟩:=nM (t:=y) (n:=c) (by omega)
   have:=a2 hc
   have w3:IntKind.wrap .i64 ((k:Int)+1)=((k+1:Nat):Int):=by rw[bC]<;>omega
   rw[if_pos hc]at h
   repeat' (first
 |simp only[go_sem,hY,hZ,gA,gB,c1,w3]
 |(with_reducible refine CU (hy _) ?_)
 | (with_reducible refine aB hQ ?_;exact aU))
   refine cq 0 0 (IH (rest,k+1,dq y c) ⟨g2,h,by dsimp only;omega,a1⟩ (Nat.lt_succ_self _))
  ·have c1:decide (c≤20000)=false:=by simp;omega
   rw[if_neg hc]at h
   subst h
   repeat' (first
 |simp only[go_sem,hY,hZ,gA,gB,c1]
 |(with_reducible refine aB hQ ?_;exact aU))
theorem VC : ∀ (m:Nat) (l:List Sm),Sm.aT l≤m→∀ {n:Int},0≤n→n≤20001→∀ s:St,aA Tryz.prog lX [.slice .shared 13 (l.map bh), .int .i64 n] s (.int .i64 (fY l n)) s:=by
 intro m
 induction m with
 | zero=>
  intro l h n h0 h1 s
  cases l with
  |nil=>
   have z:decide ((0:Int)<0)=false:=rfl
   refine aA.pure ?_ (by simp[D.bN,D.ok,D.kc,Tag.ok]) rfl s
   unfold S0
   simp only[fY]
   refine aA.go tL rfl fun B Q hB hQ=>?_
   have⟨hY,hZ,gA,gB⟩:=bu
   repeat' (first
 |simp only[go_sem,hY,hZ,gA,gB,z]
 |(with_reducible refine bn.uH ?_)
 |(with_reducible refine aB hQ ?_;exact aU))
  |cons s l=>simp only[Sm.aT]at h;omega
 |succ m ih=>
  intro l h n h0 h1 s
  refine aA.pure ?_ (by simp[D.bN,D.ok,mZ,Tag.ok]) rfl s
  unfold S0
  generalize hp:fY l n=p
  refine aA.go tL rfl fun B Q hB hQ=>?_
  have⟨hY,hZ,gA,gB⟩:=bu
  repeat' (first
 |simp only[go_sem,hY,hZ,gA,gB]
 | (with_reducible refine aB hQ ?_;exact aU))
  refine cq 0 0 (bn.ind (ι:=List Sm×Nat×Int) (fun i=>l.drop i.2.1=i.1∧fY i.1 i.2.2=p∧(i.2.1:Int)≤i.2.2∧i.2.2≤20001) (fun i=>i.1.length)
   (fun i=> [(0, .slice .shared 13 (l.map bh)),(1, .int .i64 i.2.2),(5, .int .i64 (i.2.1:Int))]) (fun i=>⟨[],[]⟩) ?_ (l,0,n) ⟨rfl,hp,h0,h1⟩)
  rintro⟨rest,k,c⟩ ⟨g1,hp,g3,g4⟩ IH
  dsimp only at g1 hp g3 g4
  cases rest with
  |nil=>
   have hY:=drop_nil g1
   simp only[fY]at hp
   subst hp
   repeat' (first
 |simp only[go_sem,hY,hZ,gA,gB]
 | (with_reducible refine aB hQ ?_;exact aU))
  | cons y rest=>
   obtain⟨hZ,g2,hY,g5⟩:=drop_cons g1
   simp only[fY]at hp
   by_cases hc:c≤20000
   ·have c1:decide (c≤20000)=true:=by simp;omega
    have iW:=List.mem_of_getElem? hZ
    have ew:=Sm.bJ iW
    have Lm:s.az.length≤s.az.length∧Sm.aT y.aS<y.size∧Sm.aT y.aL<y.size:=by cases y;simp only[Sm.size];omega
    have w3:IntKind.wrap .i64 ((k:Int)+1)=((k+1:Nat):Int):=by rw[bC]<;>omega
    rw[if_pos hc]at hp
    obtain⟨a1,a2,a3,a4⟩:=xT _ y.x (Nat.le_refl _) c (by omega)
    have a2:=a2 hc
    obtain⟨b1,b2,b3⟩:=mh y.labels a3 a1
    obtain⟨c1',c2,c3⟩:=mz (t:=y.name) (n:=eC y.labels (fy y.x c)) (by omega) b1
    obtain⟨d1,d2,d3⟩:=mz (t:=y.proc) (n:=dq y.name (eC y.labels (fy y.x c))) (by omega) c2
    have eE:=fun s=>M8 _ y.x (Nat.le_refl _) (n:=c) (by omega) hc s
    have eL:=fun s=>yT (l:=y.labels) (n:=fy y.x c) (by omega) a1 s
    have eN:=fun s=>rZ y.name (n:=eC y.labels (fy y.x c)) (by omega) b1 s
    have eP:=fun s=>rZ y.proc (n:=dq y.name (eC y.labels (fy y.x c))) (by omega) c2 s
    obtain⟨r1,r2,r3⟩:=JC y (n:=c) (by omega) hc
    rw[VB]at hp r1 r2
    generalize hC:dq y.proc (dq y.name (eC y.labels (fy y.x c)))=C at *
    obtain⟨s1,s2,s3⟩:=BI y.args (n:=C) (by omega) d2
    obtain⟨t1,t2,t3⟩:=tr y.aS (n:=jr y.args C) (by omega) s1
    have eT:=fun s=>ih y.aS (by omega) (n:=jr y.args C) (by omega) s1 s
    have eS:=fun s=>ih y.aL (by omega) (n:=fY y.aS (jr y.args C)) (by omega) t1 s
    generalize hW:jr y.args C=W at *
    repeat' (first
 |simp only[go_sem,hY,hZ,gA,gB,c1,w3]
 |(with_reducible refine CU (eE _) ?_)
 |(with_reducible refine CU (eL _) ?_)
 |(with_reducible refine CU (eN _) ?_)
 |(with_reducible refine CU (eP _) ?_)
 | (with_reducible refine aB hQ ?_;exact aU))
    refine cq 1 0 (bn.ind (ι:=List Ar×Nat×Int) (fun i=>y.args.drop i.2.1=i.1∧jr i.1 i.2.2=W∧(i.2.1:Int)≤i.2.2∧i.2.2≤20001) (fun i=>i.1.length)
     (fun i=> [(0, .slice .shared 13 (l.map bh)),(1, .int .i64 i.2.2),(5, .int .i64 (k:Int)),(6, .ptr 0 0),(7, .int .i64 (i.2.1:Int))]) (fun i=>⟨[bh y],[]⟩) ?_ (y.args,0,C) ⟨rfl,hW,by dsimp only;omega,d2⟩)
    rintro⟨ars,j,e⟩ ⟨k1,hw,k3,k4⟩ vo
    dsimp only at k1 hw k3 k4
    cases ars with
    |nil=>
     have hY:=drop_nil k1
     simp only[jr]at hw
     subst hw
     repeat' (first
 |simp only[go_sem,hY,hZ,gA,gB,w3]
 |(with_reducible refine CU (eT _) ?_)
 |(with_reducible refine CU (eS _) ?_)
 | (with_reducible refine aB hQ ?_;exact aU))
     refine cq 0 0 (IH (rest,k+1,fY y.aL (fY y.aS e)) ⟨g2,hp,by dsimp only;omega,r1⟩ (Nat.lt_succ_self _))
    | cons a ars=>
     obtain⟨hZ,k2,hY,k5⟩:=drop_cons k1
     simp only[jr]at hw
     by_cases he:e≤20000
     ·have e1:decide (e≤20000)=true:=by simp;omega
      have w4:IntKind.wrap .i64 ((j:Int)+1)=((j+1:Nat):Int):=by rw[bC]<;>omega
      rw[if_pos he]at hw
      obtain⟨u1,u2,u3,u4⟩:=xT _ a.x (Nat.le_refl _) e (by omega)
      have u2:=u2 he
      obtain⟨v1,v2,v3⟩:=mz (t:=a.name) (n:=fy a.x e) u3 u1
      have eX:=fun s=>M8 _ a.x (Nat.le_refl _) (n:=e) (by omega) he s
      have eM:=fun s=>rZ a.name (n:=fy a.x e) u3 u1 s
      repeat' (first
 |simp only[go_sem,hY,hZ,gA,gB,e1,w4]
 |(with_reducible refine CU (eX _) ?_)
 |(with_reducible refine CU (eM _) ?_)
 |(with_reducible refine aB hQ ?_;exact aU))
      refine cq 1 0 (vo (ars,j+1,dq a.name (fy a.x e)) ⟨k2,hw,by dsimp only;omega,v2⟩ (Nat.lt_succ_self _))
     ·have e1:decide (e≤20000)=false:=by simp;omega
      rw[if_neg he]at hw
      subst hw
      repeat' (first
 |simp only[go_sem,hY,hZ,gA,gB,e1,w3]
 |(with_reducible refine CU (eT _) ?_)
 |(with_reducible refine CU (eS _) ?_)
 | (with_reducible refine aB hQ ?_;exact aU))
      refine cq 0 0 (IH (rest,k+1,fY y.aL (fY y.aS e)) ⟨g2,hp,by dsimp only;omega,r1⟩ (Nat.lt_succ_self _))
   ·have c1:decide (c≤20000)=false:=by simp;omega
    rw[if_neg hc]at hp
    subst hp
    repeat' (first
 |simp only[go_sem,hY,hZ,gA,gB,c1]
 |(with_reducible refine aB hQ ?_;exact aU))
theorem agm (p:Pg) (s:St):aA Tryz.prog zp [.agg (bY p)] s (.bool (decide (p.D4≤20000))) s:=by
 refine aA.pure ?_ (by simp only[D.bN,D.ok,jP];rfl) rfl s
 unfold S0
 generalize hp:p.D4=W
 unfold Pg.D4 at hp
 obtain⟨a1,a2,a3⟩:=mh p.globals (n:=0) (by omega) (by omega)
 have eG:=fun s=>yT (l:=p.globals) (n:=0) (by omega) (by omega) s
 refine aA.go J0 rfl fun B Q hB hQ=>?_
 have⟨hY,hZ,gA,gB⟩:=bu
 repeat' (first
 |simp only[go_sem,hY,hZ,gA,gB]
 |(with_reducible refine CU (eG _) ?_)
 |(with_reducible refine aB hQ ?_;exact aU))
 refine cq 1 0 (bn.ind (ι:=List Pc×Nat×Int) (fun i=>p.procs.drop i.2.1=i.1∧oK i.1 i.2.2=W∧(i.2.1:Int)≤i.2.2∧i.2.2≤20001) (fun i=>i.1.length)
  (fun i=> [(1, .ptr 0 0),(3, .int .i64 i.2.2),(4, .int .i64 (i.2.1:Int))]) (fun i=>⟨[bY p],[]⟩) ?_ (p.procs,0,eC p.globals 0) ⟨rfl,hp,a2,a1⟩)
 rintro⟨rest,k,c⟩ ⟨g1,hp,g3,g4⟩ IH
 dsimp only at g1 hp g3 g4
 cases rest with
 |nil=>
  have hY:=drop_nil g1
  simp only[oK]at hp
  subst hp
  repeat' (first
 |simp only[go_sem,hY,hZ,gA,gB]
 |(with_reducible refine aB hQ ?_;exact aU))
 | cons f rest=>
  obtain⟨hZ,g2,hY,g5⟩:=drop_cons g1
  simp only[oK]at hp
  by_cases hc:c≤20000
  ·have c1:decide (c≤20000)=true:=by simp;omega
   have w3:IntKind.wrap .i64 ((k:Int)+1)=((k+1:Nat):Int):=by rw[bC]<;>omega
   rw[if_pos hc]at hp
   obtain⟨r1,r2,r3⟩:=JD f (n:=c) (by omega) hc
   unfold vv at hp r1 r2
   obtain⟨c1',c2,c3⟩:=mz (t:=f.name) (n:=c) (by omega) g4
   obtain⟨d1,d2,d3⟩:=mh f.vars (n:=dq f.name c) (by omega) c2
   obtain⟨e1,e2,e3⟩:=mh f.fin (n:=eC f.vars (dq f.name c)) (by omega) d1
   have eN:=fun s=>rZ f.name (n:=c) (by omega) g4 s
   have eV:=fun s=>yT (l:=f.vars) (n:=dq f.name c) (by omega) c2 s
   have eF:=fun s=>yT (l:=f.fin) (n:=eC f.vars (dq f.name c)) (by omega) d1 s
   generalize hC:eC f.fin (eC f.vars (dq f.name c))=C at *
   obtain⟨s1,s2,s3⟩:=BH f.params (n:=C) (by omega) e1
   have eT:=fun s=>VC _ f.body (Nat.le_refl _) (n:=lH f.params C) (by omega) s1 s
   generalize hM:lH f.params C=M at *
   repeat' (first
 |simp only[go_sem,hY,hZ,gA,gB,c1,w3]
 |(with_reducible refine CU (eN _) ?_)
 |(with_reducible refine CU (eV _) ?_)
 |(with_reducible refine CU (eF _) ?_)
 | (with_reducible refine aB hQ ?_;exact aU))
   refine cq 2 0 (bn.ind (ι:=List Pm×Nat×Int) (fun i=>f.params.drop i.2.1=i.1∧lH i.1 i.2.2=M∧(i.2.1:Int)≤i.2.2∧i.2.2≤20001) (fun i=>i.1.length)
    (fun i=> [(1, .ptr 0 0),(3, .int .i64 i.2.2),(4, .int .i64 (k:Int)),(5, .ptr 1 0),(6, .int .i64 (i.2.1:Int))]) (fun i=>⟨[bY p,cH f],[]⟩) ?_ (f.params,0,C) ⟨rfl,hM,by dsimp only;omega,e1⟩)
   rintro⟨ms,j,e⟩ ⟨k1,hw,k3,k4⟩ vo
   dsimp only at k1 hw k3 k4
   cases ms with
   |nil=>
    have hY:=drop_nil k1
    simp only[lH]at hw
    subst hw
    repeat' (first
 |simp only[go_sem,hY,hZ,gA,gB,w3]
 |(with_reducible refine CU (eT _) ?_)
 | (with_reducible refine aB hQ ?_;exact aU))
    refine cq 1 0 (IH (rest,k+1,fY f.body e) ⟨g2,hp,by dsimp only;omega,r1⟩ (Nat.lt_succ_self _))
   | cons a ms=>
    obtain⟨hZ,k2,hY,k5⟩:=drop_cons k1
    simp only[lH]at hw
    by_cases he:e≤20000
    ·have e1:decide (e≤20000)=true:=by simp;omega
     have w4:IntKind.wrap .i64 ((j:Int)+1)=((j+1:Nat):Int):=by rw[bC]<;>omega
     rw[if_pos he]at hw
     obtain⟨v1,v2,v3⟩:=mz (t:=a.name) (n:=e) (by omega) k4
     have v4:=(nM (t:=a.name) (n:=e) (by omega)).2.1 he
     have eM:=fun s=>rZ a.name (n:=e) (by omega) k4 s
     repeat' (first
 |simp only[go_sem,hY,hZ,gA,gB,e1,w4]
 |(with_reducible refine CU (eM _) ?_)
 | (with_reducible refine aB hQ ?_;exact aU))
     refine cq 2 0 (vo (ms,j+1,dq a.name e) ⟨k2,hw,by dsimp only;omega,v2⟩ (Nat.lt_succ_self _))
    ·have e1:decide (e≤20000)=false:=by simp;omega
     rw[if_neg he]at hw
     subst hw
     repeat' (first
 |simp only[go_sem,hY,hZ,gA,gB,e1,w3]
 |(with_reducible refine CU (eT _) ?_)
 |(with_reducible first|refine bq fun hc=>?_|refine br fun hc=>?_|refine bt (fun hc=>?_) fun hc=>?_)<;>(try simp only[hc,bs,↓reduceIte]at h)<;>try simp only[hc]
 | (with_reducible refine aB hQ ?_;simp only [cj,cr,dK,dL,go_sem,hY,hZ,gA,gB,e1,w3];try exact dM))
     refine cq 1 0 (IH (rest,k+1,fY f.body e) ⟨g2,hp,by dsimp only;omega,r1⟩ (Nat.lt_succ_self _))
  ·have c1:decide (c≤20000)=false:=by simp;omega
   rw[if_neg hc]at hp
   subst hp
   repeat' (first
 |simp only[go_sem,hY,hZ,gA,gB,c1]
 |(with_reducible first|refine bq fun hc=>?_|refine br fun hc=>?_|refine bt (fun hc=>?_) fun hc=>?_)<;>(try simp only[hc,bs,↓reduceIte]at h)<;>try simp only[hc]
 |(with_reducible refine aB hQ ?_;simp only[cj,cr,dK,dL,go_sem,hY,hZ,gA,gB,c1];try exact dM))
def FD:List ay→List ay→Bool
 | [],_=>true
 |_::_,[]=>true
 |x::l,y::l'=>if !(x==y)then false else FD l l'
def EM (l l':List ay):Bool:=if(l.length:Int) != (l'.length:Int)then false else FD l l'
def Ar.gw:List Ar→List Ar→Bool
 | [],_=>true
 |_::_,[]=>true
 |a::l,b::l'=>if !(a.ref==b.ref) || !(a.name==b.name) || !(Ex.beq a.x b.x)then false else Ar.gw l l'
mutual
def Sm.beq:Sm→Sm→Bool
 |⟨id,kind,labels,name,proc,x,has,args,aS,aL⟩,⟨VE,He,wX,nG,qT,x',M9,pY,Dv,Dw⟩=>
  if id != VE ||kind != He || !(name==nG) || !(proc==qT) || !(has==M9) || !(EM labels wX) || !(Ex.beq x x') ||(args.length:Int) != (pY.length:Int)then false
  else if !(Ar.gw args pY)then false
  else if(if(aS.length:Int) != (Dv.length:Int)then false else Sm.gw aS Dv)then(if(aL.length:Int) != (Dw.length:Int)then false else Sm.gw aL Dw)else false
def Sm.gw:List Sm→List Sm→Bool
 | [],_=>true
 |_::_,[]=>true
 |s::l,t::l'=>if !(Sm.beq s t)then false else Sm.gw l l'
end
def Sm.xV (l l':List Sm):Bool:=if(l.length:Int) != (l'.length:Int)then false else Sm.gw l l'
def Pm.gw:List Pm→List Pm→Bool
 | [],_=>true
 |_::_,[]=>true
 |a::l,b::l'=>if !((a.name==b.name) && (a.ref==b.ref))then false else Pm.gw l l'
def Pc.gw:List Pc→List Pc→Bool
 | [],_=>true
 |_::_,[]=>true
 |f::l,g::l'=>
  if !(f.name==g.name) ||(f.params.length:Int) != (g.params.length:Int) || !(EM f.vars g.vars) || !(EM f.fin g.fin) || !(Sm.xV f.body g.body)then false
  else if !(Pm.gw f.params g.params)then false else Pc.gw l l'
def Pg.beq (p q:Pg):Bool:=if !(EM p.globals q.globals) ||(p.procs.length:Int) != (q.procs.length:Int)then false else Pc.gw p.procs q.procs
theorem JE : ∀ l,FD l l=true
 | []=>rfl
 |x::l=>by simp[FD,JE l]
theorem FE (l:List ay):EM l l=true:=by simp[EM,JE]
theorem Ar.im : ∀ l,Ar.gw l l=true
 | []=>rfl
 |x::l=>by simp[Ar.gw,Ar.im l,Ex.beq_refl]
mutual
theorem Sm.beq_refl : ∀ s,Sm.beq s s=true
 |⟨id,kind,labels,name,proc,x,has,args,aS,aL⟩=>by simp[Sm.beq,FE,Ex.beq_refl,Ar.im,Sm.im aS,Sm.im aL]
theorem Sm.im : ∀ l,Sm.gw l l=true
 | []=>rfl
 |x::l=>by simp[Sm.gw,Sm.beq_refl x,Sm.im l]
end
theorem Sm.VF (l:List Sm):Sm.xV l l=true:=by simp[Sm.xV,Sm.im]
theorem Pm.im : ∀ l,Pm.gw l l=true
 | []=>rfl
 |x::l=>by simp[Pm.gw,Pm.im l]
theorem Pc.im : ∀ l,Pc.gw l l=true
 | []=>rfl
 |x::l=>by simp[Pc.gw,Pc.im l,FE,Sm.VF,Pm.im]
theorem Pg.beq_refl (p:Pg):Pg.beq p p=true:=by simp[Pg.beq,FE,Pc.im]
theorem yU {l l':List ay} (hl:l.length<4611686018427387904) (s:St):aA Tryz.prog mH [.slice .shared 1 (l.map encStr), .slice .shared 1 (l'.map encStr)] s (.bool (EM l l')) s:=by
 refine aA.pure ?_ (by simp[D.bN,D.ok,Tag.ok,fw]) rfl s
 generalize h:EM l l'=p
 simp only[EM]at h
 unfold S0
 refine aA.go Fo rfl fun B Q hB hQ=>?_
 have⟨hY,hZ,gA,gB⟩:=bu
 repeat' (first
 |simp only[go_sem,hY,hZ,gA,gB]
 |(with_reducible first|refine bq fun hc=>?_|refine br fun hc=>?_|refine bt (fun hc=>?_) fun hc=>?_)<;>(try simp only[hc,bs,↓reduceIte]at h)<;>try simp only[hc]
 |(with_reducible refine aB hQ ?_;exact eo))
 have hl5:l.length=l'.length:=by
  have:((l.length:Int) != (l'.length:Int))=false:=by assumption
  simp only[bne_eq_false_iff_eq]at this
  omega
 refine cq 0 0 (bn.ind (ι:=List ay×List ay×Nat) (fun i=>l.drop i.2.2=i.1∧l'.drop i.2.2=i.2.1∧FD i.1 i.2.1=p) (fun i=>i.1.length)
  (fun i=> [(0, .slice .shared 1 (l.map encStr)),(1, .slice .shared 1 (l'.map encStr)),(12, .int .i64 (l.length:Int)),(13, .int .i64 (i.2.2:Int))]) (fun i=>⟨[],[]⟩) ?_ (l,l',0) ⟨rfl,rfl,h⟩)
 rintro⟨r1,r2,k⟩ ⟨h1,h2,h⟩ IH
 dsimp only at h1 h2 h
 cases r1 with
 |nil=>
  have hY:=drop_nil h1
  simp only[FD]at h
  repeat' (first
 |simp only[go_sem,hY,hZ,gA,gB]
 |(with_reducible first|refine bq fun hc=>?_|refine br fun hc=>?_|refine bt (fun hc=>?_) fun hc=>?_)<;>(try simp only[hc,bs,↓reduceIte]at h)<;>try simp only[hc]
 |(with_reducible refine aB hQ ?_;exact eo)
 |(cases h;done))
 | cons a r1=>
  obtain⟨hZ,g2,hY,g4⟩:=drop_cons h1
  cases r2 with
  |nil=>have:=List.drop_eq_nil_iff.1 h2;omega
  |cons b r2=>
   obtain⟨oR,b2,_,_⟩:=drop_cons h2
   have cd:k<4611686018427387904:=by omega
   simp only[FD]at h
   repeat' (first
 |simp only[go_sem,hY,hZ,gA,gB,oR]
 |(with_reducible first|refine bq fun hc=>?_|refine br fun hc=>?_|refine bt (fun hc=>?_) fun hc=>?_)<;>(try simp only[hc,bs,↓reduceIte]at h)<;>try simp only[hc]
 |(with_reducible refine aB hQ ?_;(try cases h);simp only[cj,cr,dK,dL,go_sem,hY,hZ,gA,gB,oR];try exact dM)
 | (cases h;done))
   refine eQ 0 0 ?_ ?_ (IH (r1,r2,k+1) ⟨g2,b2,h⟩ (Nat.lt_succ_self _))
   ·(simp only[go_sem,hY,hZ,gA,gB,aM cd];try exact bQ)
   ·(simp only[go_sem,hY,hZ,gA,gB,aM cd];try exact bQ)
abbrev Is (N:Nat):Prop:=∀ s t:Sm,s.size<N→∀ st:St,aA Tryz.prog sW [.agg (bh s), .agg (bh t)] st (.bool (Sm.beq s t)) st
abbrev SG (N:Nat):Prop:=∀ l l':List Sm,Sm.aT l<N→∀ st:St,aA Tryz.prog mI [.slice .shared 13 (l.map bh), .slice .shared 13 (l'.map bh)] st (.bool (Sm.xV l l')) st
theorem YX {N:Nat} (hN:N<4611686018427387904) (one:Is N):SG (N+1):=by
 intro l l' hs st
 have hl:l.length<4611686018427387904:=by have:=Sm.cu l;omega
 have hk : ∀ a∈l,∀ b s,aA Tryz.prog sW [.agg (bh a), .agg (bh b)] s (.bool (Sm.beq a b)) s:=fun a ha b s=>
  one a b (by have:=Sm.bJ ha;omega) s
 refine aA.pure ?_ (by simp[D.bN,D.ok,Tag.ok,mZ]) rfl st
 generalize h:Sm.xV l l'=p
 simp only[Sm.xV]at h
 unfold S0
 refine aA.go Fp rfl fun B Q hB hQ=>?_
 have⟨hY,hZ,gA,gB⟩:=bu
 repeat' (first
 |simp only[go_sem,hY,hZ,gA,gB]
 |(with_reducible first|refine bq fun hc=>?_|refine br fun hc=>?_|refine bt (fun hc=>?_) fun hc=>?_)<;>(try simp only[hc,bs,↓reduceIte]at h)<;>try simp only[hc]
 |(with_reducible refine aB hQ ?_;exact eo)
 |(cases h;done))
 have hl5:l.length=l'.length:=by
  have:((l.length:Int) != (l'.length:Int))=false:=by assumption
  simp only[bne_eq_false_iff_eq]at this
  omega
 refine cq 0 0 (bn.ind (ι:=List Sm×List Sm×Nat) (fun i=>l.drop i.2.2=i.1∧l'.drop i.2.2=i.2.1∧Sm.gw i.1 i.2.1=p) (fun i=>i.1.length)
  (fun i=> [(0, .slice .shared 13 (l.map bh)),(1, .slice .shared 13 (l'.map bh)),(12, .int .i64 (l.length:Int)),(13, .int .i64 (i.2.2:Int))]) (fun i=>⟨[],[]⟩) ?_ (l,l',0) ⟨rfl,rfl,h⟩)
 rintro⟨r1,r2,k⟩ ⟨h1,h2,h⟩ IH
 dsimp only at h1 h2 h
 cases r1 with
 |nil=>
  have hY:=drop_nil h1
  simp only[Sm.gw]at h
  repeat' (first
 |simp only[go_sem,hY,hZ,gA,gB]
 |(with_reducible first|refine bq fun hc=>?_|refine br fun hc=>?_|refine bt (fun hc=>?_) fun hc=>?_)<;>(try simp only[hc,bs,↓reduceIte]at h)<;>try simp only[hc]
 |(with_reducible refine aB hQ ?_;exact eo)
 |(cases h;done))
 | cons a r1=>
  obtain⟨hZ,g2,hY,g4⟩:=drop_cons h1
  cases r2 with
  |nil=>have:=List.drop_eq_nil_iff.1 h2;omega
  |cons b r2=>
   obtain⟨oR,b2,_,_⟩:=drop_cons h2
   have cd:k<4611686018427387904:=by omega
   have ED:=hk a (List.mem_of_getElem? hZ)
   simp only[Sm.gw]at h
   repeat' (first
 |simp only[go_sem,hY,hZ,gA,gB,oR]
 |(with_reducible refine CU (ED _ _) ?_)
 |(with_reducible first|refine bq fun hc=>?_|refine br fun hc=>?_|refine bt (fun hc=>?_) fun hc=>?_)<;>(try simp only[hc,bs,↓reduceIte]at h)<;>try simp only[hc]
 |(with_reducible refine aB hQ ?_;(try cases h);simp only[cj,cr,dK,dL,go_sem,hY,hZ,gA,gB,oR];try exact dM)
 | (cases h;done))
   refine eQ 0 0 ?_ ?_ (IH (r1,r2,k+1) ⟨g2,b2,h⟩ (Nat.lt_succ_self _))
   ·(simp only[go_sem,hY,hZ,gA,gB,aM cd];try exact bQ)
   ·(simp only[go_sem,hY,hZ,gA,gB,aM cd];try exact bQ)
theorem SH {N:Nat} (hN:N<4611686018427387904) (eql:SG N):Is (N+1):=by
 rintro⟨id,kind,labels,name,proc,x,has,args,aS,aL⟩ ⟨VE,He,wX,nG,qT,x',M9,pY,Dv,Dw⟩ hs st
 simp only[Sm.size]at hs
 refine aA.pure ?_ (by simp[D.bN,D.ok,np]) rfl st
 have ry:=Ar.cu args
 have hT:=fun s=>yU (l:=labels) (l':=wX) (by omega) s
 have hX:=fun s=>Mn (x:=x) (y:=x') (by omega) s
 simp only[gv]at hX
 have h1:=eql aS Dv (by omega)
 have h2:=eql aL Dw (by omega)
 generalize h:Sm.beq ⟨id,kind,labels,name,proc,x,has,args,aS,aL⟩ ⟨VE,He,wX,nG,qT,x',M9,pY,Dv,Dw⟩=p
 simp only[Sm.beq]at h
 change (if id != VE ||kind != He || !(name==nG) || !(proc==qT) || !(has==M9) || !(EM labels wX) || !(Ex.beq x x') ||(args.length:Int) != (pY.length:Int)then false
  else if !(Ar.gw args pY)then false else if Sm.xV aS Dv then Sm.xV aL Dw else false)=p at h
 unfold S0
 refine aA.go H2 rfl fun B Q hB hQ=>?_
 have⟨hY,hZ,gA,gB⟩:=bu
 repeat' (first
 |simp only[go_sem,hY,hZ,gA,gB]
 |(with_reducible refine CU (hT _) ?_)
 |(with_reducible refine CU (hX _) ?_)
 |(with_reducible first|refine bq fun hc=>?_|refine br fun hc=>?_|refine bt (fun hc=>?_) fun hc=>?_)<;>(try simp only[hc,bs,↓reduceIte]at h)<;>try simp only[hc]
 |(with_reducible refine aB hQ ?_;exact eo)
 |(cases h;done))
 have hl5:args.length=pY.length:=by
  have:((args.length:Int) != (pY.length:Int))=false:=by assumption
  simp only[bne_eq_false_iff_eq]at this
  omega
 refine cq 2 0 (bn.ind (ι:=List Ar×List Ar×Nat) (fun i=>args.drop i.2.2=i.1∧pY.drop i.2.2=i.2.1∧(if !(Ar.gw i.1 i.2.1)then false else if Sm.xV aS Dv then Sm.xV aL Dw else false)=p) (fun i=>i.1.length)
  (fun i=> [(2, .ptr 0 0),(3, .ptr 1 0),(66, .int .i64 (args.length:Int)),(67, .int .i64 (i.2.2:Int))]) (fun i=>⟨[bh ⟨id,kind,labels,name,proc,x,has,args,aS,aL⟩,bh ⟨VE,He,wX,nG,qT,x',M9,pY,Dv,Dw⟩],[]⟩) ?_ (args,pY,0) ⟨rfl,rfl,h⟩)
 rintro⟨r1,r2,k⟩ ⟨j1,j2,h⟩ IH
 dsimp only at j1 j2 h
 cases r1 with
 |nil=>
  have hY:=drop_nil j1
  simp only[Ar.gw,Bool.not_true,Bool.false_eq_true,↓reduceIte]at h
  repeat' (first
 |simp only[go_sem,hY,hZ,gA,gB]
 |(with_reducible refine CU (h1 _) ?_)
 |(with_reducible refine CU (h2 _) ?_)
 |(with_reducible first|refine bq fun hc=>?_|refine br fun hc=>?_|refine bt (fun hc=>?_) fun hc=>?_)<;>(try simp only[hc,bs,↓reduceIte]at h)<;>try simp only[hc]
 |(with_reducible refine aB hQ ?_;exact eo)
 |(cases h;done))
 | cons a r1=>
  obtain⟨hZ,g2,hY,g4⟩:=drop_cons j1
  cases r2 with
  |nil=>have:=List.drop_eq_nil_iff.1 j2;omega
  |cons b r2=>
   obtain⟨oR,b2,_,_⟩:=drop_cons j2
   have cd:k<4611686018427387904:=by omega
   have hax:a.x.size<4611686018427387904:=by have:=Ar.bJ (List.mem_of_getElem? hZ);omega
   have ED:=fun s=>Mn (x:=a.x) (y:=b.x) hax s
   simp only[Ar.gw]at h
   repeat' (first
 |simp only[go_sem,hY,hZ,gA,gB,oR]
 |(with_reducible refine CU (ED _) ?_)
 |(with_reducible first|refine bq fun hc=>?_|refine br fun hc=>?_|refine bt (fun hc=>?_) fun hc=>?_)<;>(try simp only[hc,bs,↓reduceIte]at h)<;>try simp only[hc]
 |(with_reducible refine aB hQ ?_;(try cases h);simp only[cj,cr,dK,dL,go_sem,hY,hZ,gA,gB,oR];try exact dM)
 | (cases h;done))
   refine eQ 2 0 ?_ ?_ (IH (r1,r2,k+1) ⟨g2,b2,h⟩ (Nat.lt_succ_self _))
   ·(simp only[go_sem,hY,hZ,gA,gB,aM cd];try exact bQ)
   ·(simp only[go_sem,hY,hZ,gA,gB,aM cd];try exact bQ)
theorem agn : ∀ N,N<4611686018427387904→Is N∧SG N:=by
 intro N
 induction N with
 |zero=>exact fun _=>⟨fun s t h=>absurd h (Nat.not_lt_zero _),fun l l' h=>absurd h (Nat.not_lt_zero _)⟩
 |succ N ih=>
  intro h
  have:=ih (by omega)
  exact⟨SH (by omega) this.2,YX (by omega) this.1⟩
theorem VG {l l':List Sm} (h:Sm.aT l<4611686018427387000) (st:St):aA Tryz.prog mI [.slice .shared 13 (l.map bh), .slice .shared 13 (l'.map bh)] st (.bool (Sm.xV l l')) st:=
 (agn (Sm.aT l+1) (by omega)).2 l l' (Nat.lt_succ_self _) st
theorem aup {a b:Pg} (hs:a.size<1073741824) (st:St):aA Tryz.prog C0 [.agg (bY a), .agg (bY b)] st (.bool (Pg.beq a b)) st:=by
 obtain⟨g,ps⟩:=a
 obtain⟨g',Na⟩:=b
 simp only[Pg.size]at hs
 have sI:=Pc.cu ps
 refine aA.pure ?_ (by simp[D.bN,D.ok,jP]) rfl st
 have hT:=fun s=>yU (l:=g) (l':=g') (by omega) s
 generalize h:Pg.beq ⟨g,ps⟩ ⟨g',Na⟩=p
 simp only[Pg.beq]at h
 unfold S0
 refine aA.go Oq rfl fun B Q hB hQ=>?_
 have⟨hY,hZ,gA,gB⟩:=bu
 repeat' (first
 |simp only[go_sem,hY,hZ,gA,gB]
 |(with_reducible refine CU (hT _) ?_)
 |(with_reducible first|refine bq fun hc=>?_|refine br fun hc=>?_|refine bt (fun hc=>?_) fun hc=>?_)<;>(try simp only[hc,bs,↓reduceIte]at h)<;>try simp only[hc]
 |(with_reducible refine aB hQ ?_;exact eo)
 |(cases h;done))
 have hl5:ps.length=Na.length:=by
  have:((ps.length:Int) != (Na.length:Int))=false:=by assumption
  simp only[bne_eq_false_iff_eq]at this
  omega
 refine cq 2 0 (bn.ind (ι:=List Pc×List Pc×Nat) (fun i=>ps.drop i.2.2=i.1∧Na.drop i.2.2=i.2.1∧Pc.gw i.1 i.2.1=p) (fun i=>i.1.length)
  (fun i=> [(2, .ptr 0 0),(3, .ptr 1 0),(26, .int .i64 (ps.length:Int)),(27, .int .i64 (i.2.2:Int))]) (fun i=>⟨[bY ⟨g,ps⟩,bY ⟨g',Na⟩],[]⟩) ?_ (ps,Na,0) ⟨rfl,rfl,h⟩)
 rintro⟨r1,r2,k⟩ ⟨j1,j2,h⟩ IH
 dsimp only at j1 j2 h
 cases r1 with
 |nil=>
  have hY:=drop_nil j1
  simp only[Pc.gw]at h
  repeat' (first
 |simp only[go_sem,hY,hZ,gA,gB]
 |(with_reducible first|refine bq fun hc=>?_|refine br fun hc=>?_|refine bt (fun hc=>?_) fun hc=>?_)<;>(try simp only[hc,bs,↓reduceIte]at h)<;>try simp only[hc]
 |(with_reducible refine aB hQ ?_;exact eo)
 |(cases h;done))
 | cons x r1=>
  obtain⟨hZ,g2,hY,g4⟩:=drop_cons j1
  cases r2 with
  |nil=>have:=List.drop_eq_nil_iff.1 j2;omega
  |cons y r2=>
   obtain⟨oR,b2,_,_⟩:=drop_cons j2
   have cd:k<4611686018427387904:=by omega
   have ew:=Pc.bJ (List.mem_of_getElem? hZ)
   obtain⟨name,params,vars,body,fin⟩:=x
   obtain⟨nG,AP,vars',aa3,ago⟩:=y
   simp only[Pc.size]at ew
   have h1:=fun s=>yU (l:=vars) (l':=vars') (by omega) s
   have h2:=fun s=>yU (l:=fin) (l':=ago) (by omega) s
   have h3:=fun s=>VG (l:=body) (l':=aa3) (by omega) s
   simp only[Pc.gw]at h
   repeat' (first
 |simp only[go_sem,hY,hZ,gA,gB,oR]
 |(with_reducible refine CU (h1 _) ?_)
 |(with_reducible refine CU (h2 _) ?_)
 |(with_reducible refine CU (h3 _) ?_)
 |(with_reducible first|refine bq fun hc=>?_|refine br fun hc=>?_|refine bt (fun hc=>?_) fun hc=>?_)<;>(try simp only[hc,bs,↓reduceIte]at h)<;>try simp only[hc]
 |(with_reducible refine aB hQ ?_;(try cases h);simp only[cj,cr,dK,dL,go_sem,hY,hZ,gA,gB,oR];try exact dM)
 | (cases h;done))
   have hm5:params.length=AP.length:=by
    have:((params.length:Int) != (AP.length:Int))=false:=by assumption
    simp only[bne_eq_false_iff_eq]at this
    omega
   refine cq 4 0 (bn.ind (ι:=List Pm×List Pm×Nat) (fun i=>params.drop i.2.2=i.1∧AP.drop i.2.2=i.2.1∧(if !(Pm.gw i.1 i.2.1)then false else Pc.gw r1 r2)=p) (fun i=>i.1.length)
    (fun i=> [(2, .ptr 0 0),(3, .ptr 1 0),(6, .ptr 2 0),(7, .ptr 3 0),(26, .int .i64 (ps.length:Int)),(27, .int .i64 (k:Int)),(80, .int .i64 (params.length:Int)),(81, .int .i64 (i.2.2:Int))])
    (fun i=>⟨[bY ⟨g,ps⟩,bY ⟨g',Na⟩,cH ⟨name,params,vars,body,fin⟩,cH ⟨nG,AP,vars',aa3,ago⟩],[]⟩) ?_ (params,AP,0) ⟨rfl,rfl,h⟩)
   rintro⟨s1,s2,q⟩ ⟨i1,i2,h⟩ IHm
   dsimp only at i1 i2 h
   cases s1 with
   |nil=>
    have hY:=drop_nil i1
    simp only[Pm.gw,Bool.not_true,Bool.false_eq_true,↓reduceIte]at h
    repeat' (first
 |simp only[go_sem,hY,hZ,gA,gB]
 |(with_reducible first|refine bq fun hc=>?_|refine br fun hc=>?_|refine bt (fun hc=>?_) fun hc=>?_)<;>(try simp only[hc,bs,↓reduceIte]at h)<;>try simp only[hc]
 |(with_reducible refine aB hQ ?_;exact eo)
 | (cases h;done))
    refine eQ 2 0 ?_ ?_ (IH (r1,r2,k+1) ⟨g2,b2,h⟩ (Nat.lt_succ_self _))
    ·(simp only[go_sem,hY,hZ,gA,gB,aM cd];try exact bQ)
    ·(simp only[go_sem,hY,hZ,gA,gB,aM cd];try exact bQ)
   | cons u s1=>
    obtain⟨hZ,u2,hY,u4⟩:=drop_cons i1
    cases s2 with
    |nil=>have:=List.drop_eq_nil_iff.1 i2;omega
    | cons v s2=>
     obtain⟨oR,v2,_,_⟩:=drop_cons i2
     have iQ:q<4611686018427387904:=by omega
     simp only[Pm.gw]at h
     cases e1:(u.name==v.name)
     ·simp only [e1,Bool.false_and,Bool.not_false, ↓reduceIte]at h
      repeat' (first
 |simp only[go_sem,hY,hZ,gA,gB,oR,fC,e1]
 |(with_reducible first|refine bq fun hc=>?_|refine br fun hc=>?_|refine bt (fun hc=>?_) fun hc=>?_)<;>(try simp only[hc,bs,↓reduceIte]at h)<;>try simp only[hc]
 |(with_reducible refine aB hQ ?_;(try cases h);simp only[cj,cr,dK,dL,go_sem,hY,hZ,gA,gB,oR,fC,e1];try exact dM)
 |(cases h;done))
     ·cases e2:(u.ref==v.ref)
      ·simp only [e1,e2,Bool.and_false,Bool.not_false, ↓reduceIte]at h
       repeat' (first
 |simp only[go_sem,hY,hZ,gA,gB,oR,fC,e1,e2]
 |(with_reducible first|refine bq fun hc=>?_|refine br fun hc=>?_|refine bt (fun hc=>?_) fun hc=>?_)<;>(try simp only[hc,bs,↓reduceIte]at h)<;>try simp only[hc]
 |(with_reducible refine aB hQ ?_;(try cases h);simp only[cj,cr,dK,dL,go_sem,hY,hZ,gA,gB,oR,fC,e1,e2];try exact dM)
 |(cases h;done))
      ·simp only [e1,e2,Bool.and_true,Bool.not_true,Bool.false_eq_true, ↓reduceIte]at h
       repeat' (first
 |simp only[go_sem,hY,hZ,gA,gB,oR,fC,e1,e2]
 |(with_reducible first|refine bq fun hc=>?_|refine br fun hc=>?_|refine bt (fun hc=>?_) fun hc=>?_)<;>(try simp only[hc,bs,↓reduceIte]at h)<;>try simp only[hc]
 |(with_reducible refine aB hQ ?_;(try cases h);simp only[cj,cr,dK,dL,go_sem,hY,hZ,gA,gB,oR,fC,e1,e2];try exact dM)
 |(cases h;done))
       refine eQ 4 0 ?_ ?_ (IHm (s1,s2,q+1) ⟨u2,v2,h⟩ (Nat.lt_succ_self _))
       ·(simp only[go_sem,hY,hZ,gA,gB,aM iQ];try exact bQ)
       ·(simp only[go_sem,hY,hZ,gA,gB,aM iQ];try exact bQ)
def yV (n:Int):Ex:=⟨1,n,[],[]⟩
def lB (s:ay):Ex:=⟨2,0,s,[]⟩
def uS (op:Int) (a b:Ex):Ex:=⟨op,0,[],[a,b]⟩
theorem ai4 (n:Int) (s:St):aA Tryz.prog sV [.int .i64 n] s (.agg (bx (yV n))) s:=by
 refine aA.pure ?_ rfl (by simp[D.ok,gE]) s
 unfold S0
 refine aA.go Mc rfl fun B Q hB hQ=>?_
 have⟨hY,hZ,gA,gB⟩:=bu
 repeat' (first
 |simp only[go_sem,hY,hZ,gA,gB,yV]
 |(with_reducible first|refine bq fun hc=>?_|refine br fun hc=>?_|refine bt (fun hc=>?_) fun hc=>?_)<;>(try simp only[hc,bs,↓reduceIte]at h)<;>try simp only[hc]
 |(with_reducible refine aB hQ ?_;simp only[cj,cr,dK,dL,go_sem,hY,hZ,gA,gB,yV];try exact dM))
theorem SI (t:ay) (s:St):aA Tryz.prog mq [.str t] s (.agg (bx (lB t))) s:=by
 refine aA.pure ?_ rfl (by simp[D.ok,gE]) s
 unfold S0
 refine aA.go J8 rfl fun B Q hB hQ=>?_
 have⟨hY,hZ,gA,gB⟩:=bu
 repeat' (first
 |simp only[go_sem,hY,hZ,gA,gB,lB]
 |(with_reducible first|refine bq fun hc=>?_|refine br fun hc=>?_|refine bt (fun hc=>?_) fun hc=>?_)<;>(try simp only[hc,bs,↓reduceIte]at h)<;>try simp only[hc]
 |(with_reducible refine aB hQ ?_;simp only[cj,cr,dK,dL,go_sem,hY,hZ,gA,gB,lB];try exact dM))
theorem VH (op:Int) (a b:Ex) (s:St):aA Tryz.prog wI [.int .i64 op, .agg (bx a), .agg (bx b)] s (.agg (bx (uS op a b))) s:=by
 refine aA.pure ?_ (by simp[D.bN,D.ok,gE]) (by simp[D.ok,gE]) s
 unfold S0
 refine aA.go Md rfl fun B Q hB hQ=>?_
 have⟨hY,hZ,gA,gB⟩:=bu
 repeat' (first
 |simp only[go_sem,hY,hZ,gA,gB,uS]
 |(with_reducible first|refine bq fun hc=>?_|refine br fun hc=>?_|refine bt (fun hc=>?_) fun hc=>?_)<;>(try simp only[hc,bs,↓reduceIte]at h)<;>try simp only[hc]
 |(with_reducible refine aB hQ ?_;simp only[cj,cr,dK,dL,go_sem,hY,hZ,gA,gB,uS];try exact dM))
def source:ay:= [103,108,111,98,97,108,32,103,59,10,112,114,111,99,32,109,97,105,110,40,41,32,123,10,32,118,97,114,32,118,59,10,32,118,32,61,32,50,59,10,32,103,32,61,32,112,40,51,44,32,114,101,102,32,118,41,59,10,32,112,114,105,110,116,32,118,59,10,32,112,114,105,110,116,32,103,59,10,125,10,112,114,111,99,32,112,40,120,44,32,114,101,102,32,121,41,32,123,10,32,121,32,61,32,121,32,43,32,120,59,10,32,105,102,32,40,121,32,62,32,57,41,32,123,10,32,32,103,111,116,111,32,101,59,10,32,125,10,32,114,101,116,117,114,110,32,121,59,10,101,58,32,125,10]
theorem YY (s:St):aA Tryz.prog vN [] s (.str source) s:=by
 refine aA.pure ?_ rfl rfl s
 unfold S0
 refine aA.go Gk rfl fun B Q hB hQ=>?_
 have⟨hY,hZ,gA,gB⟩:=bu
 repeat' (first
 |simp only[go_sem,hY,hZ,gA,gB,source]
 |(with_reducible first|refine bq fun hc=>?_|refine br fun hc=>?_|refine bt (fun hc=>?_) fun hc=>?_)<;>(try simp only[hc,bs,↓reduceIte]at h)<;>try simp only[hc]
 |(with_reducible refine aB hQ ?_;(try cases h);simp only[cj,cr,dK,dL,go_sem,hY,hZ,gA,gB,source];try exact dM)
 |(cases h;done))
def qW:Pg:=⟨[[103]],[
 ⟨[109,97,105,110],[],[[118]],[
  ⟨1,1,[],[118],[],yV 2,false,[],[],[]⟩,
  ⟨2,4,[],[103],[112],jY,false,[⟨false,[],yV 3⟩,⟨true,[118],jY⟩],[],[]⟩,
  ⟨3,3,[],[],[],lB [118],false,[],[],[]⟩,
  ⟨4,3,[],[],[],lB [103],false,[],[],[]⟩],[]⟩,
 ⟨[112],[⟨[120],false⟩,⟨[121],true⟩],[],[
  ⟨5,1,[],[121],[],uS 8 (lB [121]) (lB [120]),false,[],[],[]⟩,
  ⟨6,5,[],[],[],uS 12 (lB [121]) (yV 9),false,[],[⟨7,10,[],[101],[],jY,false,[],[],[]⟩],[]⟩,
  ⟨8,9,[],[],[],lB [121],true,[],[],[]⟩],[[101]]⟩]⟩
theorem agp (s:St):aA Tryz.prog zr [] s (.agg (bY qW)) s:=by
 refine aA.pure ?_ rfl (by simp[D.ok,jP]) s
 unfold S0
 refine aA.go J2 rfl fun B Q hB hQ=>?_
 have⟨hY,hZ,gA,gB⟩:=bu
 repeat' (first
 |simp only[go_sem,hY,hZ,gA,gB,qW]
 |(with_reducible refine CU (ai4 _ _) ?_)
 |(with_reducible refine CU (SI _ _) ?_)
 |(with_reducible refine CU (VH _ _ _ _) ?_)
 |(with_reducible refine aB hQ ?_;simp only[cj,cr,dK,dL,go_sem,hY,hZ,gA,gB];repeat' (first|exact Ok.out|with_reducible refine kM ?_ ?_|(simp;done))))
 repeat' (first|exact Ok.out|with_reducible refine Wk.agg ?_|with_reducible refine Wk.rows ?_|with_reducible refine Wk.slice ?_|with_reducible refine jw.cons ?_ ?_|with_reducible refine oo.cons ?_ ?_)
def Pg.aAS (p:Pg) (n:Int):ay:=match p.procs[(agh n p.procs.length).toNat]? with|some f=>f.name|none=> []
theorem agq:F9.my:=⟨Dm (by decide +kernel) (by decide +kernel),by decide +kernel⟩
section
variable {a b:ay}
end
section
variable {a b:ay} (ha:isName a=true) (hb:isName b=true)
include ha hb
end
def Pg.check (p:Pg):Int×Int:=if p.scope.1==0 then(if p.arity.1==0 then(if p.jump.1==0 then p.alias else p.jump)else p.arity)else p.scope
end Go.Abs
namespace Go.Abs
set_option maxRecDepth 8000
open Go.Proofs
theorem acF : ∀ n,n<1000000000→∀ l:List Sm,Sm.aT l<n→aA Tryz.prog lu [.slice .shared 13 (l.map bh)] S0 (.int .i64 (Sm.fj l:Int)) S0:=by
 intro n
 induction n with
 |zero=>intro _ l h;omega
 |succ n ih=>
 intro hn l hv
 have hl:=Sm.cu l
 have hk : ∀ y∈l,(∀ s,aA Tryz.prog lu [.slice .shared 13 (y.aS.map bh)] s (.int .i64 (Sm.fj y.aS:Int)) s)∧(∀ s,aA Tryz.prog lu [.slice .shared 13 (y.aL.map bh)] s (.int .i64 (Sm.fj y.aL:Int)) s)∧
  y.jy=1+Sm.fj y.aS+Sm.fj y.aL:=fun y hy=>by
  have h1:=Sm.bJ hy
  have ew:Sm.aT y.aS<y.size∧Sm.aT y.aL<y.size∧y.jy=1+Sm.fj y.aS+Sm.fj y.aL:=by
   obtain⟨_,_,_,_,_,_,_,_,_,_⟩:=y
   simp only[Sm.size];exact⟨by omega,by omega,rfl⟩
  exact⟨fun s=>(ih (by omega) y.aS (by omega)).pure (by simp only[D.bN,D.ok,Tag.ok,mZ];rfl) rfl s,fun s=>(ih (by omega) y.aL (by omega)).pure (by simp only[D.bN,D.ok,Tag.ok,mZ];rfl) rfl s,ew.2.2⟩
 have qn:=mn l
 unfold S0
 refine aA.go H0 rfl fun B Q hB hQ=>?_
 have⟨hY,hZ,gA,gB⟩:=bu
 repeat' (first
 |simp only[go_sem,hY,hZ,gA,gB]
 |(with_reducible refine aB hQ ?_;exact aU))
 refine cq 0 0 (bn.ind (ι:=List Sm×Nat×Nat) (fun i=>l.drop i.2.1=i.1∧i.2.2+Sm.fj i.1=Sm.fj l+i.1.length) (fun i=>i.1.length)
  (fun i=> [(0, .slice .shared 13 (l.map bh)),(3, .int .i64 (i.2.2:Int)),(7, .slice .shared 13 (l.map bh)),(8, .int .i64 (l.length:Int)),(9, .int .i64 (i.2.1:Int))]) (fun i=>⟨[],[]⟩) ?_ (l,0,l.length) ⟨rfl,Nat.add_comm _ _⟩)
 rintro⟨rest,k,c⟩ ⟨g1,g2⟩ IH
 dsimp only at g1 g2
 cases rest with
 |nil=>
  have hY:=drop_nil g1
  simp only[Sm.fj,Nat.add_zero,List.length_nil]at g2
  subst g2
  repeat' (first
 |simp only[go_sem,hY,hZ,gA,gB]
 |(with_reducible refine aB hQ ?_;exact aU))
 |cons y rest=>
  obtain⟨hZ,g3,hY,g4⟩:=drop_cons g1
  obtain⟨hy1,hy2,hy3⟩:=hk y (List.mem_of_getElem? hZ)
  simp only[Sm.fj,List.length_cons]at g2
  have FU:=Sm.bJ (List.mem_of_getElem? hZ)
  have OS:rest.length≤l.length:=by have:=congrArg List.length g1;simp only[List.length_drop,List.length_cons]at this;omega
  have w1:IntKind.wrap .i64 ((k:Int)+1)=((k+1:Nat):Int):=by rw[bC]<;>omega
  have w2:IntKind.wrap .i64 ((Sm.fj y.aS:Int)+(Sm.fj y.aL:Int))=((Sm.fj y.aS+Sm.fj y.aL:Nat):Int):=by rw[bC]<;>omega
  have w3:IntKind.wrap .i64 ((c:Int)+((Sm.fj y.aS+Sm.fj y.aL:Nat):Int))=((c+(Sm.fj y.aS+Sm.fj y.aL):Nat):Int):=by rw[bC]<;>omega
  repeat' (first
 |simp only[go_sem,hY,hZ,gA,gB,w1,w2,w3]
 |(with_reducible refine CU (hy1 _) ?_)
 |(with_reducible refine CU (hy2 _) ?_)
 |(with_reducible refine aB hQ ?_;exact aU))
  refine cq 0 0 (IH (rest,k+1,c+(Sm.fj y.aS+Sm.fj y.aL)) ⟨g3,by dsimp only;omega⟩ (Nat.lt_succ_self _))
theorem acG {l:List Sm} (h:Sm.aT l+1<1000000000) (s:St):aA Tryz.prog lu [.slice .shared 13 (l.map bh)] s (.int .i64 (Sm.fj l:Int)) s:=
 (acF _ h l (Nat.lt_succ_self _)).pure (by simp only[D.bN,D.ok,Tag.ok,mZ];rfl) rfl s
def Pc.BJ:List Pc→Nat
 | []=>0
 |f::l=>Sm.fj f.body+Pc.BJ l
theorem Px : ∀ l:List Pc,Pc.BJ l≤Pc.aT l
 | []=>Nat.le_refl _
 |f::l=>by
  have:=Px l;have:=mn f.body
  simp only[Pc.BJ,Pc.aT,Pc.size];omega
theorem acH {p:Pg} (h:p.size+1<1000000000) (s:St):aA Tryz.prog xr [.agg (bY p)] s (.int .i64 (Pc.BJ p.procs:Int)) s:=by
 refine aA.pure ?_ (by simp[D.bN,D.ok,jP]) rfl s
 have hs:Pc.aT p.procs+1<1000000000:=by simp only[Pg.size]at h;omega
 have hl:=Pc.cu p.procs
 have hcp:=Px p.procs
 unfold S0
 refine aA.go HX rfl fun B Q hB hQ=>?_
 have⟨hY,hZ,gA,gB⟩:=bu
 repeat' (first
 |simp only[go_sem,hY,hZ,gA,gB]
 |(with_reducible refine aB hQ ?_;exact aU))
 refine cq 1 0 (bn.ind (ι:=List Pc×Nat×Nat) (fun i=>p.procs.drop i.2.1=i.1∧i.2.2+Pc.BJ i.1=Pc.BJ p.procs) (fun i=>i.1.length)
  (fun i=> [(1, .ptr 0 0),(3, .int .i64 (i.2.2:Int)),(7, .slice .shared 5 (p.procs.map cH)),(8, .int .i64 (p.procs.length:Int)),(9, .int .i64 (i.2.1:Int))]) (fun i=>⟨[bY p],[]⟩) ?_ (p.procs,0,0) ⟨rfl,Nat.zero_add _⟩)
 rintro⟨rest,k,c⟩ ⟨g1,g2⟩ IH
 dsimp only at g1 g2
 cases rest with
 |nil=>
  have hY:=drop_nil g1
  simp only[Pc.BJ,Nat.add_zero]at g2
  subst g2
  repeat' (first
 |simp only[go_sem,hY,hZ,gA,gB]
 |(with_reducible refine aB hQ ?_;exact aU))
 |cons f rest=>
  obtain⟨hZ,g3,hY,g4⟩:=drop_cons g1
  have hsf:=Pc.bJ (List.mem_of_getElem? hZ)
  simp only[Pc.size]at hsf
  have hc:=fun s=>acG (l:=f.body) (by omega) s
  simp only[Pc.BJ]at g2
  have w1:IntKind.wrap .i64 ((k:Int)+1)=((k+1:Nat):Int):=by rw[bC]<;>omega
  have w2:IntKind.wrap .i64 ((c:Int)+(Sm.fj f.body:Int))=((c+Sm.fj f.body:Nat):Int):=by rw[bC]<;>omega
  repeat' (first
 |simp only[go_sem,hY,hZ,gA,gB,w1,w2]
 |(with_reducible refine CU (hc _) ?_)
 |(with_reducible refine aB hQ ?_;exact aU))
  refine cq 1 0 (IH (rest,k+1,c+Sm.fj f.body) ⟨g3,by dsimp only;omega⟩ (Nat.lt_succ_self _))
theorem Nb {p:Pg} (h:p.may=false):p.scope=(1,0):=by unfold Pg.scope;rw[h];rfl
theorem Nc {p:Pg} (h:p.my) (s:St):aA Tryz.prog rz [.agg (bY p)] s (.agg [.int .i64 p.check.1, .int .i64 p.check.2]) s:=by
 refine aA.pure ?_ (by simp[D.bN,D.ok,jP]) rfl s
 have h1:=fun s=>UY h.Yz s
 rw[ui]at h1
 have h2:=fun s=>xS h s
 have h3:=fun s=>MF h s
 have h4:=fun s=>YP h s
 have h5:=fun s=>Vv h s
 obtain⟨R,hR⟩ : ∃ R,p.check=R:=⟨_,rfl⟩
 rw[hR]
 unfold Pg.check at hR
 unfold S0
 rcases Bool.eq_false_or_eq_true p.may with b0|b0
 case inr=>
  have e:((1:Int)==0)=false:=rfl
  rw[Nb b0]at hR
  simp only[e,Bool.false_eq_true,if_false]at hR
  subst hR
  refine aA.go pD rfl fun B Q hB hQ=>?_
  have⟨hY,hZ,gA,gB⟩:=bu
  repeat' (first
 |simp only[go_sem,hY,hZ,gA,gB,b0,Bool.not_false]
 |(with_reducible refine CU (h1 _) ?_)
 |(with_reducible refine aB hQ ?_;exact aU))
 rcases Bool.eq_false_or_eq_true (p.scope.1==0)with b1|b1
 case inr=>
  simp only[b1,Bool.false_eq_true,if_false]at hR
  subst hR
  refine aA.go pD rfl fun B Q hB hQ=>?_
  have⟨hY,hZ,gA,gB⟩:=bu
  repeat' (first
 |simp only[go_sem,hY,hZ,gA,gB,b0,b1,Bool.not_true]
 |(with_reducible refine CU (h1 _) ?_)
 |(with_reducible refine CU (h2 _) ?_)
 |(with_reducible refine aB hQ ?_;exact aU))
 simp only[b1,if_true]at hR
 rcases Bool.eq_false_or_eq_true (p.arity.1==0)with b2|b2
 case inr=>
  simp only[b2,Bool.false_eq_true,if_false]at hR
  subst hR
  refine aA.go pD rfl fun B Q hB hQ=>?_
  have⟨hY,hZ,gA,gB⟩:=bu
  repeat' (first
 |simp only[go_sem,hY,hZ,gA,gB,b0,b1,b2,Bool.not_true]
 |(with_reducible refine CU (h1 _) ?_)
 |(with_reducible refine CU (h2 _) ?_)
 |(with_reducible refine CU (h3 _) ?_)
 |(with_reducible refine aB hQ ?_;exact aU))
 simp only[b2,if_true]at hR
 rcases Bool.eq_false_or_eq_true (p.jump.1==0)with b3|b3
 case inr=>
  simp only[b3,Bool.false_eq_true,if_false]at hR
  subst hR
  refine aA.go pD rfl fun B Q hB hQ=>?_
  have⟨hY,hZ,gA,gB⟩:=bu
  repeat' (first
 |simp only[go_sem,hY,hZ,gA,gB,b0,b1,b2,b3,Bool.not_true]
 |(with_reducible refine CU (h1 _) ?_)
 |(with_reducible refine CU (h2 _) ?_)
 |(with_reducible refine CU (h3 _) ?_)
 |(with_reducible refine CU (h4 _) ?_)
 |(with_reducible refine aB hQ ?_;exact aU))
 simp only[b3,if_true]at hR
 subst hR
 refine aA.go pD rfl fun B Q hB hQ=>?_
 have⟨hY,hZ,gA,gB⟩:=bu
 repeat' (first
 |simp only[go_sem,hY,hZ,gA,gB,b0,b1,b2,b3,Bool.not_true]
 |(with_reducible refine CU (h1 _) ?_)
 |(with_reducible refine CU (h2 _) ?_)
 |(with_reducible refine CU (h3 _) ?_)
 |(with_reducible refine CU (h4 _) ?_)
 |(with_reducible refine CU (h5 _) ?_)
 |(with_reducible refine aB hQ ?_;exact aU))
theorem VI {p:Pg} (h:p.my) (s:St):aA Tryz.prog uI [.agg (bY p)] s (.bool (p.check.1==0)) s:=by
 refine aA.pure ?_ (by simp[D.bN,D.ok,jP]) rfl s
 have h1:=fun s=>Nc h s
 unfold S0
 refine aA.go J1 rfl fun B Q hB hQ=>?_
 have⟨hY,hZ,gA,gB⟩:=bu
 repeat' (first
 |simp only[go_sem,hY,hZ,gA,gB]
 |(with_reducible refine CU (h1 _) ?_)
 |(with_reducible refine aB hQ ?_;exact aU))
def Tt {α:Type} (o:Option α) (Q:α→Prop):Prop:=∃ a,o=some a∧Q a
structure Rd.Ok (r:Rd):Prop where
 k : ∀ t∈r.l,0≤t.kind∧t.kind≤4
 lt:r.i<r.l.length
 len:r.l.length≤2001
 last : ∀ t,r.l[r.l.length - 1]? = some t→t.kind=0
 n1:r.n≤201
structure Rd.To (r r':Rd):Prop where
 ok:r'.Ok
 l:r'.l=r.l
 i:r.i≤r'.i
 g:r'.good=true→r.good=true
 s:r.good=false→r'=r
structure Rd.ToE (r r':Rd):Prop where
 to:r.To r'
 n:r'.n=r.n
def ExT (r:Rd) (p:Ex×Rd):Prop:=r.ToE p.2∧(p.2.good=true→p.1.size+3+4*r.i≤4*p.2.i)
def StT (r:Rd) (p:Sm×Rd):Prop:=r.ToE p.2∧(p.2.good=true→p.1.size+1+8*r.i≤8*p.2.i)
structure StQ (r r':Rd):Prop where
 to:r.To r'
 n:r'.good=true→r'.n≤200
def aBI (r:Rd) (p:(List Sm×List ay)×Rd):Prop:=StQ r p.2∧(p.2.good=true→Sm.aT p.1.1+p.1.2.length+8*r.i≤8*p.2.i)
def Hf (t:aX):Prop:=1≤t.kind∧t.kind≤4
theorem acI {pos:Nat} {s:ay} {t:aX} (h:gL pos s = .inl t):Hf t:=by
 cases s with
 |nil=>simp only[gL]at h;cases h
 | cons c r=>
  simp only[gL]at h
  split at h
  ·split at h
   ·cases h
   ·cases h;simp only[Hf];split<;>omega
  ·split at h
   ·split at h
    ·cases h
    ·split at h
     ·cases h;simp[Hf]
     ·cases h
   ·split at h
    ·cases h
    ·cases h;simp[Hf]
def Hg:Nat:=20000
mutual
theorem Sm.YZ (b:Bool) (n:Nat) : ∀ s:Sm,(Sm.num b n s).1.size=s.size
 |⟨id,kind,labels,name,proc,x,has,args,aS,aL⟩=>by
  simp only[Sm.num,Sm.size,Sm.qB b _ aS,Sm.qB b _ aL]
theorem Sm.qB (b:Bool) (n:Nat) : ∀ l:List Sm,Sm.aT (Sm.fT b n l).1=Sm.aT l
 | []=>rfl
 |s::l=>by simp only[Sm.fT,Sm.aT,Sm.YZ b _ s,Sm.qB b _ l]
end
theorem Pc.qB : ∀ (n:Nat) (l:List Pc),Pc.aT (Pc.fT n l)=Pc.aT l
 |n,[]=>rfl
 |n,f::l=>by simp only[Pc.fT,Pc.aT,Pc.size,Sm.qB,Pc.qB _ l]
theorem Pg.OD (p:Pg):p.number.size=p.size:=by simp only[Pg.number,Pg.size,Pc.qB]
theorem Nd:AN Hg source=some (qW,0,0):=by kernel_rfl
theorem SJ:source.length<4611686018427387904:=by simp[source]
theorem JF:Nat.ble (qW.size+1) 1000=true:=by kernel_rfl
theorem SK:qW.size<1073741824:=Nat.lt_of_lt_of_le (Nat.le_of_ble_eq_true JF) (Nat.le_of_ble_eq_true rfl)
def auq:Int→ay→Int
 |n,[]=>n
 |n,c::r=>auq (n*10+((c.toNat:Int) - 48)) r
def aur:aX:=⟨0,[],0,0⟩
def aCd (x:aX ⊕ Int):aX×Int:=
 match x with
 | .inl t=>(t,0)
 | .inr e=>(aur,e)
def aCe (s:ay):ay:=s.take (min s.length 100100)
def Rd.aAY (n:Nat) (l:List ay) (cZ:Int) (r:Rd):Option (List ay×Rd):=
 (r.take [44]).bind fun q=>if !q.1 then(q.2.want [59]).bind fun r=>some (l,r)else Rd.names n l cZ q.2
def agr (s:ay):Bool:=s == [105,102] ||s == [119,104,105,108,101] ||s == [98,114,101,97,107] ||s == [99,111,110,116,105,110,117,101] ||s == [114,101,116,117,114,110] ||s == [103,111,116,111] ||s == [114,101,97,100] ||s == [112,114,105,110,116]
def Rd.aa4 (m:Nat) (r:Rd):Option (List Ar×Rd):=
 (r.want [40]).bind fun r=>(r.take [41]).bind fun q=>
  if q.1 then some ([],q.2)
  else if q.2.good then(Rd.sO m m [] q.2).bind fun x=>(x.2.want [41]).bind fun r=>some (x.1,r)
  else some ([],q.2)
def Rd.tf (m:Nat) (name:ay) (r:Rd):Option (Sm×Rd):=
 (r.isO [40]).bind fun b=>
  if b then(Rd.aa4 m r).bind fun q=>some (⟨0,4,[],[],name,jY,false,q.1,[],[]⟩,q.2)
  else(r.want [61]).bind fun r=>(r.ahead [40]).bind fun b=>
   if b then(r.name true).bind fun y=>(Rd.aa4 m y.2).bind fun q=>some (⟨0,4,[],name,y.1,jY,false,q.1,[],[]⟩,q.2)
   else(Rd.whole m r).bind fun y=>some (⟨0,1,[],name,[],y.1,false,[],[],[]⟩,y.2)
def aCf (p:Sm×Rd):Option (Sm×Rd):=(p.2.want [59]).bind fun r=>some (p.1,r)
def Pt {α:Type} (o:Option α) (Q:α→Prop):Prop:=∀ a,o=some a→Q a
structure aus (a b:Rd):Prop where
 l:b.l=a.l
 n:b.n=a.n
 g:b.good=true→a.good=true
def SmK (r0:Rd) (p:Sm×Rd):Prop:=aus r0 p.2∧p.1.aS = []∧p.1.aL = []
structure Num (r:Rd) (k:Nat) (r':Rd):Prop where
 l:r'.l=r.l
 g:r'.good=true→r.good=true
 n:r'.good=true→k=r'.n
 le:r'.good=true→r.n≤200→r'.n≤200
def cN (r:Rd):D:=match r.good with|true=> .int .i64 r.n|false=> .junk
instance (r:Rd):Cell (cN r):=by
 unfold cN
 cases r.good
 ·exact inferInstanceAs (Cell .junk)
 ·exact inferInstanceAs (Cell (.int .i64 _))
def stD (g:Bool) (v:Sm):List D:=match g with|true=>bh v|false=> [.junk, .junk, .junk, .junk, .junk, .junk, .junk, .junk, .junk, .junk, .junk, .junk, .junk]
def TW (l:List aX):Prop:=∀ t∈l,t.kind=4→agr t.text=false
abbrev aA1 (m n:Nat):Prop:=∀ {k:Int} {z:D} [Cell z] {r r1:Rd} {p:(List Sm×List ay)×Rd},r.want [123] = some r1→Rd.rows m n k false r1=some p→TW r.l→(r1.good=true→z = .int .i64 r1.n)→(r1.good=true→r1.n≤200)→
 ∀ {s:St} {o:Nat},s.az[o]? = some (yE z r)→
 aA Tryz.prog HS [.ptr o 0, .int .i64 k, .bool false] s (.tuple [.slice .shared 13 ((Sm.fT true r1.n p.1.1).1.map bh), .slice .shared 1 (p.1.2.map encStr)]) ⟨s.az.set o (yE (cN p.2) p.2),s.aD⟩
abbrev auO (m n:Nat):Prop:=∀ {nest:Int} {labels:List ay} {r:Rd} {p:Sm×Rd},Rd.stmt m n nest r=some p→r.good=true→TW r.l→r.n≤200→
 ∀ {s:St} {o:Nat},s.az[o]? = some (yE (.int .i64 r.n) r)→
 aA Tryz.prog JY [.ptr o 0, .slice .shared 1 (labels.map encStr), .int .i64 nest] s (.agg (stD p.2.good (Sm.num true r.n {p.1 with labels:=labels}).1)) ⟨s.az.set o (yE (cN p.2) p.2),s.aD⟩
def Rd.aBJ (m:Nat) (r:Rd):Option (Pc×Rd):=
 (r.name true).bind fun x=>(x.2.want [40]).bind fun r=>(r.take [41]).bind fun q=>
  if q.1 then(q.2.want [123]).bind fun r=>Rd.wE m x.1 [] r
  else if q.2.good then(Rd.params m [] q.2).bind fun y=>(y.2.want [41]).bind fun r=>(r.want [123]).bind fun r=>Rd.wE m x.1 y.1 r
  else Rd.wE m x.1 [] q.2
def Pc.jy (n:Nat):List Pc→Nat
 | []=>n
 |f::l=>Pc.jy (Sm.fT true n f.body).2 l
def M0:Map:=⟨fun _ _=>none,fun _=>(0, .any),fun _=>none⟩
def Kept (w w':World):Prop:=w.keptBut w' (fun _=>False)∧∀ a:Addr,a.block<w.heap.size→w'.frozen? a=w.frozen? a
theorem Kept.frame {w w':World} (h:Kept w w') (may:MemPlace→Prop):w.keptBut w' may:=World.keptBut_mono (fun _ f=>f.elim) h.1
theorem Ext.ags {M M':Map} {s':St} {w w':World} (e:Ext M S0 w M' s' w'):Kept w w':=by
 have hh : ∀ b,b<w.heap.size→w'.heap[b]? = w.heap[b]? :=fun b hb=>
  e.kept b hb (fun o ho=>by simp[S0]at ho) (fun t c z hl=>by obtain⟨n,hn⟩:=hl;simp[S0]at hn)
 refine⟨⟨e.os,e.output,fun i hi=>?_⟩,fun a ha=>?_⟩
 ·rw [hh i hi]
  exact(World.keptBut_refl w (fun _=>False)).2.2 i hi
 ·simp only[World.frozen?,hh _ ha]
theorem aut (G:Nat→Nat→Option Value) (w:World) (h : ∀ b o v,G b o=some v→w.cell? ⟨b,o,none⟩=some v∧v.oneCell'=true):Rel ⟨G,fun _=>(0, .any),fun _=>none⟩ S0 w:=
 ⟨h,fun o ds e=>by simp [S0]at e,fun o ho=>by simp [S0]at ho,fun o o' ho=>by simp [S0]at ho,fun t n e=>by simp [S0]at e,
  fun t b c z o hl=>by obtain⟨n,hn⟩:=hl;simp[S0]at hn,fun t t' b c z c' z' hl=>by obtain⟨n,hn⟩:=hl;simp[S0]at hn⟩
def SL (w:World):Prop:=∀ g cs,adv g=some cs→∃ T fr,w.heap[g]? = some (.cells cs T fr)
theorem ai5 (G:Nat→Nat→Option Value) {w:World} (h:SL w):Laid ⟨G,fun _=>(0, .any),fun _=>none⟩ S0 w:=
 fun g cs hg=>⟨h g cs hg,fun o ho=>by simp[S0]at ho,fun t c z hl=>by obtain⟨n,hn⟩:=hl;simp[S0]at hn⟩
theorem VJ {P:Program} {f:FuncId} {args:List D} {ik:Array Value} {w:World} {G:Nat→Nat→Option Value} (h:fh P f args S0 fun d _=>d = .bool true)
 (hG : ∀ b o v,G b o=some v→w.cell? ⟨b,o,none⟩=some v∧v.oneCell'=true) (hl:ik.size=args.length)
 (ha : ∀ (i:Nat) (d:D) (v:Value),args[i]? = some d→ik[i]? = some v→RD ⟨G,fun _=>(0, .any),fun _=>none⟩ S0 d v) (mY:SL w) :
 Calls P f ik w fun e w'=>e = .returned (.bool true)∧Kept w w':=by
 refine(h _ w ik (aut G w hG) (ai5 G mY) hl ha).mono fun e w' hw=>?_
 obtain⟨M',d,v,s',rfl,rfl,he,_,hv⟩:=hw
 rw[hv.oX]
 exact⟨rfl,he.ags⟩
section
variable {P:Program} {H:Type} {enc:TypeId×Value→H}
theorem Nf {f:Func} {s:ChangeSpec} {apart fresh handsOn again:Bool} {W W':World} {args:Array Value} {v:Value} {ds gs:List (DataW H)} {before pa pv:List MemPlace}
 (hW:DataW.Whole enc P f.params.toList s.vars apart W args.toList ds gs before)
 (agt : ∀ (b:Nat) (sp:Nat→Bool) (hd:Bool),DataW.TrodAll enc P W' b sp hd f.resultTypes.toList (v.resultList f.resultTypes.size) (s.fn H (ds++gs)).results [])
 (l7 : ∀ sp:Nat→Bool,(∀ p∈before,sp p.block=true)→DataW.TrodAll enc P W' 0 sp true f.params.toList args.toList (s.fn H (ds++gs)).args pa)
 (Hh : ∀ sp:Nat→Bool,(∀ p∈before,sp p.block=true)→DataW.TrodVars enc P W' sp s.vars (s.fn H (ds++gs)).vars pv)
 (q7:before=pa++pv) (hk:Kept W W')
 (IZ : ∀ (j:Nat) (t:TypeId) (r:Value),f.resultTypes[j]? = some t→(v.resultList f.resultTypes.size)[j]? = some r→Value.okWide P W' .any 0 t r) :
 s.post enc P f apart fresh handsOn again W args v W':=by
 have hY : ∀ p∈before,p.block<W.heap.size:=fun p hp=>hW.lt p hp
 have hold : ∀ p∈before,(fun b=>decide (b<W.heap.size)) p.block=true:=fun p hp=>by simpa using hY p hp
 refine⟨ds,gs,before,[],pa,pv,hW,agt _ _ _,l7 _ hold,Hh _ hold,World.keptBut_mono (fun p hp=>⟨hp, ?_⟩) (hk.frame (· ∈before)),fun _=>?_⟩
 ·rw [q7,List.mem_append]at hp
  exact Or.inr hp
 ·obtain⟨_,_,_,_,_,hz,hn⟩:=hW
  refine⟨IZ,_,_,([]++pa)++pv,⟨[]++pa,pv,ChangeShapes.trodAll_append (l7 _ (fun _ _=>rfl)) (agt _ _ _),Hh _ (fun _ _=>rfl),rfl, ?_, ?_⟩, ?_⟩
  ·intro b off hp
   have oe:MemPlace.cell b off∈before:=by rw[q7];simpa using hp
   rw[hk.2 _ (hY _ oe)]
   exact hz b off oe
  ·intro ha
   have:=hn ha
   rw[q7]at this
   simpa using this
  ·intro p hp _
   rw[q7]
   simpa using hp
end
end Go.Abs
namespace Go.Abs
open Go.Proofs
def NW (t:aX):Prop:=t.kind=4→agr t.text=false
set_option maxRecDepth 8000
open Go.Proofs
def BK (p:Pg) (c sN:Int):Pg×Int×Int:=if c==0 then(if p.check.1==0 then(p,0,0)else(F9,p.check))else(F9,c,sN)
theorem Py {T:ay} {p:Pg} {c sN:Int} (h:AN Hg T=some (p,c,sN)) (hm:c=0→p.may=true∧sN=0) (hp:p.size<100000) (hl:T.length<4611686018427387904) (s:St) :
 aA Tryz.prog sR [.str T] s (.tuple [.agg (bY (BK p c sN).1), .agg (n4 (BK p c sN).2)]) s:=by
 refine aA.pure ?_ rfl (by simp[D.bN,D.ok,jP,n4]) s
 have h1:=fun s=>acD h hl s
 have e0:bY F9 = [.slice .shared 1 [], .slice .shared 5 []]:=rfl
 unfold S0
 unfold BK
 have b0:(c != 0) = !(c==0):=rfl
 rcases Bool.eq_false_or_eq_true (c==0)with b1|b1
 case inr=>
  simp only[b1,Bool.false_eq_true,if_false]
  rw[b1]at b0
  refine aA.go tZ rfl fun B Q hB hQ=>?_
  have⟨hY,hZ,gA,gB⟩:=bu
  repeat' (first
 |simp only[go_sem,hY,hZ,gA,gB,b1,b0,Bool.not_false,n4,e0]
 |(with_reducible refine CU (h1 _) ?_)
 |(with_reducible refine aB hQ ?_;exact aU))
 have hc:c=0:=by simpa using b1
 subst hc
 obtain⟨SM,hf⟩:=hm rfl
 subst hf
 have ho:p.my:=⟨Dm SM (by omega),by omega⟩
 have h2:=fun s=>Nc ho s
 have b3:(p.check.1 != 0) = !(p.check.1==0):=rfl
 simp only[b1,if_true]
 rcases Bool.eq_false_or_eq_true (p.check.1==0)with b2|b2
 case inr=>
  simp only[b2,Bool.false_eq_true,if_false]
  rw[b2]at b3
  refine aA.go tZ rfl fun B Q hB hQ=>?_
  have⟨hY,hZ,gA,gB⟩:=bu
  repeat' (first
 |simp only[go_sem,hY,hZ,gA,gB,b1,b3,Bool.not_false,n4,e0]
 |(with_reducible refine CU (h1 _) ?_)
 |(with_reducible refine CU (h2 _) ?_)
 |(with_reducible refine aB hQ ?_;exact aU))
 simp only[b2,if_true]
 rw[b2]at b3
 refine aA.go tZ rfl fun B Q hB hQ=>?_
 have⟨hY,hZ,gA,gB⟩:=bu
 repeat' (first
 |simp only[go_sem,hY,hZ,gA,gB,b1,b3,Bool.not_true,n4]
 |(with_reducible refine CU (h1 _) ?_)
 |(with_reducible refine CU (h2 _) ?_)
 |(with_reducible refine aB hQ ?_;exact aU))
theorem EN:qW.check=(0,0):=by decide +kernel
theorem VK:Pc.BJ qW.procs=8:=by decide +kernel
theorem VL:F9.check=(5,0):=by decide +kernel
theorem VM (s:St):aA Tryz.prog sQ [] s (.bool true) s:=by
 refine aA.pure ?_ rfl rfl s
 have ew:=SK
 have Tk:qW.size<100000:=by have:=Nat.le_of_ble_eq_true JF;omega
 have SM:qW.may=true:=by decide +kernel
 have ho:qW.my:=⟨Dm SM (by omega),by omega⟩
 have h1:=fun s=>Py Nd (fun _=>⟨SM,rfl⟩) Tk SJ s
 have e:BK qW 0 0=(qW,0,0):=by unfold BK;rw[EN];rfl
 rw[e]at h1
 have h2:=fun s=>VI ho s
 rw[EN]at h2
 have h3:=fun s=>acH (p:=qW) (by omega) s
 rw[VK]at h3
 have z0:((0:Int)==0)=true:=rfl
 have z8:(((8:Nat):Int)==8)=true:=rfl
 have z5:((5:Int)==5)=true:=rfl
 have h4':=fun s=>(Nc agq s).UO (d:= .agg [.slice .full 0 [], .slice .full 0 []]) (Wk.agg (.cons (Wk.nil _ _ _) (.cons (Wk.nil _ _ _) .nil)))
 simp only[VL]at h4'
 unfold S0
 refine aA.go Ec rfl fun B Q hB hQ=>?_
 have⟨hY,hZ,gA,gB⟩:=bu
 repeat' (first
 |simp only[go_sem,hY,hZ,gA,gB,z0,z8,z5,n4]
 |(with_reducible refine CU (YY _) ?_)
 |(with_reducible refine CU (agp _) ?_)
 |(with_reducible refine CU (h1 _) ?_)
 |(with_reducible refine CU (h2 _) ?_)
 |(with_reducible refine CU (h3 _) ?_)
 |(with_reducible refine CU (h4' _) ?_)
 |(with_reducible refine aB hQ ?_;exact aU))
def TKs (l:List aX):Prop:=∀ t∈l,(t.kind=1→isName t.text=true)∧(t.kind=2→0≤t.n)
def GK {α:Type} (r:Rd) (o:Option (α×Rd)) (Q:α→Prop):Prop:=∀ p,o=some p→p.2.l=r.l∧(p.2.good=true→r.good=true∧Q p.1)
def GKR (r:Rd) (o:Option Rd):Prop:=∀ p,o=some p→p.l=r.l∧(p.good=true→r.good=true)
def SmL (s:Sm):Prop:=∀ L,dn L=true→({s with labels:=L} : Sm).one=true
def aBK (s:ay):Bool:=s == [98,114,101,97,107] ||s == [99,111,110,116,105,110,117,101] ||s == [114,101,116,117,114,110] ||s == [103,111,116,111] ||s == [114,101,97,100] ||s == [112,114,105,110,116]
mutual
def Sm.okM (d:Int):Sm→Prop
 |⟨id,kind,labels,name,proc,x,has,args,aS,aL⟩=>(⟨id,kind,labels,name,proc,x,has,args,aS,aL⟩:Sm).one=true∧d≤12∧Sm.SN (d+1) aS∧Sm.SN (d+1) aL
def Sm.SN (d:Int):List Sm→Prop
 | []=>True
 |s::l=>s.okM d∧Sm.SN d l
end
def aCh (d:Int) (s:Sm):Prop:=∀ L,dn L=true→({s with labels:=L} : Sm).okM d
structure Pc.okM (f:Pc):Prop where
 name:isName f.name=true
 params:Pm.e7 f.params=true∧f.params.length≤8
 vars:dn f.vars=true∧(f.vars.length:Int)≤16
 fin:dn f.fin=true
 body:Sm.SN 1 f.body
def Its (n:Nat) (EK:List It):Prop:=∀ (j:Nat) (it:It),EK[j]? = some it→it.s.id=((n+j+1:Nat):Int)∧it.deep≤12∧it.s.one=true
def Pc.tot:List Pc→Nat
 | []=>0
 |f::l=>Sm.fj f.body+Pc.tot l
def Ng (c:UInt8):Bool:=(c.toNat:Int)==35
inductive Lx:Nat→ay→List aX→Prop where
 |nil (pos:Nat):Lx pos [] []
 |blank (pos:Nat) (c:UInt8) (r:ay) (l:List aX) (h:rG c=true) (k:Lx (pos+1) r l):Lx pos (c::r) l
 |rem (pos:Nat) (c:UInt8) (r:ay) (l:List aX) (h:rG c=false) (h2:Ng c=true) (k:Lx (pos+lG (c::r)) ((c::r).drop (lG (c::r))) l):Lx pos (c::r) l
 |tok (pos:Nat) (c:UInt8) (r:ay) (t:aX) (l:List aX) (h:rG c=false) (h2:Ng c=false) (ht:gL pos (c::r) = .inl t) (k:Lx (pos+t.text.length) ((c::r).drop t.text.length) l):Lx pos (c::r) (t::l)
theorem Nh : ∀ s:ay,lG s≤s.length
 | []=>Nat.le_refl _
 |c::r=>by simp only[lG,List.length_cons];split;have:=Nh r;omega;omega
theorem Y0 : ∀ s:ay,iY s≤s.length
 | []=>Nat.le_refl _
 | [c]=>by simp only[iY];split<;>simp
 |c::d::r=>by simp only[iY,List.length_cons];split;omega;split;omega;omega
theorem JG {pos:Nat} {s:ay} {t:aX} (h:gL pos s = .inl t):t.pos=pos∧0<t.text.length∧∃ rest,s=t.text++rest:=by
 cases s with
 |nil=>simp only[gL]at h;cases h
 | cons c r=>
  simp only[gL]at h
  cases hL:kN c
  ·simp only [hL,Bool.false_eq_true, ↓reduceIte]at h
   cases hD:kE c
   ·simp only [hD,Bool.false_eq_true, ↓reduceIte]at h
    split at h
    ·cases h
    ·cases h
     have:=Y0 (c::r)
     exact⟨rfl,by simp only[List.length_take];simp only[List.length_cons]at this ⊢;omega,(c::r).drop (iY (c::r)),by simp⟩
   ·have k0:0<oE (c::r):=by simp [oE,hD]
    simp only[hD,↓reduceIte]at h
    split at h
    ·cases h
    ·split at h
     ·cases h
      exact⟨rfl,by simp only[List.length_take,List.length_cons];omega,(c::r).drop (oE (c::r)),by simp⟩
     ·cases h
  ·have k0:0<jj (c::r):=by simp [jj,hL]
   simp only[hL,↓reduceIte]at h
   split at h
   ·cases h
   ·cases h
    exact⟨rfl,by simp only[List.length_take,List.length_cons];omega,(c::r).drop (jj (c::r)),by simp⟩
theorem acL {pos:Nat} {s:ay} {t:aX} (h:gL pos s = .inl t):t.text.length≤s.length:=by
 obtain⟨_,_,rest,e⟩:=JG h
 rw[e];simp
theorem acM {pos:Nat} {s:ay} {l:List aX} (h:Lx pos s l) : ∀ (n:Nat) (out:List aX),s.length<n→out.length+l.length≤2000→mc n pos s out=(out++l++ [⟨0,[],0,(pos+s.length:Nat)⟩],0,0):=by
 induction h with
 |nil pos=>
  intro n out hn ho
  cases n with
  |zero=>omega
  |succ n=>simp[mc]
 | blank pos c r l h k ih=>
  intro n out hn ho
  cases n with
  |zero=>omega
  |succ n=>
   simp only[List.length_cons]at hn
   simp only[mc,h,↓reduceIte]
   rw[ih n out (by omega) ho]
   simp only[List.length_cons]
   have:pos+1+r.length=pos+(r.length+1):=by omega
   rw[this]
 | rem pos c r l h h2 k ih=>
  intro n out hn ho
  cases n with
  |zero=>omega
  | succ n=>
   have h3:((c.toNat:Int)==35)=true:=h2
   simp only[mc,h,h3,Bool.false_eq_true,↓reduceIte]
   have hp:0<lG (c::r):=by
    have:((c.toNat:Int) != 10)=true:=by simp only[beq_iff_eq]at h3;simp[h3]
    simp[lG,this]
   have hle:=Nh (c::r)
   rw[ih n out (by rw[List.length_drop];omega) ho]
   have:pos+lG (c::r)+((c::r).drop (lG (c::r))).length=pos+(c::r).length:=by rw[List.length_drop];omega
   rw[this]
 | tok pos c r t l h h2 ht k ih=>
  intro n out hn ho
  cases n with
  |zero=>omega
  |succ n=>
   have h3:((c.toNat:Int)==35)=false:=h2
   simp only[List.length_cons]at ho
   have eB : ¬ out.length=2000:=by omega
   simp only[mc,h,h3,Bool.false_eq_true,↓reduceIte,ht,if_neg eB]
   obtain⟨_,hp,_⟩:=JG ht
   have hle:=acL ht
   rw[ih n _ (by rw[List.length_drop];omega) (by simp;omega)]
   have:pos+t.text.length+((c::r).drop t.text.length).length=pos+(c::r).length:=by rw[List.length_drop];omega
   rw[this]
   simp
def Ni (n:Nat):aX:=⟨0,[],0,(n:Nat)⟩
theorem VN {s:ay} {l:List aX} (h:Lx 0 s l) (hs:s.length≤100000) (hl:l.length≤2000):oF s=(l++ [Ni s.length],0,0):=by
 unfold oF
 rw[if_neg (by omega),acM h _ _ (Nat.lt_succ_self _) (by simpa using hl)]
 simp[Ni]
def ai6 (c:UInt8):Bool:= !(kN c) && !(kE c) && !(c==61) && !(c==38) && !(c==124)
def Stop:ay→Prop
 | []=>True
 |c::_=>ai6 c=true
def aBL (t:aX):Prop:=0<t.text.length∧∀ (p:Nat) (b:ay),Stop b→gL p (t.text++b) = .inl {t with pos:=(p:Nat)}
theorem SO {pos:Nat} {s:ay} {t:aX} (h:gL pos s = .inl t) : ∃ c r,s=c::r∧rG c=false∧Ng c=false:=by
 cases s with
 |nil=>simp only[gL]at h;cases h
 | cons c r=>
  refine⟨c,r,rfl, ?_⟩
  simp only[gL]at h
  cases hL:kN c
  ·cases hD:kE c
   ·simp only [hL,hD,Bool.false_eq_true, ↓reduceIte]at h
    have hs:iY (c::r)≠0:=by
     intro h0;rw[if_pos h0]at h;cases h
    have hc : ∀ n:Int,(c.toNat:Int)=n→n=32∨n=9∨n=10∨n=13∨n=35→False:=by
     intro n hn hh
     have qn:c=32∨c=9∨c=10∨c=13∨c=35:=by
      have : ∀ k:UInt8,(c.toNat:Int)=(k.toNat:Int)→c=k:=by
       intro k hk
       have:c.toNat=k.toNat:=by omega
       exact UInt8.toNat_inj.1 this
      rcases hh with h|h|h|h|h
      ·exact .inl (this 32 (by rw[hn,h];rfl))
      ·exact .inr (.inl (this 9 (by rw[hn,h];rfl)))
      ·exact .inr (.inr (.inl (this 10 (by rw[hn,h];rfl))))
      ·exact .inr (.inr (.inr (.inl (this 13 (by rw[hn,h];rfl)))))
      ·exact .inr (.inr (.inr (.inr (this 35 (by rw[hn,h];rfl)))))
     apply hs
     cases r with
     |nil=>rcases qn with rfl|rfl|rfl|rfl|rfl<;>decide
     | cons d r=>
      have h1:n9 [c,d] = false:=by
       cases hx:n9 [c,d]
       ·rfl
       ·simp only [n9,Bool.or_eq_true,beq_iff_eq,List.cons.injEq,and_true]at hx
        rcases qn with rfl|rfl|rfl|rfl|rfl<;>simp at hx
      have h2:Gv c=false:=by rcases qn with rfl|rfl|rfl|rfl|rfl<;>decide
      simp only[iY,h1,h2,Bool.false_eq_true,↓reduceIte]
    refine⟨?_, ?_⟩
    ·cases hb:rG c
     ·rfl
     ·simp only [rG,Bool.or_eq_true,beq_iff_eq]at hb
      exact(hc _ rfl (by omega)).elim
    ·cases hb:Ng c
     ·rfl
     ·simp only [Ng,beq_iff_eq]at hb
      exact(hc _ rfl (by omega)).elim
   ·simp only [kE,Bool.and_eq_true,decide_eq_true_eq]at hD
    refine⟨?_, ?_⟩
    ·simp only[rG,Bool.or_eq_false_iff,beq_eq_false_iff_ne,ne_eq];omega
    ·simp only[Ng,beq_eq_false_iff_ne,ne_eq];omega
  ·simp only [kN,Bool.and_eq_true,decide_eq_true_eq]at hL
   refine⟨?_, ?_⟩
   ·simp only[rG,Bool.or_eq_false_iff,beq_eq_false_iff_ne,ne_eq];omega
   ·simp only[Ng,beq_eq_false_iff_ne,ne_eq];omega
theorem Lx.vY {pos:Nat} {s:ay} {t:aX} {l:List aX} (ht:gL pos s = .inl t) (k:Lx (pos+t.text.length) (s.drop t.text.length) l):Lx pos s (t::l):=by
 obtain⟨c,r,rfl,h1,h2⟩:=SO ht
 exact .tok _ _ _ _ _ h1 h2 ht k
structure TEq (t t':aX):Prop where
 k:t'.kind=t.kind
 x:t'.text=t.text
 n:t'.n=t.n
def Quiet (t:aX):Prop:=t.kind=0∨t.kind=4∧t.text = [125]
def Nj (t:aX):Prop:=t.kind=0∨t.kind=3∧t.text = [112,114,111,99]
structure Env (l l':List aX) (N:Nat) (A:Prop):Prop where
 low : ∀ (i:Nat) (t:aX),l[i]? = some t→(A∨i<N)→∃ t',l'[i]? = some t'∧TEq t t'
 at' : ¬ A→∃ t t',l[N]? = some t∧l'[N]? = some t'∧Quiet t∧Nj t'
section
variable {l l':List aX} {N:Nat} {A:Prop}
structure Y1 (l l':List aX) (r r':Rd):Prop where
 el:r.l=l
 el':r'.l=l'
 ei:r'.i=r.i
 en:r'.n=r.n
 ec:r'.code=r.code
 ef:r.code=0∨(r.code=3∨r.code=4)∧∃ (j:Nat) (t t':aX),l[j]? = some t∧l'[j]? = some t'∧r.sN=t.pos∧r'.sN=t'.pos
def Cnd (N:Nat) (A:Prop) (r:Rd):Prop:=A∨r.good=true∧r.i≤N
def SR (l l':List aX) (N:Nat) (A:Prop) (r r':Rd):Prop:=Cnd N A r→Y1 l l' r r'
def Sim {α:Type} (l l':List aX) (N:Nat) (A:Prop) (r:Rd) (o o':Option (α×Rd)):Prop:=
 ∀ p,o=some p→r.i≤p.2.i∧(p.2.good=true→r.good=true)∧(Cnd N A p.2→∃ q',o'=some (p.1,q')∧Y1 l l' p.2 q')
def aCi (l l':List aX) (N:Nat) (A:Prop) (r:Rd) (o o':Option Rd):Prop:=
 ∀ p,o=some p→r.i≤p.i∧(p.good=true→r.good=true)∧(Cnd N A p→∃ q',o'=some q'∧Y1 l l' p q')
end
end Go.Abs
namespace Go.Abs
section
variable {l l':List aX} {N:Nat} {A:Prop}
def Next (N:Nat) (A:Prop) (r:Rd) (t t':aX):Prop:=TEq t t'∨(¬ A∧r.i=N∧Quiet t∧Nj t')
structure aCj (N:Nat) (A:Prop) (r r':Rd):Prop where
 g:r'.good=r.good
 i:r'.i=r.i
 n:r'.n=r.n
 pk : ∀ t,r.ic=some t→∃ t',r'.ic=some t'∧Next N A r t t'
 pk2 : ∀ t,r.ic=some t→t.kind=1→∀ u,sM r.l (r.i+1)=some u→∃ u',sM r'.l (r'.i+1)=some u'∧(TEq u u'∨Quiet u∧Nj u')
end
end Go.Abs
namespace Go.Abs
section
variable {l l':List aX} {N:Nat} {A:Prop}
end
end Go.Abs
namespace Go.Abs
section
variable {l l':List aX} {N:Nat} {A:Prop}
end
end Go.Abs
namespace Go.Abs
def FOk (L:List aX) (c sN:Int):Prop:=c=0∧sN=0∨(c=3∨c=4)∧∃ t∈L,t.pos=sN
set_option maxRecDepth 8000
open Go.Proofs
mutual
def Ex.nodes:Ex→Nat
 |⟨_,_,_,kids⟩=>1+Ex.jC kids
def Ex.jC:List Ex→Nat
 | []=>0
 |x::l=>x.nodes+Ex.jC l
end
mutual
def fV:Ex→Int→Int
 |⟨_,_,_,kids⟩,cZ=>qa kids cZ 1
def qa:List Ex→Int→Int→Int
 | [],_,n=>n
 |x::l,cZ,n=>if n≤cZ then qa l cZ (n+fV x (cZ - n))else n
end
theorem Iv : ∀ (m:Nat) (x:Ex),x.size≤m→∀ cZ:Int,0≤cZ→1≤fV x cZ∧fV x cZ≤cZ+1∧(fV x cZ≤cZ→fV x cZ=x.nodes):=by
 intro m
 induction m with
 |zero=>rintro⟨op,v,name,kids⟩ h;simp only[Ex.size]at h;omega
 | succ m ih=>
  rintro⟨op,v,name,kids⟩ h cZ h0
  simp only[Ex.size]at h
  have go : ∀ (l:List Ex),Ex.aT l≤m→∀ c:Int,1≤c→c≤cZ+1→1≤qa l cZ c∧qa l cZ c≤cZ+1∧(qa l cZ c≤cZ→qa l cZ c=c+Ex.jC l):=by
   intro l
   induction l with
   |nil=>intro _ c h0 h1;simp only[qa,Ex.jC];exact⟨h0,h1,fun _=>by omega⟩
   | cons y l Gd=>
    intro hs c h0 h1
    simp only[Ex.aT]at hs
    simp only[qa,Ex.jC]
    split
    ·rename_i hc
     obtain⟨a1,a2,a3⟩:=ih y (by omega) (cZ - c) (by omega)
     obtain⟨b1,b2,b3⟩:=Gd (by omega) (c+fV y (cZ - c)) (by omega) (by omega)
     refine⟨b1,b2,fun hw=>?_⟩
     have mono : ∀ (l:List Ex),Ex.aT l≤m→∀ c:Int,1≤c→c≤cZ+1→c≤qa l cZ c:=by
      intro l
      induction l with
      |nil=>intro _ c _ _;simp only[qa];omega
      | cons z l ihz=>
       intro hs c h0 h1
       simp only[Ex.aT]at hs
       simp only[qa]
       split
       ·obtain⟨a1,a2,a3⟩:=ih z (by omega) (cZ - c) (by omega)
        have:=ihz (by omega) (c+fV z (cZ - c)) (by omega) (by omega)
        omega
       ·omega
     have:=mono l (by omega) (c+fV y (cZ - c)) (by omega) (by omega)
     have e1:=b3 hw
     have e2:=a3 (by omega)
     omega
    ·exact⟨h0,h1,fun hw=>by omega⟩
  obtain⟨g1,g2,g3⟩:=go kids (by omega) 1 (by omega) (by omega)
  simp only[fV,Ex.nodes]
  refine⟨g1,g2,fun hw=>?_⟩
  have:=g3 hw
  omega
theorem VO : ∀ (m:Nat) (x:Ex),x.size≤m→∀ {cZ:Int},0≤cZ→cZ≤1000000→∀ s:St,aA Tryz.prog pK [.agg (bx x), .int .i64 cZ] s (.int .i64 (fV x cZ)) s:=by
 intro m
 induction m with
 |zero=>rintro⟨op,v,name,kids⟩ h;simp only[Ex.size]at h;omega
 |succ m ih=>
  rintro⟨op,v,name,kids⟩ ew cZ h0 h1 s
  refine aA.pure ?_ (by simp[D.bN,D.ok,gE]) rfl s
  simp only[Ex.size]at ew
  have hk : ∀ y∈kids,∀ {n:Int},0≤n→n≤1000000→∀ s:St,aA Tryz.prog pK [.agg (bx y), .int .i64 n] s (.int .i64 (fV y n)) s:=fun y hy=>ih y (by have:=Ex.bJ hy;omega)
  unfold S0
  generalize h:fV ⟨op,v,name,kids⟩ cZ=p
  simp only[fV]at h
  refine aA.go Kk rfl fun B Q hB hQ=>?_
  have⟨hY,hZ,gA,gB⟩:=bu
  repeat' (first
 |simp only[go_sem,hY,hZ,gA,gB]
 |(with_reducible first|refine bq fun hc=>?_|refine br fun hc=>?_|refine bt (fun hc=>?_) fun hc=>?_)<;>(try simp only[hc,bs,↓reduceIte]at h)<;>try simp only[hc]
 |(with_reducible refine aB hQ ?_;exact eo)
 | (cases h;done))
  refine cq 1 0 (bn.ind (ι:=List Ex×Nat×Int) (fun i=>kids.drop i.2.1=i.1∧qa i.1 cZ i.2.2=p∧(i.2.1:Int)+1≤i.2.2∧i.2.2≤cZ+1) (fun i=>i.1.length)
   (fun i=> [(1, .int .i64 cZ),(2, .ptr 0 0),(5, .int .i64 i.2.2),(6, .int .i64 (i.2.1:Int))]) (fun i=>⟨[bx ⟨op,v,name,kids⟩],[]⟩) ?_ (kids,0,1) ⟨rfl,h,by dsimp only;omega,by dsimp only;omega⟩)
  rintro⟨rest,k,c⟩ ⟨g1,h,g3,g4⟩ IH
  dsimp only at g1 h g3 g4
  cases rest with
  |nil=>
   have hY:=drop_nil g1
   simp only[qa]at h
   repeat' (first
 |simp only[go_sem,hY,hZ,gA,gB]
 |(with_reducible first|refine bq fun hc=>?_|refine br fun hc=>?_|refine bt (fun hc=>?_) fun hc=>?_)<;>(try simp only[hc,bs,↓reduceIte]at h)<;>try simp only[hc]
 |(with_reducible refine aB hQ ?_;exact eo)
 | (cases h;done))
  | cons y rest=>
   obtain⟨hZ,g2,hY,g5⟩:=drop_cons g1
   simp only[qa]at h
   by_cases hc:c≤cZ
   ·have c1:decide (c≤cZ)=true:=by simp;omega
    have hy:=fun s=>hk y (List.mem_of_getElem? hZ) (n:=cZ - c) (by omega) (by omega) s
    obtain⟨a1,a2,a3⟩:=Iv _ y (Nat.le_refl _) (cZ - c) (by omega)
    have w3:IntKind.wrap .i64 ((k:Int)+1)=((k+1:Nat):Int):=by rw[bC]<;>omega
    have w4:IntKind.wrap .i64 (cZ - c)=cZ - c:=bC (by omega) (by omega)
    have w5:IntKind.wrap .i64 (c+fV y (cZ - c))=c+fV y (cZ - c):=bC (by omega) (by omega)
    rw[if_pos hc]at h
    repeat' (first
 |simp only[go_sem,hY,hZ,gA,gB,c1,w3,w4,w5]
 |(with_reducible refine CU (hy _) ?_)
 |(with_reducible first|refine bq fun hc=>?_|refine br fun hc=>?_|refine bt (fun hc=>?_) fun hc=>?_)<;>(try simp only[hc,bs,↓reduceIte]at h)<;>try simp only[hc]
 |(with_reducible refine aB hQ ?_;(try cases h);simp only[cj,cr,dK,dL,go_sem,hY,hZ,gA,gB,c1,w3,w4,w5];try exact dM)
 | (cases h;done))
    refine cq 1 0 (IH (rest,k+1,c+fV y (cZ - c)) ⟨g2,h,by dsimp only;omega,by dsimp only;omega⟩ (Nat.lt_succ_self _))
   ·have c1:decide (c≤cZ)=false:=by simp;omega
    rw[if_neg hc]at h
    repeat' (first
 |simp only[go_sem,hY,hZ,gA,gB,c1]
 |(with_reducible first|refine bq fun hc=>?_|refine br fun hc=>?_|refine bt (fun hc=>?_) fun hc=>?_)<;>(try simp only[hc,bs,↓reduceIte]at h)<;>try simp only[hc]
 |(with_reducible refine aB hQ ?_;(try cases h);simp only[cj,cr,dK,dL,go_sem,hY,hZ,gA,gB,c1];try exact dM)
 |(cases h;done))
def Hi (n:Int):List D:= [.int .i64 n]
theorem ai7 (n:Int):D.bN 0 0 (Hi n)=true:=rfl
theorem agx (n m:Nat) (l:List Int):D.lE n m (l.map Hi)=l.map Hi:=ov ai7 n m l
attribute [go_sem] Hi agx
def iH (op:Int):ay:=
 if op=5 then [42]else if op=6 then [47]else if op=7 then [37]else if op=8 then [43]else if op=9 then [45]else if op=10 then [60]else if op=11 then [60,61]
 else if op=12 then [62]else if op=13 then [62,61]else if op=14 then [61,61]else if op=15 then [33,61]else if op=16 then [38,38]else [124,124]
def du (op:Int):Int:=(tc (iH op)).1
theorem KV {op:Int} (h:(decide (5≤op) && decide (op≤17))=true):op=5∨op=6∨op=7∨op=8∨op=9∨op=10∨op=11∨op=12∨op=13∨op=14∨op=15∨op=16∨op=17:=by
 simp only[Bool.and_eq_true,decide_eq_true_eq]at h;omega
theorem Pz {op:Int} (h:(decide (5≤op) && decide (op≤17))=true) (s:St):aA Tryz.prog uM [.int .i64 op] s (.str (iH op)) s:=by
 refine aA.pure ?_ rfl rfl s
 unfold S0
 rcases KV h with rfl|rfl|rfl|rfl|rfl|rfl|rfl|rfl|rfl|rfl|rfl|rfl|rfl
 all_goals
  refine aA.go Kg rfl fun B Q hB hQ=>?_
  have⟨hY,hZ,gA,gB⟩:=bu
  repeat' (first
 |simp only[go_sem,hY,hZ,gA,gB,iH,Int.reduceSub,Int.cast_ofNat_Int,bC,Int.reduceNeg,Int.reduceLT,Int.reduceToNat,Int.reduceEq]
 |(with_reducible first|refine bq fun hc=>?_|refine br fun hc=>?_|refine bt (fun hc=>?_) fun hc=>?_)<;>(try simp only[hc,bs,↓reduceIte]at h)<;>try simp only[hc]
 |(with_reducible refine aB hQ ?_;(try cases h);simp only[cj,cr,dK,dL,go_sem,hY,hZ,gA,gB,iH,Int.reduceSub,Int.cast_ofNat_Int,bC,Int.reduceNeg,Int.reduceLT,Int.reduceToNat,Int.reduceEq];try exact dM)
 |(cases h;done))
theorem sr {op:Int} (h:(decide (5≤op) && decide (op≤17))=true):1≤du op∧du op≤6∧(tc (iH op)).2=op:=by
 rcases KV h with rfl|rfl|rfl|rfl|rfl|rfl|rfl|rfl|rfl|rfl|rfl|rfl|rfl<;>exact⟨by decide,by decide,by decide⟩
def VP:Nat→List ay
 | 0=> []
 |n+1=>VP n++ [[UInt8.ofNat (97+n)]]
end Go.Abs
namespace Go.Abs
set_option maxRecDepth 8000
open Go.Proofs
def ja:Nat→Nat→ay
 | 0,_=> []
 |f+1,n=>if n<10 then [UInt8.ofNat (48+n)]else ja f (n / 10)++ [UInt8.ofNat (48+n % 10)]
theorem BL : ∀ f n,(ja f n).length≤f
 | 0,n=>Nat.le_refl _
 |f+1,n=>by simp only[ja];split;simp;simp only[List.length_append,List.length_cons,List.length_nil];have:=BL f (n / 10);omega
theorem wrap_u64 {i:Nat} (h:i<18446744073709551616):IntKind.wrap .u64 (i:Int)=(i:Int):=by
 simp only[IntKind.wrap,IntKind.bits,IntKind.signed];simp;omega
theorem Y2 : ∀ (f:Nat) (n:Nat),f≤20→n<10 ^ f→n<18446744073709551616→0<f→∀ s:St,aA Tryz.prog pC [.int .u64 (n:Int)] s (.str (ja f n)) s:=by
 intro f
 induction f with
 |zero=>intro n _ _ _ h;omega
 | succ f ih=>
  intro n hf hn h64 _ s
  refine aA.pure ?_ rfl rfl s
  unfold S0
  by_cases c:n<10
  ·have c1:decide ((n:Int)<10)=true:=by simp;omega
   have e:ja (f+1) n = [UInt8.ofNat (48+n)]:=by simp only[ja,if_pos c]
   have w2:IntKind.wrap .u64 (48+(n:Int))=((48+n:Nat):Int):=by
    have:=wrap_u64 (i:=48+n) (by omega)
    rw[← this];congr 1
   have w4:=wrap_u8 (i:=48+n) (by omega)
   rw[e]
   refine aA.go yB rfl fun B Q hB hQ=>?_
   have⟨hY,hZ,gA,gB⟩:=bu
   repeat' (first
 |simp only[go_sem,hY,hZ,gA,gB,c1,w2,w4,ke,sc]
 |(with_reducible first|refine bq fun hc=>?_|refine br fun hc=>?_|refine bt (fun hc=>?_) fun hc=>?_)<;>(try simp only[hc,bs,↓reduceIte]at h)<;>try simp only[hc]
 |(with_reducible refine aB hQ ?_;(try cases h);simp only[cj,cr,dK,dL,go_sem,hY,hZ,gA,gB,c1,w2,w4,ke,sc];try exact dM)
 |(cases h;replace h:=hr;clear hr;(try simp only[bs,↓reduceIte]at h))
 | (cases h;done))
  ·have c1:decide ((n:Int)<10)=false:=by simp;omega
   have e:ja (f+1) n=ja f (n / 10)++ [UInt8.ofNat (48+n % 10)]:=by simp only[ja,if_neg c]
   have d1:Int.tdiv (n:Int) 10=((n / 10:Nat):Int):=by rw[Int.ofNat_tdiv];rfl
   have d2:Int.tmod (n:Int) 10=((n % 10:Nat):Int):=by rw[Int.ofNat_tmod];rfl
   have k10:((10:Int)=0)=False:=by simp
   have w1:=wrap_u64 (i:=n / 10) (by omega)
   have w5:=wrap_u64 (i:=n % 10) (by omega)
   have w2:IntKind.wrap .u64 (48+((n % 10:Nat):Int))=((48+n % 10:Nat):Int):=by
    have:=wrap_u64 (i:=48+n % 10) (by omega)
    rw[← this];congr 1
   have w4:=wrap_u8 (i:=48+n % 10) (by omega)
   have hf0:0<f:=by
    cases f with
    |zero=>simp at hn;omega
    |succ f=>omega
   have hr:=ih (n / 10) (by omega) (by rw[Nat.pow_succ]at hn;omega) (by omega) hf0
   have hl:=BL f (n / 10)
   have m1:(ja f (n / 10)).length+1≤aF:=by unfold aF;omega
   rw[e]
   refine aA.go yB rfl fun B Q hB hQ=>?_
   have⟨hY,hZ,gA,gB⟩:=bu
   repeat' (first
 |simp only[go_sem,hY,hZ,gA,gB,c1,d1,d2,k10,w1,w2,w4,w5,m1,ke,sc]
 |(with_reducible refine CU (hr _) ?_)
 |(with_reducible first|refine bq fun hc=>?_|refine br fun hc=>?_|refine bt (fun hc=>?_) fun hc=>?_)<;>(try simp only[hc,bs,↓reduceIte]at h)<;>try simp only[hc]
 |(with_reducible refine aB hQ ?_;(try cases h);simp only[cj,cr,dK,dL,go_sem,hY,hZ,gA,gB,c1,d1,d2,k10,w1,w2,w4,w5,m1,ke,sc];try exact dM)
 |(cases h;replace h:=hr;clear hr;(try simp only[bs,↓reduceIte]at h))
 |(cases h;done))
theorem ai8 {n:Int} (h0:0≤n) (h1:n≤9223372036854775807) (s:St):aA Tryz.prog Bl [.int .i64 n] s (.str (ja 20 n.toNat)) s:=by
 refine aA.pure ?_ rfl rfl s
 obtain⟨k,hk⟩ : ∃ k:Nat,n=(k:Int):=⟨n.toNat,by omega⟩
 subst hk
 rw[Int.toNat_natCast]
 have c1:decide ((k:Int)<0)=false:=by simp
 have w1:=wrap_u64 (i:=k) (by omega)
 have hr:=Y2 20 k (by omega) (by omega) (by omega) (by omega)
 unfold S0
 refine aA.go Mf rfl fun B Q hB hQ=>?_
 have⟨hY,hZ,gA,gB⟩:=bu
 repeat' (first
 |simp only[go_sem,hY,hZ,gA,gB,c1,w1]
 |(with_reducible refine CU (hr _) ?_)
 |(with_reducible first|refine bq fun hc=>?_|refine br fun hc=>?_|refine bt (fun hc=>?_) fun hc=>?_)<;>(try simp only[hc,bs,↓reduceIte]at h)<;>try simp only[hc]
 |(with_reducible refine aB hQ ?_;(try cases h);simp only[cj,cr,dK,dL,go_sem,hY,hZ,gA,gB,c1,w1];try exact dM)
 |(cases h;replace h:=hr;clear hr;(try simp only[bs,↓reduceIte]at h))
 |(cases h;done))
theorem BM {op:Int} (h:(decide (5≤op) && decide (op≤17))=true):(iH op).length≤2:=by
 rcases KV h with rfl|rfl|rfl|rfl|rfl|rfl|rfl|rfl|rfl|rfl|rfl|rfl|rfl<;>decide
inductive fW:Ex→Prop
 |num (n:Int) (h0:0≤n) (h1:n≤9223372036854775807):fW ⟨1,n,[],[]⟩
 |name (t:ay) (h:isName t=true):fW ⟨2,0,t,[]⟩
 |neg (y:Ex) (h:fW y):fW ⟨3,0,[],[y]⟩
 |no (y:Ex) (h:fW y):fW ⟨4,0,[],[y]⟩
 |two (op:Int) (a b:Ex) (ho:(decide (5≤op) && decide (op≤17))=true) (ha:fW a) (hb:fW b):fW ⟨op,0,[],[a,b]⟩
theorem fW.of : ∀ (m:Nat) (x:Ex),x.size≤m→x.form=true→x.kG→fW x:=by
 intro m
 induction m with
 |zero=>rintro⟨op,v,name,kids⟩ h;simp only[Ex.size]at h;omega
 | succ m ih=>
  rintro⟨op,n,name,kids⟩ h hf hr
  simp only[Ex.size]at h
  simp only[Ex.form]at hf
  split at hf
  ·cases hf
  ·rename_i hc
   simp only[Bool.or_eq_true,Bool.and_eq_true,not_or,not_and,Bool.not_eq_true,bne_iff_ne,ne_eq,Decidable.not_not,decide_eq_true_eq,Bool.not_eq_true',bne_eq_false_iff_eq,decide_eq_false_iff_not,Bool.not_eq_false,Bool.not_eq_false',beq_iff_eq]at hc
   obtain⟨⟨⟨⟨ha,hz⟩,hn⟩,tM⟩,hi⟩:=hc
   have CN:op≠2→name = []:=fun h2=>by
    have:(op==2)=false:=beq_eq_false_iff_ne.2 h2
    rw[this]at tM
    simpa using tM.symm
   by_cases o1:op=1
   ·subst o1
    have:kids = []:=List.eq_nil_of_length_eq_zero (by simp[eI]at ha;omega)
    subst this
    rw[CN (by omega)]
    exact .num n (by omega) hr.1
   ·have hz:=hz o1
    subst hz
    by_cases o2:op=2
    ·subst o2
     have:kids = []:=List.eq_nil_of_length_eq_zero (by simp[eI]at ha;omega)
     subst this
     exact .name name (hi (by simpa using tM.symm))
    ·have tM:=CN o2
     subst tM
     by_cases o3:op=3
     ·subst o3
      have:kids.length=1:=by simp[eI]at ha;omega
      obtain⟨y,rfl⟩:=List.length_eq_one_iff.1 this
      simp only[Ex.oc,Ex.aT]at hf h
      exact .neg y (ih y (by omega) (by simpa using hf) hr.2.1)
     ·by_cases o4:op=4
      ·subst o4
       have:kids.length=1:=by simp[eI]at ha;omega
       obtain⟨y,rfl⟩:=List.length_eq_one_iff.1 this
       simp only[Ex.oc,Ex.aT]at hf h
       exact .no y (ih y (by omega) (by simpa using hf) hr.2.1)
      ·by_cases o5:5≤op∧op≤17
       ·have:kids.length=2:=by simp [eI,o1,o2,o3,o4,o5.1,o5.2]at ha;omega
        obtain⟨y,z,rfl⟩ : ∃ y z,kids = [y,z]:=by
         match kids,this with
         | [y,z],_=>exact⟨y,z,rfl⟩
        simp only[Ex.oc,Ex.aT]at hf h
        have hf:y.form=true∧z.form=true:=by
         cases hy:y.form<;>cases hz:z.form<;>simp[hy,hz]at hf ⊢
        exact .two op y z (by simp only[Bool.and_eq_true,decide_eq_true_eq];exact o5) (ih y (by omega) hf.1 hr.2.1) (ih z (by omega) hf.2 hr.2.2.1)
       ·exfalso
        have:eI op = -1:=by
         unfold eI
         have c:(decide (op≥5) && decide (op≤17))=false:=by simp;omega
         simp[o1,o2,o3,o4,c]
        omega
mutual
def KW:Ex→ay
 |⟨op,n,name,kids⟩=>ai9 op n name kids
def ai9 (op n:Int) (name:ay):List Ex→ay
 | []=>if op=2 then name else ja 20 n.toNat
 | [a]=>if op=3 then [40,45]++KW a++ [41]else [40,33]++KW a++ [41]
 |a::b::_=> [40]++KW a++iH op++KW b++ [41]
end
theorem Y3 {n:Int} (h0:0≤n) (h1:n≤9223372036854775807) (s:St):aA Tryz.prog il [.agg (bx ⟨1,n,[],[]⟩)] s (.str (ja 20 n.toNat)) s:=by
 refine aA.pure ?_ (by simp[D.bN,D.ok,gE]) rfl s
 have hd:=fun s=>ai8 h0 h1 s
 have a1:eI 1=0:=rfl
 have b0:((0:Int)==0)=true:=rfl
 have b2:((1:Int)==2)=false:=rfl
 unfold S0
 refine aA.go pE rfl fun B Q hB hQ=>?_
 have⟨hY,hZ,gA,gB⟩:=bu
 repeat' (first
 |simp only[go_sem,hY,hZ,gA,gB,a1,b0,b2]
 |(with_reducible refine CU (ud _ _) ?_)
 |(with_reducible refine CU (hd _) ?_)
 |(with_reducible first|refine bq fun hc=>?_|refine br fun hc=>?_|refine bt (fun hc=>?_) fun hc=>?_)<;>(try simp only[hc,bs,↓reduceIte]at h)<;>try simp only[hc]
 |(with_reducible refine aB hQ ?_;(try cases h);simp only[cj,cr,dK,dL,go_sem,hY,hZ,gA,gB,a1,b0,b2];try exact dM)
 |(cases h;done))
theorem VQ (t:ay) (s:St):aA Tryz.prog il [.agg (bx ⟨2,0,t,[]⟩)] s (.str t) s:=by
 refine aA.pure ?_ (by simp[D.bN,D.ok,gE]) rfl s
 have a1:eI 2=0:=rfl
 have b0:((0:Int)==0)=true:=rfl
 have b2:((2:Int)==2)=true:=rfl
 unfold S0
 refine aA.go pE rfl fun B Q hB hQ=>?_
 have⟨hY,hZ,gA,gB⟩:=bu
 repeat' (first
 |simp only[go_sem,hY,hZ,gA,gB,a1,b0,b2]
 |(with_reducible refine CU (ud _ _) ?_)
 |(with_reducible first|refine bq fun hc=>?_|refine br fun hc=>?_|refine bt (fun hc=>?_) fun hc=>?_)<;>(try simp only[hc,bs,↓reduceIte]at h)<;>try simp only[hc]
 |(with_reducible refine aB hQ ?_;(try cases h);simp only[cj,cr,dK,dL,go_sem,hY,hZ,gA,gB,a1,b0,b2];try exact dM)
 |(cases h;done))
open Go.Proofs Go.RowKit
def KX (l:ay):List (List D):=l.map fun c=> [.int .u8 c.toNat]
end Go.Abs
namespace Go.Abs
open Go.Proofs
mutual
def dV (least:Int):Ex→ay
 |⟨op,n,name,kids⟩=>PA least op n name kids
def PA (least op n:Int) (name:ay):List Ex→ay
 | []=>if op=2 then name else ja 20 n.toNat
 | [a]=>if op=3 then [45]++dV 7 a else [33]++dV 7 a
 |a::b::_=>if du op<least then [40]++(dV (du op) a++ [32]++iH op++ [32]++dV (du op+1) b)++ [41]else dV (du op) a++ [32]++iH op++ [32]++dV (du op+1) b
end
theorem vw (least n:Int):dV least ⟨1,n,[],[]⟩=ja 20 n.toNat:=by simp only[dV,PA,Int.reduceEq,↓reduceIte]
theorem su (least:Int) (t:ay):dV least ⟨2,0,t,[]⟩=t:=by simp only[dV,PA,↓reduceIte]
theorem vx (least:Int) (a:Ex):dV least ⟨3,0,[],[a]⟩ = [45]++dV 7 a:=by simp only[dV,PA,↓reduceIte]
theorem yW (least:Int) (a:Ex):dV least ⟨4,0,[],[a]⟩ = [33]++dV 7 a:=by simp only[dV,PA,Int.reduceEq,↓reduceIte]
def Hj (op:Int) (a b:Ex):ay:=dV (du op) a++ [32]++iH op++ [32]++dV (du op+1) b
theorem tu (least op:Int) (a b:Ex):dV least ⟨op,0,[],[a,b]⟩=if du op<least then [40]++Hj op a b++ [41]else Hj op a b:=by simp only[dV,PA,Hj]
theorem jt {x:Ex} (h:fW x) : ∀ least,(dV least x).length≤25*x.nodes:=by
 induction h with
 |num n=>intro least;rw[vw];simp only[Ex.nodes,Ex.jC];have:=BL 20 n.toNat;omega
 |name t h=>intro least;rw[su];simp only[Ex.nodes,Ex.jC];have:=gG h;omega
 |neg y _ ih=>intro least;rw[vx];simp only[Ex.nodes,Ex.jC,List.length_append,List.length_cons,List.length_nil];have:=ih 7;omega
 |no y _ ih=>intro least;rw[yW];simp only[Ex.nodes,Ex.jC,List.length_append,List.length_cons,List.length_nil];have:=ih 7;omega
 |two op a b ho _ _ vb wa=>
  intro least;rw[tu]
  have:=BM ho;have:=vb (du op);have:=wa (du op+1)
  split<;>simp only[Hj,Ex.nodes,Ex.jC,List.length_append,List.length_cons,List.length_nil]<;>omega
def aA4 (x:Ex):ay:=if x.may then dV 0 x else []
theorem qX : ∀ (m:Nat) (x:Ex),x.size≤m→x.nodes≤x.size:=by
 intro m
 induction m with
 |zero=>rintro⟨op,v,name,kids⟩ h;simp only[Ex.size]at h;omega
 | succ m ih=>
  rintro⟨op,n,name,kids⟩ h
  simp only[Ex.size,Ex.nodes]at h ⊢
  have : ∀ l:List Ex,Ex.aT l≤m+1→Ex.jC l≤Ex.aT l:=by
   intro l
   induction l with
   |nil=>intro _;simp[Ex.jC]
   |cons a l Gd=>
    intro hl
    simp only[Ex.aT,Ex.jC]at hl ⊢
    have:=ih a (by omega)
    have:=Gd (by omega)
    omega
  have:=this kids (by omega)
  omega
theorem sv {x:Ex} (h:x.may=true) (hr:x.kG):fW x:=by
 simp only[Ex.may,Bool.and_eq_true]at h
 exact fW.of x.size x (Nat.le_refl _) h.2 hr
def auy (names:List ay) (ops:List Int):Nat→ay
 | 0=> []
 |i+1=>auy names ops i++(if i=0 then []else iH (ops.getD (i - 1) 0))++names.getD i []
structure aBM (names:List ay) (ops:List Int):Prop where
 len:names.length=ops.length+1
 cZ:ops.length≤20
 short : ∀ x∈names,x.length≤1
 op : ∀ o∈ops,(decide (5≤o) && decide (o≤17))=true
def aja (i:Nat) (op:Int) (al:Nat×Int):Nat×Int:=if du op≤al.2 then(i,du op)else al
def PB:List Int→Nat→Nat×Int→Nat×Int
 | [],_,al=>al
 |op::r,i,al=>PB r (i+1) (aja i op al)
def VR:Nat→List ay→List Int→Ex
 | 0,_,_=>jY
 |n+1,names,ops=>if ops.length=0 then lB (names.getD 0 [])else
  uS (ops.getD (PB ops 0 (0,9)).1 0) (VR n (names.take ((PB ops 0 (0,9)).1+1)) (ops.take (PB ops 0 (0,9)).1)) (VR n (names.drop ((PB ops 0 (0,9)).1+1)) (ops.drop ((PB ops 0 (0,9)).1+1)))
inductive xW:Ex→List (Int×ay)→Ex→Prop
 |nil (x:Ex):xW x [] x
 |cut (x:Ex) (p1:List (Int×ay)) (op:Int) (y:ay) (p2:List (Int×ay)) (t1 t2:Ex) (h1:xW x p1 t1) (h2:xW (lB y) p2 t2) (l1 : ∀ q∈p1,du op≤du q.1) (l2 : ∀ q∈p2,du op<du q.1) :
  xW x (p1++(op,y)::p2) (uS op t1 t2)
def Hk:List (Int×ay)→List aX→Prop
 | [],l=>∃ t r,l=t::r∧t.kind=0
 |(op,y)::p,l=>∃ s u r,l=s::u::r∧s.kind=4∧s.text=iH op∧(decide (5≤op) && decide (op≤17))=true∧u.kind=1∧u.text=y∧Hk p r
theorem Y4 {α:Type} {l r:List α} {i:Nat} {x:α} (h:l.drop i=x::r):l[i]? = some x∧l.drop (i+1)=r:=by
 obtain⟨a,b,_,_⟩:=drop_cons h
 exact⟨a,b⟩
def aA5 (n:Nat):Prop:=∀ (least:Int) (r:Rd) (t0:aX) (p:List (Int×ay)) (l:List aX) (x:Ex×Rd),r.l.drop r.i=t0::l→t0.kind=1→Hk p l→r.code=0→1≤least→Rd.two n least r=some x→
 ∃ p1 p2,p=p1++p2∧xW (lB t0.text) p1 x.1∧(∀ q∈p1,least≤du q.1)∧(∀ q p',p2=q::p'→du q.1<least)∧x.2 = {r with i:=r.i+1+2*p1.length}∧Hk p2 (l.drop (2*p1.length))
def auP (n:Nat):Prop:=∀ (least:Int) (x0:Ex) (A:List (Int×ay)) (x:Ex) (r:Rd) (p:List (Int×ay)) (l:List aX) (z:Ex×Rd),r.l.drop r.i=l→Hk p l→r.code=0→1≤least→xW x0 A x→
 (∀ q p',p=q::p'→∀ a∈A,du q.1≤du a.1)→Rd.xp n least x r=some z→
 ∃ p1 p2,p=p1++p2∧xW x0 (A++p1) z.1∧(∀ q∈p1,least≤du q.1)∧(∀ q p',p2=q::p'→du q.1<least)∧z.2 = {r with i:=r.i+2*p1.length}∧Hk p2 (l.drop (2*p1.length))
def AtB (d:List Int) (al:Nat×Int):Prop:=(d = []∧al.2=9)∨∃ o1 op o2,d=o1++op::o2∧o1.length=al.1∧du op=al.2∧(∀ o∈o1,du op≤du o)∧∀ o∈o2,du op<du o
def ajb:List ay→List Int→ay
 |x::xs,op::ops=>iH op++(x++ajb xs ops)
 |_,_=> []
def Dx:ay→Prop
 | []=>True
 |c::_=>kN c=false∧kE c=false
def wS (t:aX) (k:Int) (s:ay) (n:Int):Prop:=t.kind=k∧t.text=s∧t.n=n
inductive wT:Ex→List aX→List aX→Prop
 |num (n:Int) (t:aX) (l:List aX) (h:t.kind=2) (h2:t.n=n):wT ⟨1,n,[],[]⟩ (t::l) l
 |name (s:ay) (t:aX) (l:List aX) (h:t.kind=1) (h2:t.text=s):wT ⟨2,0,s,[]⟩ (t::l) l
 |neg (y:Ex) (p m q:aX) (l r:List aX) (hp:wS p 4 [40] 0) (hm:wS m 4 [45] 0) (hy:wT y l (q::r)) (hq:wS q 4 [41] 0):wT ⟨3,0,[],[y]⟩ (p::m::l) r
 |no (y:Ex) (p m q:aX) (l r:List aX) (hp:wS p 4 [40] 0) (hm:wS m 4 [33] 0) (hy:wT y l (q::r)) (hq:wS q 4 [41] 0):wT ⟨4,0,[],[y]⟩ (p::m::l) r
 |two (op:Int) (a b:Ex) (p o q:aX) (l m r:List aX) (ho:(decide (5≤op) && decide (op≤17))=true) (hp:wS p 4 [40] 0) (ha:wT a l (o::m)) (hs:wS o 4 (iH op) 0) (hb:wT b m (q::r)) (hq:wS q 4 [41] 0) :
  wT ⟨op,0,[],[a,b]⟩ (p::l) r
theorem um {d:Nat} (h:d<10):kE (UInt8.ofNat (48+d))=true∧kN (UInt8.ofNat (48+d))=false∧((UInt8.ofNat (48+d)).toNat:Int)=((48+d:Nat):Int):=by
 have e:(UInt8.ofNat (48+d)).toNat=48+d:=by simp;omega
 refine⟨?_, ?_,by rw[e]⟩
 ·simp only[kE,e,Bool.and_eq_true,decide_eq_true_eq];omega
 ·simp only[kN,e,Bool.and_eq_false_iff,decide_eq_false_iff_not];omega
theorem FF : ∀ f n,∀ c∈ja f n,kE c=true
 | 0,n,c,h=>by simp[ja]at h
 | f+1,n,c,h=>by
  simp only[ja]at h
  split at h
  ·rename_i hc;simp only[List.mem_singleton]at h;subst h;exact(um hc).1
  ·rcases List.mem_append.1 h with h | h
   ·exact FF f _ c h
   ·simp only[List.mem_singleton]at h;subst h;exact(um (Nat.mod_lt _ (by omega))).1
theorem JH {b:ay} (hb:Dx b) : ∀ s:ay,(∀ c∈s,kE c=true)→oE (s++b)=s.length
 | [],_=>by
  cases b with
  |nil=>rfl
  |cons c r=>simp only[Dx]at hb;simp[oE,hb.2]
 |c::s,h=>by simp only[List.cons_append,oE,h c (by simp),↓reduceIte,List.length_cons,JH hb s (fun d hd=>h d (by simp[hd]))]
theorem JI : ∀ (s:ay) (a:Int) (c:UInt8),oa a (s++ [c])=(oa a s).bind fun n=>oa n [c]
 | [],a,c=>by simp[oa]
 |d::s,a,c=>by
  simp only[List.cons_append,oa]
  split
  ·rfl
  ·exact JI s _ c
theorem Hl : ∀ f n,n<10 ^ f→n≤9223372036854775807→0<f→oa 0 (ja f n)=some (n:Int)
 | 0,n,_,_,h=>by omega
 | f+1,n,hn,hm,_=>by
  simp only[ja]
  split
  ·have:=(um (d:=n) (by omega)).2.2
   simp only[oa,this]
   rw[if_neg (by omega)]
   congr 1;omega
  ·have hf0:0<f:=by
    cases f with
    |zero=>simp at hn;omega
    |succ f=>omega
   have:=(um (d:=n % 10) (by omega)).2.2
   rw[JI,Hl f (n / 10) (by rw[Nat.pow_succ]at hn;omega) (by omega) hf0]
   simp only[Option.bind_some,oa,this]
   rw[if_neg (by omega)]
   congr 1;omega
theorem Hm : ∀ f n,10≤n→n<10 ^ f→∃ d r,1≤d∧d<10∧ja f n=UInt8.ofNat (48+d)::r
 | 0,n,h,hn=>by simp at hn;omega
 | f+1,n,h,hn=>by
  simp only[ja]
  rw[if_neg (by omega)]
  by_cases h1:n / 10<10
  ·cases f with
   |zero=>simp at hn;omega
   |succ f=>simp only[ja,if_pos h1,List.cons_append,List.nil_append];exact⟨n / 10,_,by omega,h1,rfl⟩
  ·obtain⟨d,r,k1,k2,k3⟩:=Hm f (n / 10) (by omega) (by rw [Nat.pow_succ]at hn;omega)
   rw[k3]
   exact⟨d,_,k1,k2,rfl⟩
theorem Y5 {n:Nat} (hn:n≤9223372036854775807) (pos:Nat) {r:ay} (hr:Dx r):gL pos (ja 20 n++r) = .inl ⟨2,ja 20 n,n,pos⟩:=by
 have dt:=JH hr (ja 20 n) (FF 20 n)
 have hw:=Hl 20 n (by omega) hn (by omega)
 have gm : ∃ c s,ja 20 n=c::s∧kE c=true∧kN c=false∧¬ (s.length+1 > 1∧(c.toNat:Int)=48):=by
  by_cases h:n<10
  ·obtain⟨b1,b2,b3⟩:=um h
   exact⟨_,[],by simp only[ja,if_pos h],b1,b2,by simp⟩
  ·obtain⟨d,s,k1,k2,k3⟩:=Hm 20 n (by omega) (by omega)
   obtain⟨b1,b2,b3⟩:=um k2
   exact⟨_,s,k3,b1,b2,by rw[b3];omega⟩
 obtain⟨c,s,e,h1,h2,h3⟩:=gm
 rw[e]at dt hw ⊢
 have ht:(c::s++r).take (c::s).length=c::s:=List.take_left' rfl
 rw[List.cons_append]at dt ht ⊢
 simp only[gL,h1,h2,Bool.false_eq_true,↓reduceIte,dt,ht,hw]
 rw[if_neg (by simpa using h3)]
def VS:ay→Prop
 | []=>False
 |d::_=>d≠61∧d≠38∧d≠124
theorem JJ {c d:UInt8} {r:ay} (h:VS (d::r)):n9 [c,d] = false:=by
 obtain⟨a,b,e⟩:=h
 simp[n9,a,b,e]
theorem Nk {d:UInt8} {r:ay} (h:kN d=true∨kE d=true∨d=40):VS (d::r):=by
 refine⟨?_, ?_, ?_⟩<;>rintro rfl<;>rcases h with h|h|h<;>first|exact absurd h (by decide)|cases h
theorem SQ {op:Int} (h:(decide (5≤op) && decide (op≤17))=true) (pos:Nat) {r:ay} (hr:VS r):gL pos (iH op++r) = .inl ⟨4,iH op,0,pos⟩:=by
 cases r with
 |nil=>exact hr.elim
 |cons c r=>
  have s2:=fun a=>JJ (c:=a) hr
  rcases KV h with rfl|rfl|rfl|rfl|rfl|rfl|rfl|rfl|rfl|rfl|rfl|rfl|rfl
  all_goals simp (decide:=true) [iH,gL,iY,s2]
theorem VT (pos:Nat) (r:ay):gL pos (40::r) = .inl ⟨4,[40],0,pos⟩:=by
 cases r with
 |nil=>simp (decide:=true) [gL,iY]
 |cons d r=>
  have:n9 [40,d] = false:=by simp (decide:=true) [n9]
  simp (decide:=true) [gL,iY,this]
theorem VU (pos:Nat) (r:ay):gL pos (41::r) = .inl ⟨4,[41],0,pos⟩:=by
 cases r with
 |nil=>simp (decide:=true) [gL,iY]
 |cons d r=>
  have:n9 [41,d] = false:=by simp (decide:=true) [n9]
  simp (decide:=true) [gL,iY,this]
theorem SS (pos:Nat) (r:ay):gL pos (45::r) = .inl ⟨4,[45],0,pos⟩:=by
 cases r with
 |nil=>simp (decide:=true) [gL,iY]
 |cons d r=>
  have:n9 [45,d] = false:=by simp (decide:=true) [n9]
  simp (decide:=true) [gL,iY,this]
theorem Y6 (pos:Nat) {r:ay} (hr:VS r):gL pos (33::r) = .inl ⟨4,[33],0,pos⟩:=by
 cases r with
 |nil=>exact hr.elim
 |cons d r=>
  have:=JJ (c:=33) hr
  simp (decide:=true) [gL,iY,this]
theorem JK {b:ay} (hb:Dx b) : ∀ s:ay,ta s=true→jj (s++b)=s.length
 | [],_=>by
  cases b with
  |nil=>rfl
  |cons c r=>simp only[Dx]at hb;simp[jj,hb.1,hb.2]
 | c::s,h=>by
  simp only[ta]at h
  split at h
  ·cases h
  ·rename_i hc
   have:(kN c ||kE c)=true:=by cases h1:kN c<;>cases h2:kE c<;>simp[h1,h2]at hc ⊢
   simp only[List.cons_append,jj,this,↓reduceIte,List.length_cons,JK hb s h]
theorem Iw {t:ay} (ht:isName t=true) (pos:Nat) {r:ay} (hr:Dx r):gL pos (t++r) = .inl ⟨1,t,0,pos⟩∧∃ c s,t=c::s∧kN c=true:=by
 cases t with
 |nil=>cases ht
 | cons c s=>
  have hlen:=gG ht
  simp only[isName]at ht
  split at ht
  ·cases ht
  ·rename_i hc
   simp only[Bool.or_eq_true,not_or,Bool.not_eq_true',Bool.not_eq_false]at hc
   split at ht
   ·rename_i hn
    have hw:isWord (c::s)=false:=by simpa using ht
    have dt:jj (c::(s++r))=(c::s).length:=by simp only[jj,hc.2,Bool.true_or,↓reduceIte,JK hr s hn,List.length_cons]
    have Er:(c::(s++r)).take (c::s).length=c::s:=by rw[← List.cons_append];exact List.take_left' rfl
    refine⟨?_,c,s,rfl,hc.2⟩
    rw[List.cons_append]
    simp only[gL,hc.2,↓reduceIte,dt,Er,hw,Bool.false_eq_true]
    rw[if_neg (by omega)]
   ·cases ht
def Rd.mv (r:Rd) (k:Nat):Rd:= {r with i:=r.i+k}
theorem pb (r:Rd) (a b:Nat):(r.mv a).mv b=r.mv (a+b):=by simp[Rd.mv,Nat.add_assoc]
structure At (r:Rd) (l:List aX):Prop where
 d:r.l.drop r.i=l
 c:r.code=0
 s:r.l.length<1000000000
theorem At.app {r:Rd} {a b:List aX} (h:At r (a++b)):At (r.mv a.length) b:=by
 refine⟨?_,h.c,h.s⟩
 have:=h.d
 show r.l.drop (r.i+a.length)=b
 rw[← List.drop_drop,this,List.drop_left]
theorem At.one {r:Rd} {t:aX} {m:List aX} (h:At r (t::m)):At (r.mv 1) m:=At.app (a:= [t]) h
theorem At.get {r:Rd} {t:aX} {m:List aX} (h:At r (t::m)):r.l[r.i]? = some t:=(Y4 h.d).1
theorem At.good {r:Rd} {l:List aX} (h:At r l):r.good=true:=by simp[h.c]
theorem At.lt {r:Rd} {t:aX} {m:List aX} (h:At r (t::m)):r.i<1000000000:=by
 have:=(List.getElem?_eq_some_iff.1 h.get).1
 have:=h.s
 omega
theorem At.sM {r:Rd} {t:aX} {m:List aX} (h:At r (t::m)):Go.Abs.sM r.l r.i=some t:=by
 unfold Go.Abs.sM
 rw[if_pos (by have:=h.lt;omega),h.get]
def Kd (t:aX):Prop:=0≤t.kind∧t.kind≤4
theorem Kd.of {t:aX} {k:Int} (h:t.kind=k) (h0:(decide (0≤k) && decide (k≤4))=true:=by decide):Kd t:=by
 simp only[Bool.and_eq_true,decide_eq_true_eq]at h0
 exact⟨by omega,by omega⟩
theorem At.ic {r:Rd} {t:aX} {m:List aX} (h:At r (t::m)) (hk:Kd t):r.ic=some t:=by
 unfold Rd.ic
 rw[h.sM,Option.bind_some,if_pos]
 simp only[Bool.and_eq_true,decide_eq_true_eq]
 exact hk
theorem At.is {r:Rd} {t:aX} {m:List aX} (h:At r (t::m)) (hk:Kd t) (s:ay):r.is s=some ((t.kind==3 ||t.kind==4) && t.text==s):=by
 unfold Rd.is
 rw[h.ic hk];rfl
theorem At.lR {r:Rd} {t:aX} {m:List aX} (h:At r (t::m)) {s:ay} (hk:t.kind=3∨t.kind=4) (ht:t.text=s):r.take s=some (true,r.mv 1):=by
 unfold Rd.take
 rw[h.good,h.is (by rcases hk with h|h<;>exact Kd.of h)]
 have:((t.kind==3 ||t.kind==4) && t.text==s)=true:=by rcases hk with h|h<;>simp[h,ht]
 rw[this];rfl
theorem At.mJ {r:Rd} {t:aX} {m:List aX} (h:At r (t::m)) {s:ay} (hk:Kd t) (ht:(t.kind≠3∧t.kind≠4)∨t.text≠s):r.take s=some (false,r):=by
 unfold Rd.take
 rw[h.good,h.is hk]
 have:((t.kind==3 ||t.kind==4) && t.text==s)=false:=by
  rcases ht with ⟨h1,h2⟩|h
  ·simp[h1,h2]
  ·simp[h]
 rw[this];rfl
theorem At.want {r:Rd} {t:aX} {m:List aX} (h:At r (t::m)) {s:ay} (hk:t.kind=3∨t.kind=4) (ht:t.text=s):r.want s=some (r.mv 1):=by
 unfold Rd.want
 rw[h.lR hk ht];rfl
theorem At.name {r:Rd} {t:aX} {m:List aX} (h:At r (t::m)) (hk:t.kind=1):r.name true=some (t.text,r.mv 1):=by
 unfold Rd.name
 rw[h.ic (Kd.of hk),h.good]
 have:(t.kind != 1)=false:=by simp[hk]
 simp only[Option.bind_some,this,Bool.not_true,Bool.or_self,Bool.false_eq_true,↓reduceIte]
 rfl
def Halt (c:Int) (m:List aX):Prop:=∃ t m',m=t::m'∧Kd t∧((kl t).1=0∨(kl t).2≤c)
theorem Dy {n:Nat} {k c:Int} {x:Ex} {r:Rd} {m:List aX} (h:At r m) (hm:Halt c m) (hc:c<k) (hn:0<n):Rd.xp n k x r=some (x,r):=by
 obtain⟨t,m',rfl,hk,k7⟩:=hm
 cases n with
 |zero=>omega
 |succ n=>
  simp only[Rd.xp]
  rw[if_pos h.good,h.ic hk,Option.bind_some,if_pos]
  rcases k7 with h|h
  ·simp[h]
  ·simp;omega
def rS (x:Ex) (l:List aX):Prop:=∀ (r:Rd) (lr:List aX) (n:Nat),At r (l++lr)→3*l.length≤n+1→Rd.one n r=some (x,r.mv l.length)
def yX (c:Int) (x:Ex) (l:List aX):Prop:=∀ (r:Rd) (lr:List aX) (n:Nat) (k:Int),At r (l++lr)→Halt c lr→k≤c→3*l.length≤n→∃ n',n≤n'+3*l.length∧Rd.two n k r=Rd.xp n' k x (r.mv l.length)
theorem rS.two {x:Ex} {l:List aX} (h:rS x l) (hl:0<l.length) (c:Int):yX c x l:=by
 intro r lr n k hA _ _ hn
 cases n with
 |zero=>omega
 |succ n=>
  refine⟨n,by omega, ?_⟩
  simp only[Rd.two]
  rw[h r lr n hA (by omega)]
  rfl
theorem one_num {t:aX} (hk:t.kind=2):rS ⟨1,t.n,[],[]⟩ [t]:=by
 intro r lr n hA hn
 cases n with
 |zero=>simp at hn
 |succ n=>
  simp only[List.cons_append,List.nil_append]at hA
  simp only[Rd.one]
  rw[hA.ic (Kd.of hk),hA.good]
  have k2:(t.kind==2)=true:=by simp[hk]
  simp only[Option.bind_some,k2,Bool.not_true,Bool.false_eq_true,↓reduceIte]
  rfl
theorem Y7 {t:aX} (hk:t.kind=1):rS ⟨2,0,t.text,[]⟩ [t]:=by
 intro r lr n hA hn
 cases n with
 |zero=>simp at hn
 |succ n=>
  simp only[List.cons_append,List.nil_append]at hA
  simp only[Rd.one]
  rw[hA.ic (Kd.of hk),hA.good]
  have k2:(t.kind==2)=false:=by simp[hk]
  have k1:(t.kind==1)=true:=by simp[hk]
  simp only[Option.bind_some,k2,k1,Bool.not_true,Bool.false_eq_true,↓reduceIte]
  rfl
theorem acN {y:Ex} {l:List aX} {t:aX} (hk:t.kind=4) (ht:t.text = [45]) (hy:rS y l):rS ⟨3,0,[],[y]⟩ (t::l):=by
 intro r lr n hA hn
 simp only[List.length_cons]at hn
 cases n with
 |zero=>omega
 |succ n=>
  simp only[List.cons_append]at hA
  simp only[Rd.one]
  have k2:(t.kind==2)=false:=by simp[hk]
  have k1:(t.kind==1)=false:=by simp[hk]
  rw[hA.ic (Kd.of hk),hA.good]
  simp only[Option.bind_some,k2,k1,Bool.not_true,Bool.false_eq_true,↓reduceIte]
  rw[hA.mJ (Kd.of hk) (.inr (by rw[ht];decide))]
  simp only[Option.bind_some,Bool.false_eq_true,↓reduceIte]
  rw[hA.lR (.inr hk) ht]
  simp only[Option.bind_some,↓reduceIte]
  rw[hy _ lr n hA.one (by omega)]
  simp only[Option.bind_some,pb,List.length_cons,Nat.add_comm]
theorem acO {y:Ex} {l:List aX} {t:aX} (hk:t.kind=4) (ht:t.text = [33]) (hy:rS y l):rS ⟨4,0,[],[y]⟩ (t::l):=by
 intro r lr n hA hn
 simp only[List.length_cons]at hn
 cases n with
 |zero=>omega
 |succ n=>
  simp only[List.cons_append]at hA
  simp only[Rd.one]
  have k2:(t.kind==2)=false:=by simp[hk]
  have k1:(t.kind==1)=false:=by simp[hk]
  rw[hA.ic (Kd.of hk),hA.good]
  simp only[Option.bind_some,k2,k1,Bool.not_true,Bool.false_eq_true,↓reduceIte]
  rw[hA.mJ (Kd.of hk) (.inr (by rw[ht];decide))]
  simp only[Option.bind_some,Bool.false_eq_true,↓reduceIte]
  rw[hA.mJ (Kd.of hk) (.inr (by rw[ht];decide))]
  simp only[Option.bind_some,Bool.false_eq_true,↓reduceIte]
  rw[hA.lR (.inr hk) ht]
  simp only[Option.bind_some,↓reduceIte]
  rw[hy _ lr n hA.one (by omega)]
  simp only[Option.bind_some,pb,List.length_cons,Nat.add_comm]
theorem JL {t:aX} {m:List aX} (hk:t.kind=4) {s:ay} (ht:t.text=s) (hs:(s == [41] ||s == [59] ||s == [44] ||s == [123] ||s == [125])=true) (c:Int):Halt c (t::m):=by
 refine⟨t,m,rfl,Kd.of hk, .inl ?_⟩
 simp only[Bool.or_eq_true,beq_iff_eq]at hs
 rcases hs with (((rfl|rfl)|rfl)|rfl)|rfl<;>simp (decide:=true) [kl,hk,ht]
theorem Y8 {c:Int} {x:Ex} {l:List aX} {p q:aX} (hx:yX c x l) (hc:1≤c) (hp:p.kind=4) (we:p.text = [40]) (hq:q.kind=4) (VV:q.text = [41]):rS x (p::(l++ [q])):=by
 intro r lr n hA hn
 simp only[List.length_cons,List.length_append,List.length_nil]at hn
 cases n with
 |zero=>omega
 |succ n=>
  simp only[List.cons_append,List.append_assoc,List.nil_append]at hA
  simp only[Rd.one]
  have k2:(p.kind==2)=false:=by simp[hp]
  have k1:(p.kind==1)=false:=by simp[hp]
  rw[hA.ic (Kd.of hp),hA.good]
  simp only[Option.bind_some,k2,k1,Bool.not_true,Bool.false_eq_true,↓reduceIte]
  rw[hA.lR (.inr hp) we]
  simp only[Option.bind_some,↓reduceIte]
  obtain⟨n',h1,h2⟩:=hx _ (q::lr) n 1 hA.one (JL hq VV rfl _) hc (by omega)
  rw[h2,Dy hA.one.app (JL hq VV rfl 0) (by omega) (by omega)]
  simp only[Option.bind_some]
  rw[hA.one.app.want (.inr hq) VV]
  simp only[Option.bind_some,pb,List.length_cons,List.length_append,List.length_nil]
  congr 3
  omega
theorem acP {op:Int} (k7:(decide (5≤op) && decide (op≤17))=true) {a b:Ex} {la lb:List aX} {o:aX} (ha:yX (du op) a la) (hk:o.kind=4) (ht:o.text=iH op) (hb:yX (du op+1) b lb) {c:Int} (hc:c≤du op) :
 yX c ⟨op,0,[],[a,b]⟩ (la++o::lb):=by
 intro r lr n k hA hh hkc hn
 have hB:=sr k7
 have ho:kl o=(op,du op):=by rw[Mm o hk,ht,hB.2.2];rfl
 simp only[List.length_append,List.length_cons]at hn ⊢
 simp only[List.append_assoc,List.cons_append]at hA
 obtain⟨n1,h1,h2⟩:=ha r (o::(lb++lr)) n k hA ⟨o,_,rfl,Kd.of hk, .inr (by rw[ho];exact Int.le_refl _)⟩ (by omega) (by omega)
 rw[h2]
 cases n1 with
 |zero=>omega
 | succ n1=>
  refine⟨n1,by omega, ?_⟩
  have fU:=hA.app
  have o0:(op==0)=false:=by
   simp only[Bool.and_eq_true,decide_eq_true_eq]at k7
   exact beq_eq_false_iff_ne.2 (by omega)
  have hcn:(decide (du op<k) ||op==0)=false:=by simp[o0];omega
  rw[Rd.xp,if_pos fU.good,fU.ic (Kd.of hk),Option.bind_some,ho,if_neg (by rw[hcn];simp)]
  have kP:At ({r.mv la.length with i:=(r.mv la.length).i+1} : Rd) (lb++lr):=fU.one
  have kC:Halt (du op) lr:=by
   obtain⟨t,m',e,h1,h2⟩:=hh
   exact⟨t,m',e,h1,h2.imp_right fun h=>by omega⟩
  have auz:Halt (du op+1) lr:=by
   obtain⟨t,m',e,h1,h2⟩:=hh
   exact⟨t,m',e,h1,h2.imp_right fun h=>by omega⟩
  obtain⟨n3,h3,h4⟩:=hb _ lr n1 (du op+1) kP auz (Int.le_refl _) (by omega)
  rw[h4,Dy kP.app kC (by omega) (by omega),Option.bind_some]
  have:(Rd.mv {r.mv la.length with i:=(r.mv la.length).i+1} lb.length)=r.mv (la.length+(lb.length+1)):=by simp[Rd.mv];omega
  rw[this]
def ku (least:Int):Ex→Nat
 |⟨op,_,_,kids⟩=>match kids with
  | []=>1
  | [a]=>1+ku 7 a
  |a::b::_=>ku (du op) a+1+ku (du op+1) b+(if du op<least then 2 else 0)
theorem VW {x:Ex} (h:fW x) : ∀ least,0<ku least x∧ku least x≤3*x.nodes:=by
 induction h with
 |num n=>intro least;simp[ku,Ex.nodes,Ex.jC]
 |name n=>intro least;simp[ku,Ex.nodes,Ex.jC]
 |neg y hy ih=>intro least;have:=ih 7;simp only[ku,Ex.nodes,Ex.jC];omega
 |no y hy ih=>intro least;have:=ih 7;simp only[ku,Ex.nodes,Ex.jC];omega
 |two op a b ho ha hb vb wa=>
  intro least
  have:=vb (du op);have:=wa (du op+1)
  simp only[ku,Ex.nodes,Ex.jC]
  split<;>omega
def ep (s:ay) (pos:Nat) (l:List aX):Prop:=∀ r lr,Dx r→Lx (pos+s.length) r lr→Lx pos (s++r) (l++lr)
theorem VX {x:Ex} (h:fW x) : ∀ least,∃ c s,dV least x=c::s∧(kN c=true∨kE c=true∨c=40∨c=45∨c=33):=by
 induction h with
 | num n h0 h1=>
  intro least
  obtain⟨c,s,e,hd⟩ : ∃ c s,ja 20 n.toNat=c::s∧kE c=true:=by
   cases h:ja 20 n.toNat with
   |nil=>
    exfalso
    rw[show(20:Nat)=19+1 from rfl,ja]at h
    split at h<;>simp at h
   |cons c s=>exact⟨c,s,rfl,FF 20 n.toNat c (by rw[h];simp)⟩
  exact⟨c,s,by rw[vw];exact e, .inr (.inl hd)⟩
 |name t ht=>
  intro least
  obtain⟨_,c,s,e,hc⟩:=Iw ht 0 (r:= []) trivial
  exact⟨c,s,by rw[su];exact e, .inl hc⟩
 |neg y hy=>intro least;exact⟨45,_,by rw[vx];rfl,by simp⟩
 |no y hy=>intro least;exact⟨33,_,by rw[yW];rfl,by simp⟩
 | two op a b ho ha hb vb wa=>
  intro least
  rw[tu]
  split
  ·exact⟨40,_,rfl,by simp⟩
  ·obtain⟨c,s,e,h⟩:=vb (du op)
   exact⟨c,s++([32]++iH op++ [32]++dV (du op+1) b),by unfold Hj;rw[e];simp,h⟩
theorem acQ {x:Ex} (h:fW x) (least:Int) (r:ay):VS (dV least x++r):=by
 obtain⟨c,s,e,h⟩:=VX h least
 rw[e]
 rcases h with h|h|h|h|h
 ·exact Nk (.inl h)
 ·exact Nk (.inr (.inl h))
 ·exact Nk (.inr (.inr h))
 ·subst h;exact⟨by decide,by decide,by decide⟩
 ·subst h;exact⟨by decide,by decide,by decide⟩
theorem ep.shut {s:ay} {pos:Nat} {l:List aX} (h:ep s (pos+1) l):ep ([40]++s++ [41]) pos (⟨4,[40],0,(pos:Nat)⟩::(l++ [⟨4,[41],0,((pos+1+s.length:Nat):Int)⟩])):=by
 intro r lr hr hl
 simp only[List.cons_append,List.append_assoc,List.nil_append]
 refine .vY (VT _ _) ?_
 refine h (41::r) _ ⟨by decide,by decide⟩ ?_
 refine .vY (VU _ _) ?_
 have:pos+1+s.length+1=pos+([40]++s++ [41]).length:=by simp;omega
 simpa[this]using hl
theorem ep.sign {s t:ay} {pos:Nat} {l m:List aX} {op:Int} (ho:(decide (5≤op) && decide (op≤17))=true) (h:ep s pos l) (k:ep t (pos+s.length+1+(iH op).length+1) m) :
 ep (s++ [32]++iH op++ [32]++t) pos (l++⟨4,iH op,0,((pos+s.length+1:Nat):Int)⟩::m):=by
 intro r lr hr hl
 simp only[List.cons_append,List.append_assoc,List.nil_append]
 refine h _ _ ⟨by decide,by decide⟩ ?_
 refine .blank _ _ _ _ (by decide) ?_
 refine .vY (SQ ho _ ⟨by decide,by decide,by decide⟩) ?_
 dsimp only
 rw[List.drop_left]
 refine .blank _ _ _ _ (by decide) ?_
 refine k r lr hr ?_
 have:pos+s.length+1+(iH op).length+1+t.length=pos+(s++ [32]++iH op++ [32]++t).length:=by simp;omega
 rw[this];exact hl
def qC (l:List aX):Prop:=(∃ t l',l=t::l'∧(t.kind=2∨(t.kind=4∧(t.text = [40]∨t.text = [45]∨t.text = [33]))))∨(∃ t,l = [t]∧t.kind=1)∨∃ t u l',l=t::u::l'∧t.kind=1∧(decide (5≤(kl u).1) && decide ((kl u).1≤17))=true
theorem qC.sign {la lb:List aX} {o:aX} (h:qC la) {op:Int} (k7:(decide (5≤op) && decide (op≤17))=true) (hk:o.kind=4) (ho:o.text=iH op):qC (la++o::lb):=by
 rcases h with ⟨t,l',rfl,h⟩|⟨t,rfl,h⟩|⟨t,u,l',rfl,h⟩
 ·exact .inl ⟨t,_,rfl,h⟩
 ·refine .inr (.inr ⟨t,o,lb,rfl,h, ?_⟩)
  have hB:=sr k7
  have:kl o=(op,du op):=by rw[Mm o hk,ho,hB.2.2];rfl
  rw[this];exact k7
 ·exact .inr (.inr ⟨t,u,_,rfl,h⟩)
theorem ajc {x:Ex} (h:fW x) : ∀ least:Int,∀ pos:Nat,∃ l,l.length=ku least x∧ep (dV least x) pos l∧yX least x l∧(least=7→rS x l)∧qC l:=by
 induction h with
 | num n h0 h1=>
  intro least pos
  have e:=Int.toNat_of_nonneg h0
  have lW:rS ⟨1,n,[],[]⟩ [⟨2,ja 20 n.toNat,n.toNat,(pos:Nat)⟩]:=by
   have:=one_num (t:=⟨2,ja 20 n.toNat,n.toNat,(pos:Nat)⟩) rfl
   dsimp only at this
   rw[e]at this
   simpa[e]using this
  refine⟨[⟨2,ja 20 n.toNat,n.toNat,(pos:Nat)⟩],by simp[ku],fun r lr hr hl=>?_,lW.two (by simp) _,fun _=>lW, .inl ⟨_,_,rfl, .inl rfl⟩⟩
  rw[vw]at hl ⊢
  refine .vY (Y5 (by omega) pos hr) ?_
  simpa using hl
 |name t ht=>
  intro least pos
  have lW:rS ⟨2,0,t,[]⟩ [⟨1,t,0,(pos:Nat)⟩]:=Y7 (t:=⟨1,t,0,(pos:Nat)⟩) rfl
  refine⟨[⟨1,t,0,(pos:Nat)⟩],by simp[ku],fun r lr hr hl=>?_,lW.two (by simp) _,fun _=>lW, .inr (.inl ⟨_,rfl,rfl⟩)⟩
  rw[su]at hl ⊢
  refine .vY (Iw ht pos hr).1 ?_
  simpa using hl
 |neg y hy ih=>
  intro least pos
  obtain⟨l,g1,g2,g3,g4,_⟩:=ih 7 (pos+1)
  have lW:=acN (t:=⟨4,[45],0,(pos:Nat)⟩) rfl rfl (g4 rfl)
  refine⟨⟨4,[45],0,(pos:Nat)⟩::l,by simp only[ku,List.length_cons];omega,fun r lr hr hl=>?_,lW.two (by simp) _,fun _=>lW, .inl ⟨_,_,rfl, .inr ⟨rfl, .inr (.inl rfl)⟩⟩⟩
  rw[vx]at hl ⊢
  simp only[List.cons_append,List.nil_append,List.length_cons]at hl ⊢
  refine .vY (SS _ _) ?_
  refine g2 r lr hr ?_
  have:pos+1+(dV 7 y).length=pos+((dV 7 y).length+1):=by omega
  rw[this];exact hl
 |no y hy ih=>
  intro least pos
  obtain⟨l,g1,g2,g3,g4,_⟩:=ih 7 (pos+1)
  have lW:=acO (t:=⟨4,[33],0,(pos:Nat)⟩) rfl rfl (g4 rfl)
  refine⟨⟨4,[33],0,(pos:Nat)⟩::l,by simp only[ku,List.length_cons];omega,fun r lr hr hl=>?_,lW.two (by simp) _,fun _=>lW, .inl ⟨_,_,rfl, .inr ⟨rfl, .inr (.inr rfl)⟩⟩⟩
  rw[yW]at hl ⊢
  simp only[List.cons_append,List.nil_append,List.length_cons]at hl ⊢
  refine .vY (Y6 _ (acQ hy 7 r)) ?_
  refine g2 r lr hr ?_
  have:pos+1+(dV 7 y).length=pos+((dV 7 y).length+1):=by omega
  rw[this];exact hl
 | two op a b ho ha hb vb wa=>
  have hB:=sr ho
  have key : ∀ pos:Nat,∃ l,l.length=ku (du op) a+1+ku (du op+1) b∧ep (Hj op a b) pos l∧(∀ c,c≤du op→yX c ⟨op,0,[],[a,b]⟩ l)∧qC l:=by
   intro pos
   obtain⟨l,g1,g2,g3,g4,g5⟩:=vb (du op) pos
   obtain⟨m,k1,k2,k3,k4⟩:=wa (du op+1) (pos+(dV (du op) a).length+1+(iH op).length+1)
   exact⟨_,by simp only[List.length_append,List.length_cons];omega,ep.sign ho g2 k2,fun c hc=>acP ho g3 rfl rfl k3 hc,g5.sign ho rfl rfl⟩
  intro least pos
  rw[tu]
  simp only[ku]
  by_cases hl:du op<least
  ·rw [if_pos hl,if_pos hl]
   obtain⟨l,g1,g2,g3,_⟩:=key (pos+1)
   have lW:=Y8 (p:=⟨4,[40],0,(pos:Nat)⟩) (q:=⟨4,[41],0,((pos+1+(Hj op a b).length:Nat):Int)⟩) (g3 1 hB.1) (by omega) rfl rfl rfl rfl
   exact⟨_,by simp only[List.length_append,List.length_cons,List.length_nil];omega,g2.shut,lW.two (by simp) _,fun _=>lW, .inl ⟨_,_,rfl, .inr ⟨rfl, .inl rfl⟩⟩⟩
  ·rw [if_neg hl,if_neg hl]
   obtain⟨l,g1,g2,g3,g4⟩:=key pos
   exact⟨l,by omega,g2,g3 _ (by omega),fun h=>by omega,g4⟩
theorem ajd {x:Ex} (h:fW x):dV 0 x=dV 1 x∧ku 0 x=ku 1 x:=by
 cases h with
 |num n=>rw[vw,vw];exact⟨rfl,rfl⟩
 |name n=>rw[su,su];exact⟨rfl,rfl⟩
 |neg n=>rw[vx,vx];exact⟨rfl,rfl⟩
 |no n=>rw[yW,yW];exact⟨rfl,rfl⟩
 |two op a b ho=>
  have:=sr ho
  rw[tu,tu,if_neg (by omega),if_neg (by omega)]
  refine⟨rfl, ?_⟩
  simp only[ku]
  rw[if_neg (by omega),if_neg (by omega)]
def Ends (m:List aX):Prop:=∃ t m',m=t::m'∧Kd t∧(kl t).1=0
theorem Ends.halt {m:List aX} (h:Ends m) (c:Int):Halt c m:=by
 obtain⟨t,m',h1,h2,h3⟩:=h
 exact⟨t,m',h1,h2, .inl h3⟩
def sw (x:Ex) (l:List aX):Prop:=∀ (r:Rd) (lr:List aX) (n:Nat),At r (l++lr)→Ends lr→3*l.length<n→Rd.whole n r=some (x,r.mv l.length)
theorem Y9 {x:Ex} {l:List aX} {c:Int} (h:yX c x l) (hc:1≤c) (hk : ∀ t∈l,Kd t) (hl:0<l.length) (hd:x.depth≤20) (hs:x.size<1000000000):sw x l:=by
 intro r lr n hA he hn
 obtain⟨n',h1,h2⟩:=h r lr n 1 hA (he.halt _) hc (by omega)
 unfold Rd.whole
 obtain⟨t,l',rfl⟩ : ∃ t l',l=t::l':=by
  cases l with
  |nil=>simp at hl
  |cons t l'=>exact⟨t,l',rfl⟩
 have hA':At r (t::(l'++lr)):=hA
 rw[hA'.ic (hk t (by simp)),Option.bind_some,h2,Dy hA.app (he.halt 0) (by omega) (by omega),Option.bind_some]
 dsimp only
 rw[if_pos hA.app.good]
 unfold Gc
 rw[if_pos (by omega),Option.bind_some,if_neg (by simp only[decide_eq_true_eq];omega)]
theorem Lx.kd {pos:Nat} {s:ay} {l:List aX} (h:Lx pos s l) : ∀ t∈l,Kd t:=by
 induction h with
 |nil=>intro t h;cases h
 |blank _ _ _ _ _ _ ih=>exact ih
 |rem _ _ _ _ _ _ _ ih=>exact ih
 |tok pos c r t l _ _ ht _ ih=>
  intro u hu
  rcases List.mem_cons.1 hu with rfl|hu
  ·have:=acI ht;unfold Hf at this;exact⟨by omega,by omega⟩
  ·exact ih u hu
theorem uq {x:Ex} (h:fW x) (hd:x.depth≤20) (hs:x.size<1000000000) (pos:Nat) : ∃ l,l.length=ku 0 x∧ep (dV 0 x) pos l∧sw x l∧qC l:=by
 obtain⟨e1,e2⟩:=ajd h
 obtain⟨l,g1,g2,g3,_,g5⟩:=ajc h 1 pos
 refine⟨l,by rw[e2];exact g1,by rw[e1];exact g2,Y9 g3 (by omega) ?_ (by have:=(VW h 1).1;omega) hd hs,g5⟩
 have:Lx pos (dV 1 x++ []) (l++ []):=g2 [] [] trivial (.nil _)
 simpa using this.kd
theorem aje (n m:Nat) (l:ay):D.kc n m (KX l)=true:=by
 simp[KX,F4,CQ,D.ok]
theorem ajf (n m:Nat) (l:ay):D.lE n m (KX l)=KX l:=F8 n m _ (aje 0 0 l)
attribute [go_sem] ajf
def gf (n:Nat) (m:ay):ay:=List.replicate n 32++m++ [10]
theorem mA (n:Nat) (m:ay):(gf n m).length=n+m.length+1:=by simp[gf];omega
end Go.Abs
namespace Go.Abs
open Go.Proofs
def dQ:List ay→ay
 | []=> []
 |s::l=>s++ [58,32]++dQ l
theorem nN : ∀ {l:List ay},(∀ t∈l,t.length≤8)→(dQ l).length≤10*l.length
 | [],_=>Nat.le_refl _
 |s::l,h=>by
  have:=h s (List.mem_cons_self ..)
  have:=nN fun t m=>h t (List.mem_cons_of_mem _ m)
  simp only[dQ,List.length_append,List.length_cons,List.length_nil];omega
def jD (a:Ar):ay:=if a.ref then [114,101,102,32]++a.name else dV 0 a.x
def uT (name proc:ay) (args:List Ar):ay:=(if name = []then []else name++ [32,61,32])++(proc++ [40]++Lib.join (args.map jD) [44,32]++ [41])
def gd (kind:Int) (name proc:ay) (x:Ex) (has:Bool) (args:List Ar):ay:=
 if kind=1 then name++ [32,61,32]++dV 0 x else if kind=2 then [114,101,97,100,32]++name else if kind=3 then [112,114,105,110,116,32]++dV 0 x else if kind=7 then [98,114,101,97,107]else if kind=8 then [99,111,110,116,105,110,117,101]
 else if kind=10 then [103,111,116,111,32]++name else if kind=9 then(if has then [114,101,116,117,114,110,32]++dV 0 x else [114,101,116,117,114,110])else uT name proc args
structure Sm.JM (s:Sm):Prop where
 x:s.iZ=true→fW s.x
 Da : ∀ t∈s.labels,t.length≤8
 name:s.name.length≤8
 proc:s.proc.length≤8
 args : ∀ a∈s.args,a.name.length≤8∧(a.ref=false→fW a.x)
 kind:1≤s.kind∧s.kind≤10
 aL:s.kind=6→s.aL = []
theorem FG (sep:ay) : ∀ l:List ay,(Lib.join l sep).length≤(l.map (·.length)).sum+sep.length*l.length
 | []=>by simp[Lib.join]
 | [a]=>by simp[Lib.join,List.intercalate]
 |a::b::l=>by
  have:=FG sep (b::l)
  simp only[Lib.join,List.intercalate_cons_cons,List.length_append,List.map_cons,List.sum_cons,List.length_cons,Nat.mul_add]at this ⊢
  omega
theorem JN : ∀ {l:List Ar},(∀ a∈l,a.name.length≤8∧(a.ref=false→fW a.x))→((l.map jD).map (·.length)).sum≤25*Ar.aT l
 | [],_=>by simp
 | a::l,h=>by
  have h1:=h a (List.mem_cons_self ..)
  have:=JN fun t m=>h t (List.mem_cons_of_mem _ m)
  have h2:(jD a).length≤25*(1+a.x.size):=by
   unfold jD
   split
   ·simp only[List.length_append,List.length_cons,List.length_nil];omega
   ·rename_i c
    have:=jt (h1.2 (by simpa using c)) 0
    have:=qX a.x.size a.x (Nat.le_refl _)
    omega
  simp only[List.map_cons,List.sum_cons,Ar.aT]at this ⊢
  omega
theorem Nl {l:List Ar} (h : ∀ a∈l,a.name.length≤8∧(a.ref=false→fW a.x)):(Lib.join (l.map jD) [44,32]).length≤27*Ar.aT l:=by
 have h1:=FG [44,32] (l.map jD)
 have h2:=JN h
 have h3:=Ar.cu l
 simp only[List.length_map,List.length_cons,List.length_nil]at h1 h3
 omega
mutual
def BN (aN:Nat):Sm→ay
 |⟨id,kind,labels,name,proc,x,has,args,aS,aL⟩=>
  if kind=6 then gf aN (dQ labels++ [119,104,105,108,101,32,40]++dV 0 x++ [41,32,123])++dG (aN+1) aS++gf aN [125]
  else if kind=5 then gf aN (dQ labels++ [105,102,32,40]++dV 0 x++ [41,32,123])++dG (aN+1) aS++(if aL.length=0 then []else gf aN [125,32,101,108,115,101,32,123]++dG (aN+1) aL)++gf aN [125]
  else gf aN (dQ labels++gd kind name proc x has args++ [59])
def dG (aN:Nat):List Sm→ay
 | []=> []
 |s::l=>BN aN s++dG aN l
end
theorem acR (aN:Nat) (s:Sm):BN aN s=if s.kind=6 then gf aN (dQ s.labels++ [119,104,105,108,101,32,40]++dV 0 s.x++ [41,32,123])++dG (aN+1) s.aS++gf aN [125]
 else if s.kind=5 then gf aN (dQ s.labels++ [105,102,32,40]++dV 0 s.x++ [41,32,123])++dG (aN+1) s.aS++(if s.aL.length=0 then []else gf aN [125,32,101,108,115,101,32,123]++dG (aN+1) s.aL)++gf aN [125]
 else gf aN (dQ s.labels++gd s.kind s.name s.proc s.x s.has s.args++ [59]):=by
 cases s;simp only[BN]
mutual
def Sm.JO (aN:Nat):Sm→Prop
 |⟨id,kind,labels,name,proc,x,has,args,aS,aL⟩=>Sm.JM ⟨id,kind,labels,name,proc,x,has,args,aS,aL⟩∧aN≤12∧Sm.qD (aN+1) aS∧Sm.qD (aN+1) aL
def Sm.qD (aN:Nat):List Sm→Prop
 | []=>True
 |s::l=>s.JO aN∧Sm.qD aN l
end
theorem Dz (aN:Nat) (s:Sm):s.JO aN↔s.JM∧aN≤12∧Sm.qD (aN+1) s.aS∧Sm.qD (aN+1) s.aL:=by cases s;simp only[Sm.JO]
theorem Nn {aN:Nat} {s:Sm} : ∀ {l:List Sm},Sm.qD aN l→s∈l→s.JO aN
 |y::l,h,m=>by
  simp only[Sm.qD]at h
  rcases List.mem_cons.1 m with rfl|m
  ·exact h.1
  ·exact Nn h.2 m
theorem Hn {s:Sm} (h:s.JM):(gd s.kind s.name s.proc s.x s.has s.args).length≤25*s.x.size+27*Ar.aT s.args+30:=by
 obtain⟨hx,_,wz,rR,l7,_,_⟩:=h
 have ry:=Nl l7
 have hns:=qX s.x.size s.x (Nat.le_refl _)
 unfold gd
 split
 ·rename_i k
  have:=jt (hx (by simp[Sm.iZ,k])) 0
  simp only[List.length_append,List.length_cons,List.length_nil];omega
 split
 ·simp only[List.length_append,List.length_cons,List.length_nil];omega
 split
 ·rename_i k
  have:=jt (hx (by simp[Sm.iZ,k])) 0
  simp only[List.length_append,List.length_cons,List.length_nil];omega
 split
 ·simp only[List.length_append,List.length_cons,List.length_nil];omega
 split
 ·simp only[List.length_append,List.length_cons,List.length_nil];omega
 split
 ·simp only[List.length_append,List.length_cons,List.length_nil];omega
 split
 ·rename_i k
  split
  ·rename_i kh
   have:=jt (hx (by simp[Sm.iZ,k,kh])) 0
   simp only[List.length_append,List.length_cons,List.length_nil];omega
  ·simp only[List.length_append,List.length_cons,List.length_nil];omega
 ·unfold uT
  split<;>simp only[List.length_append,List.length_cons,List.length_nil]<;>omega
mutual
theorem No : ∀ {aN:Nat} (s:Sm),s.JO aN→(BN aN s).length≤200*s.size
 | aN,⟨id,kind,labels,name,proc,x,has,args,aS,aL⟩,h=>by
  obtain⟨ho,hi,ht,he⟩:=(Dz _ _).1 h
  have h1:=oT aS ht
  have h2:=oT aL he
  have h3:=nN ho.Da
  have h4:=Hn ho
  have h6:=qX x.size x (Nat.le_refl _)
  dsimp only at h3 h4
  simp only[BN,Sm.size]
  split
  ·rename_i k
   have h5:=jt (ho.x (by simp[Sm.iZ,k])) 0
   dsimp only at h5
   simp only[List.length_append,List.length_cons,List.length_nil,mA];omega
  split
  ·rename_i k
   have h5:=jt (ho.x (by simp[Sm.iZ,k])) 0
   dsimp only at h5
   split<;>simp only[List.length_append,List.length_cons,List.length_nil,mA]<;>omega
  ·simp only[List.length_append,List.length_cons,List.length_nil,mA];omega
theorem oT : ∀ {aN:Nat} (l:List Sm),Sm.qD aN l→(dG aN l).length≤200*Sm.aT l
 |_,[],_=>by simp[dG,Sm.aT]
 |aN,s::l,h=>by
  simp only[Sm.qD]at h
  have h1:=No s h.1
  have h2:=oT l h.2
  simp only[dG,Sm.aT,List.length_append];omega
end
def nk (l:ay):Nat:=l.length
def fJ (a:Pm):ay:=(if a.ref then [114,101,102,32]else [])++a.name
def tv (f:Pc):ay:=
 gf 0 ([112,114,111,99,32]++f.name++ [40]++Lib.join (f.params.map fJ) [44,32]++ [41,32,123])++(if f.vars.length=0 then []else gf 1 ([118,97,114,32]++Lib.join f.vars [44,32]++ [59]))++dG 1 f.body++gf 0 (dQ f.fin++ [125])
def lC:List Pc→ay
 | []=> []
 |f::l=>tv f++lC l
def xX (l:List ay):ay:=if l.length=0 then []else gf 0 ([103,108,111,98,97,108,32]++Lib.join l [44,32]++ [59])
def qb (p:Pg):ay:=xX p.globals++lC p.procs
structure Pc.PC (f:Pc):Prop where
 name:f.name.length≤8
 params : ∀ a∈f.params,a.name.length≤8
 vars : ∀ t∈f.vars,t.length≤8
 fin : ∀ t∈f.fin,t.length≤8
 body:Sm.qD 1 f.body
structure Pg.PrG (p:Pg):Prop where
 globals : ∀ t∈p.globals,t.length≤8
 procs : ∀ f∈p.procs,f.PC
theorem vy (sep:ay) {l:List ay} {n:Nat} (h : ∀ t∈l,t.length≤n):(Lib.join l sep).length≤(n+sep.length)*l.length:=by
 have h1:=FG sep l
 have h2:(l.map (·.length)).sum≤n*l.length:=by
  clear h1
  induction l with
  |nil=>simp
  |cons a l ih=>
   have:=h a (List.mem_cons_self ..)
   have:=ih fun t m=>h t (List.mem_cons_of_mem _ m)
   simp only[List.map_cons,List.sum_cons,List.length_cons,Nat.mul_add,Nat.mul_one];omega
 rw[Nat.add_mul];omega
theorem Ho {l:List Pm} (h : ∀ a∈l,a.name.length≤8):(Lib.join (l.map fJ) [44,32]).length≤14*l.length:=by
 have:=vy [44,32] (l:=l.map fJ) (n:=12) (by
  intro t m
  obtain⟨a,ha,rfl⟩:=List.mem_map.1 m
  have:=h a ha
  unfold fJ
  split<;>simp only[List.length_append,List.length_cons,List.length_nil]<;>omega)
 simpa using this
theorem SV {l:List ay} (h : ∀ t∈l,t.length≤8):(xX l).length≤10*l.length+9:=by
 have:=vy [44,32] h
 unfold xX
 split
 ·simp
 ·simp only[List.length_append,List.length_cons,List.length_nil,mA]at this ⊢;omega
theorem VY {f:Pc} (h:f.PC):(tv f).length≤200*f.size:=by
 have h1:=Ho h.params
 have h2:=vy [44,32] h.vars
 have h3:=nN h.fin
 have h4:=oT f.body h.body
 have h5:=h.name
 unfold tv Pc.size
 simp only[List.length_cons,List.length_nil]at h2
 split<;>simp only[List.length_append,List.length_cons,List.length_nil,mA]<;>omega
theorem Hp : ∀ {l:List Pc},(∀ f∈l,f.PC)→(lC l).length≤200*Pc.aT l
 | [],_=>by simp[lC]
 |f::l,h=>by
  have h1:=VY (h f (List.mem_cons_self ..))
  have h2:=Hp fun t m=>h t (List.mem_cons_of_mem _ m)
  simp only[lC,Pc.aT,List.length_append];omega
def cY (s:ay) (pos:Nat) (l:List aX):Prop:=∀ r lr,Lx (pos+s.length) r lr→Lx pos (s++r) (l++lr)
theorem cY.nil (pos:Nat):cY [] pos []:=fun r lr h=>h
theorem cY.app {s t:ay} {pos:Nat} {l m:List aX} (h:cY s pos l) (k:cY t (pos+s.length) m):cY (s++t) pos (l++m):=by
 intro r lr hl
 rw[List.append_assoc,List.append_assoc]
 refine h _ _ (k _ _ ?_)
 rw[List.length_append, ← Nat.add_assoc]at hl
 exact hl
theorem cY.blank {c:UInt8} (h:rG c=true) {t:ay} {pos:Nat} {l:List aX} (k:cY t (pos+1) l):cY (c::t) pos l:=by
 intro r lr hl
 refine .blank _ _ _ _ h (k _ _ ?_)
 have:pos+1+t.length=pos+(c::t).length:=by simp;omega
 rw[this];exact hl
theorem cY.xY : ∀ (n:Nat) {t:ay} {pos:Nat} {l:List aX},cY t (pos+n) l→cY (List.replicate n 32++t) pos l
 | 0,t,pos,l,k=>k
 |n+1,t,pos,l,k=>by
  rw[List.replicate_succ,List.cons_append]
  exact .blank (by decide) (cY.xY n (by rw[Nat.add_right_comm];exact k))
theorem ep.then {s t:ay} {c:UInt8} {pos:Nat} {l m:List aX} (h:ep s pos l) (k:cY (c::t) (pos+s.length) m) (hc:kN c=false∧kE c=false:=by decide):cY (s++c::t) pos (l++m):=by
 intro r lr hl
 rw[List.append_assoc,List.append_assoc]
 refine h _ _ hc (k _ _ ?_)
 rw[List.length_append, ← Nat.add_assoc]at hl
 exact hl
theorem ep.behind {s t:ay} {pos:Nat} {l m:List aX} (h:cY s pos l) (k:ep t (pos+s.length) m):ep (s++t) pos (l++m):=by
 intro r lr hr hl
 rw[List.append_assoc,List.append_assoc]
 refine h _ _ (k _ _ hr ?_)
 rw[List.length_append, ← Nat.add_assoc]at hl
 exact hl
theorem cY.s {s:ay} {pos:Nat} {l:List aX} (h:cY s pos l):ep s pos l:=fun r lr _ hl=>h r lr hl
def gN (c:UInt8) (pos:Nat):aX:=⟨4,[c],0,(pos:Nat)⟩
theorem PD {c:UInt8} (hc:(c==40 ||c==41 ||c==44 ||c==58 ||c==59 ||c==123 ||c==125)=true) (pos:Nat) (r:ay):gL pos (c::r) = .inl (gN c pos):=by
 simp only[Bool.or_eq_true,beq_iff_eq]at hc
 cases r with
 |nil=>rcases hc with (((((rfl|rfl)|rfl)|rfl)|rfl)|rfl)|rfl<;>simp (decide:=true) [gL,iY,gN]
 | cons d r=>
  rcases hc with (((((rfl|rfl)|rfl)|rfl)|rfl)|rfl)|rfl
  all_goals
   have:=fun a b c:UInt8=>(rfl:n9 [a,b] = n9 [a,b])
   simp (decide:=true) [gL,iY,gN,n9]
theorem cY.sg {c:UInt8} {t:ay} {pos:Nat} {l:List aX} (k:cY t (pos+1) l) (hc:(c==40 ||c==41 ||c==44 ||c==58 ||c==59 ||c==123 ||c==125)=true:=by decide):cY (c::t) pos (gN c pos::l):=by
 intro r lr hl
 simp only[List.cons_append]
 refine .vY (PD hc pos _) ?_
 refine k r lr ?_
 have:pos+(gN c pos).text.length+t.length=pos+(c::t).length:=by simp[gN];omega
 have e:(gN c pos).text.length=1:=rfl
 rw[e]at this
 rw[this];exact hl
theorem cY.eq {t:ay} {pos:Nat} {l:List aX} (k:cY t (pos+2) l):cY (61::32::t) pos (gN 61 pos::l):=by
 intro r lr hl
 simp only[List.cons_append]
 have:gL pos (61::32::(t++r)) = .inl (gN 61 pos):=by simp (decide:=true) [gL,iY,gN]
 refine .vY this ?_
 refine .blank _ _ _ _ (by decide) ?_
 refine k r lr ?_
 have:pos+(gN 61 pos).text.length+1+t.length=pos+(61::32::t).length:=by simp[gN];omega
 have e:(gN 61 pos).text.length=1:=rfl
 rw[e]at this
 have e2:pos+2+t.length=pos+1+1+t.length:=by omega
 rw[e2,this];exact hl
def AR (t:ay) (pos:Nat):aX:=⟨1,t,0,(pos:Nat)⟩
theorem ep.nm {t:ay} (ht:isName t=true) (pos:Nat):ep t pos [AR t pos]:=by
 intro r lr hr hl
 refine .vY (Iw ht pos hr).1 ?_
 simpa[AR]using hl
def iN (t:ay) (pos:Nat):aX:=⟨3,t,0,(pos:Nat)⟩
theorem ep.wd {w:ay} (pos:Nat) (h:(isWord w && w.all kN && !w.isEmpty && decide (w.length≤8))=true:=by decide):ep w pos [iN w pos]:=by
 intro r lr hnr hl
 simp only[Bool.and_eq_true,decide_eq_true_eq,Bool.not_eq_true',List.isEmpty_eq_false_iff]at h
 obtain⟨⟨⟨hw,ha⟩,h0⟩,h8⟩:=h
 have dt : ∀ s:ay,s.all kN=true→jj (s++r)=s.length:=by
  intro s
  induction s with
  |nil=>
   intro _
   cases r with
   |nil=>rfl
   |cons c r=>simp only[Dx]at hnr;simp[jj,hnr.1,hnr.2]
  |cons d s ih=>
   intro hs
   simp only[List.all_cons,Bool.and_eq_true]at hs
   simp only[List.cons_append,jj,hs.1,Bool.true_or,↓reduceIte,List.length_cons,ih hs.2]
 obtain⟨d,s,rfl⟩ : ∃ d s,w=d::s:=by
  cases w with
  |nil=>exact absurd rfl h0
  |cons d s=>exact⟨d,s,rfl⟩
 have hd:kN d=true:=by
  simp only[List.all_cons,Bool.and_eq_true]at ha
  exact ha.1
 have hr:=dt _ ha
 have Er:(d::s++r).take (d::s).length=d::s:=List.take_left' rfl
 have:gL pos (d::s++r) = .inl (iN (d::s) pos):=by
  rw[List.cons_append]at hr Er ⊢
  simp only[gL,hd,↓reduceIte,hr,Er,hw]
  rw[if_neg (by omega)]
  rfl
 refine .vY this ?_
 simpa[iN]using hl
inductive lS {α:Type} (G:α→List aX→Prop):List α→List aX→Prop
 |one (x:α) (l:List aX) (h:G x l):lS G [x] l
 |cons (x:α) (l:List aX) (c:aX) (hc:c.kind=4∧c.text = [44]) (xs:List α) (m:List aX) (h:G x l) (k:lS G xs m):lS G (x::xs) (l++c::m)
theorem ep.join {α:Type} (f:α→ay) (G:α→List aX→Prop) : ∀ (xs:List α) (pos:Nat),xs≠ []→(∀ x∈xs,∀ pos,∃ l,ep (f x) pos l∧G x l)→
 ∃ l,ep (Lib.join (xs.map f) [44,32]) pos l∧lS G xs l
 | [x],pos,_,h=>by
  obtain⟨l,h1,h2⟩:=h x (by simp) pos
  refine⟨l, ?_, .one x l h2⟩
  simpa[Lib.join,List.intercalate]using h1
 | x::y::xs,pos,_,h=>by
  obtain⟨l,h1,h2⟩:=h x (by simp) pos
  obtain⟨m,k1,k2⟩:=ep.join f G (y::xs) (pos+(f x).length+2) (by simp) (fun z hz=>h z (List.mem_cons_of_mem _ hz))
  refine⟨l++gN 44 (pos+(f x).length)::m, ?_, .cons x l _ ⟨rfl,rfl⟩ _ m h2 k2⟩
  have e:Lib.join ((x::y::xs).map f) [44,32] = f x++44::(32::Lib.join ((y::xs).map f) [44,32]):=by
   simp only[Lib.join,List.map_cons,List.intercalate_cons_cons,List.append_assoc,List.cons_append,List.nil_append]
  rw[e]
  intro r lr hr hl
  rw[List.append_assoc,List.append_assoc]
  refine h1 _ _ ⟨by decide,by decide⟩ ?_
  refine .vY (PD (by decide) _ _) ?_
  refine .blank _ _ _ _ (by decide) ?_
  have e2:pos+(f x).length+(gN 44 (pos+(f x).length)).text.length+1=pos+(f x).length+2:=rfl
  refine k1 r lr hr ?_
  have:pos+(f x).length+2+(Lib.join ((y::xs).map f) [44,32]).length=pos+(f x++44::(32::Lib.join ((y::xs).map f) [44,32])).length:=by simp;omega
  rw[this];exact hl
theorem At.nG {r:Rd} {t:aX} {m:List aX} (h:At r (t::m)) (hk:t.kind=1) {b:Bool} (hb:b=true):r.name b=some (t.text,r.mv 1):=by rw[hb];exact h.name hk
theorem qY {α:Type} {k:Nat} {l:List α} {x:α} (hl:l.length≤1000000) (hk:k≤1000):push k l x=some (l++ [x]):=by
 unfold push
 rw[if_pos]
 have:(l.length+1)*k≤1000001*1000:=Nat.mul_le_mul (by omega) hk
 unfold aF;omega
def BO (t:ay) (l:List aX):Prop:=∃ k:aX,l = [k]∧k.kind=1∧k.text=t
theorem yY {t:aX} (h:t.kind=4):Kd t:=Kd.of h
theorem xZ {t:aX} (h:t.kind=1):Kd t:=Kd.of h
theorem Np {xs:List ay} {l:List aX} (h:lS BO xs l) : ∀ (r:Rd) (q:aX) (lr:List aX) (out:List ay) (n:Nat) (cZ:Int),At r (l++q::lr)→q.kind=4→q.text = [59]→((out.length+xs.length:Nat):Int)≤cZ→cZ≤1000→xs.length≤n→
 Rd.names n out cZ r=some (out++xs,r.mv (l.length+1)):=by
 induction h with
 | one x l hx=>
  intro r q lr out n cZ hA hq ht hm hm2 hn
  obtain⟨k,rfl,hk,rfl⟩:=hx
  simp only[List.length_cons,List.length_nil]at hm hn
  cases n with
  |zero=>omega
  |succ n=>
   have hA:At r (k::q::lr):=hA
   have fU:=hA.one
   rw[Rd.names,if_pos hA.good,hA.nG hk (by simp only[decide_eq_true_eq];omega),Option.bind_some,qY (by omega) (by omega),Option.bind_some,fU.mJ (yY hq) (.inr (by rw[ht];decide)),Option.bind_some]
   simp only[Bool.not_false,↓reduceIte]
   rw[fU.want (.inr hq) ht]
   rfl
 | cons x l c hc xs m hx _ ih=>
  intro r q lr out n cZ hA hq ht hm hm2 hn
  obtain⟨k,rfl,hk,rfl⟩:=hx
  simp only[List.length_cons]at hm hn
  cases n with
  |zero=>omega
  |succ n=>
   have hA:At r (k::c::(m++q::lr)):=by simpa using hA
   have fU:=hA.one
   rw[Rd.names,if_pos hA.good,hA.nG hk (by simp only[decide_eq_true_eq];omega),Option.bind_some,qY (by omega) (by omega),Option.bind_some,fU.lR (.inr hc.1) hc.2,Option.bind_some]
   simp only[Bool.not_true,Bool.false_eq_true,↓reduceIte]
   rw[ih _ q lr (out++ [k.text]) n cZ fU.one hq ht (by simp only[List.length_append,List.length_cons,List.length_nil];omega) hm2 (by omega)]
   simp only[List.append_assoc,List.cons_append,List.nil_append,pb,List.length_append,List.length_cons,List.length_nil]
   congr 3
   omega
def pG (a:Pm) (l:List aX):Prop:=if a.ref then ∃ w k:aX,l = [w,k]∧w.kind=3∧w.text = [114,101,102]∧k.kind=1∧k.text=a.name else BO a.name l
theorem VZ {xs:List Pm} {l:List aX} (h:lS pG xs l) : ∀ (r:Rd) (q:aX) (lr:List aX) (out:List Pm) (n:Nat),At r (l++q::lr)→q.kind=4→q.text = [41]→out.length+xs.length≤8→xs.length≤n→
 Rd.params n out r=some (out++xs,r.mv l.length):=by
 -- one of them
 have step : ∀ (x:Pm) (l:List aX),pG x l→∀ (r:Rd) (q:aX) (lr:List aX) (out:List Pm),At r (l++q::lr)→out.length<8→(r.take [114,101,102]).bind (fun p=>(p.2.name (decide ((out.length:Int)<8))).bind fun y=>(push 25 out ⟨y.1,p.1⟩).bind fun o=>some (o,y.2))=some (out++ [x],r.mv l.length):=by
  intro x l hx r q lr out hA ho
  obtain⟨nm,rf⟩:=x
  unfold pG at hx
  split at hx
  ·rename_i hr
   obtain⟨w,k,rfl,w1,w2,k1,k2⟩:=hx
   have hA:At r (w::k::q::lr):=hA
   dsimp only at hr k2
   subst hr k2
   rw[hA.lR (.inl w1) w2,Option.bind_some]
   dsimp only
   rw[hA.one.nG k1 (by simp only[decide_eq_true_eq];omega),Option.bind_some]
   dsimp only
   rw[qY (by omega) (by omega),Option.bind_some,pb]
   rfl
  ·rename_i hr
   obtain⟨k,rfl,k1,k2⟩:=hx
   have hA:At r (k::q::lr):=hA
   have hr:rf=false:=by simpa using hr
   dsimp only at k2
   subst hr k2
   rw[hA.mJ (xZ k1) (.inl (by omega)),Option.bind_some]
   dsimp only
   rw[hA.nG k1 (by simp only[decide_eq_true_eq];omega),Option.bind_some]
   dsimp only
   rw[qY (by omega) (by omega),Option.bind_some]
   rfl
 have glue : ∀ (out:List Pm) (r:Rd) (n:Nat),r.good=true→Rd.params (n+1) out r=((r.take [114,101,102]).bind (fun p=>(p.2.name (decide ((out.length:Int)<8))).bind fun y=>(push 25 out ⟨y.1,p.1⟩).bind fun o=>some (o,y.2))).bind fun o=>(o.2.take [44]).bind fun c=>if !c.1 then some (o.1,c.2)else Rd.params n o.1 c.2:=by
  intro out r n hg
  rw[Rd.params,if_pos hg]
  simp only[Option.bind_assoc,Option.bind_some]
 induction h with
 | one x l hx=>
  intro r q lr out n hA hq ht hm hn
  simp only[List.length_cons,List.length_nil]at hm hn
  cases n with
  |zero=>omega
  |succ n=>
   rw[glue _ _ _ hA.good,step x l hx r q lr out hA (by omega),Option.bind_some]
   dsimp only
   rw[hA.app.mJ (yY hq) (.inr (by rw[ht];decide)),Option.bind_some]
   rfl
 | cons x l c hc xs m hx _ ih=>
  intro r q lr out n hA hq ht hm hn
  simp only[List.length_cons]at hm hn
  cases n with
  |zero=>omega
  |succ n=>
   have hA:At r (l++c::(m++q::lr)):=by simpa using hA
   rw[glue _ _ _ hA.good,step x l hx r c _ out hA (by omega),Option.bind_some]
   dsimp only
   rw[hA.app.lR (.inr hc.1) hc.2,Option.bind_some]
   simp only[Bool.not_true,Bool.false_eq_true,↓reduceIte]
   rw[ih _ q lr _ n hA.app.one hq ht (by simp only[List.length_append,List.length_cons,List.length_nil];omega) (by omega)]
   simp only[List.append_assoc,List.cons_append,List.nil_append,pb,List.length_append,List.length_cons,List.length_nil]
   congr 3
   omega
theorem qC.first {l:List aX} (h:qC l) : ∃ t l',l=t::l'∧Kd t∧∀ s:ay,(s == [40] ||s == [45] ||s == [33])=false→(t.kind≠3∧t.kind≠4)∨t.text≠s:=by
 rcases h with ⟨t,l',rfl,h⟩|⟨t,rfl,h⟩|⟨t,u,l',rfl,h,_⟩
 ·refine⟨t,l',rfl,by rcases h with h | h;exact Kd.of h;exact Kd.of h.1,fun s hs=> ?_⟩
  rcases h with h|⟨h,h2⟩
  ·exact .inl (by omega)
  ·right
   rintro rfl
   rcases h2 with h2|h2|h2<;>simp[h2]at hs
 ·exact⟨t,[],rfl,xZ h,fun s _=> .inl (by omega)⟩
 ·exact⟨t,_,rfl,xZ h,fun s _=> .inl (by omega)⟩
def qE (a:Ar) (l:List aX):Prop:=if a.ref then ∃ w k:aX,l = [w,k]∧w.kind=3∧w.text = [114,101,102]∧k.kind=1∧k.text=a.name else sw a.x l∧qC l∧l.length=ku 0 a.x
def Hq (a:Ar):Ar:=if a.ref then⟨true,a.name,jY⟩else⟨false,[],a.x⟩
theorem vz {t:aX} {m:List aX} (hk:t.kind=4) {s:ay} (ht:t.text=s) (hs:(s == [41] ||s == [59] ||s == [44] ||s == [123] ||s == [125])=true):Ends (t::m):=by
 refine⟨t,m,rfl,yY hk, ?_⟩
 simp only[Bool.or_eq_true,beq_iff_eq]at hs
 rcases hs with (((rfl|rfl)|rfl)|rfl)|rfl<;>simp (decide:=true) [kl,hk,ht]
theorem acS {xs:List Ar} {l:List aX} (h:lS qE xs l) : ∀ (r:Rd) (q:aX) (lr:List aX) (out:List Ar) (m n:Nat),At r (l++q::lr)→q.kind=4→q.text = [41]→out.length+xs.length≤1000000→xs.length≤n→3*l.length<m→
 Rd.sO m n out r=some (out++xs.map Hq,r.mv l.length):=by
 have step : ∀ (x:Ar) (l:List aX),qE x l→∀ (r:Rd) (q:aX) (lr:List aX) (out:List Ar) (m n:Nat),At r (l++q::lr)→q.kind=4→(q.text = [41]∨q.text = [44])→out.length<1000000→3*l.length<m→
  Rd.sO m (n+1) out r=((r.mv l.length).take [44]).bind fun c=>if !c.1 then some (out++ [Hq x],c.2)else Rd.sO m n (out++ [Hq x]) c.2:=by
  intro x l hx r q lr out m n hA hq VV ho hm
  obtain⟨rf,nm,e⟩:=x
  rw[Rd.sO,if_pos hA.good]
  unfold qE at hx
  split at hx
  ·rename_i hr
   obtain⟨w,k,rfl,w1,w2,k1,k2⟩:=hx
   have hA:At r (w::k::q::lr):=hA
   dsimp only at hr k2
   subst hr k2
   rw[hA.lR (.inl w1) w2,Option.bind_some]
   simp only[↓reduceIte]
   rw[hA.one.name k1,Option.bind_some]
   dsimp only
   rw[qY (by omega) (by omega),Option.bind_some,pb]
   rfl
  ·rename_i hr
   obtain⟨h1,h2,_⟩:=hx
   have hr:rf=false:=by simpa using hr
   subst hr
   obtain⟨t,l',rfl,hk,hs⟩:=h2.first
   have hA':At r (t::(l'++q::lr)):=hA
   rw[hA'.mJ hk (hs _ (by decide)),Option.bind_some]
   simp only[Bool.false_eq_true,↓reduceIte]
   rw[h1 r (q::lr) m hA (by rcases VV with h|h<;>exact vz hq h (by decide)) hm,Option.bind_some]
   dsimp only
   rw[qY (by omega) (by omega),Option.bind_some]
   rfl
 induction h with
 | one x l hx=>
  intro r q lr out m n hA hq ht hm hn hf
  simp only[List.length_cons,List.length_nil]at hm hn
  cases n with
  |zero=>omega
  |succ n=>
   rw[step x l hx r q lr out m n hA hq (.inl ht) (by omega) hf,hA.app.mJ (yY hq) (.inr (by rw[ht];decide)),Option.bind_some]
   rfl
 | cons x l c hc xs k hx _ ih=>
  intro r q lr out m n hA hq ht hm hn hf
  simp only[List.length_cons,List.length_append]at hm hn hf
  cases n with
  |zero=>omega
  |succ n=>
   have hA:At r (l++c::(k++q::lr)):=by simpa using hA
   rw[step x l hx r c _ out m n hA hc.1 (.inr hc.2) (by omega) (by omega),hA.app.lR (.inr hc.1) hc.2,Option.bind_some]
   simp only[Bool.not_true,Bool.false_eq_true,↓reduceIte]
   rw[ih _ q lr _ m n hA.app.one hq ht (by simp only[List.length_append,List.length_cons,List.length_nil];omega) (by omega) (by omega)]
   simp only[List.append_assoc,List.cons_append,List.nil_append,pb,List.length_append,List.length_cons,List.length_nil,List.map_cons]
   congr 3
   omega
inductive ur:List ay→List aX→Prop
 |nil:ur [] []
 |cons (t c:aX) (ls:List ay) (m:List aX) (ht:t.kind=1) (hc:c.kind=4) (oQ:c.text = [58]) (h:ur ls m):ur (t.text::ls) (t::c::m)
def aa5 (l:List aX):Prop:=∃ t l',l=t::l'∧Kd t∧(t.kind≠1∨∃ u m,l'=u::m∧(u.kind≠4∨u.text≠ [58]))
theorem At.Nq {r:Rd} {l:List aX} (h:At r l) {s:ay} (hl : ∃ t l',l=t::l'∧Kd t∧(t.kind≠1∨∃ u m,l'=u::m∧(u.kind≠4∨u.text≠s))):r.ahead s=some false:=by
 obtain⟨t,l',rfl,hk,hl⟩:=hl
 unfold Rd.ahead
 rw[if_pos h.good,h.ic hk,Option.bind_some]
 by_cases h1:t.kind=1
 ·rcases hl with hl | ⟨u,m,rfl,hl⟩
  ·exact absurd h1 hl
  ·have hg:Go.Abs.sM r.l (r.i+1)=some u:=h.one.sM
   have k1:(t.kind==1)=true:=by simp[h1]
   rw[if_pos k1,hg,Option.bind_some]
   rcases hl with hl|hl<;>simp[hl]
 ·have k1:(t.kind==1)=false:=by simp [h1]
  rw[if_neg (by simp[h1])]
theorem At.JP {r:Rd} {t u:aX} {m:List aX} (h:At r (t::u::m)) {s:ay} (ht:t.kind=1) (hu:u.kind=4) (hs:u.text=s):r.ahead s=some true:=by
 unfold Rd.ahead
 have hg:Go.Abs.sM r.l (r.i+1)=some u:=h.one.sM
 have k1:(t.kind==1)=true:=by simp[ht]
 rw[if_pos h.good,h.ic (xZ ht),Option.bind_some,if_pos k1,hg,Option.bind_some]
 simp[hu,hs]
theorem JQ {ls:List ay} {l:List aX} (h:ur ls l) : ∀ (r:Rd) (lr:List aX) (out:List ay) (n:Nat),At r (l++lr)→aa5 lr→out.length+ls.length≤1000000→ls.length<n→Rd.labels n out r=some (out++ls,r.mv l.length):=by
 induction h with
 | nil=>
  intro r lr out n hA hN ho hn
  cases n with
  |zero=>omega
  |succ n=>
   have hA:At r lr:=hA
   rw[Rd.labels,hA.Nq hN,Option.bind_some]
   simp[Rd.mv]
 | cons t c ls m ht hc oQ _ ih=>
  intro r lr out n hA hN ho hn
  simp only[List.length_cons]at ho hn
  cases n with
  |zero=>omega
  |succ n=>
   have hA:At r (t::c::(m++lr)):=hA
   rw[Rd.labels,hA.JP ht hc oQ,Option.bind_some]
   simp only[↓reduceIte]
   rw[hA.ic (xZ ht),Option.bind_some,qY (by omega) (by omega),Option.bind_some]
   have kP:At ({r with i:=r.i+2} : Rd) (m++lr):=hA.one.one
   rw[ih _ lr _ n kP hN (by simp only[List.length_append,List.length_cons,List.length_nil];omega) (by omega)]
   simp only[List.append_assoc,List.cons_append,List.nil_append,Rd.mv,List.length_cons]
   congr 3
   omega
theorem acT {s:Sm} (h:s.one=true) (hx:s.x.kG) (ha : ∀ a∈s.args,a.x.kG):s.JM:=by
 unfold Sm.one at h
 split at h
 ·cases h
 rename_i c1
 split at h
 ·cases h
 rename_i c2
 split at h
 ·cases h
 rename_i c3
 split at h
 ·cases h
 rename_i c4
 simp only[Bool.or_eq_true,Bool.and_eq_true,decide_eq_true_eq,Bool.not_eq_true',not_or,Bool.not_eq_false,not_and,Bool.not_eq_true]at c1 c2 c3 c4
 refine⟨fun k=>sv (c1.1.1.2 k) hx,fun t ht=>gG (jB c1.1.1.1.2 ht), ?_, ?_,fun a m=>?_,by omega,fun k=>?_⟩
 ·cases hn:s.hasName with
  |true=>exact gG (c2.1 hn)
  |false=>
   by_cases e:s.name = []
   ·rw[e];simp
   ·exact gG (c2.2 ⟨hn,by simpa using e⟩).2
 ·cases hn:s.kO with
  |true=>exact gG (c3.1.2 hn)
  | false=>
   have:s.proc = []:=by
    have:=c3.1.1
    rw[hn]at this
    simpa using this
   rw[this];simp
 ·have hm:=Bw c4 m
  unfold Ar.may at hm
  split at hm
  ·rename_i hr
   simp only[Bool.and_eq_true]at hm
   exact⟨gG hm.1,fun h=>by rw[hr]at h;cases h⟩
  ·simp only [Bool.and_eq_true,beq_iff_eq]at hm
   exact⟨by rw[hm.1];simp,fun _=>sv hm.2 (ha a m)⟩
 ·simp only [Bool.and_eq_true,Bool.or_eq_true,beq_iff_eq]at h
  rcases h.2 with h|h
  ·exact List.eq_nil_of_length_eq_zero (by omega)
  ·omega
mutual
theorem Za : ∀ (s:Sm) (aN n:Nat),(aN:Int)≤12→(Sm.jU aN n s).1=true→s.kG→s.JO aN
 |⟨id,kind,labels,name,proc,x,has,args,aS,aL⟩,aN,n,fB,hm,hr=>by
  obtain⟨_,_,h1,h2,h3,_⟩:=mw hm
  obtain⟨r1,r2,r3,r4⟩:=(Sm.Vd _).1 hr
  rw[Dz]
  have t2:=fP h2
  have t3:=fP h3
  rw[t2.2]at h2
  rw[t3.2]at h3
  refine⟨acT h1 r1 r2,by omega, ?_, ?_⟩
  ·exact BP aS (aN+1) _ (t2.1.imp_right fun h=>by omega) (by simpa using h2) r3
  ·exact BP aL (aN+1) _ (t3.1.imp_right fun h=>by omega) (by simpa using h3) r4
theorem BP : ∀ (l:List Sm) (aN n:Nat),(l = []∨(aN:Int)≤12)→(Sm.dA aN n l).1=true→Sm.pU l→Sm.qD aN l
 | [],_,_,_,_,_=>by simp only[Sm.qD]
 |s::l,aN,n,fB,hm,hr=>by
  have fB:(aN:Int)≤12:=fB.resolve_left (by simp)
  simp only[Sm.dA]at hm
  simp only[Sm.pU]at hr
  split at hm
  ·cases hm
  rename_i hc
  simp only[Bool.not_eq_true',Bool.not_eq_false]at hc
  exact⟨Za s aN n fB hc hr.1,BP l aN _ (.inr fB) hm hr.2⟩
end
theorem Ix {p:Pg} (h:p.may=true) (hr:p.kG):p.PrG:=by
 rw[← ui]at h
 unfold Pg.zH at h
 split at h
 ·cases h
 rename_i c
 simp only[Bool.or_eq_true,Bool.not_eq_true',not_or,Bool.not_eq_false]at c
 refine⟨fun t ht=>gG (jB c.2 ht),fun f hf=>?_⟩
 obtain⟨⟨a,b,c,d⟩,n,e⟩:=Dl h hf
 have t:=fP e
 rw[t.2]at e
 exact⟨gG a,fun x hx=>gG (yG d hx),fun x hx=>gG (jB b hx),fun x hx=>gG (jB c hx),BP f.body 1 n (.inr (by omega)) e (hr f hf)⟩
set_option maxRecDepth 8000
open Go.Proofs
def pd (x:Ex):Int:=if eI x.op<2 then 7 else du x.op
theorem DA {op:Int} (ho:(decide (5≤op) && decide (op≤17))=true):eI op=2:=by
 simp only[Bool.and_eq_true,decide_eq_true_eq]at ho
 have c:(decide (op≥5) && decide (op≤17))=true:=by simp;omega
 have c1:(op==1)=false:=beq_eq_false_iff_ne.2 (by omega)
 have c2:(op==2)=false:=beq_eq_false_iff_ne.2 (by omega)
 have c3:(op==3)=false:=beq_eq_false_iff_ne.2 (by omega)
 have c4:(op==4)=false:=beq_eq_false_iff_ne.2 (by omega)
 simp only[eI,c,c1,c2,c3,c4,Bool.or_self,Bool.false_eq_true,↓reduceIte]
theorem AS {x:Ex} (h:eI x.op=2→(decide (5≤x.op) && decide (x.op≤17))=true) (ha:eI x.op≤2) (s:St):aA Tryz.prog rE [.agg (bx x)] s (.int .i64 (pd x)) s:=by
 refine aA.pure ?_ (by simp[D.bN,D.ok,gE]) rfl s
 have h1:=fun s=>ud x.op s
 unfold S0 pd
 by_cases c:eI x.op<2
 ·have c1:decide (eI x.op<2)=true:=decide_eq_true c
  rw[if_pos c]
  refine aA.go B7 rfl fun B Q hB hQ=>?_
  have⟨hY,hZ,gA,gB⟩:=bu
  repeat' (first
 |simp only[go_sem,hY,hZ,gA,gB,c1]
 |(with_reducible refine CU (h1 _) ?_)
 |(with_reducible refine aB hQ ?_;exact aU))
 ·have c1:decide (eI x.op<2)=false:=decide_eq_false c
  have ho:=h (by omega)
  rw[if_neg c]
  unfold du
  refine aA.go B7 rfl fun B Q hB hQ=>?_
  have⟨hY,hZ,gA,gB⟩:=bu
  repeat' (first
 |simp only[go_sem,hY,hZ,gA,gB,c1]
 |(with_reducible refine CU (h1 _) ?_)
 |(with_reducible refine CU (Pz ho _) ?_)
 |(with_reducible refine CU (ab8 _ _) ?_)
 |(with_reducible refine aB hQ ?_;exact aU))
theorem Hr {x:Ex} (hF:fW x) (hn:x.nodes≤1000000) (he : ∀ s:St,aA Tryz.prog il [.agg (bx x)] s (.str (dV 0 x)) s) {least:Int} (hl:least≤7) (s:St):aA Tryz.prog qN [.agg (bx x), .int .i64 least] s (.str (dV least x)) s:=by
 refine aA.pure ?_ (by simp[D.bN,D.ok,gE]) rfl s
 have hm : ∀ s:St,aA Tryz.prog rE [.agg (bx x)] s (.int .i64 (pd x)) s:=by
  cases hF with
  |num n=>exact fun s=>AS (by intro h;simp[eI]at h) (by simp[eI]) s
  |name n=>exact fun s=>AS (by intro h;simp[eI]at h) (by simp[eI]) s
  |neg n=>exact fun s=>AS (by intro h;simp[eI]at h) (by simp[eI]) s
  |no n=>exact fun s=>AS (by intro h;simp[eI]at h) (by simp[eI]) s
  |two op a b ho=>exact fun s=>AS (fun _=>ho) (by simp only[DA ho];omega) s
 have key:dV least x=if pd x<least then [40]++dV 0 x++ [41]else dV 0 x:=by
  cases hF with
  |num n=>rw[if_neg (by simp[pd,eI];omega)];simp only[vw]
  |name n=>rw[if_neg (by simp[pd,eI];omega)];simp only[su]
  |neg n=>rw[if_neg (by simp[pd,eI];omega)];simp only[vx]
  |no n=>rw[if_neg (by simp[pd,eI];omega)];simp only[yW]
  |two op a b ho=>
   obtain⟨p1,p2,_⟩:=sr ho
   have:pd ⟨op,0,[],[a,b]⟩=du op:=by unfold pd;simp only[DA ho];rfl
   rw[this,tu,tu,if_neg (c:=du op<0) (by omega)]
 have lx:=jt hF 0
 have m1:(1:Nat)+(dV 0 x).length≤aF:=by unfold aF;omega
 have m2:(dV 0 x).length+1+1≤aF:=by unfold aF;omega
 rw[key]
 unfold S0
 by_cases c:pd x<least
 ·have c1:decide (pd x<least)=true:=decide_eq_true c
  rw[if_pos c]
  refine aA.go C7 rfl fun B Q hB hQ=>?_
  have⟨hY,hZ,gA,gB⟩:=bu
  repeat' (first
 |simp only[go_sem,hY,hZ,gA,gB,c1,m1,m2]
 |(with_reducible refine CU (hm _) ?_)
 |(with_reducible refine CU (he _) ?_)
 |(with_reducible refine aB hQ ?_;exact aU))
 ·have c1:decide (pd x<least)=false:=decide_eq_false c
  rw[if_neg c]
  refine aA.go C7 rfl fun B Q hB hQ=>?_
  have⟨hY,hZ,gA,gB⟩:=bu
  repeat' (first
 |simp only[go_sem,hY,hZ,gA,gB,c1]
 |(with_reducible refine CU (hm _) ?_)
 |(with_reducible refine CU (he _) ?_)
 |(with_reducible refine aB hQ ?_;exact aU))
theorem PE {x:Ex} (h:fW x):x.nodes≤1000000→∀ s:St,aA Tryz.prog il [.agg (bx x)] s (.str (dV 0 x)) s:=by
 induction h with
 |num n h0 h1=>intro _ s;rw[vw];exact Y3 h0 h1 s
 |name t h=>intro _ s;rw[su];exact VQ t s
 |neg y hy ih=>
  intro hn s
  refine aA.pure ?_ (by simp[D.bN,D.ok,gE]) rfl s
  simp only[Ex.nodes,Ex.jC]at hn
  have i1:=Hr hy (by omega) (ih (by omega)) (least:=7) (by omega)
  have l1:=jt hy 7
  have m1:(1:Nat)+(dV 7 y).length≤aF:=by unfold aF;omega
  have a1:eI 3=1:=rfl
  have b0:((1:Int)==0)=false:=rfl
  have b1:((1:Int)==1)=true:=rfl
  have b3:((3:Int)==3)=true:=rfl
  rw[vx]
  unfold S0
  refine aA.go pE rfl fun B Q hB hQ=>?_
  have⟨hY,hZ,gA,gB⟩:=bu
  repeat' (first
 |simp only[go_sem,hY,hZ,gA,gB,a1,b0,b1,b3,m1]
 |(with_reducible refine CU (ud _ _) ?_)
 |(with_reducible refine CU (i1 _) ?_)
 |(with_reducible refine aB hQ ?_;exact aU))
 |no y hy ih=>
  intro hn s
  refine aA.pure ?_ (by simp[D.bN,D.ok,gE]) rfl s
  simp only[Ex.nodes,Ex.jC]at hn
  have i1:=Hr hy (by omega) (ih (by omega)) (least:=7) (by omega)
  have l1:=jt hy 7
  have m1:(1:Nat)+(dV 7 y).length≤aF:=by unfold aF;omega
  have a1:eI 4=1:=rfl
  have b0:((1:Int)==0)=false:=rfl
  have b1:((1:Int)==1)=true:=rfl
  have b3:((4:Int)==3)=false:=rfl
  rw[yW]
  unfold S0
  refine aA.go pE rfl fun B Q hB hQ=>?_
  have⟨hY,hZ,gA,gB⟩:=bu
  repeat' (first
 |simp only[go_sem,hY,hZ,gA,gB,a1,b0,b1,b3,m1]
 |(with_reducible refine CU (ud _ _) ?_)
 |(with_reducible refine CU (i1 _) ?_)
 |(with_reducible refine aB hQ ?_;exact aU))
 |two op a b ho ha hb vb wa=>
  intro hn s
  refine aA.pure ?_ (by simp[D.bN,D.ok,gE]) rfl s
  simp only[Ex.nodes,Ex.jC]at hn
  obtain⟨p1,p2,_⟩:=sr ho
  have i1:=Hr ha (by omega) (vb (by omega)) (least:=du op) (by omega)
  have i2:=Hr hb (by omega) (wa (by omega)) (least:=du op+1) (by omega)
  have em:pd ⟨op,0,[],[a,b]⟩=du op:=by unfold pd;simp only[DA ho];rfl
  have hm:=fun s=>AS (x:=⟨op,0,[],[a,b]⟩) (fun _=>ho) (by simp only[DA ho];omega) s
  rw[em]at hm
  simp only[gv,List.map_cons,List.map_nil]at hm
  simp only[← gv]at hm
  have l1:=jt ha (du op)
  have l2:=jt hb (du op+1)
  have l3:=BM ho
  have hw:IntKind.wrap .i64 (du op+1)=du op+1:=by rw[bC]<;>omega
  have m1:(dV (du op) a).length+1≤aF:=by unfold aF;omega
  have m2:(dV (du op) a).length+1+(iH op).length≤aF:=by unfold aF;omega
  have m3:(dV (du op) a).length+1+(iH op).length+1≤aF:=by unfold aF;omega
  have m4:(dV (du op) a).length+1+(iH op).length+1+(dV (du op+1) b).length≤aF:=by unfold aF;omega
  have a1:=DA ho
  have b0:((2:Int)==0)=false:=rfl
  have b1:((2:Int)==1)=false:=rfl
  rw[tu,if_neg (by omega)]
  unfold Hj
  unfold S0
  refine aA.go pE rfl fun B Q hB hQ=>?_
  have⟨hY,hZ,gA,gB⟩:=bu
  repeat' (first
 |simp only[go_sem,hY,hZ,gA,gB,a1,b0,b1,hw,m1,m2,m3,m4,Int.toNat_one,List.getElem?_cons_succ,List.getElem?_cons_zero]
 |(with_reducible refine CU (ud _ _) ?_)
 |(with_reducible refine CU (i1 _) ?_)
 |(with_reducible refine CU (i2 _) ?_)
 |(with_reducible refine CU (Pz ho _) ?_)
 |(with_reducible refine CU (hm _) ?_)
 |(with_reducible refine aB hQ ?_;exact aU))
def tw (sep:ay):Nat→List ay→ay
 |_,[]=> []
 |k,a::l=>(if k=0 then []else sep)++(a++tw sep (k+1) l)
theorem Hs (sep:ay) : ∀ (l:List ay) (k:Nat),tw sep (k+1) l=(l.map (sep++ ·)).flatten
 | [],_=>rfl
 |a::l,k=>by simp only[tw,Hs sep l,List.map_cons,List.flatten_cons,if_neg (Nat.succ_ne_zero k),List.append_assoc]
theorem Nr (sep:ay) : ∀ l:List ay,tw sep 0 l=Lib.join l sep
 | []=>by simp[tw,Lib.join]
 | [a]=>by simp[tw,Lib.join,List.intercalate]
 |a::b::l=>by
  have:=Nr sep (b::l)
  simp only[tw,↓reduceIte,List.nil_append]at this
  have e:Lib.join (a::b::l) sep=a++(sep++Lib.join (b::l) sep):=by simp only[Lib.join,List.intercalate_cons_cons,List.append_assoc]
  rw[e, ← this]
  simp only[tw,↓reduceIte,List.nil_append,if_neg (Nat.succ_ne_zero 0),Hs,Nat.zero_add]
theorem acU {l:List ay} {sep:ay} (hn:l.length≤140737488355328) (hlen:(Lib.join l sep).length≤540000000000) (s:St) :
 aA Tryz.prog nU [.slice .shared 1 (l.map encStr), .str sep] s (.str (Lib.join l sep)) s:=by
 refine aA.pure ?_ (by simp[D.bN,D.ok,fw,Tag.ok]) rfl s
 generalize hR:Lib.join l sep=R
 rw[hR]at hlen
 rw[← Nr]at hR
 unfold S0
 refine aA.go J6 rfl fun B Q hB hQ=>?_
 have⟨hY,hZ,gA,gB⟩:=bu
 repeat' (first
 |simp only[go_sem,hY,hZ,gA,gB]
 |(with_reducible refine aB hQ ?_;exact aU))
 refine cq 0 0 (bn.ind (ι:=List ay×Nat×ay) (fun i=>l.drop i.2.1=i.1∧i.2.2++tw sep i.2.1 i.1=R) (fun i=>i.1.length)
  (fun i=> [(0, .slice .shared 1 (l.map encStr)),(1, .str sep),(5, .str i.2.2),(7, .slice .shared 1 (l.map encStr)),(8, .int .i64 (l.length:Int)),(9, .int .i64 (i.2.1:Int))]) (fun i=>⟨[],[]⟩) ?_ (l,0,[]) ⟨rfl,hR⟩)
 rintro⟨rest,k,acc⟩ ⟨h1,h2⟩ IH
 dsimp only at h1 h2
 cases rest with
 |nil=>
  have hY:=drop_nil h1
  simp only[tw,List.append_nil]at h2
  subst h2
  repeat' (first
 |simp only[go_sem,hY,hZ,gA,gB]
 |(with_reducible refine aB hQ ?_;exact aU))
 | cons a rest=>
  obtain⟨hZ,g2,hY,g4⟩:=drop_cons h1
  have hk:k<4611686018427387904:=by omega
  have w1:IntKind.wrap .i64 ((k:Int)+1)=((k+1:Nat):Int):=by rw[bC]<;>omega
  simp only[tw]at h2
  have jc:=congrArg List.length h2
  simp only[List.length_append]at jc
  by_cases k0:k=0
  ·have c:decide ((k:Int) > 0)=false:=by simp;omega
   have m1:acc.length+a.length≤aF:=by unfold aF;omega
   rw[if_pos k0,List.nil_append]at h2
   repeat' (first
 |simp only[go_sem,hY,hZ,gA,gB,c,w1,m1]
 | (with_reducible refine aB hQ ?_;exact aU))
   refine cq 0 0 (IH (rest,k+1,acc++a) ⟨g2,by rw[← h2];simp only[List.append_assoc]⟩ (by simp))
  ·have c:decide ((k:Int) > 0)=true:=by simp;omega
   rw[if_neg k0]at jc h2
   have m1:acc.length+sep.length≤aF:=by unfold aF;omega
   have m2:acc.length+sep.length+a.length≤aF:=by unfold aF;omega
   repeat' (first
 |simp only[go_sem,hY,hZ,gA,gB,c,w1,m1,m2]
 | (with_reducible refine aB hQ ?_;exact aU))
   refine cq 0 0 (IH (rest,k+1,acc++sep++a) ⟨g2,by rw[← h2];simp only[List.append_assoc]⟩ (by simp))
theorem D5 {l:List ay} {sep:ay} (hn:l.length≤140737488355328) (hlen:(Lib.join l sep).length≤540000000000) (g:Tag) (s:St) :
 aA Tryz.prog nU [.slice g 1 (l.map encStr), .str sep] s (.str (Lib.join l sep)) s:=
 fh.CR (.cons (Wk.shared _ _ _) (.cons (Wk.refl _) .nil)) (acU hn hlen s)
theorem PF {l:List ay} (hn:l.length≤10000000) (h : ∀ t∈l,t.length≤8) (s:St):aA Tryz.prog uK [.slice .shared 1 (l.map encStr), .str [58,32]] s (.str (dQ l)) s:=by
 refine aA.pure ?_ (by simp[D.bN,D.ok,fw,Tag.ok]) rfl s
 unfold S0
 generalize hR:dQ l=R
 have hlen:=nN h
 rw[hR]at hlen
 refine aA.go J7 rfl fun B Q hB hQ=>?_
 have⟨hY,hZ,gA,gB⟩:=bu
 repeat' (first
 |simp only[go_sem,hY,hZ,gA,gB]
 |(with_reducible refine aB hQ ?_;exact aU))
 refine cq 0 0 (bn.ind (ι:=List ay×Nat×ay) (fun i=>l.drop i.2.1=i.1∧i.2.2++dQ i.1=R) (fun i=>i.1.length)
  (fun i=> [(0, .slice .shared 1 (l.map encStr)),(1, .str [58,32]),(5, .str i.2.2),(7, .slice .shared 1 (l.map encStr)),(8, .int .i64 (l.length:Int)),(9, .int .i64 (i.2.1:Int))]) (fun i=>⟨[],[]⟩) ?_ (l,0,[]) ⟨rfl,hR⟩)
 rintro⟨rest,k,acc⟩ ⟨h1,h2⟩ IH
 dsimp only at h1 h2
 cases rest with
 |nil=>
  have hY:=drop_nil h1
  simp only[dQ,List.append_nil]at h2
  repeat' (first
 |simp only[go_sem,hY,hZ,gA,gB,h2]
 |(with_reducible refine aB hQ ?_;exact aU))
 |cons t rest=>
  obtain⟨hZ,g2,hY,g4⟩:=drop_cons h1
  have gA:k<4611686018427387904:=by omega
  have w1:IntKind.wrap .i64 ((k:Int)+1)=((k+1:Nat):Int):=by rw[bC]<;>omega
  have ry:acc.length+t.length+2≤R.length:=by rw[← h2];simp only[dQ,List.length_append,List.length_cons,List.length_nil];omega
  have m1:t.length+1+1≤aF:=by unfold aF;omega
  have m2:acc.length+(t.length+1+1)≤aF:=by unfold aF;omega
  repeat' (first
 |simp only[go_sem,hY,hZ,gA,gB,w1,m1,m2]
 |(with_reducible refine aB hQ ?_;exact aU))
  refine cq 0 0 (IH (rest,k+1,acc++(t++ [58,32])) ⟨g2,by rw[← h2];simp[dQ]⟩ (by simp))
theorem acV {s:Sm} (h:s.JM) (hs:s.size≤1000000) (st:St):aA Tryz.prog zz [.agg (bh s)] st (.str (uT s.name s.proc s.args++ [59])) st:=by
 refine aA.pure ?_ (by simp[D.bN,D.ok,np]) rfl st
 obtain⟨id,kind,labels,name,proc,x,has,args,aS,aL⟩:=s
 obtain⟨hx,_,wz,rR,l7,_,_⟩:=h
 dsimp only at hx wz rR l7 ⊢
 simp only[Sm.size]at hs
 unfold S0
 have ry:=Nl l7
 have asz:=Ar.cu args
 have ej:=fun s=>D5 (l:=args.map jD) (sep:= [44,32]) (by simp;omega) (by omega) (.tok 0) s
 have m1:proc.length+1≤aF:=by unfold aF;omega
 have m2:proc.length+1+(Lib.join (args.map jD) [44,32]).length≤aF:=by unfold aF;omega
 have m3:proc.length+1+(Lib.join (args.map jD) [44,32]).length+1+1≤aF:=by unfold aF;omega
 have m4:name.length+1+1+1≤aF:=by unfold aF;omega
 have m5:name.length+1+1+1+(proc.length+1+(Lib.join (args.map jD) [44,32]).length+1+1)≤aF:=by unfold aF;omega
 refine aA.go Kc rfl fun B Q hB hQ=>?_
 have⟨hY,hZ,gA,gB⟩:=bu
 repeat' (first
 |simp only[go_sem,hY,hZ,gA,gB]
 |(with_reducible first|refine bq fun hc=>?_|refine br fun hc=>?_|refine bt (fun hc=>?_) fun hc=>?_)<;>(try simp only[hc,bs,↓reduceIte]at h)<;>try simp only[hc]
 |(with_reducible refine aB hQ ?_;exact aU))
 refine bn.oZ 3 1 rfl ?_
 simp only[go_sem,hY,hZ,gA,gB]
 refine cq 1 1 (bn.ind (ι:=List Ar×Nat×List ay) (fun i=>args.drop i.2.1=i.1∧i.2.2++i.1.map jD=args.map jD∧i.2.2.length=i.2.1) (fun i=>i.1.length)
  (fun i=> [(1, .ptr 0 0),(3, .slice (.tok 0) 1 (i.2.2.map encStr)),(8, .slice .shared 6 (args.map fb)),(9, .int .i64 (args.length:Int)),(10, .int .i64 (i.2.1:Int))]) (fun i=>⟨[bh ⟨id,kind,labels,name,proc,x,has,args,aS,aL⟩],[some i.2.1]⟩) ?_ (args,0,[]) ⟨rfl,rfl,rfl⟩)
 rintro⟨rest,k,acc⟩ ⟨h1,h2,h3⟩ IH
 dsimp only at h1 h2 h3
 cases rest with
 | nil=>
  have hY:=drop_nil h1
  simp only[List.map_nil,List.append_nil]at h2
  subst h2
  cases cn:name == []with
  |true=>
   have ec:uT name proc args++ [59] = proc++ [40]++Lib.join (args.map jD) [44,32]++ [41,59]:=by rw[uT,if_pos (by simpa using cn),List.nil_append];simp only[List.append_assoc,List.cons_append,List.nil_append]
   repeat' (first
 |simp only[go_sem,hY,hZ,gA,gB,m1,m2,m3,cn,ec]
 |(with_reducible refine CU (ej _) ?_)
 |(with_reducible first|refine bq fun hc=>?_|refine br fun hc=>?_|refine bt (fun hc=>?_) fun hc=>?_)<;>(try simp only[hc,bs,↓reduceIte]at h)<;>try simp only[hc]
 | (with_reducible refine aB hQ ?_;simp only [cj,cr,dK,dL,go_sem,hY,hZ,gA,gB,m1,m2,m3,cn,ec];try exact dM))
  |false=>
   have ec:uT name proc args++ [59] = name++ [32,61,32]++(proc++ [40]++Lib.join (args.map jD) [44,32]++ [41,59]):=by rw[uT,if_neg (by simpa using cn)];simp only[List.append_assoc,List.cons_append,List.nil_append]
   repeat' (first
 |simp only[go_sem,hY,hZ,gA,gB,m1,m2,m3,m4,m5,cn,ec]
 |(with_reducible refine CU (ej _) ?_)
 |(with_reducible first|refine bq fun hc=>?_|refine br fun hc=>?_|refine bt (fun hc=>?_) fun hc=>?_)<;>(try simp only[hc,bs,↓reduceIte]at h)<;>try simp only[hc]
 |(with_reducible refine aB hQ ?_;simp only[cj,cr,dK,dL,go_sem,hY,hZ,gA,gB,m1,m2,m3,m4,m5,cn,ec];try exact dM))
 | cons a rest=>
  obtain⟨hZ,g2,hY,g4⟩:=drop_cons h1
  have iW:=List.mem_of_getElem? hZ
  obtain⟨ha1,ha2⟩:=l7 a iW
  have ew:=Ar.bJ iW
  have han:=qX a.x.size a.x (Nat.le_refl _)
  have hk:k<4611686018427387904:=by omega
  have w1:IntKind.wrap .i64 ((k:Int)+1)=((k+1:Nat):Int):=by rw[bC]<;>omega
  have gA:(k+1)*17≤aF:=by unfold aF;omega
  cases hr:a.ref with
  |true=>
   have m1:(4:Nat)+a.name.length≤aF:=by unfold aF;omega
   have ea:jD a = [114,101,102,32]++a.name:=by simp only[jD,hr,↓reduceIte]
   repeat' (first
 |simp only[go_sem,hY,hZ,gA,gB,hr,m1,w1,h3]
 | (with_reducible refine aB hQ ?_;exact aU))
   refine eQ 1 1 ?_ ?_ (IH (rest,k+1,acc++ [jD a]) ⟨g2,by rw[← h2];simp,by simp[h3]⟩ (by simp))
   ·(simp only[go_sem,hY,hZ,gA,gB,ea,List.cons_append,List.nil_append];try exact bQ)
   ·(simp only[go_sem,hY,hZ,gA,gB,ea,List.cons_append,List.nil_append];try exact bQ)
  |false=>
   have e1:=fun s=>PE (ha2 hr) (by omega) s
   have ea:jD a=dV 0 a.x:=by simp only[jD,hr,Bool.false_eq_true,↓reduceIte]
   repeat' (first
 |simp only[go_sem,hY,hZ,gA,gB,hr,w1,h3]
 |(with_reducible refine CU (e1 _) ?_)
 | (with_reducible refine aB hQ ?_;exact aU))
   refine eQ 1 1 ?_ ?_ (IH (rest,k+1,acc++ [jD a]) ⟨g2,by rw[← h2];simp,by simp[h3]⟩ (by simp))
   ·(simp only[go_sem,hY,hZ,gA,gB,ea,List.cons_append,List.nil_append];try exact bQ)
   ·(simp only[go_sem,hY,hZ,gA,gB,ea,List.cons_append,List.nil_append];try exact bQ)
def j9 (s:Sm):ay:=if s.kind=6 then [119,104,105,108,101,32,40]++dV 0 s.x++ [41,32,123]else if s.kind=5 then [105,102,32,40]++dV 0 s.x++ [41,32,123]else gd s.kind s.name s.proc s.x s.has s.args++ [59]
theorem acW {s:Sm} (h:s.JM) (hs:s.size≤1000000) (st:St):aA Tryz.prog zv [.agg (bh s)] st (.str (j9 s)) st:=by
 refine aA.pure ?_ (by simp[D.bN,D.ok,np]) rfl st
 have SW:=fun st=>acV h hs st
 obtain⟨id,kind,labels,name,proc,x,has,args,aS,aL⟩:=s
 obtain⟨hx,_,wz,rR,l7,KY,_⟩:=h
 dsimp only at hx wz rR l7 KY SW ⊢
 simp only[dF]at SW
 simp only[Sm.size]at hs
 have hns:=qX x.size x (Nat.le_refl _)
 have hxn:x.nodes≤1000000:=by omega
 have k1:kind=1→fW x:=fun k=>hx (by simp[Sm.iZ,k])
 have k3:kind=3→fW x:=fun k=>hx (by simp[Sm.iZ,k])
 have k5:kind=5→fW x:=fun k=>hx (by simp[Sm.iZ,k])
 have k6:kind=6→fW x:=fun k=>hx (by simp[Sm.iZ,k])
 have k9:kind=9→has=true→fW x:=fun k h=>hx (by simp[Sm.iZ,k,h])
 have ee:=fun(hF:fW x) s=>PE hF hxn s
 simp only[gv]at ee
 unfold S0 j9 gd
 dsimp only
 have:kind=1∨kind=2∨kind=3∨kind=4∨kind=5∨kind=6∨kind=7∨kind=8∨kind=9∨kind=10:=by omega
 have m2:(5:Nat)+name.length≤aF:=by unfold aF;omega
 have m3:name.length+1+1+1+1+1+1≤aF:=by unfold aF;omega
 rcases this with rfl|rfl|rfl|rfl|rfl|rfl|rfl|rfl|rfl|rfl
 ·have e1:=ee (k1 rfl)
  have:=jt (k1 rfl) 0
  have m1:name.length+1+1+1≤aF:=by unfold aF;omega
  have m2:name.length+1+1+1+(dV 0 x).length≤aF:=by unfold aF;omega
  have m3:name.length+1+1+1+(dV 0 x).length+1≤aF:=by unfold aF;omega
  refine aA.go ig rfl fun B Q hB hQ=>?_
  have⟨hY,hZ,gA,gB⟩:=bu
  repeat' (first
 |simp only[go_sem,hY,hZ,gA,gB,Int.reduceEq,Int.reduceBEq,m1,m2,m3]
 |(with_reducible refine CU (e1 _) ?_)
 |(with_reducible first|refine bq fun hc=>?_|refine br fun hc=>?_|refine bt (fun hc=>?_) fun hc=>?_)<;>(try simp only[hc,bs,↓reduceIte]at h)<;>try simp only[hc]
 |(with_reducible refine aB hQ ?_;simp only[cj,cr,dK,dL,go_sem,hY,hZ,gA,gB,Int.reduceEq,Int.reduceBEq,m1,m2,m3];try exact dM))
 ·refine aA.go ig rfl fun B Q hB hQ=> ?_
  have⟨hY,hZ,gA,gB⟩:=bu
  repeat' (first
 |simp only[go_sem,hY,hZ,gA,gB,Int.reduceEq,Int.reduceBEq,m2,m3]
 |(with_reducible first|refine bq fun hc=>?_|refine br fun hc=>?_|refine bt (fun hc=>?_) fun hc=>?_)<;>(try simp only[hc,bs,↓reduceIte]at h)<;>try simp only[hc]
 |(with_reducible refine aB hQ ?_;simp only[cj,cr,dK,dL,go_sem,hY,hZ,gA,gB,Int.reduceEq,Int.reduceBEq,m2,m3];try exact dM))
 ·have e1:=ee (k3 rfl)
  have:=jt (k3 rfl) 0
  have m1:(6:Nat)+(dV 0 x).length≤aF:=by unfold aF;omega
  have m2:(dV 0 x).length+1+1+1+1+1+1+1≤aF:=by unfold aF;omega
  refine aA.go ig rfl fun B Q hB hQ=>?_
  have⟨hY,hZ,gA,gB⟩:=bu
  repeat' (first
 |simp only[go_sem,hY,hZ,gA,gB,Int.reduceEq,Int.reduceBEq,m1,m2]
 |(with_reducible refine CU (e1 _) ?_)
 |(with_reducible first|refine bq fun hc=>?_|refine br fun hc=>?_|refine bt (fun hc=>?_) fun hc=>?_)<;>(try simp only[hc,bs,↓reduceIte]at h)<;>try simp only[hc]
 |(with_reducible refine aB hQ ?_;simp only[cj,cr,dK,dL,go_sem,hY,hZ,gA,gB,Int.reduceEq,Int.reduceBEq,m1,m2];try exact dM))
 ·refine aA.go ig rfl fun B Q hB hQ=> ?_
  have⟨hY,hZ,gA,gB⟩:=bu
  repeat' (first
 |simp only[go_sem,hY,hZ,gA,gB,Int.reduceEq,Int.reduceBEq]
 |(with_reducible refine CU (SW _) ?_)
 |(with_reducible first|refine bq fun hc=>?_|refine br fun hc=>?_|refine bt (fun hc=>?_) fun hc=>?_)<;>(try simp only[hc,bs,↓reduceIte]at h)<;>try simp only[hc]
 |(with_reducible refine aB hQ ?_;simp only[cj,cr,dK,dL,go_sem,hY,hZ,gA,gB,Int.reduceEq,Int.reduceBEq];try exact dM))
 ·have e1:=ee (k5 rfl)
  have:=jt (k5 rfl) 0
  have m1:(4:Nat)+(dV 0 x).length≤aF:=by unfold aF;omega
  have m2:(dV 0 x).length+1+1+1+1+1+1+1≤aF:=by unfold aF;omega
  refine aA.go ig rfl fun B Q hB hQ=>?_
  have⟨hY,hZ,gA,gB⟩:=bu
  repeat' (first
 |simp only[go_sem,hY,hZ,gA,gB,Int.reduceEq,Int.reduceBEq,m1,m2]
 |(with_reducible refine CU (e1 _) ?_)
 |(with_reducible first|refine bq fun hc=>?_|refine br fun hc=>?_|refine bt (fun hc=>?_) fun hc=>?_)<;>(try simp only[hc,bs,↓reduceIte]at h)<;>try simp only[hc]
 |(with_reducible refine aB hQ ?_;simp only[cj,cr,dK,dL,go_sem,hY,hZ,gA,gB,Int.reduceEq,Int.reduceBEq,m1,m2];try exact dM))
 ·have e1:=ee (k6 rfl)
  have:=jt (k6 rfl) 0
  have m1:(7:Nat)+(dV 0 x).length≤aF:=by unfold aF;omega
  have m2:(dV 0 x).length+1+1+1+1+1+1+1+1+1+1≤aF:=by unfold aF;omega
  refine aA.go ig rfl fun B Q hB hQ=>?_
  have⟨hY,hZ,gA,gB⟩:=bu
  repeat' (first
 |simp only[go_sem,hY,hZ,gA,gB,Int.reduceEq,Int.reduceBEq,m1,m2]
 |(with_reducible refine CU (e1 _) ?_)
 |(with_reducible first|refine bq fun hc=>?_|refine br fun hc=>?_|refine bt (fun hc=>?_) fun hc=>?_)<;>(try simp only[hc,bs,↓reduceIte]at h)<;>try simp only[hc]
 |(with_reducible refine aB hQ ?_;simp only[cj,cr,dK,dL,go_sem,hY,hZ,gA,gB,Int.reduceEq,Int.reduceBEq,m1,m2];try exact dM))
 ·refine aA.go ig rfl fun B Q hB hQ=> ?_
  have⟨hY,hZ,gA,gB⟩:=bu
  repeat' (first
 |simp only[go_sem,hY,hZ,gA,gB,Int.reduceEq,Int.reduceBEq]
 |(with_reducible first|refine bq fun hc=>?_|refine br fun hc=>?_|refine bt (fun hc=>?_) fun hc=>?_)<;>(try simp only[hc,bs,↓reduceIte]at h)<;>try simp only[hc]
 |(with_reducible refine aB hQ ?_;simp only[cj,cr,dK,dL,go_sem,hY,hZ,gA,gB,Int.reduceEq,Int.reduceBEq];try exact dM))
 ·refine aA.go ig rfl fun B Q hB hQ=> ?_
  have⟨hY,hZ,gA,gB⟩:=bu
  repeat' (first
 |simp only[go_sem,hY,hZ,gA,gB,Int.reduceEq,Int.reduceBEq]
 |(with_reducible first|refine bq fun hc=>?_|refine br fun hc=>?_|refine bt (fun hc=>?_) fun hc=>?_)<;>(try simp only[hc,bs,↓reduceIte]at h)<;>try simp only[hc]
 |(with_reducible refine aB hQ ?_;simp only[cj,cr,dK,dL,go_sem,hY,hZ,gA,gB,Int.reduceEq,Int.reduceBEq];try exact dM))
 ·cases hh:has with
  |true=>
   have e1:=ee (k9 rfl hh)
   have:=jt (k9 rfl hh) 0
   have m1:(7:Nat)+(dV 0 x).length≤aF:=by unfold aF;omega
   have m2:(dV 0 x).length+1+1+1+1+1+1+1+1≤aF:=by unfold aF;omega
   refine aA.go ig rfl fun B Q hB hQ=>?_
   have⟨hY,hZ,gA,gB⟩:=bu
   repeat' (first
 |simp only[go_sem,hY,hZ,gA,gB,Int.reduceEq,Int.reduceBEq,m1,m2]
 |(with_reducible refine CU (e1 _) ?_)
 |(with_reducible first|refine bq fun hc=>?_|refine br fun hc=>?_|refine bt (fun hc=>?_) fun hc=>?_)<;>(try simp only[hc,bs,↓reduceIte]at h)<;>try simp only[hc]
 | (with_reducible refine aB hQ ?_;simp only [cj,cr,dK,dL,go_sem,hY,hZ,gA,gB,Int.reduceEq,Int.reduceBEq,m1,m2];try exact dM))
  |false=>
   refine aA.go ig rfl fun B Q hB hQ=>?_
   have⟨hY,hZ,gA,gB⟩:=bu
   repeat' (first
 |simp only[go_sem,hY,hZ,gA,gB,Int.reduceEq,Int.reduceBEq]
 |(with_reducible first|refine bq fun hc=>?_|refine br fun hc=>?_|refine bt (fun hc=>?_) fun hc=>?_)<;>(try simp only[hc,bs,↓reduceIte]at h)<;>try simp only[hc]
 |(with_reducible refine aB hQ ?_;simp only[cj,cr,dK,dL,go_sem,hY,hZ,gA,gB,Int.reduceEq,Int.reduceBEq];try exact dM))
 ·refine aA.go ig rfl fun B Q hB hQ=> ?_
  have⟨hY,hZ,gA,gB⟩:=bu
  repeat' (first
 |simp only[go_sem,hY,hZ,gA,gB,Int.reduceEq,Int.reduceBEq,m2,m3]
 |(with_reducible first|refine bq fun hc=>?_|refine br fun hc=>?_|refine bt (fun hc=>?_) fun hc=>?_)<;>(try simp only[hc,bs,↓reduceIte]at h)<;>try simp only[hc]
 |(with_reducible refine aB hQ ?_;simp only[cj,cr,dK,dL,go_sem,hY,hZ,gA,gB,Int.reduceEq,Int.reduceBEq,m2,m3];try exact dM))
theorem V0 {s:Sm} (h:s.JM):(j9 s).length≤25*s.x.size+27*Ar.aT s.args+31:=by
 have h1:=Hn h
 have h6:=qX s.x.size s.x (Nat.le_refl _)
 unfold j9
 split
 ·rename_i k
  have h5:=jt (h.x (by simp[Sm.iZ,k])) 0
  simp only[List.length_append,List.length_cons,List.length_nil];omega
 split
 ·rename_i k
  have h5:=jt (h.x (by simp[Sm.iZ,k])) 0
  simp only[List.length_append,List.length_cons,List.length_nil];omega
 ·simp only[List.length_append,List.length_cons,List.length_nil];omega
end Go.Abs
