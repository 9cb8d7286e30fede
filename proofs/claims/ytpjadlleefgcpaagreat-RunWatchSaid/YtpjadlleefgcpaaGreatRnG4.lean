/-
  What is proved here: part 4 of the road to the claim (RunC0, RunC1, RunC2, RunC3, RunC4, RunC5, RunC6, RunC7, RunSt, RunSz, Jm3, Rj1, Ck1, RunC8, RunC9, RunL0, RunL1, RunTp, RunEv, RunWa, RunL2, LawRu2, LawRu5, Glue2, Join, Binds1, Join2, Join3, Join4, Join5).
  No conditions.
-/
import Derived.Test.YtpjadlleefgcpaaGreatRnG3
import Derived.RowKit3
import Derived.WalkKit
import Derived.ProofKit
import Derived.OpenShut
import Derived.ShutString
import Derived.ChangeMaps5
import Derived.ChangeStays
import Derived.KernelRfl

set_option linter.unusedSimpArgs false
set_option linter.unusedVariables false
namespace Go.Abs
set_option maxRecDepth 8000
open Go.Proofs
theorem aF.ahA {P:Program} {f:FuncId} {args:List D} {z k:Nat} {rows:List (List D)} (h:aF P f args S0 (.slice (.tok 0) z rows) ⟨[],[some k]⟩) (ha:D.bK 0 0 args=true) (hr:D.gS 0 0 rows=true) (s:St) :
 aF P f args s (.slice (.tok s.aw.length) z rows) ⟨s.ah,s.aw++ [some k]⟩:=by
 refine bM.frame [] [] h List.nodup_nil List.nodup_nil (by simp) (by simp) rfl (by simp) rfl (by simp) (by rw[fB _ _ _ ha]) ha ?_
 rintro _ _ ⟨rfl,rfl⟩
 refine⟨by simp[D.back,D.cU,Tag.cU,kz,jm _ _ _ hr], ?_⟩
 simp[St.back,kD]
theorem PA (g:Tag) (z:Nat) (s:St):aF Tryz.prog kA [.slice g z []] s (.slice .full 1 []) s:=by
 refine bM.qY (.cons (Wk.nil _ _ 1) .nil) (aF.pure ?_ rfl rfl s)
 unfold S0
 refine aF.go pN rfl fun B Q hB hQ=>?_
 have⟨hD,hY,hZ,gA⟩:=bR
 repeat' (first
 |simp only[go_sem,hD,hY,hZ,gA]
 |(with_reducible first|refine bl fun hc=>?_|refine bm fun hc=>?_|refine bn (fun hc=>?_) fun hc=>?_)<;>(try simp only[hc,bs,↓reduceIte]at h)<;>try simp only[hc]
 |(with_reducible refine aE hQ ?_;exact fO)
 |(cases h;done))
 refine Uf (fun _=>?_) ?_
 ·repeat' (first
 |simp only[go_sem,hD,hY,hZ,gA,iB,true_or,Nat.zero_le]
 |(with_reducible first|refine bl fun hc=>?_|refine bm fun hc=>?_|refine bn (fun hc=>?_) fun hc=>?_)<;>(try simp only[hc,bs,↓reduceIte]at h)<;>try simp only[hc]
 |(with_reducible refine aE hQ ?_;(try cases h);simp only[aS,aV,bF,bG,go_sem,hD,hY,hZ,gA,iB,true_or,Nat.zero_le];try exact cq)
 |(cases h;done))
 ·repeat' (first
 |simp only[go_sem,hD,hY,hZ,gA,iB,true_or,Nat.zero_le]
 |(with_reducible first|refine bl fun hc=>?_|refine bm fun hc=>?_|refine bn (fun hc=>?_) fun hc=>?_)<;>(try simp only[hc,bs,↓reduceIte]at h)<;>try simp only[hc]
 |(with_reducible refine aE hQ ?_;(try cases h);simp only[aS,aV,bF,bG,go_sem,hD,hY,hZ,gA,iB,true_or,Nat.zero_le];try exact cq)
 |(cases h;done))
theorem PB {l:List aG} (hl:l.length<1073741824) (h0:l≠ []) (s:St):aF Tryz.prog kA [.slice .shared 1 (l.map encStr)] s (.slice (.tok s.aw.length) 1 (l.map encStr)) ⟨s.ah,s.aw++ [some l.length]⟩:=by
 refine aF.ahA ?_ (by simp[D.bK,D.ok,Tag.ok,fa]) (fa l) s
 unfold S0
 refine aF.goK 0 1 (Nat.zero_le _) (Nat.zero_le _) pN rfl fun B Q hB hQ=>?_
 have⟨hD,hY,hZ,gA⟩:=bR
 have ha:=fun o T=>zS (size:=1) (bytes:=16) (rows:=l.map encStr) (by simpa using h0) (by simp only[List.length_map];unfold bC;omega) (z:=1) (g:= .shared) o T
 cases l with
 |nil=>exact absurd rfl h0
 |cons x l=>
  simp only[List.map_cons,encStr]at ha
  repeat' (first
 |simp only[go_sem,hD,hY,hZ,gA,ha]
 |(with_reducible first|refine bl fun hc=>?_|refine bm fun hc=>?_|refine bn (fun hc=>?_) fun hc=>?_)<;>(try simp only[hc,bs,↓reduceIte]at h)<;>try simp only[hc]
 |(with_reducible refine aE hQ ?_;(try cases h);simp only[aS,aV,bF,bG,go_sem,hD,hY,hZ,gA,ha];try exact cq)
 |(cases h;done))
theorem Mk {a b:List aG} {n:Nat} (hn:n=a.length) (h:a.length+b.length≤1000000000) {g:Tag} {t:Nat} {s:St} (ht:s.aw[t]? = some (some n)) :
 iB 1 16 (.slice (.tok t) 1 (a.map encStr)) (.slice g 1 (b.map encStr)) s=some (.slice (.tok t) 1 ((a++b).map encStr),⟨s.ah,s.aw.set t (some (a++b).length)⟩):=by
 subst hn
 rw[nX (size:=1) (bytes:=16) (by simp only[List.length_map];unfold bC;omega) (by simpa using ht)]
 simp
theorem adZ {p:Pg} (h:p.iP) (hb:p.may=true) {name:aG} {f:Pc} (hf:p.find name=some f) (s:St):aF Tryz.prog vv [.agg (cz p), .str name] s (.slice .shared 1 ((p.globals++f.own).map encStr)) s:=by
 refine aF.pure ?_ (by simp[D.bK,D.ok,jw]) (by simp only[D.ok,Tag.ok,fa];rfl) s
 have hm:=fun s=>JL h.O9 s
 simp only[Cj,hb]at hm
 obtain⟨rV,rH,rG⟩:=h.procs
 simp only[Pg.find]at hf
 unfold S0
 refine aF.go FN rfl fun B Q hB hQ=>?_
 have⟨hD,hY,hZ,gA⟩:=bR
 repeat' (first
 |simp only[go_sem,hD,hY,hZ,gA]
 |(with_reducible refine CU (hm _) ?_)
 |(with_reducible first|refine bl fun hc=>?_|refine bm fun hc=>?_|refine bn (fun hc=>?_) fun hc=>?_)<;>(try simp only[hc,bs,↓reduceIte]at h)<;>try simp only[hc]
 |(with_reducible refine aE hQ ?_;exact fO)
 |(cases h;done))
 refine ff 1 0 (bp.ind (ι:=List Pc×Nat) (fun i=>p.procs.drop i.2=i.1∧iV name i.1=some f) (fun i=>i.1.length)
  (fun i=> [(1, .str name),(2, .ptr 0 0),(11, .slice .shared 5 (p.procs.map cu)),(12, .int .i64 (p.procs.length:Int)),(13, .int .i64 (i.2:Int))]) (fun i=>⟨[cz p],[]⟩) ?_ (p.procs,0) ⟨rfl,hf⟩)
 rintro⟨rest,k⟩ ⟨h1,h2⟩ IH
 dsimp only at h1 h2
 cases rest with
 |nil=>cases h2
 | cons a rest=>
  obtain⟨hY,g2,hD,g4⟩:=drop_cons h1
  have bO:k<4611686018427387904:=by omega
  have vM:=h.small (List.mem_of_getElem? hY)
  simp only[iV]at h2
  rcases Bool.eq_false_or_eq_true (a.name==name)with b1|b1
  ·simp only [b1,if_true]at h2
   cases h2
   have ho:=fun s=>XY (f:=f) vM.par vM.vars s
   have iZ:f.own.length<2000000:=by have:=vM.par;have:=vM.vars;simp[Pc.own,Pc.tx];omega
   cases e:p.globals with
   | nil=>
    simp only[List.nil_append]at *
    have c1:=fun g z s=>PA g z s
    cases e2:f.own with
    |nil=>
     rw[e2]at ho hQ
     have ha:=fun o T=>zT (size:=1) (bytes:=16) (z:=1) (z':=1) (g:= .shared) o T
     repeat' (first
 |simp only[go_sem,hD,hY,hZ,gA,b1,ha,e]
 |(with_reducible refine CU (c1 _ _ _) ?_)
 |(with_reducible refine CU (ho _) ?_)
 |(with_reducible first|refine bl fun hc=>?_|refine bm fun hc=>?_|refine bn (fun hc=>?_) fun hc=>?_)<;>(try simp only[hc,bs,↓reduceIte]at h)<;>try simp only[hc]
 |(with_reducible refine aE hQ ?_;(try cases h);simp only[aS,aV,bF,bG,go_sem,hD,hY,hZ,gA,b1,ha,e];try exact cq)
 | (cases h;done))
    |cons x l=>
     have ha:=fun o T=>zS (size:=1) (bytes:=16) (rows:=f.own.map encStr) (by simp[e2]) (by simp only[List.length_map];unfold bC;omega) (z:=1) (g:= .shared) o T
     repeat' (first
 |simp only[go_sem,hD,hY,hZ,gA,b1,ha,e]
 |(with_reducible refine CU (c1 _ _ _) ?_)
 |(with_reducible refine CU (ho _) ?_)
 |(with_reducible first|refine bl fun hc=>?_|refine bm fun hc=>?_|refine bn (fun hc=>?_) fun hc=>?_)<;>(try simp only[hc,bs,↓reduceIte]at h)<;>try simp only[hc]
 |(with_reducible refine aE hQ ?_;(try cases h);simp only[aS,aV,bF,bG,go_sem,hD,hY,hZ,gA,b1,ha,e];try exact cq)
 | (cases h;done))
   |cons x l=>
    have c1:=fun s=>PB (l:=p.globals) (by omega) (by simp[e]) s
    have ha:=fun {s:St} {t:Nat} (ht:s.aw[t]? = some (some p.globals.length))=>Mk (a:=p.globals) (b:=f.own) (g:= .shared) rfl (by omega) ht
    have wm:=fun o=>Mk (a:=p.globals) (b:=f.own) (g:= .shared) (t:=0) (s:=⟨o,[some p.globals.length]⟩) rfl (by omega) rfl
    repeat' (first
 |simp only[go_sem,hD,hY,hZ,gA,b1,wm]
 |(with_reducible refine CU (c1 _) ?_)
 |(with_reducible refine CU (ho _) ?_)
 |(with_reducible first|refine bl fun hc=>?_|refine bm fun hc=>?_|refine bn (fun hc=>?_) fun hc=>?_)<;>(try simp only[hc,bs,↓reduceIte]at h)<;>try simp only[hc]
 |(with_reducible refine aE hQ ?_;(try cases h);simp only[aS,aV,bF,bG,go_sem,hD,hY,hZ,gA,b1,wm];try exact cq)
 | (cases h;done))
  ·simp only [b1,Bool.false_eq_true,if_false]at h2
   repeat' (first
 |simp only[go_sem,hD,hY,hZ,gA,b1]
 |(with_reducible first|refine bl fun hc=>?_|refine bm fun hc=>?_|refine bn (fun hc=>?_) fun hc=>?_)<;>(try simp only[hc,bs,↓reduceIte]at h)<;>try simp only[hc]
 |(with_reducible refine aE hQ ?_;(try cases h);simp only[aS,aV,bF,bG,go_sem,hD,hY,hZ,gA,b1];try exact cq)
 | (cases h;done))
   refine eQ 1 0 ?_ ?_ (IH (rest,k+1) ⟨g2,h2⟩ (Nat.lt_succ_self _))
   ·(simp only[go_sem,hD,hY,hZ,gA,aI bO];try exact bX)
   ·(simp only[go_sem,hD,hY,hZ,gA,aI bO];try exact bX)
theorem Lv {p:Pg} (hb:p.may=true) {i:Nat} {f:Pc} (hf:p.procs[i]? = some f) : ∃ a b:Int,p.aX.lo[i]? = some a∧p.aX.hi[i]? = some b∧(if decide (a<b)=true then a else -1)=gd f.body (-1):=by
 obtain⟨a,b,e,h1,h2,h3,h4⟩:=(lg p).2 i f hf
 refine⟨_,_,h1,h2, ?_⟩
 cases B7:f.body with
 |nil=>
  rw[B7]at h3
  have:b = []:=by simpa[Sm.dd]using h3
  subst this
  simp[gd]
 | cons s l=>
  rw[B7,Sm.dd,Sm.qc]at h3
  cases b with
  |nil=>simp at h3
  | cons x b=>
   simp only[List.map_cons,List.cons_append,List.cons.injEq]at h3
   have hx:p.pre[a.length]? = some s:=by
    rw[← (lg p).1,h4]
    simp[h3.1]
   have:=BE hb hx
   rw[if_pos (by simp;omega)]
   simp only[gd]
   rw[this];omega
theorem Z3 {p:Pg} (hb:p.may=true) {i:Nat} {f:Pc} (hf:p.procs[i]? = some f) (s:St):aF Tryz.prog o8 [.dz (fA p) 0, .int .i64 (i:Int)] s (.int .i64 (gd f.body (-1))) s:=by
 refine aF.pure ?_ (by simp[D.bK,D.ok,uh]) rfl s
 obtain⟨a,b,h1,h2,h⟩:=Lv hb hf
 generalize gd f.body (-1)=R at h
 unfold S0
 rw[n7]
 refine aF.go zp rfl fun B Q hB hQ=>?_
 have⟨hD,hY,hZ,gA⟩:=bR
 repeat' (first
 |simp only[go_sem,hD,hY,hZ,gA,h1,h2]
 |(with_reducible first|refine bl fun hc=>?_|refine bm fun hc=>?_|refine bn (fun hc=>?_) fun hc=>?_)<;>(try simp only[hc,bs,↓reduceIte]at h)<;>try simp only[hc]
 |(with_reducible refine aE hQ ?_;(try cases h);simp only[aS,aV,bF,bG,go_sem,hD,hY,hZ,gA,h1,h2];try exact cq)
 |(cases h;done))
set_option maxRecDepth 8000
open Go.Proofs
section
variable {p:Pg} {T W:List Int} {y:Lay} {m:Mc} {loc:List (Nat×List D)} {s:St}
theorem jF.row {s:St} {d:D} {cs:List D} (h:jF s d cs) (hn:cs≠ []) : ∃ o g more,d = .eA 1 o g cs.length∧s.ah[o]? = some (.int .i64 ((g:Nat):Int)::(cs++more)):=by
 rcases h with ⟨_,h⟩|h
 ·exact absurd h hn
 ·exact h
theorem Inv.VQ (h:Inv p T W y m loc s) {fr:Fr} {r:List Fr} (jk:m.st=fr::r) : ∃ so g cells o,y.sd = .eA 1 so g (r.length+1)∧s.ah[so]? = some (.int .i64 ((g:Nat):Int)::cells)∧cells[r.length]? = some (.ptr o 0)∧s.ah[o]? = some (pw y.κ fr)∧y.φ[0]? = some o:=by
 have il:=h.sy
 rw[jk]at il
 cases hφ:y.φ with
 |nil=>rw[hφ]at il;simp at il
 | cons o φ=>
  rw[hφ]at il
  simp only[List.length_cons]at il
  obtain⟨so,g,more,h1,h2⟩:=h.stack.row (by simp[hφ])
  refine⟨so,g,_,o, ?_,h2, ?_,(h.frame 0 o fr (by rw[hφ];rfl) (by rw[jk];rfl)).1,rfl⟩
  ·rw[h1];simp[hφ];omega
  ·rw [hφ,List.reverse_cons,List.map_append,List.append_assoc,List.getElem?_append_right (by simp;omega)]
   simp[xH,show r.length - φ.length=0 by omega]
theorem PC (h:Inv p T W y m loc s) {fr:Fr} {r:List Fr} (jk:m.st=fr::r) (hs:r.length<1000000) : ∃ o,y.φ[0]? = some o∧s.ah[o]? = some (pw y.κ fr)∧aF Tryz.prog kL [.ptr 0 0] s (.ptr o 0) s:=by
 obtain⟨so,g,cells,o,h1,h2,h3,h4,h5⟩:=h.VQ jk
 refine⟨o,h5,h4, ?_⟩
 have hm:=h.jG
 rw[fy,h1]at hm
 have hw:IntKind.wrap .i64 (((r.length+1:Nat):Int) - 1)=((r.length:Nat):Int):=by rw[show((r.length+1:Nat):Int) - 1=(r.length:Int) by omega];exact ei (by omega) (by omega)
 have hl:(r.length<r.length+1)=True:=by simp
 refine bM.uC Az rfl fun B Q hB hQ=>?_
 have⟨hD,hY,hZ,gA⟩:=bR
 repeat' (first
 |simp only[go_sem,hD,hY,hZ,gA,hm,hw,h2,h3,hl,Nat.mul_one]
 |(with_reducible first|refine bl fun hc=>?_|refine bm fun hc=>?_|refine bn (fun hc=>?_) fun hc=>?_)<;>(try simp only[hc,bs,↓reduceIte]at h)<;>try simp only[hc]
 |(with_reducible refine aE hQ ?_;(try cases h);simp only[aS,aV,bF,bG,go_sem,hD,hY,hZ,gA,hm,hw,h2,h3,hl,Nat.mul_one];try exact cq)
 |(cases h;done))
 (refine gM hQ ?_;simp only[aS,aV,bF,bG,go_sem])
theorem Cu (h:Inv p T W y m loc s) {fr:Fr} {r:List Fr} (jk:m.st=fr::r) (hs:r.length<1000000) (hn:fr.names.length<1000000) {name:aG} {j c:Nat} (hj:jh name 0 fr.names=(j:Int)) (hc:fr.vars[j]? = some c) :
 aF Tryz.prog iN [.ptr 0 0, .str name] s (.ptr (y.κ.getD c 0) 0) s:=by
 obtain⟨o,_,h1,c1⟩:=PC h jk hs
 have c2:=fun s=>Cg (l:=fr.names) (by omega) name s
 rw[hj]at c2
 rw[pw]at h1
 refine bM.uC yj rfl fun B Q hB hQ=>?_
 have⟨hD,hY,hZ,gA⟩:=bR
 repeat' (first
 |simp only[go_sem,hD,hY,hZ,gA,h1,hc,fq,Option.map_some]
 |(with_reducible refine CU (c1) ?_)
 |(with_reducible refine CU (c2 _) ?_)
 |(with_reducible first|refine bl fun hc=>?_|refine bm fun hc=>?_|refine bn (fun hc=>?_) fun hc=>?_)<;>(try simp only[hc,bs,↓reduceIte]at h)<;>try simp only[hc]
 |(with_reducible refine aE hQ ?_;(try cases h);simp only[aS,aV,bF,bG,go_sem,hD,hY,hZ,gA,h1,hc,fq,Option.map_some];try exact cq)
 |(cases h;done))
 (refine gM hQ ?_;simp only[aS,aV,bF,bG,go_sem])
abbrev Rl (p:Pg) (T W:List Int) (d:D) (m':Mc) (X:Lay→Prop) (loc:List (Nat×List D)):D→St→Prop:=fun d' s'=>d'=d∧∃ y',X y'∧Inv p T W y' m' loc s'
theorem Ml (h:Inv p T W y m loc s) (hW:W.length<1000000) (ht:m.trace.length<2000000) (id:Int) (bN:List Int) :
 bM Tryz.prog ez [.ptr 0 0, .int .i64 id, .slice .shared 1 (bN.map bP)] s (Rl p T W (.tuple []) (m.event W id bN) (· = y) loc):=by
 have hm:=h.jG
 rw[fy]at hm
 have hl:=h.uH
 have c1:=fun s=>Lu (l:=W) (by omega) id s
 have eO:iB 2 32 (.slice (.tok 1) 2 (m.trace.map fj)) (.slice .full 2 [[.int .i64 id, .slice .shared 1 (bN.map bP)]]) s=some (.slice (.tok 1) 2 ((m.trace++ [(id,bN)]).map fj),⟨s.ah,s.aw.set 1 (some (m.trace.length+1))⟩):=by
  rw[nX (size:=2) (bytes:=32) (by simp only[List.length_map,List.length_singleton];unfold bC;omega) (by simpa using h.t1)]
  simp[fj]
 refine bM.uC yl rfl fun B Q hB hQ=>?_
 have⟨hD,hY,hZ,gA⟩:=bR
 cases hb:W.contains id
 ·repeat' (first
 |simp only[go_sem,hD,hY,hZ,gA,hm,hb]
 |(with_reducible refine CU (c1 _) ?_)
 |(with_reducible first|refine bl fun hc=>?_|refine bm fun hc=>?_|refine bn (fun hc=>?_) fun hc=>?_)<;>(try simp only[hc,bs,↓reduceIte]at h)<;>try simp only[hc]
 |(with_reducible refine aE hQ ?_;(try cases h);simp only[aS,aV,bF,bG,go_sem,hD,hY,hZ,gA,hm,hb];try exact cq)
 |(cases h;done))
  (refine gM hQ ?_;simp only[aS,aV,bF,bG,go_sem])
  refine⟨rfl,y,rfl, ?_⟩
  unfold Mc.event
  rw[hb]
  exact h
 ·repeat' (first
 |simp only[go_sem,hD,hY,hZ,gA,hm,hb,eO,hl]
 |(with_reducible refine CU (c1 _) ?_)
 |(with_reducible first|refine bl fun hc=>?_|refine bm fun hc=>?_|refine bn (fun hc=>?_) fun hc=>?_)<;>(try simp only[hc,bs,↓reduceIte]at h)<;>try simp only[hc]
 |(with_reducible refine aE hQ ?_;(try cases h);simp only[aS,aV,bF,bG,go_sem,hD,hY,hZ,gA,hm,hb,eO,hl];try exact cq)
 | (cases h;done))
  (refine gM hQ ?_;simp only[aS,aV,bF,bG,go_sem])
  refine⟨rfl,y,rfl, ?_⟩
  have:=h.tQ (m':=m.event W id bN) (ts:=s.aw.set 1 (some (m.trace.length+1))) (eW W m id bN).1 (eW W m id bN).2.1 (by rw[(eW W m id bN).2.2.2.2.2,List.getElem?_set_ne (by omega)];exact h.t0) (by
   unfold Mc.event
   rw[hb]
   simp[(List.getElem?_eq_some_iff.1 h.t1).1])
  unfold Mc.event at this ⊢
  rw[hb,if_pos rfl]at this ⊢
  simp only[fy,List.map_append,List.map_cons,List.map_nil]at this
  exact this
theorem Mm (l:List Sm) (hl:l.length<4611686018427387904) (o:Int) (s:St):aF Tryz.prog qa [.slice .shared 13 (l.map bh), .int .i64 o] s (.int .i64 (firstM l o)) s:=by
 refine aF.pure ?_ (by simp[D.bK,D.ok,Tag.ok,pD]) rfl s
 unfold S0
 cases l with
 |nil=>
  have e:decide ((0:Int) > 0)=false:=rfl
  simp only[firstM,gd,List.map_nil]
  refine aF.go Ao rfl fun B Q hB hQ=>?_
  have⟨hD,hY,hZ,gA⟩:=bR
  repeat' (first
 |simp only[go_sem,hD,hY,hZ,gA,e]
 |(with_reducible first|refine bl fun hc=>?_|refine bm fun hc=>?_|refine bn (fun hc=>?_) fun hc=>?_)<;>(try simp only[hc,bs,↓reduceIte]at h)<;>try simp only[hc]
 |(with_reducible refine aE hQ ?_;(try cases h);simp only[aS,aV,bF,bG,go_sem,hD,hY,hZ,gA,e];try exact cq)
 |(cases h;done))
 |cons a l=>
  have e:decide (((l.length+1:Nat):Int) > 0)=true:=by simp
  simp only[firstM,gd,List.map_cons]
  refine aF.go Ao rfl fun B Q hB hQ=>?_
  have⟨hD,hY,hZ,gA⟩:=bR
  repeat' (first
 |simp only[go_sem,hD,hY,hZ,gA,e]
 |(with_reducible first|refine bl fun hc=>?_|refine bm fun hc=>?_|refine bn (fun hc=>?_) fun hc=>?_)<;>(try simp only[hc,bs,↓reduceIte]at h)<;>try simp only[hc]
 |(with_reducible refine aE hQ ?_;(try cases h);simp only[aS,aV,bF,bG,go_sem,hD,hY,hZ,gA,e];try exact cq)
 |(cases h;done))
end
end Go.Abs
namespace Go.Abs
set_option maxRecDepth 8000
open Go.Proofs
section
variable {p:Pg} {T W:List Int} {y:Lay} {m:Mc} {loc:List (Nat×List D)} {s:St}
theorem Kq {s:St} {o g z bytes:Nat} {t:Tag} {cs more r:List D} {len:Nat} (hs:s.ah[o]? = some (.int .i64 (g:Int)::(cs++more))) (hl:cs.length=len*z) (hm:(len+1)*(bytes+1)≤bC) :
 AW z bytes (.eA z o g len) (.slice t z [r]) s=some (.eA z o (g+1) (len+1),⟨s.ah.set o (.int .i64 ((g+1:Nat):Int)::(cs++r)),s.aw⟩):=by
 have ha:nQ s o g=some (cs++more):=by unfold nQ;rw[hs];simp
 simp only[AW,ha,List.length_singleton,hm,or_true,and_self,if_true,List.flatten_cons,List.flatten_nil,List.append_nil]
 rw[if_pos (by simp;omega), ← hl,List.take_append_of_le_length (Nat.le_refl _),List.take_length]
theorem Wk.ahB (z z':Nat):Wk (.ek z) (.slice .shared z' []):=fun M s v h=>by
 cases h with
 |ek _ a=>cases a with
  |none=>exact .iA _ _ _ rfl trivial
  |some a=>exact .lB _ _ _
theorem aF.ahC {P:Program} {f:FuncId} {a b:D} {d:D} {s:St} {v:D} {l:List Int} (hv:jF s v (l.map qA)) (h : ∀ s,aF P f [a,b, .slice .shared 1 (l.map bP)] s d s) (ha:D.ok 0 0 a=true) (hb:D.ok 0 0 b=true) (hd:d.flat=true) :
 aF P f [a,b,v] s d s:=by
 rcases hv with ⟨rfl,e⟩|⟨o,g,more,rfl,e⟩
 ·have:l = []:=by simpa using e
  subst this
  exact bM.qY (.cons (Wk.refl _) (.cons (Wk.refl _) (.cons (Wk.ahB 1 1) .nil))) (h s)
 ·have dZ : ∀ l:List Int,(l.map bP).flatten=l.map qA:=fun l=>by
   induction l with
   |nil=>rfl
   |cons x l ih=>simp only[List.map_cons,List.flatten_cons,ih];rfl
  have hlen:(l.map qA).length=(l.map bP).length:=by simp
  rw[hlen]
  have e0:D.jx o g (l.map bP) [a,b, .eA 1 o g (l.map bP).length] = [a,b, .slice .shared 1 (l.map bP)]:=by
   simp only[D.jx,Jn _ _ _ a ha,Jn _ _ _ b hb,D.fK,and_self,if_true]
  refine aF.ajQ (k:=2) (rows:=l.map bP) rfl (by rw[dZ];exact e) (by intro r hr;obtain⟨x,_,rfl⟩:=List.mem_map.1 hr;rfl) ?_ ?_ hd
  ·rw[e0];exact h S0
  ·rw[e0];simp[D.bK,D.ok,Tag.ok,ha,hb,iz]
structure mU (m:Mc) (fr:Fr) (r:List Fr):Prop where
 st:m.st=fr::r
 len:r.length<1000000
 names:fr.names.length<1000000
 vars:fr.vars.length<1000000
theorem mU.top {fr:Fr} {r:List Fr} (h:mU m fr r):m.top=fr:=by simp[Mc.top,h.st]
theorem SE {fr:Fr} {k c:Nat} {rest:List Nat} (h:fr.vars.drop k=c::rest) (m:Mc):(fr.vars.take (k+1)).map (fun c=>m.mem.getD c 0)=(fr.vars.take k).map (fun c=>m.mem.getD c 0)++ [m.mem.getD c 0]:=by
 have:=(drop_cons h).1
 rw[List.take_add_one,this]
 simp
theorem DR (h:Inv p T W y m loc s) {fr:Fr} {r:List Fr} (ht:mU m fr r) {x:Ex} (hx:x.size<1000000) (htx:x.texts) :
 bM Tryz.prog jV [.ptr 0 0, .agg (cj x)] s (fun d s'=>Rl p T W (zR (m.bo x).1) (m.bo x).2 (fun y'=>y' = {y with vd:=y'.vd}) loc d s'∧s'.aw=s.aw):=by
 have h1:=h.new (cj x)
 generalize Yb:(s.ah.length,cj x)::loc=VR at h1
 obtain⟨o,ho,SF,c1⟩:=PC h1 ht.st ht.len
 have hm:=h1.jG
 rw[fy]at hm
 have hl:=h1.uH
 simp only at hm hl
 rw[pw]at SF
 have hvl:=ht.vars
 have Qr:=ht.names
 refine bM.uC yk rfl fun B Q hB hQ=>?_
 have⟨hD,hY,hZ,gA⟩:=bR
 -- the rounds
 have loop : ∀ (n k:Nat) (rest:List Nat) (vd:D) (s2:St),s2.aw=s.aw→rest.length=n→fr.vars.drop k=rest→Inv p T W {y with vd:=vd} m VR s2→jF s2 vd (((fr.vars.take k).map fun c=>m.mem.getD c 0).map qA)→
  bp Tryz.prog B 64 QRB (kC 0 (nT (ke Tryz.prog B 64 QRN Q) Q)) [(0, .ptr 0 0),(3, .ptr s.ah.length 0),(6, .ptr o 0),(24, .slice .shared 1 (fr.vars.map fun c=>fq (y.κ.getD c 0))),(25, .int .i64 (fr.vars.length:Int)),(26, .int .i64 (k:Int))] s2:=by
  intro n
  induction n with
  | zero=>
   intro k rest vd s2 vm A4 hd h2 ha
   have:rest = []:=List.eq_nil_of_length_eq_zero A4
   subst this
   have hD:=drop_nil hd
   have hk:fr.vars.take k=fr.vars:=List.take_of_length_le (List.drop_eq_nil_iff.1 hd)
   rw[hk]at ha
   have Yc:(fr.vars.map fun c=>m.mem.getD c 0)=m.bN:=by unfold Mc.bN;rw[ht.top]
   rw[Yc]at ha
   have jD:=h2.jG
   rw[fy]at jD
   have iY:=h2.uH
   have Hq:=(h2.frame 0 o fr ho (by rw[ht.st];rfl)).1
   rw[pw]at Hq
   have tF:=(h2.loc (s.ah.length,cj x) (by rw[← Yb];exact List.mem_cons_self ..)).1
   simp only at jD Hq tF
   have c2:aF Tryz.prog wD [.agg (cj x), .slice .shared 1 (fr.names.map encStr),vd] s2 (zR (x.bo fr.names m.bN)) s2:=
    aF.ahC ha (fun s=>VP (by omega) htx (by omega) (by rw[← Yc,List.length_map];omega) s) (by simp[D.ok,lU]) (by simp[D.ok,Tag.ok,fa]) (by simp[D.flat,D.Ep])
   have hw:(m.bo x).1=x.bo fr.names m.bN:=by unfold Mc.bo;rw[ht.top]
   generalize hr:x.bo fr.names m.bN=q at *
   have tr:(m.bo x).2=if q.2 then m else {m with fin:=4}:=by unfold Mc.bo;rw[ht.top,hr]
   obtain⟨q1,q2⟩:=q
   have vP:Inv p T W {y with vd:=vd} {m with fin:=4} VR ⟨s2.ah.set 0 (fy p T W {y with vd:=vd} {m with fin:=4}),s2.aw⟩:=h2.tQ (m':= {m with fin:=4}) rfl rfl h2.t0 h2.t1
   rw[fy]at vP
   have nG : ∀ q∈loc,q∈VR:=fun q mq=>by rw[← Yb];exact List.mem_cons_of_mem _ mq
   refine bp.kQ ?_
   cases q2
   ·repeat' (first
 |simp only[go_sem,hD,hY,hZ,gA,jD,iY,Hq,tF]
 |(with_reducible refine CU (c2) ?_)
 |(with_reducible first|refine bl fun hc=>?_|refine bm fun hc=>?_|refine bn (fun hc=>?_) fun hc=>?_)<;>(try simp only[hc,bs,↓reduceIte]at h)<;>try simp only[hc]
 |(with_reducible refine aE hQ ?_;(try cases h);simp only[aS,aV,bF,bG,go_sem,hD,hY,hZ,gA,jD,iY,Hq,tF];try exact cq)
 |(cases h;replace h:=hr;clear hr;(try simp only[bs,↓reduceIte]at h))
 | (cases h;done))
    (refine gM hQ ?_;simp only[aS,aV,bF,bG,go_sem])
    refine⟨⟨by rw[hw],{y with vd:=vd},rfl, ?_⟩,vm⟩
    rw[tr]
    exact vP.sub nG
   ·repeat' (first
 |simp only[go_sem,hD,hY,hZ,gA,jD,iY,Hq,tF]
 |(with_reducible refine CU (c2) ?_)
 |(with_reducible first|refine bl fun hc=>?_|refine bm fun hc=>?_|refine bn (fun hc=>?_) fun hc=>?_)<;>(try simp only[hc,bs,↓reduceIte]at h)<;>try simp only[hc]
 |(with_reducible refine aE hQ ?_;(try cases h);simp only[aS,aV,bF,bG,go_sem,hD,hY,hZ,gA,jD,iY,Hq,tF];try exact cq)
 |(cases h;replace h:=hr;clear hr;(try simp only[bs,↓reduceIte]at h))
 | (cases h;done))
    (refine gM hQ ?_;simp only[aS,aV,bF,bG,go_sem])
    refine⟨⟨by rw[hw],{y with vd:=vd},rfl, ?_⟩,vm⟩
    rw[tr]
    exact h2.sub nG
  | succ n ih=>
   intro k rest vd s2 vm A4 hd h2 ha
   cases rest with
   |nil=>cases A4
   | cons c rest=>
    obtain⟨hY,g2,hD,g4⟩:=drop_cons hd
    have bO:k<4611686018427387904:=by omega
    have SG:c<m.mem.length:=(h2.frame 0 o fr ho (by rw[ht.st];rfl)).2.2 c (List.mem_of_getElem? hY)
    have hκ:y.κ[c]? = some (y.κ.getD c 0):=by
     rw[List.getD_eq_getElem?_getD,List.getElem?_eq_getElem (by have:=h2.len;simp only at this;omega)];rfl
    have gW:=h2.cell c _ _ hκ (by rw[List.getElem?_eq_getElem SG])
    have o4:m.mem[c] = m.mem.getD c 0:=by rw[List.getD_eq_getElem?_getD,List.getElem?_eq_getElem SG];rfl
    rw[o4]at gW
    generalize ahD:m.mem.getD c 0=v at gW
    have jD:=h2.jG
    rw[fy]at jD
    have iY:=h2.uH
    simp only at jD
    have hlen:k<1000000:=by have:=ht.vars;omega
    have hvt:((fr.vars.take (k+1)).map fun c=>m.mem.getD c 0).map qA=((fr.vars.take k).map fun c=>m.mem.getD c 0).map qA++ [.int .i64 v]:=by
     rw[SE hd m,ahD,List.map_append];rfl
    rcases ha with ⟨rfl,e⟩|⟨vo,g,more,rfl,e⟩
    ·have eO:=Jl (z:=1) (bytes:=8) .full [.int .i64 v] s2 (by unfold bC;omega)
     have h3:=h2.Py (vd:= .eA 1 s2.ah.length 0 1) (s1:=⟨s2.ah++ [[.int .i64 ((0:Nat):Int), .int .i64 v]],s2.aw⟩) (fun o r e _=>by rw[List.getElem?_append_left (fY e)];exact e)
      ⟨[v], .inr ⟨_,0,[],rfl,by simp[qA]⟩⟩ (.inr (.inr rfl)) rfl
     rw[fy]at h3
     simp only at h3
     refine bp.kQ ?_
     have hA : ∀ e:List (List D),(s2.ah++e)[0]? = s2.ah[0]? :=fun e=>List.getElem?_append_left iY
     repeat' (first
 |simp only[go_sem,hD,hY,hZ,gA,jD,iY,gW,hY,fq,eO,Option.map_some,hA]
 |(with_reducible first|refine bl fun hc=>?_|refine bm fun hc=>?_|refine bn (fun hc=>?_) fun hc=>?_)<;>(try simp only[hc,bs,↓reduceIte]at h)<;>try simp only[hc]
 |(with_reducible refine aE hQ ?_;(try cases h);simp only[aS,aV,bF,bG,go_sem,hD,hY,hZ,gA,jD,iY,gW,hY,fq,eO,Option.map_some,hA];try exact cq)
 |(cases h;replace h:=hr;clear hr;(try simp only[bs,↓reduceIte]at h))
 | (cases h;done))
     refine bp.pM ?_ (ih (k+1) rest _ _ vm (by simpa using A4) g2 h3 ?_)
     ·simp only [go_sem,aI bO,fq]
      repeat' (first|exact Ok.out|with_reducible refine jb ?_ ?_)
     ·rw [hvt,e]
      refine .inr ⟨_,0,[],rfl, ?_⟩
      show((s2.ah++ [_]).set 0 _)[s2.ah.length]? = _
      rw[List.getElem?_set_ne (by omega)]
      simp
    ·have oN:(((fr.vars.take k).map fun c=>m.mem.getD c 0).map qA).length=k:=by simp;omega
     have eO:=Kq (t:= .full) (bytes:=8) (r:= [.int .i64 v]) e (len:=k) (z:=1) (by rw[oN,Nat.mul_one]) (by unfold bC;omega)
     rw[oN]at jD h2
     have Hr:0≠vo:=fun e'=>(h2.vS (o:=vo) (by simp[D.arr])) e'.symm
     have dh:jF ⟨s2.ah.set vo (.int .i64 ((g+1:Nat):Int)::(((fr.vars.take k).map fun c=>m.mem.getD c 0).map qA++ [.int .i64 v])),s2.aw⟩ (.eA 1 vo (g+1) (k+1)) (((fr.vars.take k).map fun c=>m.mem.getD c 0).map qA++ [.int .i64 v]):=
      .inr ⟨vo,g+1,[],by simp;omega,by simp[fY e]⟩
     have h3:=h2.Py (vd:= .eA 1 vo (g+1) (k+1)) (s1:=⟨s2.ah.set vo (.int .i64 ((g+1:Nat):Int)::(((fr.vars.take k).map fun c=>m.mem.getD c 0).map qA++ [.int .i64 v])),s2.aw⟩) (fun o r e hn=>by rw[List.getElem?_set_ne (fun e'=>hn (by rw[← e'];simp[D.arr]))];exact e)
      ⟨(fr.vars.take (k+1)).map fun c=>m.mem.getD c 0,by rw[hvt];exact dh⟩ (.inl rfl) rfl
     rw[fy]at h3
     simp only at h3
     refine bp.kQ ?_
     have hA : ∀ e:List D,(s2.ah.set vo e)[0]? = s2.ah[0]? :=fun e=>List.getElem?_set_ne (Ne.symm Hr)
     repeat' (first
 |simp only[go_sem,hD,hY,hZ,gA,jD,iY,gW,hY,fq,eO,Option.map_some,hA]
 |(with_reducible first|refine bl fun hc=>?_|refine bm fun hc=>?_|refine bn (fun hc=>?_) fun hc=>?_)<;>(try simp only[hc,bs,↓reduceIte]at h)<;>try simp only[hc]
 |(with_reducible refine aE hQ ?_;(try cases h);simp only[aS,aV,bF,bG,go_sem,hD,hY,hZ,gA,jD,iY,gW,hY,fq,eO,Option.map_some,hA];try exact cq)
 |(cases h;replace h:=hr;clear hr;(try simp only[bs,↓reduceIte]at h))
 |(cases h;done))
     refine bp.pM ?_ (ih (k+1) rest _ _ vm (by simpa using A4) g2 h3 ?_)
     ·simp only [go_sem,aI bO,fq]
      repeat' (first|exact Ok.out|with_reducible refine jb ?_ ?_)
     ·rw [hvt]
      exact dh.keep fun o mo=>by
       have:o=vo:=by simpa[D.arr]using mo
       subst this
       show(List.set _ 0 _)[o]? = _
       rw[List.getElem?_set_ne Hr]
 -- the values' slice is emptied
 obtain⟨l,hv⟩:=h1.bN
 have h0:((s.ah++ [cj x])[0]?).isSome=true:=by rw[hm];rfl
 rcases hv with ⟨e,_⟩|⟨vo,g,more,e,e2⟩
 ·rw [e]at hm
  have uq:xc (.ek 1) none (some (.int .i64 0))=some (.ek 1):=by simp[xc,sV,sW]
  have h3:=h1.Py (vd:= .ek 1) (s1:=⟨s.ah++ [cj x],s.aw⟩) (fun _ _ e _=>e) ⟨[], .inl ⟨rfl,rfl⟩⟩ (.inl (by rw[e])) rfl
  have BT:=(h3.frame 0 o fr ho (by rw[ht.st];rfl)).1
  rw[fy]at h3 BT
  rw[pw]at BT
  simp only at h3 BT
  repeat' (first
 |simp only[go_sem,hD,hY,hZ,gA,hm,hl,SF,uq,BT]
 |(with_reducible refine CU (c1) ?_)
 |(with_reducible first|refine bl fun hc=>?_|refine bm fun hc=>?_|refine bn (fun hc=>?_) fun hc=>?_)<;>(try simp only[hc,bs,↓reduceIte]at h)<;>try simp only[hc]
 |(with_reducible refine aE hQ ?_;(try cases h);simp only[aS,aV,bF,bG,go_sem,hD,hY,hZ,gA,hm,hl,SF,uq,BT];try exact cq)
 |(cases h;replace h:=hr;clear hr;(try simp only[bs,↓reduceIte]at h))
 |(cases h;done))
  refine bp.pM ?_ (loop _ 0 fr.vars _ _ rfl rfl rfl h3 (.inl ⟨rfl,rfl⟩))
  simp only[go_sem,fq]
  repeat' (first|exact Ok.out|with_reducible refine jb ?_ ?_)
 ·rw [List.length_map]at e
  rw[e]at hm
  have Hr:0≠vo:=fun e'=>(h1.vS (o:=vo) (by rw[e];simp[D.arr])) e'.symm
  have uq:xc (.eA 1 vo g l.length) none (some (.int .i64 0))=some (.eA 1 vo g 0):=by simp[xc,sV,sW]
  have h3:=h1.Py (vd:= .eA 1 vo g 0) (s1:=⟨s.ah++ [cj x],s.aw⟩) (fun _ _ e _=>e) ⟨[], .inr ⟨vo,g,l.map qA++more,rfl,e2⟩⟩ (.inl (by rw[e];rfl)) rfl
  have BT:=(h3.frame 0 o fr ho (by rw[ht.st];rfl)).1
  rw[fy]at h3 BT
  rw[pw]at BT
  simp only at h3 BT
  repeat' (first
 |simp only[go_sem,hD,hY,hZ,gA,hm,hl,SF,uq,BT]
 |(with_reducible refine CU (c1) ?_)
 |(with_reducible first|refine bl fun hc=>?_|refine bm fun hc=>?_|refine bn (fun hc=>?_) fun hc=>?_)<;>(try simp only[hc,bs,↓reduceIte]at h)<;>try simp only[hc]
 |(with_reducible refine aE hQ ?_;(try cases h);simp only[aS,aV,bF,bG,go_sem,hD,hY,hZ,gA,hm,hl,SF,uq,BT];try exact cq)
 |(cases h;replace h:=hr;clear hr;(try simp only[bs,↓reduceIte]at h))
 | (cases h;done))
  refine bp.pM ?_ (loop _ 0 fr.vars _ _ rfl rfl rfl h3 (.inr ⟨vo,g,l.map qA++more,rfl, ?_⟩))
  ·simp only [go_sem,fq]
   repeat' (first|exact Ok.out|with_reducible refine jb ?_ ?_)
  ·show(List.set _ 0 _)[vo]? = _
   rw[List.getElem?_set_ne Hr];exact e2
end
end Go.Abs
namespace Go.Abs
set_option maxRecDepth 8000
open Go.Proofs
section
variable {p:Pg} {T W:List Int} {y:Lay} {m:Mc} {loc:List (Nat×List D)} {s:St}
theorem Dk:Wk (.slice .full 0 []) (.slice .shared 1 (([] : List Int).map bP)):=Wk.nil _ _ _
theorem vU (h:Inv p T W y m loc s) (hW:W.length<1000000) (ht:m.trace.length<2000000) (id:Int) :
 bM Tryz.prog ez [.ptr 0 0, .int .i64 id, .slice .full 0 []] s (Rl p T W (.tuple []) (m.event W id []) (· = y) loc):=
 bM.qY (.cons (Wk.refl _) (.cons (Wk.refl _) (.cons Dk .nil))) (Ml h hW ht id [])
theorem DS (h:Inv p T W y m loc s) (hW:W.length<1000000) (ht:m.trace.length<2000000) (id n:Int) :
 bM Tryz.prog ez [.ptr 0 0, .int .i64 id, .slice .full 1 [[.int .i64 n]]] s (Rl p T W (.tuple []) (m.event W id [n]) (· = y) loc):=
 bM.qY (.cons (Wk.refl _) (.cons (Wk.refl _) (.cons (Wk.shared _ _ _) .nil))) (Ml h hW ht id [n])
theorem Z4 (h:Inv p T W y m loc s) {fr:Fr} {r:List Fr} (ht:mU m fr r) {v:Sm} (hv:v.nz) (hW:W.length<1000000) (htr:m.trace.length<2000000) :
 bM Tryz.prog oG [.ptr 0 0, .agg (bh v)] s (Rl p T W (.int .i64 (m.fe W v).1) (m.fe W v).2 (fun y'=>y' = {y with vd:=y'.vd}) loc):=by
 have h1:=h.new (bh v)
 have hx:(s.ah++ [bh v])[s.ah.length]? = some (bh v):=by simp
 have nG : ∀ q∈loc,q∈(s.ah.length,bh v)::loc:=fun q mq=>List.mem_cons_of_mem _ mq
 refine bM.uC yh rfl fun B Q hB hQ=>?_
 have⟨hD,hY,hZ,gA⟩:=bR
 rcases Bool.eq_false_or_eq_true v.has with b|b
 ·have c1:=DR h1 ht (x:=v.x) (by have:=hv.2.2;omega) hv.1
  repeat' (first
 |simp only[go_sem,hD,hY,hZ,gA,hx,b]
 |(with_reducible first|refine bl fun hc=>?_|refine bm fun hc=>?_|refine bn (fun hc=>?_) fun hc=>?_)<;>(try simp only[hc,bs,↓reduceIte]at h)<;>try simp only[hc]
 |(with_reducible refine aE hQ ?_;(try cases h);simp only[aS,aV,bF,bG,go_sem,hD,hY,hZ,gA,hx,b];try exact cq)
 | (cases h;done))
  refine CR c1 fun d s2 h2=>?_
  obtain⟨⟨rfl,y2,vV,h2⟩,_⟩:=h2
  have tF:=(h2.loc (s.ah.length,bh v) (List.mem_cons_self ..)).1
  have hw:=gH m v.x
  simp only at tF
  rcases Bool.eq_false_or_eq_true (m.bo v.x).1.2 with b2|b2
  ·have c2:=DS h2 hW (by rw [hw.2.2.2.2.2];exact htr) v.id (m.bo v.x).1.1
   repeat' (first
 |simp only[go_sem,hD,hY,hZ,gA,tF,b2]
 |(with_reducible first|refine bl fun hc=>?_|refine bm fun hc=>?_|refine bn (fun hc=>?_) fun hc=>?_)<;>(try simp only[hc,bs,↓reduceIte]at h)<;>try simp only[hc]
 |(with_reducible refine aE hQ ?_;(try cases h);simp only[aS,aV,bF,bG,go_sem,hD,hY,hZ,gA,tF,b2];try exact cq)
 | (cases h;done))
   refine CR c2 fun d s3 h3=>?_
   obtain⟨rfl,y3,rfl,h3⟩:=h3
   repeat' (first
 |simp only[go_sem,hD,hY,hZ,gA]
 |(with_reducible first|refine bl fun hc=>?_|refine bm fun hc=>?_|refine bn (fun hc=>?_) fun hc=>?_)<;>(try simp only[hc,bs,↓reduceIte]at h)<;>try simp only[hc]
 |(with_reducible refine aE hQ ?_;exact fO)
 | (cases h;done))
   (refine gM hQ ?_;simp only[aS,aV,bF,bG,go_sem])
   refine⟨by simp only[Mc.fe,b,if_true],y3,vV, ?_⟩
   simp only[Mc.fe,b,b2,if_true]
   exact h3.sub nG
  ·repeat' (first
 |simp only[go_sem,hD,hY,hZ,gA,tF,b2]
 |(with_reducible first|refine bl fun hc=>?_|refine bm fun hc=>?_|refine bn (fun hc=>?_) fun hc=>?_)<;>(try simp only[hc,bs,↓reduceIte]at h)<;>try simp only[hc]
 |(with_reducible refine aE hQ ?_;(try cases h);simp only[aS,aV,bF,bG,go_sem,hD,hY,hZ,gA,tF,b2];try exact cq)
 | (cases h;done))
   (refine gM hQ ?_;simp only[aS,aV,bF,bG,go_sem])
   refine⟨by simp only[Mc.fe,b,if_true],y2,vV, ?_⟩
   simp only[Mc.fe,b,b2,if_true,Bool.false_eq_true,if_false]
   exact h2.sub nG
 ·have c1:=vU h1 hW htr v.id
  repeat' (first
 |simp only[go_sem,hD,hY,hZ,gA,hx,b]
 |(with_reducible first|refine bl fun hc=>?_|refine bm fun hc=>?_|refine bn (fun hc=>?_) fun hc=>?_)<;>(try simp only[hc,bs,↓reduceIte]at h)<;>try simp only[hc]
 |(with_reducible refine aE hQ ?_;(try cases h);simp only[aS,aV,bF,bG,go_sem,hD,hY,hZ,gA,hx,b];try exact cq)
 |(cases h;done))
  refine CR c1 fun d s2 h2=>?_
  obtain⟨rfl,y2,rfl,h2⟩:=h2
  repeat' (first
 |simp only[go_sem,hD,hY,hZ,gA]
 |(with_reducible first|refine bl fun hc=>?_|refine bm fun hc=>?_|refine bn (fun hc=>?_) fun hc=>?_)<;>(try simp only[hc,bs,↓reduceIte]at h)<;>try simp only[hc]
 |(with_reducible refine aE hQ ?_;exact fO)
 |(cases h;done))
  (refine gM hQ ?_;simp only[aS,aV,bF,bG,go_sem])
  refine⟨by simp only[Mc.fe,b,Bool.false_eq_true,if_false],y2,rfl, ?_⟩
  simp only[Mc.fe,b,Bool.false_eq_true,if_false]
  exact h2.sub nG
end
end Go.Abs
namespace Go.Abs
set_option maxRecDepth 8000
open Go.Proofs
section
variable {p:Pg} {T W:List Int} {y:Lay} {m:Mc} {loc:List (Nat×List D)} {s:St}
theorem gC.setAt : ∀ {l:List (List D)} {i:Nat} {r r':List D},l[i]? = some r→jr r r'→gC l (l.set i r')
 |a::l,0,r,r',h,w=>by simp at h;subst h;exact .cons w (gC.refl l)
 |a::l,i+1,r,r',h,w=> .cons (jr.refl a) (gC.setAt (l:=l) (by simpa using h) w)
def Lay.push (y:Lay) (n K:Nat) (sd:D):Lay:= {y with κ:=y.κ++(List.range K).map (n+2 + ·),φ:=(n+1)::y.φ,sd:=sd}
theorem VS {κ:List Nat} {n K j:Nat} (hj:j<K):(κ++(List.range K).map (n+2 + ·)).getD (κ.length+j) 0=n+2+j:=by
 rw[List.getD_eq_getElem?_getD,List.getElem?_append_right (by omega),show κ.length+j - κ.length=j by omega]
 simp[hj]
theorem DT {κ e:List Nat} {c:Nat} (hc:c<κ.length):(κ++e).getD c 0=κ.getD c 0:=by
 rw[List.getD_eq_getElem?_getD,List.getD_eq_getElem?_getD,List.getElem?_append_left hc]
theorem PD {κ:List Nat} {n:Nat} (h:n≤κ.length):(List.range n).map (fun c=>κ.getD c 0)=κ.take n:=by
 apply List.ext_getElem?
 intro i
 simp only[List.getElem?_map]
 by_cases hi:i<n
 ·rw [List.getElem?_range hi,List.getElem?_take_of_lt hi,List.getElem?_eq_getElem (show i<κ.length by omega)]
  simp[List.getD_eq_getElem?_getD,List.getElem?_eq_getElem (show i<κ.length by omega)]
 ·rw[List.getElem?_eq_none (by simp;omega),List.getElem?_eq_none (by simp;omega)];rfl
theorem Inv.push (h:Inv p T W y m loc s) {K:Nat} {sd:D} {fr:Fr} {s':St} (hg:p.globals.length≤m.mem.length) (hfv : ∀ c∈fr.vars,c<m.mem.length+K)
 (k : ∀ (o:Nat) (r:List D),s.ah[o]? = some r→o≠0→o∉y.sd.arr→s'.ah[o]? = some r)
 (k0:s'.ah[0]? = some (fy p T W (y.push s.ah.length K sd) m)) (kc : ∀ j,j<K→s'.ah[s.ah.length+2+j]? = some [.int .i64 0])
 (kf:s'.ah[s.ah.length+1]? = some (pw (y.push s.ah.length K sd).κ fr)) (ks:jF s' sd ((y.push s.ah.length K sd).φ.reverse.map xH)) (rX:sd.arr=y.sd.arr∨sd.arr = [s.ah.length+2+K])
 (t0:s'.aw[0]? = s.aw[0]?) (t1:s'.aw[1]? = s.aw[1]?) :
 Inv p T W (y.push s.ah.length K sd) {m with st:=fr::m.st,mem:=m.mem++List.replicate K 0} loc s':=by
 have Am:=h.own
 rw[Lay.own,List.nodup_cons,List.nodup_append,List.nodup_append]at Am
 obtain⟨n0,nκ,⟨ns,nv,X9⟩,Ko⟩:=Am
 have lt:=h.tD
 have ltκ : ∀ c∈y.κ,c<s.ah.length:=fun c mc=>lt c (by simp[Lay.own,mc])
 have lts : ∀ c∈y.sd.arr,c<s.ah.length:=fun c mc=>lt c (by simp[Lay.own,mc])
 have ltv : ∀ c∈y.vd.arr,c<s.ah.length:=fun c mc=>lt c (by simp[Lay.own,mc])
 have uH:=h.uH
 have Kp : ∀ o,o∈(y.push s.ah.length K sd).own→o∈y.own∨(s.ah.length+2≤o∧o≤s.ah.length+2+K):=fun o mo=>by
  simp only[Lay.own,Lay.push,List.mem_cons,List.mem_append,List.mem_map,List.mem_range]at mo ⊢
  rcases mo with rfl|(mo|⟨j,hj,rfl⟩)|mo|mo
  ·exact .inl (.inl rfl)
  ·exact .inl (.inr (.inl mo))
  ·exact .inr ⟨by omega,by omega⟩
  ·rcases rX with e | e
   ·rw[e]at mo;exact .inl (.inr (.inr (.inl mo)))
   ·rw[e]at mo;have:=List.mem_singleton.1 mo;exact .inr ⟨by omega,by omega⟩
  ·exact .inl (.inr (.inr (.inr mo)))
 have g : ∀ {o:Nat} {r:List D},s.ah[o]? = some r→o∉y.own→s'.ah[o]? = some r∧o∉(y.push s.ah.length K sd).own:=fun {o r} e hn=>by
  refine⟨k o r e (fun e0=>hn (by rw[e0];simp[Lay.own])) (fun ms=>hn (by simp[Lay.own,ms])),fun mo=>?_⟩
  rcases Kp o mo with mo|mo
  ·exact hn mo
  ·have:=fY e;omega
 have hlen:=h.len
 refine⟨k0,by rw[t0];exact h.t0,by rw[t1];exact h.t1,by simp[Lay.push,hlen],fun i c v e1 e2=>?_,by simp[Lay.push,h.sy],fun i o Mn e1 e2=>?_,ks, ?_, ?_,fun q mq=>g (h.loc q mq).1 (h.loc q mq).2⟩
 ·simp only [Lay.push]at e1
  dsimp only at e2
  rcases Nat.lt_or_ge i y.κ.length with hi|hi
  ·rw [List.getElem?_append_left hi]at e1
   rw[List.getElem?_append_left (by omega)]at e2
   have hc:=List.mem_of_getElem? e1
   exact k c _ (h.cell i c v e1 e2) (h.vS (by simp[hc])) (fun ms=>Ko c hc c (List.mem_append_left _ ms) rfl)
  ·rw [List.getElem?_append_right hi]at e1
   rw[List.getElem?_append_right (by omega)]at e2
   have hD:=(List.getElem?_eq_some_iff.1 e1).1
   simp only[List.length_map,List.length_range]at hD
   rw[List.getElem?_map,List.getElem?_range hD]at e1
   rw[List.getElem?_replicate_of_lt (by omega)]at e2
   simp only[Option.map_some,Option.some.injEq]at e1 e2
   subst e1 e2
   exact kc _ hD
 ·cases i with
  |zero=>
   simp only[Lay.push,List.getElem?_cons_zero,Option.some.injEq]at e1 e2
   subst e1 e2
   refine⟨kf,fun mo=>?_,fun c mc=>by simp only[List.length_append,List.length_replicate];exact hfv c mc⟩
   rcases Kp _ mo with mo|mo
   ·have:=lt _ mo;omega
   ·omega
  |succ i=>
   simp only[Lay.push,List.getElem?_cons_succ]at e1 e2
   obtain⟨f1,f2,f3⟩:=h.frame i o Mn e1 e2
   obtain⟨f4,f5⟩:=g f1 f2
   exact⟨by simp only[Lay.push];rw[Hp (by rw[hlen];exact f3)];exact f4,f5,fun c mc=>by have:=f3 c mc;simp only[List.length_append];omega⟩
 ·obtain⟨l,hl⟩:=h.bN
  refine⟨l,hl.keep fun o mo=>?_⟩
  rw[List.getElem?_eq_getElem (ltv o mo)]
  exact k o _ (List.getElem?_eq_getElem _) (h.vS (by simp[mo])) (fun ms=>X9 o ms o mo rfl)
 ·have SH:((List.range K).map (s.ah.length+2 + ·)).Nodup:=by
   rw[List.nodup_iff_pairwise_ne,List.pairwise_map]
   exact List.Pairwise.imp (fun h=>by omega) (List.nodup_iff_pairwise_ne.1 List.nodup_range)
  have Fz : ∀ o∈(List.range K).map (s.ah.length+2 + ·),s.ah.length+2≤o∧o<s.ah.length+2+K:=fun o mo=>by
   obtain⟨j,hj,rfl⟩:=List.mem_map.1 mo
   have:=List.mem_range.1 hj;exact⟨by omega,by omega⟩
  have PE : ∀ o∈sd.arr,(o∈y.sd.arr)∨o=s.ah.length+2+K:=fun o mo=>by
   rcases rX with e|e
   ·rw[e]at mo;exact .inl mo
   ·rw[e]at mo;exact .inr (List.mem_singleton.1 mo)
  simp only[Lay.own,Lay.push]
  rw[List.nodup_cons,List.nodup_append,List.nodup_append,List.nodup_append]
  refine⟨fun mo=>?_,⟨nκ,SH,fun a ma b mb e=>?_⟩,⟨?_,nv,fun a ma b mb e=>?_⟩,fun a ma b mb e=>?_⟩
  ·simp only [List.mem_append]at mo
   rcases mo with (mo|mo)|mo|mo
   ·exact n0 (by simp[mo])
   ·have:=Fz _ mo;omega
   ·rcases PE _ mo with mo | mo
    ·exact n0 (by simp[mo])
    ·omega
   ·exact n0 (by simp[mo])
  ·have:=ltκ a ma;have:=Fz b mb;omega
  ·rcases rX with e | e <;> rw [e]
   ·exact ns
   ·simp
  ·rcases PE a ma with ma | ma
   ·exact X9 a ma b mb e
   ·have:=ltv b mb;omega
  ·rcases List.mem_append.1 ma with ma | ma
   ·rcases List.mem_append.1 mb with mb | mb
    ·rcases PE b mb with mb | mb
     ·exact Ko a ma b (List.mem_append_left _ mb) e
     ·have:=ltκ a ma;omega
    ·exact Ko a ma b (List.mem_append_right _ mb) e
   ·have:=Fz a ma
    rcases List.mem_append.1 mb with mb|mb
    ·rcases PE b mb with mb | mb
     ·have:=lts b mb;omega
     ·omega
    ·have:=ltv b mb;omega
theorem Z5 {gl ps:List (List D)} {bytes:Nat} (hb:(gl.length+ps.length)*(bytes+1)≤bC) (ts:List (Option Nat)) : ∃ (g1 g2:Tag) (z1 z2:Nat) (t1 t2:List (Option Nat)),(∀ os,iB 1 bytes (.slice .full 0 []) (.slice .shared 1 gl) ⟨os,ts⟩=some (.slice g1 z1 gl,⟨os,t1⟩))∧
 (∀ os,iB 1 bytes (.slice g1 z1 gl) (.slice .shared 1 ps) ⟨os,t1⟩=some (.slice g2 z2 (gl++ps),⟨os,t2⟩))∧
 ((g2 = .full∧t2=ts∧gl++ps = [])∨(g2 = .tok ts.length∧z2=1∧t2=ts++ [some (gl++ps).length])):=by
 have h1:gl.length*(bytes+1)≤bC:=Nat.le_trans (Nat.mul_le_mul_right _ (Nat.le_add_right _ _)) hb
 have h2:ps.length*(bytes+1)≤bC:=Nat.le_trans (Nat.mul_le_mul_right _ (Nat.le_add_left _ _)) hb
 cases gl with
 |nil=>
  cases ps with
  |nil=>exact⟨.full, .full,0,0,ts,ts,fun os=>zT os ts,fun os=>zT os ts, .inl ⟨rfl,rfl,rfl⟩⟩
  |cons a ps=>exact⟨.full, .tok ts.length,0,1,ts,_,fun os=>zT os ts,fun os=>zS (by simp) h2 os ts, .inr ⟨rfl,rfl,rfl⟩⟩
 |cons a gl=>
  refine⟨.tok ts.length, .tok ts.length,1,1,ts++ [some (a::gl).length],ts++ [some (a::gl++ps).length],fun os=>zS (by simp) h1 os ts,fun os=>?_, .inr ⟨rfl,rfl,rfl⟩⟩
  rw[nX (size:=1) hb (by simp)]
  simp;omega
theorem Mp (h:Inv p T W y m loc s) (hp:p.iP) (hb:p.may=true) {i:Nat} {f:Pc} (hf:p.procs[i]? = some f) (ahE:p.find f.name=some f) (jk:m.st.length<1000000) {l:List Nat} (hl : ∀ c∈l,c<m.mem.length) (wT:l.length<1000000)
 (hg:p.globals.length≤m.mem.length) (call:Int) :
 ∃ y' s',aF Tryz.prog jn [.ptr 0 0, .int .i64 (i:Int), .slice .shared 1 (l.map fun c=>fq (y.κ.getD c 0)), .int .i64 call] s (.int .i64 (m.open p (i:Int) l call).1) s'∧Inv p T W y' (m.open p (i:Int) l call).2 loc s':=by
 have hm:=h.jG
 rw[fy]at hm
 have qD:=h.uH
 obtain⟨rV,rH,rG⟩:=hp.procs
 have vM:=hp.small (List.mem_of_getElem? hf)
 have cV:=fun s=>adZ hp hb ahE s
 have cF:=fun s=>Z3 hb hf s
 have hi:i<p.procs.length:=(List.getElem?_eq_some_iff.1 hf).1
 obtain⟨g1,g2,z1,z2,t1,t2,a1,a2,a3⟩:=Z5 (gl:=(y.κ.take p.globals.length).map fq) (ps:=l.map fun c=>fq (y.κ.getD c 0)) (bytes:=8) (by simp only[List.length_map,List.length_take];unfold bC;omega) s.aw
 have hA : ∀ e:List (List D),(s.ah++e)[0]? = s.ah[0]? :=fun e=>List.getElem?_append_left qD
 have n0 : ∀ e1 e2:List (List D),(s.ah++e1++e2)[0]? = s.ah[0]? :=fun e1 e2=>by rw[List.append_assoc];exact hA _
 have n1 : ∀ a b:List D,(s.ah++ [a]++ [b])[s.ah.length+1]? = some b:=fun a b=>by simp
 have n2 : ∀ a b:List D,(s.ah++ [a]++ [b])[s.ah.length]? = some a:=fun a b=>by simp
 have n3 : ∀ a b c:List D,(s.ah++ [a]++ [b]).set (s.ah.length+1) c=s.ah++ [a]++ [c]:=fun a b c=>by simp[List.append_assoc,List.set_append_right]
 have n4 : ∀ a:List D,(s.ah++ [a])[s.ah.length]? = some a:=fun a=>by simp
 have n5 : ∀ a b:List D,(s.ah++ [a]).set s.ah.length b=s.ah++ [b]:=fun a b=>by simp
 have hpc:cu f = [.str f.name, .slice .shared 2 (f.params.map iJ), .slice .shared 1 (f.vars.map encStr), .slice .shared 13 (f.body.map bh), .slice .shared 1 (f.fin.map encStr)]:=rfl
 generalize hn:s.ah.length=n at *
 have LD:(m.open p (i:Int) l call).1=gd f.body (-1)∧(m.open p (i:Int) l call).2 = {m with st:=⟨(i:Int),p.globals++f.own,List.range p.globals.length++l++(List.range f.vars.length).map (m.mem.length + ·),call⟩::m.st,mem:=m.mem++List.replicate f.vars.length 0}:=by
  unfold Mc.open
  rw[Int.toNat_natCast,hf]
  exact⟨rfl,rfl⟩
 rw[LD.1,LD.2]
 generalize ki:(y.κ.take p.globals.length).map fq++l.map (fun c=>fq (y.κ.getD c 0))=kl at *
 have hgr:kl.length<2000000:=by rw[← ki];simp only[List.length_append,List.length_map,List.length_take];omega
 have hvl:=vM.vars
 -- the states of the rounds
 let fr:Nat→List D:=fun k=> [.int .i64 (i:Int), .slice .shared 1 ((p.globals++f.own).map encStr), .slice (.tok s.aw.length) 1 (kl++(List.range k).map (fun j=>fq (n+2+j))), .int .i64 call]
 obtain⟨O,hO⟩ : ∃ O:Nat→List (List D),∀ k,O k=s.ah++ [cu f]++ [fr k]++List.replicate k [.int .i64 0]:=⟨_,fun _=>rfl⟩
 have oL : ∀ k,(O k).length=n+2+k:=fun k=>by rw[hO];simp[hn];omega
 have VU : ∀ k o,o<n→(O k)[o]? = s.ah[o]? :=fun k o ho=>by rw[hO,List.append_assoc,List.append_assoc,List.getElem?_append_left (by omega)]
 have oF : ∀ k,(O k)[n+1]? = some (fr k):=fun k=>by rw[hO,List.getElem?_append_left (by simp[hn])];simp[hn]
 have oC : ∀ k j,j<k→(O k)[n+2+j]? = some [.int .i64 0]:=fun k j hj=>by
  rw[hO,List.getElem?_append_right (by simp only[List.length_append,List.length_singleton,hn];omega)]
  simp only[List.length_append,List.length_singleton,hn]
  rw[show n+2+j - (n+1+1)=j by omega,List.getElem?_replicate_of_lt hj]
 have oF' : ∀ k e,(O k++e)[n+1]? = some (fr k):=fun k e=>by rw[List.getElem?_append_left (by rw[oL];omega)];exact oF k
 have o0 : ∀ k,(O k)[0]? = s.ah[0]? :=fun k=>VU k 0 qD
 have o0' : ∀ k e,(O k++e)[0]? = s.ah[0]? :=fun k e=>by rw[List.getElem?_append_left (by rw[oL];omega)];exact o0 k
 have oS : ∀ k,(O k++ [[D.int .i64 0]]).set (n+1) (fr (k+1))=O (k+1):=fun k=>by
  rw[hO,hO,List.replicate_succ']
  simp only[List.append_assoc]
  rw[List.set_append_right _ _ (by omega),hn,show n+1 - n=1 by omega]
  rfl
 have zV:(List.range p.globals.length++l++(List.range f.vars.length).map (m.mem.length + ·)).map (fun c=>fq ((y.push n f.vars.length .dS).κ.getD c 0))=kl++(List.range f.vars.length).map (fun j=>fq (n+2+j)):=by
  simp only[List.map_append,List.map_map,Lay.push, ← ki]
  congr 1
  ·congr 1
   ·rw [← PD (by rw [h.len];exact hg),List.map_map]
    exact List.map_congr_left fun c mc=>by simp only[Function.comp];rw[DT (by rw[h.len];have:=List.mem_range.1 mc;omega)]
   ·exact List.map_congr_left fun c mc=>by rw[DT (by rw[h.len];exact hl c mc)]
  ·exact List.map_congr_left fun j mj=>by simp only[Function.comp];rw[← h.len,VS (List.mem_range.1 mj)]
 have aoc:jr (fr f.vars.length) (pw (y.push n f.vars.length .dS).κ ⟨(i:Int),p.globals++f.own,List.range p.globals.length++l++(List.range f.vars.length).map (m.mem.length + ·),call⟩):=by
  unfold pw
  dsimp only
  rw[zV]
  exact .cons (Wk.refl _) (.cons (Wk.refl _) (.cons (Wk.shared _ _ _) (.cons (Wk.refl _) .nil)))
 -- the stack
 generalize hK:f.vars.length=K at *
 obtain⟨sd,O',e1,e3,e4,e5,e6⟩ : ∃ (sd:D) (O':List (List D)),(∀ tm:Tm,tm.get 70=y.sd→tm.get 72 = .slice .full 1 [[.ptr (n+1) 0]]→aJ (.app 1 8 (.s 70) (.s 72)) tm ⟨O K,s.aw++ [some (kl.length+K)]⟩=some (sd,⟨O',s.aw++ [some (kl.length+K)]⟩))∧
  (∀ (o:Nat) (r:List D),(O K)[o]? = some r→o∉y.sd.arr→O'[o]? = some r)∧jF ⟨O',s.aw⟩ sd (((n+1)::y.φ).reverse.map xH)∧(sd.arr=y.sd.arr∨sd.arr = [n+2+K])∧sd.row=some [sd]:=by
  rcases h.stack with ⟨e,e2⟩|⟨so,g,more,e,e2⟩
  ·have hφ:y.φ = []:=by simpa using e2
   refine⟨.eA 1 (n+2+K) 0 1,O K++ [[.int .i64 ((0:Nat):Int), .ptr (n+1) 0]],fun tm h1 h2=>?_,fun o r e _=>by rw[List.getElem?_append_left (fY (s:=⟨O K,[]⟩) e)];exact e, .inr ⟨n+2+K,0,[],by simp[hφ], ?_⟩, .inr rfl,rfl⟩
   ·simp only [aJ,X.ev,h1,h2,e]
    rw[Jl _ _ _ (by unfold bC;omega)]
    simp only[oL]
   ·rw [hφ]
    show(O K++ [_])[n+2+K]? = _
    rw[← oL K]
    simp[xH]
  ·have aod:so<n:=by have:=fY e2;omega
   have hlen:(y.φ.reverse.map xH).length=m.st.length:=by simp[h.sy]
   have e2':(O K)[so]? = some (.int .i64 ((g:Nat):Int)::(y.φ.reverse.map xH++more)):=by rw[VU K so aod];exact e2
   rw[hlen]at e
   refine⟨.eA 1 so (g+1) (m.st.length+1),(O K).set so (.int .i64 ((g+1:Nat):Int)::(y.φ.reverse.map xH++ [.ptr (n+1) 0])),fun tm h1 h2=>?_,fun o r e hn=>?_, .inr ⟨so,g+1,[],by simp[h.sy], ?_⟩, .inl (by rw[e];rfl),rfl⟩
   ·simp only [aJ,X.ev,h1,h2,e]
    rw[Kq (s:=⟨O K,_⟩) e2' (by rw[hlen,Nat.mul_one]) (by unfold bC;omega)]
   ·rw[List.getElem?_set_ne (fun e'=>hn (by rw[‹y.sd=_›, ← e'];simp[D.arr]))];exact e
   ·simp[oL,show so<n+2+K by omega,xH]
 have o'0:O'[0]? = s.ah[0]? :=by
  rw[hm]
  exact e3 0 _ (by rw[o0];exact hm) (fun mo=>(h.vS (by simp[mo])) rfl)
 have Yd:0<O'.length:=fY (s:=⟨O',[]⟩) (o'0.trans hm)
 have o'f:O'[n+1]? = some (fr K):=e3 _ _ (oF K) (fun mo=>by have:=h.tD (n+1) (by simp[Lay.own,mo]);omega)
 let row:=fy p T W (y.push n K sd) {m with st:=⟨(i:Int),p.globals++f.own,List.range p.globals.length++l++(List.range K).map (m.mem.length + ·),call⟩::m.st,mem:=m.mem++List.replicate K 0}
 refine⟨y.push n K sd,⟨(O'.set 0 row).set (n+1) (pw (y.push n K sd).κ ⟨(i:Int),p.globals++f.own,List.range p.globals.length++l++(List.range K).map (m.mem.length + ·),call⟩),s.aw++ [some (kl.length+K)]⟩, ?_, ?_⟩
 case refine_2=>
  subst hn
  have gO : ∀ (o:Nat) (r:List D),O'[o]? = some r→o≠0→o≠s.ah.length+1→((O'.set 0 row).set (s.ah.length+1) (pw (y.push s.ah.length K sd).κ ⟨(i:Int),p.globals++f.own,List.range p.globals.length++l++(List.range K).map (m.mem.length + ·),call⟩))[o]? = some r:=fun o r e h1 h2=>by
   rw[List.getElem?_set_ne (Ne.symm h2),List.getElem?_set_ne (Ne.symm h1)];exact e
  refine h.push (K:=K) (sd:=sd) hg (fun c mc=>?_) (fun o r e h1 h2=>?_) ?_ (fun j hj=>?_) ?_ (e4.keep fun o mo=>?_) e5 ?_ ?_
  ·simp only [List.mem_append,List.mem_range,List.mem_map]at mc
   rcases mc with (mc|mc)|⟨x,mc,rfl⟩
   ·omega
   ·have:=hl c mc;omega
   ·omega
  ·have:=fY e
   exact gO o r (e3 o r (by rw[VU K o this];exact e) h2) h1 (by omega)
  ·rw [List.getElem?_set_ne (by omega)]
   simp[Yd,row]
  ·refine gO _ _ (e3 _ _ (oC K j hj) fun mo=> ?_) (by omega) (by omega)
   have:=h.tD _ (show s.ah.length+2+j∈y.own by simp[Lay.own,mo]);omega
  ·have:=fY (s:=⟨O',[]⟩) o'f
   rw[List.getElem?_set_self (by rw[List.length_set];exact this)]
  ·have:o≠0∧o≠s.ah.length+1:=by
    rcases e5 with e|e
    ·rw [e]at mo
     have h1:=h.tD o (by simp[Lay.own,mo])
     exact⟨h.vS (by simp[mo]),by omega⟩
    ·rw [e]at mo
     have:=List.mem_singleton.1 mo
     exact⟨by omega,by omega⟩
   show(List.set _ _ _)[o]? = _
   rw[List.getElem?_set_ne (Ne.symm this.2),List.getElem?_set_ne (Ne.symm this.1)]
  ·exact List.getElem?_append_left (List.getElem?_eq_some_iff.1 h.t0).1
  ·exact List.getElem?_append_left (List.getElem?_eq_some_iff.1 h.t1).1
 refine bM.up ?_
 refine bM.uC zn rfl fun B Q hB hQ=>?_
 have⟨hD,hY,hZ,gA⟩:=bR
 have loop : ∀ d k:Nat,k+d=K→bp Tryz.prog B 82 QCN (kC 0 (nT (ke Tryz.prog B 82 QCU Q) Q))
  [(0, .ptr 0 0),(1, .int .i64 (i:Int)),(10, .ptr (n+1) 0),(52, .int .i64 (K:Int)),(53, .int .i64 (k:Int))] ⟨O k,s.aw++ [some (kl.length+k)]⟩:=by
  intro d
  induction d with
  |zero=>
   intro k hk
   have uu:k=K:=by omega
   subst uu
   have hD:decide ((k:Int)<(k:Int))=false:=by simp
   have jD:=o'0.trans hm
   have Hq:=o'f
   have vf : ∀ r,(O'.set 0 r)[0]? = some r:=fun r=>List.getElem?_set_self Yd
   refine bp.kQ ?_
   repeat' (first
 |simp only[go_sem,hD,hY,hZ,gA,hm,o0,e1,e6,jD,Yd,vf]
 |(with_reducible refine CU (cF _) ?_)
 |(with_reducible first|refine bl fun hc=>?_|refine bm fun hc=>?_|refine bn (fun hc=>?_) fun hc=>?_)<;>(try simp only[hc,bs,↓reduceIte]at h)<;>try simp only[hc]
 |(with_reducible refine aE hQ ?_;(try cases h);simp only[aS,aV,bF,bG,go_sem,hD,hY,hZ,gA,hm,o0,e1,e6,jD,Yd,vf];try exact cq)
 | (cases h;done))
   (refine gM hQ ?_;simp only[aS,aV,bF,bG,go_sem])
   have dZ:row = [.dz (fA p) 0, .slice .shared 1 ((y.κ.take p.globals.length).map fq), .slice .shared 1 (T.map bP), .slice .shared 1 (W.map bP),sd,y.vd,
    .int .i64 m.fin, .int .i64 m.steps, .int .i64 m.reads, .slice (.tok 0) 1 (m.out.map bP), .slice (.tok 1) 2 (m.trace.map fj)]:=by
    simp only[row,fy,Lay.push]
    rw[List.take_append_of_le_length (by rw[h.len];exact hg)]
   refine⟨_,⟨(O'.set 0 row).set (n+1) _,_⟩,Wk.refl _, ?_,rfl,rfl,rfl⟩
   rw[dZ]
   exact gC.setAt (by rw[List.getElem?_set_ne (by omega)];exact Hq) aoc
  | succ d ih=>
   intro k hk
   have hD:decide ((k:Int)<(K:Int))=true:=by simp;omega
   have bO:k<4611686018427387904:=by omega
   have hfk:=oF k
   have VV:=oF' k [[.int .i64 0]]
   have eO:iB 1 8 (.slice (.tok s.aw.length) 1 (kl++(List.range k).map (fun j=>fq (n+2+j)))) (.slice .full 1 [[.ptr (n+2+k) 0]]) ⟨O k++ [[.int .i64 0]],s.aw++ [some (kl.length+k)]⟩ =
    some (.slice (.tok s.aw.length) 1 (kl++(List.range (k+1)).map (fun j=>fq (n+2+j))),⟨O k++ [[.int .i64 0]],s.aw++ [some (kl.length+(k+1))]⟩):=by
    rw[nX (size:=1) (by simp only[List.length_append,List.length_map,List.length_range,List.length_singleton];unfold bC;omega) (by simp)]
    simp[List.range_succ,fq,Nat.add_assoc]
   have oSk:=oS k
   simp only[fr,List.map_append,List.range_succ,List.map_cons,List.map_nil]at hfk VV oSk
   refine bp.kQ ?_
   repeat' (first
 |simp only[go_sem,hD,hY,hZ,gA,hfk,VV,oL,eO,oSk]
 |(with_reducible first|refine bl fun hc=>?_|refine bm fun hc=>?_|refine bn (fun hc=>?_) fun hc=>?_)<;>(try simp only[hc,bs,↓reduceIte]at h)<;>try simp only[hc]
 |(with_reducible refine aE hQ ?_;(try cases h);simp only[aS,aV,bF,bG,go_sem,hD,hY,hZ,gA,hfk,VV,oL,eO,oSk];try exact cq)
 | (cases h;done))
   refine bp.pM ?_ (ih (k+1) (by omega))
   simp only[go_sem,aI bO]
   repeat' (first|exact Ok.out|with_reducible refine jb ?_ ?_)
 have l0:=loop K 0 (by omega)
 have hO0:O 0=s.ah++ [cu f]++ [fr 0]:=by rw[hO];simp
 rw[hO0]at l0
 repeat' (first
 |simp only[go_sem,hD,hY,hZ,gA,hm,hA,n0,n1,n2,n3,n4,n5,hf,a1,a2,n7, ← EG,hn]
 |(with_reducible refine CU (cV _) ?_)
 |(with_reducible first|refine bl fun hc=>?_|refine bm fun hc=>?_|refine bn (fun hc=>?_) fun hc=>?_)<;>(try simp only[hc,bs,↓reduceIte]at h)<;>try simp only[hc]
 |(with_reducible refine aE hQ ?_;(try cases h);simp only[aS,aV,bF,bG,go_sem,hD,hY,hZ,gA,hm,hA,n0,n1,n2,n3,n4,n5,hf,a1,a2,n7, ← EG,hn];try exact cq)
 |(cases h;done))
 simp only[fr,List.range_zero,List.map_nil,List.append_nil,List.map_append]at l0
 rcases a3 with ⟨rfl,rfl,rfl⟩|⟨rfl,rfl,rfl⟩
 ·refine bp.Dq (n+1) 2 1 (n1 _ _) rfl ?_
  simp only[n3,List.set_cons_succ,List.set_cons_zero]
  refine bp.pM ?_ l0
  simp only[go_sem,hK]
  repeat' (first|exact Ok.out|with_reducible refine jb ?_ ?_)
 ·refine bp.pM ?_ l0
  simp only[go_sem,hK]
  repeat' (first|exact Ok.out|with_reducible refine jb ?_ ?_)
end
end Go.Abs
namespace Go.Abs
set_option maxRecDepth 8000
open Go.Proofs
section
variable {p:Pg} {T W:List Int} {y:Lay} {m:Mc} {loc:List (Nat×List D)} {s:St}
def vW (fr:Fr) (name:aG) (c:Nat):Prop:=∃ j:Nat,jh name 0 fr.names=(j:Int)∧fr.vars[j]? = some c
theorem vW.cell {fr:Fr} {name:aG} {c:Nat} (h:vW fr name c) (ht:m.top=fr):m.cell name=c:=by
 obtain⟨j,h1,h2⟩:=h
 unfold Mc.cell
 rw[ht,h1,Int.toNat_natCast,List.getD_eq_getElem?_getD,h2];rfl
theorem Inv.pop (h:Inv p T W y m loc s) {fr:Fr} {r:List Fr} (jk:m.st=fr::r) {so g:Nat} (rX:y.sd = .eA 1 so g (r.length+1)) :
 Inv p T W {y with φ:=y.φ.tail,sd:= .eA 1 so g r.length} {m with st:=r} loc ⟨s.ah.set 0 (fy p T W {y with φ:=y.φ.tail,sd:= .eA 1 so g r.length} {m with st:=r}),s.aw⟩:=by
 have ic:(D.eA 1 so g r.length).arr=y.sd.arr:=by rw[rX];rfl
 have PF:Lay.own {y with φ:=y.φ.tail,sd:= .eA 1 so g r.length} = y.own:=by simp only[Lay.own,ic]
 have il:=h.sy
 rw[jk]at il
 have ne : ∀ {q:Nat} {r':List D},s.ah[q]? = some r'→q≠0→(s.ah.set 0 (fy p T W {y with φ:=y.φ.tail,sd:= .eA 1 so g r.length} {m with st:=r}))[q]? = some r':=fun e hn=>by
  rw[List.getElem?_set_ne (Ne.symm hn)];exact e
 have nf : ∀ {q:Nat},q∉y.own→q≠0:=fun hq e=>hq (by rw[e];simp[Lay.own])
 obtain⟨l,hl⟩:=h.bN
 refine⟨by simp[h.uH],h.t0,h.t1,h.len,fun i c v e1 e2=>ne (h.cell i c v e1 e2) (h.vS (by simp[List.mem_of_getElem? e1])),by simp[il],fun i o Mn e1 e2=>?_, ?_,⟨l,hl.keep fun o mo=>?_⟩,by rw[PF];exact h.own,fun q mq=>?_⟩
 ·obtain⟨f1,f2,f3⟩:=h.frame (i+1) o Mn (by simpa [List.getElem?_tail]using e1) (by rw [jk];simpa using e2)
  exact⟨ne f1 (nf f2),by rw[PF];exact f2,f3⟩
 ·cases hφ:y.φ with
  |nil=>rw[hφ]at il;simp at il
  | cons o φ=>
   rw[hφ]at il
   rcases h.stack with ⟨e,_⟩|⟨so',g',more,e,e2⟩
   ·rw[e]at rX;cases rX
   ·have e':=e
    rw[rX,D.eA.injEq]at e'
    obtain⟨_,rfl,rfl,_⟩:=e'
    refine .inr ⟨so,g,[.ptr o 0]++more,by simp at il ⊢;omega,ne ?_ (h.vS (by rw[rX];simp[D.arr]))⟩
    rw[e2,hφ]
    simp[xH]
 ·show(s.ah.set 0 _)[o]? = _
  rw[List.getElem?_set_ne (Ne.symm (h.vS (by simp[mo])))]
 ·obtain⟨f1,f2⟩:=h.loc q mq
  exact⟨ne f1 (nf f2),by rw[PF];exact f2⟩
theorem Kr {L:List Im} {c:Nat} {it:Im} (h:L[c]? = some it) {a:Int} (ha:a=(c:Int)+1):fp L a=it:=by
 unfold fp
 rw[ha,show((c:Int)+1 - 1).toNat=c by omega,List.getD_eq_getElem?_getD,h];rfl
theorem Z6 (h:Inv p T W y m loc s) {fr:Fr} {r:List Fr} (ht:mU m fr r) (hL:p.aX.L.length<1000000)
 (hc:fr.call=0∨∃ (c:Nat) (it:Im) (uG:Fr) (r2:List Fr),fr.call=(c:Int)+1∧p.aX.L[c]? = some it∧mU {m with st:=r} uG r2∧(it.s.name≠ []→∃ k,vW uG it.s.name k)) (xG:Int) :
 bM Tryz.prog oH [.ptr 0 0, .int .i64 xG] s (Rl p T W (.int .i64 (m.close p.aX.L xG).1) (m.close p.aX.L xG).2 (fun y'=>∃ sd,y' = {y with φ:=y.φ.tail,sd:=sd}) loc):=by
 obtain⟨so,g,cells,o,h1,h2,h3,h4,h5⟩:=h.VQ ht.st
 obtain⟨o',_,Fb,c1⟩:=PC h ht.st ht.len
 have ho:o'=o:=by rw[h5]at *;cases ‹some o=some o'›;rfl
 subst ho
 have hm:=h.jG
 rw[fy,h1]at hm
 have hl:=h.uH
 have hp:=h.pop ht.st h1
 have hpf:=hp.jG
 have hlen:=ht.len
 have hw:IntKind.wrap .i64 (((r.length+1:Nat):Int) - 1)=((r.length:Nat):Int):=by rw[show((r.length+1:Nat):Int) - 1=(r.length:Int) by omega];exact ei (by omega) (by omega)
 have uq:xc (.eA 1 so g (r.length+1)) none (some (.int .i64 (r.length:Int)))=some (.eA 1 so g r.length):=by simp[xc,sV,sW];omega
 have vf : ∀ r,(s.ah.set 0 r)[0]? = some r:=fun r=>List.getElem?_set_self hl
 rw[pw]at Fb
 have oN:m.close p.aX.L xG=if fr.call==0 then(-1,{{m with st:=r}with fin:=1})else((fp p.aX.L fr.call).next,if(fp p.aX.L fr.call).s.name == []then {m with st:=r}else({m with st:=r} : Mc).set (fp p.aX.L fr.call).s.name xG):=by
  unfold Mc.close
  rw[ht.top,ht.st];rfl
 rw[oN]
 rcases hc with hc|⟨c,it,uG,r2,hc,pO,tv,hn⟩
 ·rw [hc]at Fb
  have e0:((0:Int)==0)=true:=rfl
  have h5:=hp.tQ (m':= {{m with st:=r}with fin:=1}) rfl rfl hp.t0 hp.t1
  rw[fy]at h5
  simp only[List.set_set]at h5
  rw[hc,if_pos e0]
  refine bM.uC qH rfl fun B Q hB hQ=>?_
  have⟨hD,hY,hZ,gA⟩:=bR
  repeat' (first
 |simp only[go_sem,hD,hY,hZ,gA,hm,hl,hw,uq,vf,Fb,e0,List.set_set]
 |(with_reducible refine CU (c1) ?_)
 |(with_reducible first|refine bl fun hc=>?_|refine bm fun hc=>?_|refine bn (fun hc=>?_) fun hc=>?_)<;>(try simp only[hc,bs,↓reduceIte]at h)<;>try simp only[hc]
 |(with_reducible refine aE hQ ?_;(try cases h);simp only[aS,aV,bF,bG,go_sem,hD,hY,hZ,gA,hm,hl,hw,uq,vf,Fb,e0,List.set_set];try exact cq)
 |(cases h;done))
  (refine gM hQ ?_;simp only[aS,aV,bF,bG,go_sem])
  exact⟨rfl,_,⟨_,rfl⟩,h5⟩
 ·rw [hc]at Fb
  have BU:IntKind.wrap .i64 ((c:Int)+1 - 1)=(c:Int):=by
   have:=(List.getElem?_eq_some_iff.1 pO).1
   rw[show(c:Int)+1 - 1=(c:Int) by omega];exact ei (by omega) (by omega)
  have e0:((c:Int)+1==0)=false:=by simp;omega
  have aoe:=Kr pO hc
  have hz : ∀ (z:List D) (e:List D),(s.ah.set 0 e++ [z]).set s.ah.length (dv it)=s.ah.set 0 e++ [dv it]:=fun z e=>by simp
  have hg : ∀ z e:List D,(s.ah.set 0 e++ [z])[s.ah.length]? = some z:=fun z e=>by simp
  have cS:(fA p)[2]? = some (.slice .shared 17 (p.aX.L.map dv)):=rfl
  have wT : ∀ e:List D,(s.ah.set 0 e).length=s.ah.length:=fun e=>List.length_set
  have dh:=hp.new (dv it)
  rw[fy]at dh
  simp only[wT]at dh
  have ES:dv it = [.int .i64 it.s.id, .int .i64 it.s.kind, .slice .shared 1 (it.s.labels.map encStr), .str it.s.name, .str it.s.proc, .int .i64 it.s.x.op, .int .i64 it.s.x.n, .str it.s.x.name, .slice .shared 4 (it.s.x.kids.map cj), .bool it.s.has, .slice .shared 6 (it.s.args.map eB), .slice .shared 13 (it.s.a8.map bh), .slice .shared 13 (it.s.aR.map bh), .int .i64 it.proc, .int .i64 it.up, .int .i64 it.next, .int .i64 it.loop]:=rfl
  have c3:(dv it)[3]? = some (.str it.s.name):=rfl
  rw[hc,if_neg (by rw[e0];simp),show fp p.aX.L ((c:Int)+1)=it from hc ▸ aoe]
  refine bM.uC qH rfl fun B Q hB hQ=>?_
  have⟨hD,hY,hZ,gA⟩:=bR
  rcases Bool.eq_false_or_eq_true (it.s.name == [])with b|b
  ·repeat' (first
 |simp only[go_sem,hD,hY,hZ,gA,hm,hl,hw,uq,vf,Fb,e0,BU,pO,hz,hg,wT,c3,b,cS]
 |(with_reducible refine CU (c1) ?_)
 |(with_reducible first|refine bl fun hc=>?_|refine bm fun hc=>?_|refine bn (fun hc=>?_) fun hc=>?_)<;>(try simp only[hc,bs,↓reduceIte]at h)<;>try simp only[hc]
 |(with_reducible refine aE hQ ?_;(try cases h);simp only[aS,aV,bF,bG,go_sem,hD,hY,hZ,gA,hm,hl,hw,uq,vf,Fb,e0,BU,pO,hz,hg,wT,c3,b,cS];try exact cq)
 | (cases h;done))
   (refine gM hQ ?_;simp only[aS,aV,bF,bG,go_sem])
   refine⟨rfl,{y with φ:=y.φ.tail,sd:= .eA 1 so g r.length},⟨_,rfl⟩, ?_⟩
   simp only[b,if_true]
   exact dh.sub fun q mq=>List.mem_cons_of_mem _ mq
  ·obtain⟨k,hk⟩:=hn (by intro e;rw [e]at b;cases b)
   have Ks:=hk.cell tv.top
   obtain⟨j,hj,BV⟩:=hk
   have c2:=Cu dh tv.st tv.len tv.names hj BV
   have hkm:k<m.mem.length:=by
    have hlp:=hp.sy
    rw[tv.st]at hlp
    cases hφ:y.φ.tail with
    |nil=>simp[hφ]at hlp
    |cons o2 φ2=>exact(hp.frame 0 o2 uG (by simp[hφ]) (by rw[tv.st];rfl)).2.2 k (List.mem_of_getElem? BV)
   have hκ:y.κ[k]? = some (y.κ.getD k 0):=by
    rw[List.getD_eq_getElem?_getD,List.getElem?_eq_getElem (by have:=h.len;omega)];rfl
   have gW:=dh.cell k _ _ hκ (List.getElem?_eq_getElem hkm)
   have vP:=dh.VM hκ xG
   have jo:=(vP.loc (s.ah.length,dv it) (List.mem_cons_self ..)).1
   simp only at gW vP jo c2
   have hb:(it.s.name != [])=true:=by simp[bne,b]
   repeat' (first
 |simp only[go_sem,hD,hY,hZ,gA,hm,hl,hw,uq,vf,Fb,e0,BU,pO,hz,hg,wT,c3,b,cS,gW,jo]
 |(with_reducible refine CU (c1) ?_)
 |(with_reducible refine CU (c2) ?_)
 |(with_reducible first|refine bl fun hc=>?_|refine bm fun hc=>?_|refine bn (fun hc=>?_) fun hc=>?_)<;>(try simp only[hc,bs,↓reduceIte]at h)<;>try simp only[hc]
 |(with_reducible refine aE hQ ?_;(try cases h);simp only[aS,aV,bF,bG,go_sem,hD,hY,hZ,gA,hm,hl,hw,uq,vf,Fb,e0,BU,pO,hz,hg,wT,c3,b,cS,gW,jo];try exact cq)
 | (cases h;done))
   (refine gM hQ ?_;simp only[aS,aV,bF,bG,go_sem])
   refine⟨rfl,{y with φ:=y.φ.tail,sd:= .eA 1 so g r.length},⟨_,rfl⟩, ?_⟩
   simp only[b,Bool.false_eq_true,if_false,Mc.set,Ks]
   exact vP.sub fun q mq=>List.mem_cons_of_mem _ mq
end
end Go.Abs
namespace Go.Abs
set_option maxRecDepth 8000
open Go.Proofs
section
variable {p:Pg} {T W:List Int} {y:Lay} {m:Mc} {loc:List (Nat×List D)} {s:St}
structure ad4 (p:Pg) (fr:Fr) (it:Im):Prop where
 said:it.s.nz
 brk:it.s.kind=7→∃ (c:Nat) (it2:Im),it.loop=(c:Int)+1∧p.aX.L[c]? = some it2
 F2:it.s.kind=10→∃ (i:Nat) (f:Pc),it.proc=(i:Int)∧p.procs[i]? = some f
 name:it.s.kind=1∨it.s.kind=2→∃ k,vW fr it.s.name k
 a8:it.s.a8.length<1000000
 aR:it.s.aR.length<1000000
structure Ib (p:Pg) (T W:List Int) (m:Mc):Prop where
 W:W.length<1000000
 T:T.length<1000000
 trace:m.trace.length<2000000
 out:m.out.length<2000000
 L:p.aX.L.length<1000000
 P:Pc.a7 p.procs<1000000000
 reads:0≤m.reads∧m.reads<2000000
theorem cell_of (h:Inv p T W y m loc s) {fr:Fr} {r:List Fr} (jk:m.st=fr::r) {c j:Nat} (hc:fr.vars[j]? = some c):y.κ[c]? = some (y.κ.getD c 0)∧∃ v,m.mem[c]? = some v∧s.ah[y.κ.getD c 0]? = some [.int .i64 v]:=by
 have il:=h.sy
 rw[jk]at il
 cases hφ:y.φ with
 |nil=>simp[hφ]at il
 | cons o φ=>
  have SG:=(h.frame 0 o fr (by simp[hφ]) (by rw[jk];rfl)).2.2 c (List.mem_of_getElem? hc)
  have hκ:y.κ[c]? = some (y.κ.getD c 0):=by
   rw[List.getD_eq_getElem?_getD,List.getElem?_eq_getElem (by have:=h.len;omega)];rfl
  exact⟨hκ,_,List.getElem?_eq_getElem SG,h.cell c _ _ hκ (List.getElem?_eq_getElem SG)⟩
theorem aof (hp:p.iP) (VW:p.may=true) (h:Inv p T W y m loc s) {fr:Fr} {r:List Fr} (ht:mU m fr r) (hz:Ib p T W m) {it:Im} (hd:ad4 p fr it) :
 bM Tryz.prog qv [.ptr 0 0, .agg (dv it)] s (Rl p T W (.int .i64 (m.do p p.aX.L T W it).1) (m.do p p.aX.L T W it).2 (fun y'=>∃ vd,y' = {y with vd:=vd}) loc):=by
 have h1:=(h.new (dv it)).new (bh it.s)
 simp only[List.length_append,List.length_singleton]at h1
 have z0 : ∀ z:List D,(s.ah++ [z])[s.ah.length]? = some z:=fun z=>by simp
 have z1 : ∀ z:List D,(s.ah++ [dv it]++ [z]).set (s.ah.length+1) (bh it.s)=s.ah++ [dv it]++ [bh it.s]:=fun z=>by simp[List.append_assoc,List.set_append_right]
 have z2 : ∀ a z:List D,(s.ah++ [a]++ [z])[s.ah.length+1]? = some z:=fun a z=>by simp
 have z3 : ∀ a z:List D,(s.ah++ [a]++ [z])[s.ah.length]? = some a:=fun a z=>by simp
 have z4:=h1.jG
 rw[fy]at z4
 have vG:=h1.uH
 simp only at z4 vG
 have cS:(fA p)[2]? = some (.slice .shared 17 (p.aX.L.map dv)):=rfl
 have nG : ∀ q∈loc,q∈(s.ah.length+1,bh it.s)::(s.ah.length,dv it)::loc:=fun q mq=>List.mem_cons_of_mem _ (List.mem_cons_of_mem _ mq)
 generalize hn:s.ah.length=n at *
 have jo : ∀ {y2:Lay} {m2:Mc} {s2:St},Inv p T W y2 m2 ((n+1,bh it.s)::(n,dv it)::loc) s2→s2.ah[n]? = some (dv it)∧s2.ah[n+1]? = some (bh it.s)∧0<s2.ah.length:=fun h2=>
  ⟨(h2.loc (n,dv it) (by simp)).1,(h2.loc (n+1,bh it.s) (by simp)).1,h2.uH⟩
 rcases Bool.eq_false_or_eq_true (it.s.kind==7)with b7|b7
 ·have c1:=vU h1 hz.W hz.trace it.s.id
  obtain⟨c,it2,e1,e2⟩:=hd.brk (by simpa using b7)
  have hw:IntKind.wrap .i64 ((c:Int)+1 - 1)=(c:Int):=by
   have:=(List.getElem?_eq_some_iff.1 e2).1
   have:=hz.L
   rw[show(c:Int)+1 - 1=(c:Int) by omega];exact ei (by omega) (by omega)
  have yI:m.do p p.aX.L T W it=(it2.next,m.event W it.s.id []):=by
   unfold Mc.do
   dsimp only
   rw[if_pos b7,Kr e2 e1]
  rw[yI]
  refine bM.uC ig rfl fun B Q hB hQ=>?_
  have⟨hD,hY,hZ,gA⟩:=bR
  repeat' (first
 |simp only[go_sem,hD,hY,hZ,gA,z0,z1,z2,z3,hn,b7]
 |(with_reducible first|refine bl fun hc=>?_|refine bm fun hc=>?_|refine bn (fun hc=>?_) fun hc=>?_)<;>(try simp only[hc,bs,↓reduceIte]at h)<;>try simp only[hc]
 |(with_reducible refine aE hQ ?_;(try cases h);simp only[aS,aV,bF,bG,go_sem,hD,hY,hZ,gA,z0,z1,z2,z3,hn,b7];try exact cq)
 |(cases h;done))
  refine CR c1 fun d s2 h2=>?_
  obtain⟨rfl,y2,rfl,h2⟩:=h2
  obtain⟨x1,x2,x3⟩:=jo h2
  have jD:=h2.jG
  rw[fy]at jD
  repeat' (first
 |simp only[go_sem,hD,hY,hZ,gA,x1,x2,jD,cS,e1,hw,e2]
 |(with_reducible first|refine bl fun hc=>?_|refine bm fun hc=>?_|refine bn (fun hc=>?_) fun hc=>?_)<;>(try simp only[hc,bs,↓reduceIte]at h)<;>try simp only[hc]
 |(with_reducible refine aE hQ ?_;(try cases h);simp only[aS,aV,bF,bG,go_sem,hD,hY,hZ,gA,x1,x2,jD,cS,e1,hw,e2];try exact cq)
 |(cases h;done))
  (refine gM hQ ?_;simp only[aS,aV,bF,bG,go_sem])
  exact⟨rfl,_,⟨_,rfl⟩,h2.sub nG⟩
 rcases Bool.eq_false_or_eq_true (it.s.kind==8)with b8|b8
 ·have c1:=vU h1 hz.W hz.trace it.s.id
  have yI:m.do p p.aX.L T W it=(it.loop,m.event W it.s.id []):=by
   unfold Mc.do
   dsimp only
   rw[if_neg (by simp[b7]),if_pos b8]
  rw[yI]
  refine bM.uC ig rfl fun B Q hB hQ=>?_
  have⟨hD,hY,hZ,gA⟩:=bR
  repeat' (first
 |simp only[go_sem,hD,hY,hZ,gA,z0,z1,z2,z3,hn,b7,b8]
 |(with_reducible first|refine bl fun hc=>?_|refine bm fun hc=>?_|refine bn (fun hc=>?_) fun hc=>?_)<;>(try simp only[hc,bs,↓reduceIte]at h)<;>try simp only[hc]
 |(with_reducible refine aE hQ ?_;(try cases h);simp only[aS,aV,bF,bG,go_sem,hD,hY,hZ,gA,z0,z1,z2,z3,hn,b7,b8];try exact cq)
 |(cases h;done))
  refine CR c1 fun d s2 h2=>?_
  obtain⟨rfl,y2,rfl,h2⟩:=h2
  obtain⟨x1,x2,x3⟩:=jo h2
  repeat' (first
 |simp only[go_sem,hD,hY,hZ,gA,x1,x2]
 |(with_reducible first|refine bl fun hc=>?_|refine bm fun hc=>?_|refine bn (fun hc=>?_) fun hc=>?_)<;>(try simp only[hc,bs,↓reduceIte]at h)<;>try simp only[hc]
 |(with_reducible refine aE hQ ?_;(try cases h);simp only[aS,aV,bF,bG,go_sem,hD,hY,hZ,gA,x1,x2];try exact cq)
 |(cases h;done))
  (refine gM hQ ?_;simp only[aS,aV,bF,bG,go_sem])
  exact⟨rfl,_,⟨_,rfl⟩,h2.sub nG⟩
 rcases Bool.eq_false_or_eq_true (it.s.kind==10)with tG|tG
 ·have c1:=vU h1 hz.W hz.trace it.s.id
  obtain⟨i,f,e1,e2⟩:=hd.F2 (by simpa using tG)
  have cA:=fun s=>adD hp VW e2 it.s.name s
  have yI:m.do p p.aX.L T W it=((kZ f.fin it.s.name (Sm.dd f.body)).1,m.event W it.s.id []):=by
   unfold Mc.do
   dsimp only
   rw[if_neg (by simp[b7]),if_neg (by simp[b8]),if_pos tG,e1,Int.toNat_natCast,e2]
  rw[yI]
  refine bM.uC ig rfl fun B Q hB hQ=>?_
  have⟨hD,hY,hZ,gA⟩:=bR
  repeat' (first
 |simp only[go_sem,hD,hY,hZ,gA,z0,z1,z2,z3,hn,b7,b8,tG]
 |(with_reducible first|refine bl fun hc=>?_|refine bm fun hc=>?_|refine bn (fun hc=>?_) fun hc=>?_)<;>(try simp only[hc,bs,↓reduceIte]at h)<;>try simp only[hc]
 |(with_reducible refine aE hQ ?_;(try cases h);simp only[aS,aV,bF,bG,go_sem,hD,hY,hZ,gA,z0,z1,z2,z3,hn,b7,b8,tG];try exact cq)
 |(cases h;done))
  refine CR c1 fun d s2 h2=>?_
  obtain⟨rfl,y2,rfl,h2⟩:=h2
  obtain⟨x1,x2,x3⟩:=jo h2
  have jD:=h2.jG
  rw[fy]at jD
  repeat' (first
 |simp only[go_sem,hD,hY,hZ,gA,x1,x2,jD,e1]
 |(with_reducible refine CU (cA _) ?_)
 |(with_reducible first|refine bl fun hc=>?_|refine bm fun hc=>?_|refine bn (fun hc=>?_) fun hc=>?_)<;>(try simp only[hc,bs,↓reduceIte]at h)<;>try simp only[hc]
 |(with_reducible refine aE hQ ?_;(try cases h);simp only[aS,aV,bF,bG,go_sem,hD,hY,hZ,gA,x1,x2,jD,e1];try exact cq)
 |(cases h;done))
  (refine gM hQ ?_;simp only[aS,aV,bF,bG,go_sem])
  exact⟨rfl,_,⟨_,rfl⟩,h2.sub nG⟩
 rcases Bool.eq_false_or_eq_true (it.s.kind==2)with b2|b2
 ·obtain⟨k,hk⟩:=hd.name (.inr (by simpa using b2))
  have jv:=hz.reads
  have hTl:=hz.T
  have Gs:=jv.1
  have awn : ∀ r,((s.ah++ [dv it]++ [bh it.s]).set 0 r)[0]? = some r:=fun r=>List.getElem?_set_self vG
  cases e:T[m.reads.toNat]? with
  | none=>
   have ux:decide (m.reads≥(T.length:Int))=true:=by have:=List.getElem?_eq_none_iff.1 e;simp;omega
   have yI:m.do p p.aX.L T W it=(-1,{m with fin:=3}):=by
    unfold Mc.do
    dsimp only
    rw[if_neg (by simp[b7]),if_neg (by simp[b8]),if_neg (by simp[tG]),if_pos b2,e]
   rw[yI]
   have h2:=h1.tQ (m':= {m with fin:=3}) rfl rfl h1.t0 h1.t1
   rw[fy]at h2
   simp only at h2
   refine bM.uC ig rfl fun B Q hB hQ=>?_
   have⟨hD,hY,hZ,gA⟩:=bR
   repeat' (first
 |simp only[go_sem,hD,hY,hZ,gA,z0,z1,z2,z3,z4,hn,b7,b8,tG,b2,ux,vG]
 |(with_reducible first|refine bl fun hc=>?_|refine bm fun hc=>?_|refine bn (fun hc=>?_) fun hc=>?_)<;>(try simp only[hc,bs,↓reduceIte]at h)<;>try simp only[hc]
 |(with_reducible refine aE hQ ?_;(try cases h);simp only[aS,aV,bF,bG,go_sem,hD,hY,hZ,gA,z0,z1,z2,z3,z4,hn,b7,b8,tG,b2,ux,vG];try exact cq)
 | (cases h;done))
   (refine gM hQ ?_;simp only[aS,aV,bF,bG,go_sem])
   exact⟨rfl,_,⟨_,rfl⟩,h2.sub nG⟩
  | some v=>
   have ux:decide (m.reads≥(T.length:Int))=false:=by have:=(List.getElem?_eq_some_iff.1 e).1;simp;omega
   have Fe:IntKind.wrap .i64 (m.reads+1)=m.reads+1:=ei (by omega) (by omega)
   have Ks:=hk.cell ht.top
   obtain⟨j,hj,BV⟩:=hk
   have yI:m.do p p.aX.L T W it=(it.next,(({m with reads:=m.reads+1,mem:=m.mem.set k v} : Mc).event W it.s.id [v])):=by
    unfold Mc.do
    dsimp only
    rw[if_neg (by simp[b7]),if_neg (by simp[b8]),if_neg (by simp[tG]),if_pos b2,e]
    have:({m with reads:=m.reads+1} : Mc).cell it.s.name=k:=Ks
    simp only[Mc.set,this]
   rw[yI]
   have h2:=h1.tQ (m':= {m with reads:=m.reads+1}) rfl rfl h1.t0 h1.t1
   have tv:mU ({m with reads:=m.reads+1} : Mc) fr r:=⟨ht.st,ht.len,ht.names,ht.vars⟩
   have c2:=Cu h2 tv.st tv.len tv.names hj BV
   obtain⟨hκ,v0,g1,g2⟩:=cell_of h2 tv.st BV
   have h3:=h2.VM hκ v
   have c3:=DS h3 hz.W hz.trace it.s.id v
   obtain⟨x1,x2,x3⟩:=jo h3
   obtain⟨x4,x5,x6⟩:=jo h2
   rw[fy]at c2 g2 c3 x1 x2 x4 x5
   simp only at c2 g2 c3 x1 x2 x4 x5
   refine bM.uC ig rfl fun B Q hB hQ=>?_
   have⟨hD,hY,hZ,gA⟩:=bR
   repeat' (first
 |simp only[go_sem,hD,hY,hZ,gA,z0,z1,z2,z3,z4,hn,b7,b8,tG,b2,ux,vG,e,Fe,Gs,x1,x2,x4,x5,g2]
 |(with_reducible refine CU (c2) ?_)
 |(with_reducible first|refine bl fun hc=>?_|refine bm fun hc=>?_|refine bn (fun hc=>?_) fun hc=>?_)<;>(try simp only[hc,bs,↓reduceIte]at h)<;>try simp only[hc]
 |(with_reducible refine aE hQ ?_;(try cases h);simp only[aS,aV,bF,bG,go_sem,hD,hY,hZ,gA,z0,z1,z2,z3,z4,hn,b7,b8,tG,b2,ux,vG,e,Fe,Gs,x1,x2,x4,x5,g2];try exact cq)
 | (cases h;done))
   refine CR c3 fun d s2 h4=>?_
   obtain⟨rfl,y2,rfl,h4⟩:=h4
   obtain⟨x1,x2,x3⟩:=jo h4
   repeat' (first
 |simp only[go_sem,hD,hY,hZ,gA,x1,x2]
 |(with_reducible first|refine bl fun hc=>?_|refine bm fun hc=>?_|refine bn (fun hc=>?_) fun hc=>?_)<;>(try simp only[hc,bs,↓reduceIte]at h)<;>try simp only[hc]
 |(with_reducible refine aE hQ ?_;(try cases h);simp only[aS,aV,bF,bG,go_sem,hD,hY,hZ,gA,x1,x2];try exact cq)
 | (cases h;done))
   (refine gM hQ ?_;simp only[aS,aV,bF,bG,go_sem])
   exact⟨rfl,_,⟨_,rfl⟩,h4.sub nG⟩
 -- an expression is reckoned
 have hx:it.s.x.size<1000000:=by have:=hd.said.2.2;omega
 have c1:=DR h1 ht hx hd.said.1
 rcases Bool.eq_false_or_eq_true (m.bo it.s.x).1.2 with bw|bw
 case inr=>
  have yI:m.do p p.aX.L T W it=(-1,(m.bo it.s.x).2):=by
   unfold Mc.do
   dsimp only
   rw[if_neg (by simp[b7]),if_neg (by simp[b8]),if_neg (by simp[tG]),if_neg (by simp[b2]),if_neg (by simp[bw])]
  rw[yI]
  refine bM.uC ig rfl fun B Q hB hQ=>?_
  have⟨hD,hY,hZ,gA⟩:=bR
  repeat' (first
 |simp only[go_sem,hD,hY,hZ,gA,z0,z1,z2,z3,hn,b7,b8,tG,b2]
 |(with_reducible first|refine bl fun hc=>?_|refine bm fun hc=>?_|refine bn (fun hc=>?_) fun hc=>?_)<;>(try simp only[hc,bs,↓reduceIte]at h)<;>try simp only[hc]
 |(with_reducible refine aE hQ ?_;(try cases h);simp only[aS,aV,bF,bG,go_sem,hD,hY,hZ,gA,z0,z1,z2,z3,hn,b7,b8,tG,b2];try exact cq)
 |(cases h;done))
  refine CR c1 fun d s2 h2=>?_
  obtain⟨⟨rfl,y2,vV,h2⟩,_⟩:=h2
  repeat' (first
 |simp only[go_sem,hD,hY,hZ,gA,bw]
 |(with_reducible first|refine bl fun hc=>?_|refine bm fun hc=>?_|refine bn (fun hc=>?_) fun hc=>?_)<;>(try simp only[hc,bs,↓reduceIte]at h)<;>try simp only[hc]
 |(with_reducible refine aE hQ ?_;(try cases h);simp only[aS,aV,bF,bG,go_sem,hD,hY,hZ,gA,bw];try exact cq)
 |(cases h;done))
  (refine gM hQ ?_;simp only[aS,aV,bF,bG,go_sem])
  exact⟨rfl,y2,⟨_,vV⟩,h2.sub nG⟩
 have SI:(m.bo it.s.x).2=m:=by
  unfold Mc.bo
  dsimp only
  rw[if_pos (show(it.s.x.bo m.top.names m.bN).2=true from bw)]
 have yI:m.do p p.aX.L T W it=(let m1:=m.event W it.s.id [(m.bo it.s.x).1.1];let n:=(m.bo it.s.x).1.1
  if it.s.kind==1 then(it.next,m1.set it.s.name n)else if it.s.kind==3 then(it.next,{m1 with out:=m1.out++ [n]})
  else if it.s.kind==5 then(if n==0 then firstM it.s.aR it.next else firstM it.s.a8 it.next,m1)else if it.s.kind==6 then(if n==0 then it.next else firstM it.s.a8 it.s.id,m1)else(it.next,m1)):=by
  unfold Mc.do
  dsimp only
  rw[if_neg (by simp[b7]),if_neg (by simp[b8]),if_neg (by simp[tG]),if_neg (by simp[b2]),if_pos bw,SI]
 rw[yI]
 rw[SI]at c1
 generalize hR:(m.bo it.s.x).1=R at *
 obtain⟨v,ok⟩:=R
 subst bw
 dsimp only
 have he:=eW W m it.s.id [v]
 have SJ:mU (m.event W it.s.id [v]) fr r:=⟨by rw[he.1];exact ht.st,ht.len,ht.names,ht.vars⟩
 have nb:(v != 0) = !(v==0):=rfl
 have fT:=fun o s=>Mm it.s.a8 (by have:=hd.a8;omega) o s
 have fE:=fun o s=>Mm it.s.aR (by have:=hd.aR;omega) o s
 refine bM.uC ig rfl fun B Q hB hQ=>?_
 have⟨hD,hY,hZ,gA⟩:=bR
 repeat' (first
 |simp only[go_sem,hD,hY,hZ,gA,z0,z1,z2,z3,hn,b7,b8,tG,b2]
 |(with_reducible first|refine bl fun hc=>?_|refine bm fun hc=>?_|refine bn (fun hc=>?_) fun hc=>?_)<;>(try simp only[hc,bs,↓reduceIte]at h)<;>try simp only[hc]
 |(with_reducible refine aE hQ ?_;(try cases h);simp only[aS,aV,bF,bG,go_sem,hD,hY,hZ,gA,z0,z1,z2,z3,hn,b7,b8,tG,b2];try exact cq)
 |(cases h;done))
 refine CR c1 fun d s2 h2=>?_
 obtain⟨⟨rfl,y2,vV,h2⟩,_⟩:=h2
 obtain⟨x1,x2,x3⟩:=jo h2
 have c2:=DS h2 hz.W hz.trace it.s.id v
 repeat' (first
 |simp only[go_sem,hD,hY,hZ,gA,x1,x2]
 |(with_reducible first|refine bl fun hc=>?_|refine bm fun hc=>?_|refine bn (fun hc=>?_) fun hc=>?_)<;>(try simp only[hc,bs,↓reduceIte]at h)<;>try simp only[hc]
 |(with_reducible refine aE hQ ?_;(try cases h);simp only[aS,aV,bF,bG,go_sem,hD,hY,hZ,gA,x1,x2];try exact cq)
 |(cases h;done))
 refine CR c2 fun d s3 h3=>?_
 obtain⟨rfl,y3,rfl,h3⟩:=h3
 obtain⟨x1,x2,x3⟩:=jo h3
 have oq:=h3.jG
 rw[fy]at oq
 rcases Bool.eq_false_or_eq_true (it.s.kind==1)with b1|b1
 ·obtain⟨k,hk⟩:=hd.name (.inl (by simpa using b1))
  have Ks:=hk.cell SJ.top
  obtain⟨j,hj,BV⟩:=hk
  have c3:=Cu h3 SJ.st SJ.len SJ.names hj BV
  obtain⟨hκ,v0,g1,g2⟩:=cell_of h3 SJ.st BV
  have h4:=h3.VM hκ v
  obtain⟨x4,x5,x6⟩:=jo h4
  simp only at x4 x5
  repeat' (first
 |simp only[go_sem,hD,hY,hZ,gA,x1,x2,b1,g2,x4,x5]
 |(with_reducible refine CU (c3) ?_)
 |(with_reducible first|refine bl fun hc=>?_|refine bm fun hc=>?_|refine bn (fun hc=>?_) fun hc=>?_)<;>(try simp only[hc,bs,↓reduceIte]at h)<;>try simp only[hc]
 |(with_reducible refine aE hQ ?_;(try cases h);simp only[aS,aV,bF,bG,go_sem,hD,hY,hZ,gA,x1,x2,b1,g2,x4,x5];try exact cq)
 |(cases h;done))
  (refine gM hQ ?_;simp only[aS,aV,bF,bG,go_sem])
  rw[if_pos b1]
  refine⟨rfl,y3,⟨_,vV⟩, ?_⟩
  simp only[Mc.set,Ks]
  exact h4.sub nG
 rw[if_neg (by simp[b1])]at hQ
 rcases Bool.eq_false_or_eq_true (it.s.kind==3)with b3|b3
 ·rw [if_pos b3]at hQ
  have eO:iB 1 8 (.slice (.tok 0) 1 ((m.event W it.s.id [v]).out.map bP)) (.slice .full 1 [[.int .i64 v]]) s3=some (.slice (.tok 0) 1 (((m.event W it.s.id [v]).out++ [v]).map bP),⟨s3.ah,s3.aw.set 0 (some ((m.event W it.s.id [v]).out.length+1))⟩):=by
   rw[nX (size:=1) (by simp only[List.length_map,List.length_singleton,he.2.2.2.2.2];have:=hz.out;unfold bC;omega) (by simpa using h3.t0)]
   simp[bP]
  have h4:=h3.tQ (m':= {m.event W it.s.id [v]with out:=(m.event W it.s.id [v]).out++ [v]}) (ts:=s3.aw.set 0 (some ((m.event W it.s.id [v]).out.length+1))) rfl rfl (by simp[(List.getElem?_eq_some_iff.1 h3.t0).1]) (by rw[List.getElem?_set_ne (by omega)];exact h3.t1)
  obtain⟨x4,x5,x6⟩:=jo h4
  rw[fy]at h4 x4 x5
  simp only[List.map_append,List.map_cons,List.map_nil,bP]at h4 x4 x5 eO
  repeat' (first
 |simp only[go_sem,hD,hY,hZ,gA,x1,x2,b1,b3,oq,eO,x3,x4,x5]
 |(with_reducible first|refine bl fun hc=>?_|refine bm fun hc=>?_|refine bn (fun hc=>?_) fun hc=>?_)<;>(try simp only[hc,bs,↓reduceIte]at h)<;>try simp only[hc]
 |(with_reducible refine aE hQ ?_;(try cases h);simp only[aS,aV,bF,bG,go_sem,hD,hY,hZ,gA,x1,x2,b1,b3,oq,eO,x3,x4,x5];try exact cq)
 |(cases h;done))
  (refine gM hQ ?_;simp only[aS,aV,bF,bG,go_sem])
  exact⟨rfl,y3,⟨_,vV⟩,h4.sub nG⟩
 rw[if_neg (by simp[b3])]at hQ
 rcases Bool.eq_false_or_eq_true (it.s.kind==5)with b5|b5
 ·rw [if_pos b5]at hQ
  rcases Bool.eq_false_or_eq_true (v==0)with bv|bv
  ·rw [if_pos bv]at hQ
   repeat' (first
 |simp only[go_sem,hD,hY,hZ,gA,x1,x2,b1,b3,b5,nb,bv]
 |(with_reducible refine CU (fT _ _) ?_)
 |(with_reducible refine CU (fE _ _) ?_)
 |(with_reducible first|refine bl fun hc=>?_|refine bm fun hc=>?_|refine bn (fun hc=>?_) fun hc=>?_)<;>(try simp only[hc,bs,↓reduceIte]at h)<;>try simp only[hc]
 |(with_reducible refine aE hQ ?_;(try cases h);simp only[aS,aV,bF,bG,go_sem,hD,hY,hZ,gA,x1,x2,b1,b3,b5,nb,bv];try exact cq)
 | (cases h;done))
   (refine gM hQ ?_;simp only[aS,aV,bF,bG,go_sem])
   exact⟨rfl,y3,⟨_,vV⟩,h3.sub nG⟩
  ·rw [if_neg (by simp [bv])]at hQ
   repeat' (first
 |simp only[go_sem,hD,hY,hZ,gA,x1,x2,b1,b3,b5,nb,bv]
 |(with_reducible refine CU (fT _ _) ?_)
 |(with_reducible refine CU (fE _ _) ?_)
 |(with_reducible first|refine bl fun hc=>?_|refine bm fun hc=>?_|refine bn (fun hc=>?_) fun hc=>?_)<;>(try simp only[hc,bs,↓reduceIte]at h)<;>try simp only[hc]
 |(with_reducible refine aE hQ ?_;(try cases h);simp only[aS,aV,bF,bG,go_sem,hD,hY,hZ,gA,x1,x2,b1,b3,b5,nb,bv];try exact cq)
 | (cases h;done))
   (refine gM hQ ?_;simp only[aS,aV,bF,bG,go_sem])
   exact⟨rfl,y3,⟨_,vV⟩,h3.sub nG⟩
 rw[if_neg (by simp[b5])]at hQ
 rcases Bool.eq_false_or_eq_true (it.s.kind==6)with b6|b6
 ·rw [if_pos b6]at hQ
  rcases Bool.eq_false_or_eq_true (v==0)with bv|bv
  ·rw [if_pos bv]at hQ
   repeat' (first
 |simp only[go_sem,hD,hY,hZ,gA,x1,x2,b1,b3,b5,b6,nb,bv]
 |(with_reducible refine CU (fT _ _) ?_)
 |(with_reducible refine CU (fE _ _) ?_)
 |(with_reducible first|refine bl fun hc=>?_|refine bm fun hc=>?_|refine bn (fun hc=>?_) fun hc=>?_)<;>(try simp only[hc,bs,↓reduceIte]at h)<;>try simp only[hc]
 |(with_reducible refine aE hQ ?_;(try cases h);simp only[aS,aV,bF,bG,go_sem,hD,hY,hZ,gA,x1,x2,b1,b3,b5,b6,nb,bv];try exact cq)
 | (cases h;done))
   (refine gM hQ ?_;simp only[aS,aV,bF,bG,go_sem])
   exact⟨rfl,y3,⟨_,vV⟩,h3.sub nG⟩
  ·rw [if_neg (by simp [bv])]at hQ
   repeat' (first
 |simp only[go_sem,hD,hY,hZ,gA,x1,x2,b1,b3,b5,b6,nb,bv]
 |(with_reducible refine CU (fT _ _) ?_)
 |(with_reducible refine CU (fE _ _) ?_)
 |(with_reducible first|refine bl fun hc=>?_|refine bm fun hc=>?_|refine bn (fun hc=>?_) fun hc=>?_)<;>(try simp only[hc,bs,↓reduceIte]at h)<;>try simp only[hc]
 |(with_reducible refine aE hQ ?_;(try cases h);simp only[aS,aV,bF,bG,go_sem,hD,hY,hZ,gA,x1,x2,b1,b3,b5,b6,nb,bv];try exact cq)
 | (cases h;done))
   (refine gM hQ ?_;simp only[aS,aV,bF,bG,go_sem])
   exact⟨rfl,y3,⟨_,vV⟩,h3.sub nG⟩
 rw[if_neg (by simp[b6])]at hQ
 repeat' (first
 |simp only[go_sem,hD,hY,hZ,gA,x1,x2,b1,b3,b5,b6]
 |(with_reducible first|refine bl fun hc=>?_|refine bm fun hc=>?_|refine bn (fun hc=>?_) fun hc=>?_)<;>(try simp only[hc,bs,↓reduceIte]at h)<;>try simp only[hc]
 |(with_reducible refine aE hQ ?_;(try cases h);simp only[aS,aV,bF,bG,go_sem,hD,hY,hZ,gA,x1,x2,b1,b3,b5,b6];try exact cq)
 |(cases h;done))
 (refine gM hQ ?_;simp only[aS,aV,bF,bG,go_sem])
 exact⟨rfl,y3,⟨_,vV⟩,h3.sub nG⟩
end
end Go.Abs
namespace Go.Abs
set_option maxRecDepth 8000
open Go.Proofs
section
variable {p:Pg} {T W:List Int} {y:Lay} {m:Mc} {loc:List (Nat×List D)} {s:St}
theorem zX : ∀ (l:List Ar) (m:Mc) (out:List Nat),(Mc.args l m out).2.out=m.out∧(Mc.args l m out).2.trace=m.trace
 | [],m,out=>⟨rfl,rfl⟩
 | a::l,m,out=>by
  have hw:=gH m a.x
  simp only[Mc.args]
  by_cases c:a.ref=true
  ·rw[if_pos c];exact zX l m _
  ·rw [if_neg c]
   by_cases c2:(m.bo a.x).1.2=true
   ·rw [if_pos c2]
    obtain⟨h1,h2⟩:=zX l {(m.bo a.x).2 with mem:=(m.bo a.x).2.mem++ [(m.bo a.x).1.1]} (out++ [(m.bo a.x).2.mem.length])
    exact⟨h1.trans hw.2.2.2.2.1,h2.trans hw.2.2.2.2.2⟩
   ·rw[if_neg c2];exact⟨hw.2.2.2.2.1,hw.2.2.2.2.2⟩
structure SK (p:Pg) (fr:Fr) (v:Sm):Prop where
 said:v.nz
 args : ∀ a∈v.args,a.x.texts∧a.x.size<1000000∧(a.ref=true→∃ k,vW fr a.name k)
 proc : ∃ (j:Nat) (q:Pc),p.at v.proc=(j:Int)∧p.procs[j]? = some q∧p.find q.name=some q
theorem SL (hp:p.iP) (VW:p.may=true) (h:Inv p T W y m loc s) {fr:Fr} {r:List Fr} (ht:mU m fr r) (hz:Ib p T W m) (hg:p.globals.length≤m.mem.length) {v:Sm} (hd:SK p fr v) :
 bM Tryz.prog o7 [.ptr 0 0, .agg (bh v)] s (Rl p T W (.int .i64 (m.call p W v).1) (m.call p W v).2 (fun _=>True) loc):=by
 have h1:=h.new (bh v)
 have IE:2≤s.aw.length:=by have:=(List.getElem?_eq_some_iff.1 h.t1).1;omega
 generalize hn:s.ah.length=n at h1
 generalize LI:s.aw.length=tk at IE
 have ye:v.args.length<1000000:=by have:=hd.said.2.2;have:=Ar.eH v.args;omega
 have awo:=ht.st
 refine bM.uC zo rfl fun B Q hB hQ=>?_
 have⟨hD,hY,hZ,gA⟩:=bR
 have loop : ∀ (rest:List Ar) (k:Nat) (m1:Mc) (out:List Nat) (y1:Lay) (s1:St),v.args.drop k=rest→Mc.args v.args m [] = Mc.args rest m1 out→m1.st=m.st→m1.trace=m.trace∧m1.out=m.out→m.mem.length≤m1.mem.length→out.length=k∧k≤v.args.length→(∀ c∈out,c<m1.mem.length)→
  Inv p T W y1 m1 ((n,bh v)::loc) s1→s1.aw[tk]? = some (some out.length)→
  bp Tryz.prog B 67 QDW (kC 0 (nT (ke Tryz.prog B 67 QEB Q) Q))
   [(0, .ptr 0 0),(3, .ptr n 0),(5, .slice (.tok tk) 1 (out.map fun c=>fq (y1.κ.getD c 0))),(12, .slice .shared 6 (v.args.map eB)),(13, .int .i64 (v.args.length:Int)),(14, .int .i64 (k:Int))] s1:=by
  intro rest
  induction rest with
  | nil=>
   intro k m1 out y1 s1 G3 nA ve A7 vG wh pJ h2 VX
   have hD:=drop_nil G3
   have wL:mU m1 fr r:=⟨by rw[ve];exact ht.st,ht.len,ht.names,ht.vars⟩
   obtain⟨so,g,cells,o,e1,e2,e3,e4,e5⟩:=h2.VQ wL.st
   have jD:=h2.jG
   rw[fy,e1]at jD
   have tF:=(h2.loc (n,bh v) (by simp)).1
   have iY:=h2.uH
   have Gv:m.call p W v=if m1.st.length > 100 then(-1,{m1 with fin:=5})else(m1.event W v.id []).open p (p.at v.proc) out v.id:=by
    unfold Mc.call
    rw[nA]
    rfl
   have hlen:m1.st.length=r.length+1:=by rw[wL.st];rfl
   rw[Gv,hlen]at hQ
   simp only at tF
   refine bp.kQ ?_
   by_cases Vb:r.length+1 > 100
   ·have Ff:decide (((r.length+1:Nat):Int) > 100)=true:=by simp;omega
    rw[if_pos Vb]at hQ
    have h3:=h2.tQ (m':= {m1 with fin:=5}) rfl rfl h2.t0 h2.t1
    rw[fy,e1]at h3
    simp only at h3
    repeat' (first
 |simp only[go_sem,hD,hY,hZ,gA,jD,tF,Ff,iY]
 |(with_reducible first|refine bl fun hc=>?_|refine bm fun hc=>?_|refine bn (fun hc=>?_) fun hc=>?_)<;>(try simp only[hc,bs,↓reduceIte]at h)<;>try simp only[hc]
 |(with_reducible refine aE hQ ?_;(try cases h);simp only[aS,aV,bF,bG,go_sem,hD,hY,hZ,gA,jD,tF,Ff,iY];try exact cq)
 | (cases h;done))
    (refine gM hQ ?_;simp only[aS,aV,bF,bG,go_sem])
    exact⟨rfl,y1,trivial,h3.sub fun q mq=>List.mem_cons_of_mem _ mq⟩
   ·have Ff:decide (((r.length+1:Nat):Int) > 100)=false:=by simp;omega
    rw[if_neg Vb]at hQ
    have c1:=vU h2 hz.W (by rw[A7.1];exact hz.trace) v.id
    repeat' (first
 |simp only[go_sem,hD,hY,hZ,gA,jD,tF,Ff,iY]
 |(with_reducible first|refine bl fun hc=>?_|refine bm fun hc=>?_|refine bn (fun hc=>?_) fun hc=>?_)<;>(try simp only[hc,bs,↓reduceIte]at h)<;>try simp only[hc]
 |(with_reducible refine aE hQ ?_;(try cases h);simp only[aS,aV,bF,bG,go_sem,hD,hY,hZ,gA,jD,tF,Ff,iY];try exact cq)
 | (cases h;done))
    refine CR c1 fun d s3 h3=>?_
    obtain⟨rfl,y3,rfl,h3⟩:=h3
    have he:=eW W m1 v.id []
    obtain⟨j,q,j1,j2,j3⟩:=hd.proc
    obtain⟨y4,s4,hF,h4⟩:=Mp h3 hp VW j2 j3 (by rw[he.1,hlen];have:=ht.len;omega) (l:=out) (by rw[he.2.1];exact pJ) (by omega) (by rw[he.2.1];omega) v.id
    have hF':=fun g:Tag=>bM.qY (.cons (Wk.refl _) (.cons (Wk.refl _) (.cons (Wk.shared g 1 _) (jr.refl _)))) hF
    have hF2:aF Tryz.prog jn [.ptr 0 0, .int .i64 (j:Int), .slice (.tok tk) 1 (out.map fun c=>fq (y3.κ.getD c 0)), .int .i64 v.id] s3 _ s4:=hF' _
    have cP:=fun s=>EH (p:=p) (by have:=hp.procs.1;omega) v.proc s
    have oq:=h3.jG
    rw[fy]at oq
    have hx3:=(h3.loc (n,bh v) (by simp)).1
    simp only at hx3
    rw[j1]at hQ cP
    repeat' (first
 |simp only[go_sem,hD,hY,hZ,gA,oq,hx3]
 |(with_reducible refine CU (cP _) ?_)
 |(with_reducible refine CU (hF2) ?_)
 |(with_reducible first|refine bl fun hc=>?_|refine bm fun hc=>?_|refine bn (fun hc=>?_) fun hc=>?_)<;>(try simp only[hc,bs,↓reduceIte]at h)<;>try simp only[hc]
 |(with_reducible refine aE hQ ?_;(try cases h);simp only[aS,aV,bF,bG,go_sem,hD,hY,hZ,gA,oq,hx3];try exact cq)
 | (cases h;done))
    (refine gM hQ ?_;simp only[aS,aV,bF,bG,go_sem])
    exact⟨rfl,y4,trivial,h4.sub fun q mq=>List.mem_cons_of_mem _ mq⟩
  | cons a rest ih=>
   intro k m1 out y1 s1 G3 nA ve A7 vG wh pJ h2 VX
   obtain⟨hY,g2,hD,g4⟩:=drop_cons G3
   have bO:k<4611686018427387904:=by omega
   obtain⟨a1,a2,a3⟩:=hd.args a (List.mem_of_getElem? hY)
   have wL:mU m1 fr r:=⟨by rw[ve];exact ht.st,ht.len,ht.names,ht.vars⟩
   have h3:=h2.new (eB a)
   have zq : ∀ z:List D,(s1.ah++ [z]).set s1.ah.length (eB a)=s1.ah++ [eB a]:=fun z=>by simp
   have zg : ∀ z:List D,(s1.ah++ [z])[s1.ah.length]? = some z:=fun z=>by simp
   have eO : ∀ (x:Nat) (os:List (List D)),iB 1 8 (.slice (.tok tk) 1 (out.map fun c=>fq (y1.κ.getD c 0))) (.slice .full 1 [[.ptr x 0]]) ⟨os,s1.aw⟩=some (.slice (.tok tk) 1 ((out.map fun c=>fq (y1.κ.getD c 0))++ [fq x]),⟨os,s1.aw.set tk (some (out.length+1))⟩):=fun x os=>by
    rw[nX (size:=1) (by simp only[List.length_map,List.length_singleton];unfold bC;omega) (by simpa using VX)]
    simp[fq]
   have DU : ∀ k':Nat,(s1.aw.set tk (some k'))[0]? = s1.aw[0]? ∧(s1.aw.set tk (some k'))[1]? = s1.aw[1]? ∧(s1.aw.set tk (some k'))[tk]? = some (some k'):=fun k'=>
    ⟨List.getElem?_set_ne (by omega),List.getElem?_set_ne (by omega),by simp[(List.getElem?_eq_some_iff.1 VX).1]⟩
   refine bp.kQ ?_
   rcases Bool.eq_false_or_eq_true a.ref with b|b
   ·obtain⟨c,hc⟩:=a3 b
    have Ks:=hc.cell wL.top
    obtain⟨j,hj,BV⟩:=hc
    have c1:=Cu h3 wL.st wL.len wL.names hj BV
    obtain⟨hκ,v0,gm,_⟩:=cell_of h2 wL.st BV
    have Ah:=(List.getElem?_eq_some_iff.1 gm).1
    repeat' (first
 |simp only[go_sem,hD,hY,hZ,gA,hY,zq,zg,b,eO]
 |(with_reducible refine CU (c1) ?_)
 |(with_reducible first|refine bl fun hc=>?_|refine bm fun hc=>?_|refine bn (fun hc=>?_) fun hc=>?_)<;>(try simp only[hc,bs,↓reduceIte]at h)<;>try simp only[hc]
 |(with_reducible refine aE hQ ?_;(try cases h);simp only[aS,aV,bF,bG,go_sem,hD,hY,hZ,gA,hY,zq,zg,b,eO];try exact cq)
 | (cases h;done))
    have:=ih (k+1) m1 (out++ [c]) y1 ⟨s1.ah++ [eB a],s1.aw.set tk (some (out.length+1))⟩ g2 (by rw[nA];simp only[Mc.args,b,if_true,Ks]) ve A7 vG ⟨by simp[wh.1],g4⟩ (fun x mx=>by
     rcases List.mem_append.1 mx with mx|mx
     ·exact pJ x mx
     ·rw[List.mem_singleton.1 mx];exact Ah) ((h3.sub fun q mq=>List.mem_cons_of_mem _ mq).keep (fun _ _ e=>e) (DU _).1 (DU _).2.1) (by simpa using (DU _).2.2)
    refine bp.pM ?_ this
    simp only[go_sem,aI bO,List.map_append,List.map_cons,List.map_nil]
    repeat' (first|exact Ok.out|with_reducible refine jb ?_ ?_)
   ·have c1:=DR h3 wL a2 a1
    repeat' (first
 |simp only[go_sem,hD,hY,hZ,gA,hY,zq,zg,b]
 |(with_reducible first|refine bl fun hc=>?_|refine bm fun hc=>?_|refine bn (fun hc=>?_) fun hc=>?_)<;>(try simp only[hc,bs,↓reduceIte]at h)<;>try simp only[hc]
 |(with_reducible refine aE hQ ?_;(try cases h);simp only[aS,aV,bF,bG,go_sem,hD,hY,hZ,gA,hY,zq,zg,b];try exact cq)
 | (cases h;done))
    refine CR c1 fun d s2 h4=>?_
    obtain⟨⟨rfl,y2,vV,h4⟩,vm⟩:=h4
    have hw:=gH m1 a.x
    simp only at vm
    rcases Bool.eq_false_or_eq_true (m1.bo a.x).1.2 with bw|bw
    ·have SI:(m1.bo a.x).2=m1:=by
      unfold Mc.bo
      dsimp only
      rw[if_pos (show(a.x.bo m1.top.names m1.bN).2=true from bw)]
     rw[SI]at h4
     have yq : ∀ z:List D,(s2.ah++ [z]).set s2.ah.length [.int .i64 (m1.bo a.x).1.1] = s2.ah++ [[.int .i64 (m1.bo a.x).1.1]]:=fun z=>by simp
     have yg : ∀ z:List D,(s2.ah++ [z])[s2.ah.length]? = some z:=fun z=>by simp
     rw[← vm]at eO DU
     have h5:=h4.an9 (m1.bo a.x).1.1 (by omega)
     have hyκ:y2.κ=y1.κ:=by rw[vV]
     have ahI:y1.κ.length=m1.mem.length:=h2.len
     repeat' (first
 |simp only[go_sem,hD,hY,hZ,gA,bw,yq,yg,eO]
 |(with_reducible first|refine bl fun hc=>?_|refine bm fun hc=>?_|refine bn (fun hc=>?_) fun hc=>?_)<;>(try simp only[hc,bs,↓reduceIte]at h)<;>try simp only[hc]
 |(with_reducible refine aE hQ ?_;(try cases h);simp only[aS,aV,bF,bG,go_sem,hD,hY,hZ,gA,bw,yq,yg,eO];try exact cq)
 | (cases h;done))
     have:=ih (k+1) {m1 with mem:=m1.mem++ [(m1.bo a.x).1.1]} (out++ [m1.mem.length]) {y2 with κ:=y2.κ++ [s2.ah.length]} ⟨s2.ah++ [[.int .i64 (m1.bo a.x).1.1]],s2.aw.set tk (some (out.length+1))⟩ g2
      (by rw [nA];simp only [Mc.args,b,Bool.false_eq_true,if_false,bw,if_true,SI]) ve A7 (by simp;omega) ⟨by simp [wh.1],g4⟩ (fun x mx=>by
       simp only[List.length_append,List.length_singleton]
       rcases List.mem_append.1 mx with mx|mx
       ·have:=pJ x mx;omega
       ·rw[List.mem_singleton.1 mx];omega) ((h5.sub fun q mq=>List.mem_cons_of_mem _ mq).keep (fun _ _ e=>e) (DU _).1 (DU _).2.1) (by simpa using (DU _).2.2)
     refine bp.pM ?_ this
     have aoi:(out.map fun c=>fq ((y2.κ++ [s2.ah.length]).getD c 0))=out.map fun c=>fq (y1.κ.getD c 0):=List.map_congr_left fun c mc=>by rw[hyκ,DT (by have:=pJ c mc;omega)]
     have dh:(y2.κ++ [s2.ah.length]).getD m1.mem.length 0=s2.ah.length:=by rw[hyκ, ← ahI];simp[List.getD_eq_getElem?_getD]
     simp only[go_sem,aI bO,List.map_append,List.map_cons,List.map_nil,aoi,dh]
     repeat' (first|exact Ok.out|with_reducible refine jb ?_ ?_)
    ·repeat' (first
 |simp only[go_sem,hD,hY,hZ,gA,bw]
 |(with_reducible first|refine bl fun hc=>?_|refine bm fun hc=>?_|refine bn (fun hc=>?_) fun hc=>?_)<;>(try simp only[hc,bs,↓reduceIte]at h)<;>try simp only[hc]
 |(with_reducible refine aE hQ ?_;(try cases h);simp only[aS,aV,bF,bG,go_sem,hD,hY,hZ,gA,bw];try exact cq)
 |(cases h;done))
     (refine gM hQ ?_;simp only[aS,aV,bF,bG,go_sem])
     have Gv:m.call p W v=(-1,(m1.bo a.x).2):=by
      unfold Mc.call
      rw[nA]
      simp only[Mc.args,b,Bool.false_eq_true,if_false,bw]
     rw[Gv]
     exact⟨rfl,y2,trivial,h4.sub fun q mq=>List.mem_cons_of_mem _ (List.mem_cons_of_mem _ mq)⟩
 have Ye:(s.ah++ [bh v])[n]? = some (bh v):=by simp[← hn]
 have l0:=loop v.args 0 m [] y ⟨s.ah++ [bh v],s.aw++ [some 0]⟩ rfl rfl rfl ⟨rfl,rfl⟩ (Nat.le_refl _) ⟨rfl,Nat.zero_le _⟩ (by simp) (h1.aw _) (by simp[← LI])
 repeat' (first
 |simp only[go_sem,hD,hY,hZ,gA,Ye,hn]
 |(with_reducible first|refine bl fun hc=>?_|refine bm fun hc=>?_|refine bn (fun hc=>?_) fun hc=>?_)<;>(try simp only[hc,bs,↓reduceIte]at h)<;>try simp only[hc]
 |(with_reducible refine aE hQ ?_;(try cases h);simp only[aS,aV,bF,bG,go_sem,hD,hY,hZ,gA,Ye,hn];try exact cq)
 |(cases h;done))
 refine bp.q6 5 1 rfl ?_
 simp only[go_sem,hD,hY,hZ,gA]
 refine bp.pM ?_ l0
 simp only[go_sem,LI,List.map_nil]
 repeat' (first|exact Ok.out|with_reducible refine jb ?_ ?_)
end
end Go.Abs
namespace Go.Abs
theorem VY {v:Sm} (h:v.one=true) (hk:v.kind=1∨v.kind=2):v.name≠ []:=by
 intro e
 have hn:v.hasName=true:=by unfold Sm.hasName;rcases hk with hk|hk<;>simp[hk]
 unfold Sm.one at h
 split at h
 ·cases h
 ·rw [e,hn]at h
  simp[isName]at h
theorem Hs {v:Sm} (hk:v.kind≠10) (hn:v.name≠ []):v.name∈v.said:=by
 unfold Sm.said Sm.sP
 refine uX (.inl ?_)
 rw[if_pos (by simp[hk,hn])]
 simp
theorem zY {name:aG} {f:Pc} : ∀ {l:List Pc},iV name l=some f→f.name=name
 |g::l,h=>by
  simp only[iV]at h
  split at h
  ·rename_i e;cases h;simpa using e
  ·exact zY h
mutual
theorem aea : ∀ s:Sm,∀ v∈s.pre,v.size≤s.size
 | ⟨id,kind,labels,name,proc,x,has,args,a8,aR⟩,v,m=>by
  rw[Sm.qc]at m
  rcases List.mem_cons.1 m with rfl|m
  ·exact Nat.le_refl _
  ·simp only [Sm.size]
   rcases List.mem_append.1 m with m|m
   ·have:=Cv a8 v m;omega
   ·have:=Cv aR v m;omega
theorem Cv : ∀ l:List Sm,∀ v∈Sm.dd l,v.size≤Sm.a7 l
 | [],v,m=>by simp[Sm.dd]at m
 |s::l,v,m=>by
  simp only[Sm.dd,List.mem_append]at m
  simp only[Sm.a7]
  rcases m with m|m
  ·have:=aea s v m;omega
  ·have:=Cv l v m;omega
end
theorem F9 : ∀ l:List Sm,l.length≤Sm.a7 l
 | []=>Nat.le_refl _
 |s::l=>by
  have:=F9 l
  have h1:1≤s.size:=by cases s;simp only[Sm.size];omega
  simp only[Sm.a7,List.length_cons];omega
section
variable {p:Pg} {m:Mc} {a:Int}
theorem Kt (hO:p.iP) (h:po p p.aX.L a m) (hl:m.st.length≤1000) : ∃ fr r f,mU m fr r∧p.procs[fr.proc.toNat]? = some f∧fr.names=p.globals++f.own∧fr.vars.length=fr.names.length∧m.top=fr:=by
 obtain⟨fr,r,e⟩:=h.st.ne
 have ht:m.top=fr:=by simp[Mc.top,e]
 obtain⟨f,h1,h2,h3,h4,h5⟩:=h.fr fr (by rw[e];exact List.mem_cons_self ..)
 have hf:=List.mem_of_getElem? h1
 have s1:=Pc.dk hf
 have s2:=hO.sz
 simp only[Pg.size]at s2
 have hn:fr.names.length<1000000:=by
  rw[h3]
  have s3:=hO.small hf
  simp only[Pc.size]at s1
  simp only[List.length_append,Pc.own,Pc.tx,List.length_map]
  have:=s3.par;have:=s3.vars
  omega
 rw[e]at hl
 exact⟨fr,r,f,⟨e,by simp at hl;omega,hn,by omega⟩,h1,h3,h4,ht⟩
theorem Ga {fr:Fr} (hv:fr.vars.length=fr.names.length) {n:aG} (hn:n∈fr.names) : ∃ k,vW fr n k:=by
 obtain⟨j,h1,h2⟩:=Kk (k:=0) hn
 exact⟨_,j,by simpa using h1,List.getElem?_eq_getElem (by omega)⟩
theorem Z7 {fr:Fr} (h:po p p.aX.L a m) (ht:m.top=fr) (hR:p.Right) (ha:a≠ -1) {f:Pc} (hf:p.procs[fr.proc.toNat]? = some f):BS p p.aX.L (fp p.aX.L a) f∧(fp p.aX.L a).proc=fr.proc∧fp p.aX.L a∈p.aX.L∧
 ∃ c:Nat,a=(c:Int)+1∧p.aX.L[c]? = some (fp p.aX.L a):=by
 have hm:=h.at_.resolve_left ha
 have gD:=n8 (L:=p.aX.L) (.inr ⟨hm.1,hm.2.1⟩) ha
 obtain⟨f',o⟩:=(pk hR).im _ gD
 have hp:(fp p.aX.L a).proc=fr.proc:=by rw[← ht];exact hm.2.2
 have:f'=f:=by have:=o.proc.1;rw[hp,hf]at this;exact(Option.some.inj this).symm
 subst this
 have h1:=hm.1
 have h2:=hm.2.1
 refine⟨o,hp,gD,(a - 1).toNat,by omega, ?_⟩
 unfold fp
 rw[List.getD_eq_getElem?_getD,List.getElem?_eq_getElem (show(a - 1).toNat<p.aX.L.length by omega)];rfl
theorem Mq (hO:p.iP) (hR:p.Right) {x:Im} {f:Pc} {fr:Fr} (hx:BS p p.aX.L x f) (hn:fr.names=p.globals++f.own) (hv:fr.vars.length=fr.names.length):ad4 p fr x:=by
 have hf:=List.mem_of_getElem? hx.proc.1
 have pV:x.s∈p.pre:=by
  simp only[Pg.pre,List.mem_flatten,List.mem_map];exact⟨_,⟨f,hf,rfl⟩,hx.mem⟩
 have dO:=Cv f.body x.s hx.mem
 have s1:=Pc.dk hf
 have s2:=hO.sz
 simp only[Pg.size]at s2
 simp only[Pc.size]at s1
 have hs:Sm.a7 x.s.a8+Sm.a7 x.s.aR≤x.s.size:=by
  cases x with
  |mk s _ _ _ _=>cases s;simp only[Sm.size];omega
 refine⟨hO.said hf _ hx.mem,fun hk=>?_,fun hk=>?_,fun hk=>?_, ?_, ?_⟩
 ·have hl:=hx.loop (.inl hk)
  have h1:=hl.1
  have h2:=hl.2.1
  exact⟨(x.loop - 1).toNat,_,by omega,List.getElem?_eq_getElem (by omega)⟩
 ·obtain⟨i,hi⟩:=Int.eq_ofNat_of_zero_le hx.proc.2
  exact⟨i,f,hi,by have:=hx.proc.1;rwa [hi,Int.toNat_natCast]at this⟩
 ·refine Ga hv ?_
  rw[hn]
  exact zP hR hx (Hs (by rcases hk with hk|hk<;>omega) (VY (Mg hR.may _ pV) hk))
 ·have:=F9 x.s.a8;omega
 ·have:=F9 x.s.aR;omega
theorem SM (hO:p.iP) (hR:p.Right) {x:Im} {f:Pc} {fr:Fr} (hx:BS p p.aX.L x f) (hk:x.s.kind=4) (hn:fr.names=p.globals++f.own) (hv:fr.vars.length=fr.names.length):SK p fr x.s:=by
 have hf:=List.mem_of_getElem? hx.proc.1
 have rX:=hO.said hf _ hx.mem
 have pV:x.s∈p.pre:=by
  simp only[Pg.pre,List.mem_flatten,List.mem_map];exact⟨_,⟨f,hf,rfl⟩,hx.mem⟩
 refine⟨rX,fun b mb=>⟨rX.2.1 b mb, ?_,fun hr=>?_⟩, ?_⟩
 ·have:=rX.2.2
  have key : ∀ l:List Ar,b∈l→b.x.size≤Ar.a7 l:=fun l=>by
   induction l with
   |nil=>intro m;cases m
   |cons c l ih=>
    intro m
    simp only[Ar.a7]
    rcases List.mem_cons.1 m with rfl|m
    ·omega
    ·have:=ih m;omega
  have:=key _ mb
  omega
 ·refine Ga hv ?_
  rw[hn]
  exact zP hR hx (uX (.inr ⟨b,mb,hr,rfl⟩))
 ·have jq:=hR.fits _ pV (by simp [hk])
  obtain⟨q,hq⟩:=Hk jq
  obtain⟨j,h1,h2⟩:=Ia (k:=0) hq
  exact⟨j,q,by simpa[Pg.at]using h1,h2,by rw[zY hq];exact hq⟩
theorem PH (hO:p.iP) (hR:p.Right) (h:po p p.aX.L a m) (hl:m.st.length≤1000) {fr:Fr} {r:List Fr} (ht:mU m fr r) :
 fr.call=0∨∃ (c:Nat) (it:Im) (uG:Fr) (r2:List Fr),fr.call=(c:Int)+1∧p.aX.L[c]? = some it∧mU {m with st:=r} uG r2∧(it.s.name≠ []→∃ k,vW uG it.s.name k):=by
 have hs:=h.st
 have jk:=ht.st
 rw[jk]at hs
 cases r with
 |nil=>exact .inl hs
 | cons uG r2=>
  obtain⟨⟨h1,He⟩,h2⟩:=hs
  have e1:=h1.1
  have e2:=h1.2.1
  refine .inr ⟨(fr.call - 1).toNat,fp p.aX.L fr.call,uG,r2,by omega, ?_, ?_,fun hn=>?_⟩
  ·unfold fp
   rw[List.getD_eq_getElem?_getD,List.getElem?_eq_getElem (show(fr.call - 1).toNat<p.aX.L.length by omega)];rfl
  ·have h3:po p p.aX.L (-1) {m with st:=uG::r2}:=⟨h2,fun q hq=>h.fr q (by rw [jk];exact List.mem_cons_of_mem _ hq), .inl rfl,h.ui⟩
   obtain⟨Mn,r',f',t,_⟩:=Kt hO h3 (by rw[jk]at hl;simp at hl ⊢;omega)
   have:=t.st
   cases this
   exact t
  ·obtain⟨f,g1,g2,g3,g4,g5⟩:=h.fr uG (by rw [jk];simp)
   have gD:fp p.aX.L fr.call∈p.aX.L:=n8 (.inr ⟨e1,e2⟩) (by omega)
   obtain⟨f',o⟩:=(pk hR).im _ gD
   have:f'=f:=by have:=o.proc.1;rw[h1.2.2,g1]at this;exact(Option.some.inj this).symm
   subst this
   refine Ga g4 ?_
   rw[g3]
   exact zP hR o (Hs (by omega) hn)
end
end Go.Abs
namespace Go.Abs
structure xJ (m:Mc):Prop where
 steps:0≤m.steps
 trace:(m.trace.length:Int)≤m.steps
 out:(m.out.length:Int)≤m.steps
 reads:0≤m.reads∧m.reads≤m.steps
 st:m.st.length≤101
structure BW (m m':Mc):Prop where
 trace:m'.trace.length≤m.trace.length+1
 out:m'.out.length≤m.out.length+1
 reads:m'.reads=m.reads∨m'.reads=m.reads+1
 steps:m'.steps=m.steps
theorem SN (W:List Int) (m:Mc) (id:Int) (bN:List Int):(m.event W id bN).trace.length≤m.trace.length+1:=by
 unfold Mc.event
 split<;>simp
theorem mB (W:List Int) (m:Mc) (id:Int) (bN:List Int):BW m (m.event W id bN):=by
 have h:=eW W m id bN
 exact⟨SN W m id bN,by rw[h.2.2.2.2.2];omega, .inl h.2.2.2.2.1,h.2.2.2.1⟩
theorem Fg (m:Mc) (x:Ex):BW m (m.bo x).2:=by
 have h:=gH m x
 exact⟨by rw[h.2.2.2.2.2];omega,by rw[h.2.2.2.2.1];omega, .inl h.2.2.2.1,h.2.2.1⟩
theorem w6 (p:Pg) (m:Mc) (i:Int) (l:List Nat) (c:Int):(m.open p i l c).2.trace=m.trace∧(m.open p i l c).2.out=m.out∧(m.open p i l c).2.reads=m.reads∧(m.open p i l c).2.steps=m.steps:=by
 unfold Mc.open
 split<;>exact⟨rfl,rfl,rfl,rfl⟩
theorem w7 : ∀ (l:List Ar) (m:Mc) (out:List Nat),(Mc.args l m out).2.reads=m.reads∧(Mc.args l m out).2.steps=m.steps
 | [],m,out=>⟨rfl,rfl⟩
 | a::l,m,out=>by
  have hw:=gH m a.x
  simp only[Mc.args]
  by_cases c:a.ref=true
  ·rw[if_pos c];exact w7 l m _
  ·rw [if_neg c]
   by_cases c2:(m.bo a.x).1.2=true
   ·rw [if_pos c2]
    obtain⟨h1,h2⟩:=w7 l {(m.bo a.x).2 with mem:=(m.bo a.x).2.mem++ [(m.bo a.x).1.1]} (out++ [(m.bo a.x).2.mem.length])
    exact⟨h1.trans hw.2.2.2.1,h2.trans hw.2.2.1⟩
   ·rw[if_neg c2];exact⟨hw.2.2.2.1,hw.2.2.1⟩
theorem SO (p:Pg) (W:List Int) (m:Mc) (v:Sm):BW m (m.call p W v).2∧((m.call p W v).2.st.length≤m.st.length∨(m.call p W v).2.st.length≤101):=by
 have h1:=zX v.args m []
 have h2:=w7 v.args m []
 have h3:=(u5 v.args m []).1
 unfold Mc.call
 generalize Mc.args v.args m [] = r at *
 obtain⟨o,m1⟩:=r
 dsimp only at h1 h2 h3
 cases o with
 |none=>exact⟨⟨by simp[h1.2],by simp[h1.1], .inl h2.1,h2.2⟩, .inl (by simp[h3])⟩
 | some l=>
  dsimp only
  by_cases c:m1.st.length > 100
  ·rw[if_pos c];exact⟨⟨by simp[h1.2],by simp[h1.1], .inl h2.1,h2.2⟩, .inl (by simp[h3])⟩
  ·rw [if_neg c]
   have e1:=mB W m1 v.id []
   have e2:=w6 p (m1.event W v.id []) (p.at v.proc) l v.id
   have e3:=(yE p (m1.event W v.id []) (p.at v.proc) l v.id).1
   have e4:=(eW W m1 v.id []).1
   refine⟨⟨by rw[e2.1, ← h1.2];exact e1.trace,by rw[e2.2.1, ← h1.1];exact e1.out, ?_,by rw[e2.2.2.2,e1.steps,h2.2]⟩, .inr (by rw[e4]at e3;omega)⟩
   rw[e2.2.2.1, ← h2.1];exact e1.reads
theorem PI (W:List Int) (m:Mc) (v:Sm):BW m (m.fe W v).2:=by
 have hw:=gH m v.x
 unfold Mc.fe
 split
 ·dsimp only
  split
  ·have e:=mB W (m.bo v.x).2 v.id [(m.bo v.x).1.1]
   exact⟨by rw[← hw.2.2.2.2.2];exact e.trace,by rw[← hw.2.2.2.2.1];exact e.out,by rw[← hw.2.2.2.1];exact e.reads,e.steps.trans hw.2.2.1⟩
  ·exact Fg m v.x
 ·exact mB W m v.id []
theorem Z8 (p:Pg) (L:List Im) (T W:List Int) (m:Mc) (it:Im):BW m (m.do p L T W it).2:=by
 have hw:=gH m it.s.x
 unfold Mc.do
 dsimp only
 split
 ·exact mB W m _ _
 split
 ·exact mB W m _ _
 split
 ·exact mB W m _ _
 split
 ·split
  ·exact⟨by simp,by simp, .inl rfl,rfl⟩
  ·rename_i n _
   have e:=mB W (({m with reads:=m.reads+1} : Mc).set it.s.name n) it.s.id [n]
   have e2:=(eW W (({m with reads:=m.reads+1} : Mc).set it.s.name n) it.s.id [n])
   exact⟨e.trace,e.out, .inr e2.2.2.2.2.1,e2.2.2.2.1⟩
 split
 ·have e:=mB W (m.bo it.s.x).2 it.s.id [(m.bo it.s.x).1.1]
  have e2:=eW W (m.bo it.s.x).2 it.s.id [(m.bo it.s.x).1.1]
  have k:BW m ((m.bo it.s.x).2.event W it.s.id [(m.bo it.s.x).1.1]):=⟨by rw[← hw.2.2.2.2.2];exact e.trace,by rw[← hw.2.2.2.2.1];exact e.out,by rw[← hw.2.2.2.1];exact e.reads,e.steps.trans hw.2.2.1⟩
  split
  ·exact⟨k.trace,k.out,k.reads,k.steps⟩
  split
  ·exact⟨k.trace,by simp[e2.2.2.2.2.2,hw.2.2.2.2.1],k.reads,k.steps⟩
  split
  ·exact k
  split
  ·exact k
  ·exact k
 ·exact Fg m it.s.x
theorem zZ (L:List Im) (m:Mc) (g:Int):(m.close L g).2.trace=m.trace∧(m.close L g).2.out=m.out∧(m.close L g).2.reads=m.reads∧(m.close L g).2.steps=m.steps∧(m.close L g).2.st=m.st.tail:=by
 unfold Mc.close
 dsimp only
 split
 ·exact⟨rfl,rfl,rfl,rfl,rfl⟩
 ·split<;>exact⟨rfl,rfl,rfl,rfl,rfl⟩
theorem xJ.less {m m1:Mc} (h:xJ m) (k:BW {m with steps:=m.steps+1} m1) (hs:m1.st.length≤101):xJ m1:=by
 have h1:=h.steps;have h2:=h.trace;have h3:=h.out;have h4:=h.reads
 have k1:=k.trace;have k2:=k.out;have k3:=k.reads;have k4:=k.steps
 dsimp only at k1 k2 k3 k4
 exact⟨by omega,by omega,by omega,by omega,hs⟩
theorem xJ.close {L:List Im} {m:Mc} (h:xJ m) (g:Int):xJ (m.close L g).2:=by
 obtain⟨h1,h2,h3,h4,h5⟩:=zZ L m g
 exact⟨by rw[h4];exact h.steps,by rw[h1,h4];exact h.trace,by rw[h2,h4];exact h.out,by rw[h3,h4];exact h.reads,by rw[h5];have:=h.st;simp;omega⟩
theorem xJ.run {p:Pg} {T W:List Int} {m:Mc} (h:xJ m) (hs:m.steps≤1000000) (hO:p.iP) (hW:W.length<1000000) (hT:T.length<1000000):Ib p T W m:=by
 obtain⟨rV,rH,rG⟩:=hO.procs
 have:=pg p
 have h2:=h.trace;have h3:=h.out;have h4:=h.reads
 exact⟨hW,hT,by omega,by omega,by omega,by omega,by omega⟩
set_option maxRecDepth 8000
open Go.Proofs
theorem Z9 {p:Pg} (h:p.iP) (nN:(p.scope.1==0)=true) (s:St):aF Tryz.prog rl [.agg (cz p)] s (.dz (fA p) 0) s:=by
 refine aF.pure ?_ (by simp[D.bK,D.ok,jw]) (by simp[D.ok,uh]) s
 obtain⟨rV,rH,rG⟩:=h.procs
 have pJ:=fun s=>vL h s
 have dh:=fun s=>Cf (p:=p) (by omega) s
 have b0:(p.scope.1 != 0) = !(p.scope.1==0):=rfl
 rw[nN]at b0
 unfold S0
 refine aF.go yr rfl fun B Q hB hQ=>?_
 have⟨hD,hY,hZ,gA⟩:=bR
 repeat' (first
 |simp only[go_sem,hD,hY,hZ,gA,b0,Bool.not_true]
 |(with_reducible refine CU (pJ _) ?_)
 |(with_reducible refine CU (dh _) ?_)
 |(with_reducible refine aE hQ ?_;exact bc))
theorem aac {p:Pg} (h:p.iP) (nN:(p.scope.1==0)=false) (s:St):aF Tryz.prog rl [.agg (cz p)] s .dS s:=by
 refine aF.pure ?_ (by simp[D.bK,D.ok,jw]) rfl s
 have pJ:=fun s=>vL h s
 have b0:(p.scope.1 != 0) = !(p.scope.1==0):=rfl
 rw[nN]at b0
 unfold S0
 refine aF.go yr rfl fun B Q hB hQ=>?_
 have⟨hD,hY,hZ,gA⟩:=bR
 repeat' (first
 |simp only[go_sem,hD,hY,hZ,gA,b0,Bool.not_false]
 |(with_reducible refine CU (pJ _) ?_)
 |(with_reducible refine aE hQ ?_;exact bc))
mutual
theorem VZ {pr up next loop:Int} : ∀ (s:Sm) (m:Im),m∈s.vN pr up next loop→m.proc=pr
 | ⟨id,kind,labels,name,pc,x,has,args,a8,aR⟩,m,h=>by
  simp only[Sm.vN]at h
  rcases List.mem_cons.1 h with rfl|h
  ·rfl
  ·rcases List.mem_append.1 h with h | h
   ·exact w8 a8 m h
   ·exact w8 aR m h
theorem w8 {pr up next loop:Int} : ∀ (l:List Sm) (m:Im),m∈Sm.jR pr up next loop l→m.proc=pr
 |s::l,m,h=>by
  simp only[Sm.jR]at h
  rcases List.mem_append.1 h with h|h
  ·exact VZ s m h
  ·exact w8 l m h
end
theorem xK : ∀ a b:List Sm,ix (a++b)=ix a++ix b
 | [],b=>rfl
 |v::a,b=>by simp only[List.cons_append,ix,xK a b,List.append_assoc]
mutual
theorem Lw : ∀ s:Sm,(ix s.pre).length≤s.size
 |⟨id,kind,labels,name,pc,x,has,args,a8,aR⟩=>by
  have:=rP a8;have:=rP aR
  simp only[Sm.pre,ix,xK,List.length_append,Sm.size];omega
theorem rP : ∀ l:List Sm,(ix (Sm.dd l)).length≤Sm.a7 l
 | []=>Nat.le_refl _
 |s::l=>by
  have:=Lw s;have:=rP l
  simp only[Sm.dd,xK,List.length_append,Sm.a7];omega
end
theorem SP (seen l:List aG):(iW seen l).1.length≤seen.length+l.length:=(Hf l seen).2
theorem V0 {p:Pg} (h:p.iP) (s:St):aF Tryz.prog vw [.agg (cz p)] s (.agg [.int .i64 p.jump.1, .int .i64 p.jump.2]) s:=by
 refine aF.pure ?_ (by simp[D.bK,D.ok,jw]) rfl s
 obtain⟨rV,rH,rG⟩:=h.procs
 obtain⟨R,hR⟩ : ∃ R,p.jump=R:=⟨_,rfl⟩
 rw[hR]
 unfold Pg.jump at hR
 unfold S0
 rcases Bool.eq_false_or_eq_true (p.scope.1==0)with nN|nN
 case inr=>
  have hs:=fun s=>aac h nN s
  simp only[nN,Bool.false_eq_true,if_false]at hR
  subst hR
  refine aF.go ym rfl fun B Q hB hQ=>?_
  have⟨hD,hY,hZ,gA⟩:=bR
  repeat' (first
 |simp only[go_sem,hD,hY,hZ,gA]
 |(with_reducible refine CU (hs _) ?_)
 |(with_reducible refine aE hQ ?_;exact bc))
 have hs:=fun s=>Z9 h nN s
 have hb:=BG nN
 simp only[nN,if_true]at hR
 refine aF.go ym rfl fun B Q hB hQ=>?_
 have⟨hD,hY,hZ,gA⟩:=bR
 repeat' (first
 |simp only[go_sem,hD,hY,hZ,gA]
 |(with_reducible refine CU (hs _) ?_)
 |(with_reducible refine aE hQ ?_;exact bc))
 refine ff 2 0 (bp.ind (ι:=List Pc×Nat) (fun i=>p.procs.drop i.2=i.1∧yD 7 (sT i.1)=R) (fun i=>i.1.length)
  (fun i=> [(1, .ptr 0 0),(2, .ptr 1 0),(3, .dz (fA p) 0),(16, .slice .shared 5 (p.procs.map cu)),(17, .int .i64 (p.procs.length:Int)),(18, .int .i64 (i.2:Int))]) (fun i=>⟨[cz p,[.int .i64 0, .int .i64 0]],[]⟩) ?_ (p.procs,0) ⟨rfl,hR⟩)
 clear hR
 rintro⟨rest,k⟩ ⟨h1,hR⟩ IH
 dsimp only at h1 hR
 cases rest with
 |nil=>
  have hD:=drop_nil h1
  simp only[sT,yD]at hR
  subst hR
  repeat' (first
 |simp only[go_sem,hD,hY,hZ,gA]
 |(with_reducible refine aE hQ ?_;exact bc))
 | cons f rest=>
  obtain⟨hY,g2,hD,g4⟩:=drop_cons h1
  have bO:k<4611686018427387904:=by omega
  have As:=List.mem_of_getElem? hY
  have wS:=fun s=>adB hb hY (by omega) s
  have pV:=rK (k:Int) 0 (-1) 0 f.body
  have wQ:=J4 (k:Int) f
  have ahJ:=fun m=>w8 (pr:=(k:Int)) (up:=0) (next:= -1) (loop:=0) f.body m
  have J6:=EZ h As
  have vP:=Hg h As
  have aeb:(ix (Sm.dd f.body)).length≤900000:=by
   have h1:=rP f.body
   have h2:=Pc.dk As
   simp only[Pc.size]at h2
   omega
  rw[← pV]at aeb
  generalize hI:Sm.jR (k:Int) 0 (-1) 0 f.body=I at *
  have hIl:I.length≤900000:=by rw[← pV,List.length_map]at J6;exact J6
  simp only[sT, ← wQ]at hR
  obtain⟨J,hJ⟩ : ∃ J,sS f.labels f.fin [] (I.map Im.pair)=J:=⟨_,rfl⟩
  rw[hJ]at hR
  have hld:=fun(m:Im) (hm:m∈I) s=>ZS h hb hY m (ahJ m hm) s
  repeat' (first
 |simp only[go_sem,hD,hY,hZ,gA]
 |(with_reducible refine CU (wS _) ?_)
 | (with_reducible refine aE hQ ?_;exact bc))
  refine bp.q6 6 1 rfl ?_
  simp only[go_sem,hD,hY,hZ,gA]
  refine ff 3 1 (bp.ind (ι:=List Im×Nat×List aG×Nat) (fun i=>I.drop i.2.1=i.1∧sS f.labels f.fin i.2.2.1 (i.1.map Im.pair)=J∧i.2.2.2=i.2.2.1.length∧i.2.2.1.length+(ix (i.1.map Im.s)).length≤900000) (fun i=>i.1.length)
   (fun i=> [(1, .ptr 0 0),(2, .ptr 1 0),(3, .dz (fA p) 0),(5, .ptr 2 0),(6, .slice (.tok 0) 1 (i.2.2.1.map encStr)),(16, .slice .shared 5 (p.procs.map cu)),(17, .int .i64 (p.procs.length:Int)),(18, .int .i64 (k:Int)),
    (25, .slice .shared 17 (I.map dv)),(26, .int .i64 (I.length:Int)),(27, .int .i64 (i.2.1:Int))]) (fun i=>⟨[cz p,[.int .i64 0, .int .i64 0],cu f],[some i.2.2.2]⟩) ?_ (I,0,[],0) ⟨rfl,hJ,rfl,by simpa using aeb⟩)
  clear hJ
  rintro⟨wW,k2,seen,n2⟩ ⟨j1,j2,j3,j4⟩ By
  dsimp only at j1 j2 j3 j4
  subst j3
  cases wW with
  | nil=>
   have aec:=drop_nil j1
   simp only[List.map_nil,sS]at j2
   simp only[List.map_nil,ix,List.length_nil,Nat.add_zero]at j4
   have Ht:=fun {s:St} {t:Nat} (ht:s.aw[t]? = some (some seen.length))=>Sj (seen:=seen) (l:=f.fin) (by omega) ht
   obtain⟨P1,hP1⟩ : ∃ P1,iW seen f.fin=P1:=⟨_,rfl⟩
   rw[hP1]at j2 Ht
   rcases Bool.eq_false_or_eq_true P1.2 with c1|c1
   ·simp only [c1,if_true]at j2
    subst j2
    simp only at hR
    repeat' (first
 |simp only[go_sem,hD,hY,hZ,gA,aec,c1,Bool.not_true]
 |(with_reducible refine CU (Ht (by with_unfolding_all rfl)) ?_)
 | (with_reducible refine aE hQ ?_;exact bc))
    refine eQ 2 0 ?_ ?_ (IH (rest,k+1) ⟨g2,hR⟩ (Nat.lt_succ_self _))
    ·(simp only[go_sem,hD,hY,hZ,gA,aI bO];try exact bX)
    ·(simp only[go_sem,hD,hY,hZ,gA,aI bO];try exact bX)
   ·simp only [c1,Bool.false_eq_true,if_false]at j2
    subst j2
    simp only[yD]at hR
    subst hR
    repeat' (first
 |simp only[go_sem,hD,hY,hZ,gA,aec,c1,Bool.not_false]
 |(with_reducible refine CU (Ht (by with_unfolding_all rfl)) ?_)
 | (with_reducible refine aE hQ ?_;exact bc))
  | cons m wW=>
   obtain⟨pj,j5,yy,j6⟩:=drop_cons j1
   have yz:k2<4611686018427387904:=by omega
   have Mr:=List.mem_of_getElem? pj
   have X1:=fun s=>hld m Mr s
   simp only[List.map_cons,Im.pair,sS]at j2
   simp only[List.map_cons,ix,List.length_append]at j4
   have Ht:=fun {s:St} {t:Nat} (ht:s.aw[t]? = some (some seen.length))=>Sj (seen:=seen) (l:=m.s.labels) (by omega) ht
   have WN:=SP seen m.s.labels
   obtain⟨P1,hP1⟩ : ∃ P1,iW seen m.s.labels=P1:=⟨_,rfl⟩
   rw[hP1]at j2 Ht WN
   rcases Bool.eq_false_or_eq_true P1.2 with c1|c1
   ·rcases Bool.eq_false_or_eq_true (qn f.labels m.s m.loop)with c2 | c2
    ·simp only [c1,c2,if_true]at j2
     repeat' (first
 |simp only[go_sem,hD,hY,hZ,gA,pj,yy,c1,c2,Bool.not_true]
 |(with_reducible refine CU (Ht (by with_unfolding_all rfl)) ?_)
 |(with_reducible refine CU (X1 _) ?_)
 | (with_reducible refine aE hQ ?_;exact bc))
     refine eQ 3 1 ?_ ?_ (By (wW,k2+1,P1.1,P1.1.length) ⟨j5,j2,rfl,by dsimp only;omega⟩ (Nat.lt_succ_self _))
     ·(simp only[go_sem,hD,hY,hZ,gA,aI yz];try exact bX)
     ·(simp only[go_sem,hD,hY,hZ,gA,aI yz];try exact bX)
    ·simp only [c1,c2,if_true,Bool.false_eq_true,if_false]at j2
     subst j2
     simp only[yD]at hR
     subst hR
     repeat' (first
 |simp only[go_sem,hD,hY,hZ,gA,pj,yy,c1,c2,Bool.not_true,Bool.not_false]
 |(with_reducible refine CU (Ht (by with_unfolding_all rfl)) ?_)
 |(with_reducible refine CU (X1 _) ?_)
 | (with_reducible refine aE hQ ?_;exact bc))
   ·simp only [c1,Bool.false_eq_true,if_false]at j2
    subst j2
    simp only[yD]at hR
    subst hR
    repeat' (first
 |simp only[go_sem,hD,hY,hZ,gA,pj,yy,c1,Bool.not_false]
 |(with_reducible refine CU (Ht (by with_unfolding_all rfl)) ?_)
 |(with_reducible refine CU (X1 _) ?_)
 |(with_reducible refine aE hQ ?_;exact bc))
theorem V1 (x:It):(fL x)[2]? = some (.slice .shared 1 (x.s.labels.map encStr)):=nd rfl
theorem SQ (x:It):(fL x)[14]? = some (.int .i64 x.cy):=nd rfl
attribute [go_sem] V1 SQ
end Go.Abs
namespace Go.Abs
set_option maxRecDepth 8000
open Go.Proofs
def Pc.aok:List Pc→Nat
 | []=>0
 |f::l=>Sm.jf f.body+Pc.aok l
theorem V2 {p:Pg} (h:p.may=false):p.scope=(1,0):=by unfold Pg.scope;rw[h];rfl
theorem aee {p:Pg} (h:p.iP) (s:St):aF Tryz.prog xr [.agg (cz p)] s (.agg [.int .i64 p.check.1, .int .i64 p.check.2]) s:=by
 refine aF.pure ?_ (by simp[D.bK,D.ok,jw]) rfl s
 have h1:=fun s=>JL h.O9 s
 rw[Cj]at h1
 have h2:=fun s=>vL h s
 have h3:=fun s=>JW h s
 have h4:=fun s=>V0 h s
 have h5:=fun s=>Ss h s
 obtain⟨R,hR⟩ : ∃ R,p.check=R:=⟨_,rfl⟩
 rw[hR]
 unfold Pg.check at hR
 unfold S0
 rcases Bool.eq_false_or_eq_true p.may with b0|b0
 case inr=>
  have e:((1:Int)==0)=false:=rfl
  rw[V2 b0]at hR
  simp only[e,Bool.false_eq_true,if_false]at hR
  subst hR
  refine aF.go oj rfl fun B Q hB hQ=>?_
  have⟨hD,hY,hZ,gA⟩:=bR
  repeat' (first
 |simp only[go_sem,hD,hY,hZ,gA,b0,Bool.not_false]
 |(with_reducible refine CU (h1 _) ?_)
 |(with_reducible refine aE hQ ?_;exact bc))
 rcases Bool.eq_false_or_eq_true (p.scope.1==0)with b1|b1
 case inr=>
  simp only[b1,Bool.false_eq_true,if_false]at hR
  subst hR
  refine aF.go oj rfl fun B Q hB hQ=>?_
  have⟨hD,hY,hZ,gA⟩:=bR
  repeat' (first
 |simp only[go_sem,hD,hY,hZ,gA,b0,b1,Bool.not_true]
 |(with_reducible refine CU (h1 _) ?_)
 |(with_reducible refine CU (h2 _) ?_)
 |(with_reducible refine aE hQ ?_;exact bc))
 simp only[b1,if_true]at hR
 rcases Bool.eq_false_or_eq_true (p.arity.1==0)with b2|b2
 case inr=>
  simp only[b2,Bool.false_eq_true,if_false]at hR
  subst hR
  refine aF.go oj rfl fun B Q hB hQ=>?_
  have⟨hD,hY,hZ,gA⟩:=bR
  repeat' (first
 |simp only[go_sem,hD,hY,hZ,gA,b0,b1,b2,Bool.not_true]
 |(with_reducible refine CU (h1 _) ?_)
 |(with_reducible refine CU (h2 _) ?_)
 |(with_reducible refine CU (h3 _) ?_)
 |(with_reducible refine aE hQ ?_;exact bc))
 simp only[b2,if_true]at hR
 rcases Bool.eq_false_or_eq_true (p.jump.1==0)with b3|b3
 case inr=>
  simp only[b3,Bool.false_eq_true,if_false]at hR
  subst hR
  refine aF.go oj rfl fun B Q hB hQ=>?_
  have⟨hD,hY,hZ,gA⟩:=bR
  repeat' (first
 |simp only[go_sem,hD,hY,hZ,gA,b0,b1,b2,b3,Bool.not_true]
 |(with_reducible refine CU (h1 _) ?_)
 |(with_reducible refine CU (h2 _) ?_)
 |(with_reducible refine CU (h3 _) ?_)
 |(with_reducible refine CU (h4 _) ?_)
 |(with_reducible refine aE hQ ?_;exact bc))
 simp only[b3,if_true]at hR
 subst hR
 refine aF.go oj rfl fun B Q hB hQ=>?_
 have⟨hD,hY,hZ,gA⟩:=bR
 repeat' (first
 |simp only[go_sem,hD,hY,hZ,gA,b0,b1,b2,b3,Bool.not_true]
 |(with_reducible refine CU (h1 _) ?_)
 |(with_reducible refine CU (h2 _) ?_)
 |(with_reducible refine CU (h3 _) ?_)
 |(with_reducible refine CU (h4 _) ?_)
 |(with_reducible refine CU (h5 _) ?_)
 |(with_reducible refine aE hQ ?_;exact bc))
theorem SR {p:Pg} (h:p.iP) (s:St):aF Tryz.prog sM [.agg (cz p)] s (.bool (p.check.1==0)) s:=by
 refine aF.pure ?_ (by simp[D.bK,D.ok,jw]) rfl s
 have h1:=fun s=>aee h s
 unfold S0
 refine aF.go HE rfl fun B Q hB hQ=>?_
 have⟨hD,hY,hZ,gA⟩:=bR
 repeat' (first
 |simp only[go_sem,hD,hY,hZ,gA]
 |(with_reducible refine CU (h1 _) ?_)
 |(with_reducible refine aE hQ ?_;exact bc))
def fM (m:Mc):List D:= [.int .i64 m.fin, .int .i64 m.steps, .int .i64 m.reads, .slice .shared 1 (m.out.map bP), .slice .shared 2 (m.trace.map fj)]
theorem aef (e:Int×List Int):D.bK 0 0 (fj e)=true:=by simp[fj,D.bK,D.ok,Tag.ok,iz]
theorem Ic (l:List (Int×List Int)):D.gS 0 0 (l.map fj)=true:=gT aef l
theorem ahK (n m:Nat) (l:List (Int×List Int)):D.kx n m (l.map fj)=l.map fj:=lY aef n m l
attribute [go_sem] ahK
abbrev runT (m:Mc):List D:= [.int .i64 m.fin, .int .i64 m.steps, .int .i64 m.reads, .slice (.tok 0) 1 (m.out.map bP), .slice (.tok 1) 2 (m.trace.map fj)]
section
variable {p:Pg} {T W:List Int} {fuel:Int} {B:fX} {Q:Exit→Tm→St→Prop} {mf:Mc}
theorem Inv.qU {y:Lay} {m:Mc} {s:St} {q:Nat} {r r':List D} {loc:List (Nat×List D)} (h:Inv p T W y m ((q,r)::loc) s) (hq : ∀ x∈loc,x.1≠q) (hr:r.length≠4):Inv p T W y m ((q,r')::loc) ⟨s.ah.set q r',s.aw⟩:=by
 obtain⟨h1,h2⟩:=h.loc (q,r) (List.mem_cons_self ..)
 simp only at h1 h2
 have ne : ∀ {o:Nat} {x:List D},s.ah[o]? = some x→o≠q→(s.ah.set q r')[o]? = some x:=fun e hn=>by rw[List.getElem?_set_ne (Ne.symm hn)];exact e
 have no : ∀ o∈y.own,o≠q:=fun o mo e=>h2 (e ▸ mo)
 have ka : ∀ {d:D} {cs:List D},(∀ o∈d.arr,o∈y.own)→jF s d cs→jF ⟨s.ah.set q r',s.aw⟩ d cs:=fun hd ha=>ha.keep fun o mo=>by
  show(s.ah.set q r')[o]? = _
  rw[List.getElem?_set_ne (Ne.symm (no o (hd o mo)))]
 obtain⟨l,hl⟩:=h.bN
 refine⟨ne h.jG (no 0 (by simp[Lay.own])),h.t0,h.t1,h.len,fun i c v e1 e2=>ne (h.cell i c v e1 e2) (no c (by simp[Lay.own,List.mem_of_getElem? e1])),h.sy,fun i o fr e1 e2=>?_,ka (fun o m=>by simp[Lay.own,m]) h.stack,⟨l,ka (fun o m=>by simp[Lay.own,m]) hl⟩,h.own,fun x mx=>?_⟩
 ·obtain⟨f1,f2,f3⟩:=h.frame i o fr e1 e2
  exact⟨ne f1 (LP f1 h1 fun e=>hr (by rw[← e];rfl)),f2,f3⟩
 ·rcases List.mem_cons.1 mx with rfl | mx
  ·exact⟨by simp[fY h1],h2⟩
  ·obtain⟨f1,f2⟩:=h.loc x (List.mem_cons_of_mem _ mx)
   exact⟨ne f1 (hq x mx),f2⟩
abbrev BX:List D:= [.int .i64 0, .int .i64 0, .int .i64 0, .slice .full 0 [], .slice .full 0 []]
structure Gb (p:Pg) (T W:List Int) (fuel:Int):Prop where
 ok:p.iP
 right:p.Right
 W:W.length<1000000
 T:T.length<1000000
 fuel:0≤fuel∧fuel≤1000000
structure At (p:Pg) (T W:List Int) (fuel:Int) (a:Int) (m:Mc) (y:Lay) (q:Nat) (s:St):Prop where
 inv : ∃ r:List D,r.length=17∧Inv p T W y m [(q,r),(2,BX)] s
 ok:po p p.aX.L a m
 sz:xJ m
 fin:m.fin=0
 fuel:m.steps≤fuel
abbrev TMr (fuel:Int) (q:Nat) (a:Int):Tm:= [(2, .int .i64 fuel),(8, .ptr 2 0),(10, .ptr 0 0),(11, .ptr q 0),(13, .int .i64 a)]
abbrev JJ (B:fX) (Q:Exit→Tm→St→Prop):=yZ Tryz.prog B 131 Q40 Q
theorem Fh (hQ:pR 0 0 [(8,some (true,5)),(9,none)] (.tuple [.agg (fM mf), .int .i64 0]) ⟨[],[]⟩=Q) {y:Lay} {q:Nat} {r:List D} {s:St} (h:Inv p T W y mf [(q,r),(2,BX)] s) {tm:Tm} (ht:vr tm [(8, .ptr 2 0),(10, .ptr 0 0)]):JJ B Q (.goto 2) tm s:=by
 refine Dr (r:= .seq .skip Q3I) rfl (lH.pM ht (lH.kQ ?_))
 have hm:=h.jG
 rw[fy]at hm
 have h2:=(h.loc (2,BX) (by simp)).1
 have hl:=fY h2
 have⟨hD,hY,hZ,gA⟩:=bR
 have Ae : ∀ r,(s.ah.set 2 r)[2]? = some r:=fun r=>List.getElem?_set_self hl
 simp only[fM]at hQ
 repeat' (first
 |simp only[go_sem,hD,hY,hZ,gA,hm,h2,Ae]
 |(with_reducible first|refine bl fun hc=>?_|refine bm fun hc=>?_|refine bn (fun hc=>?_) fun hc=>?_)<;>(try simp only[hc,bs,↓reduceIte]at h)<;>try simp only[hc]
 |(with_reducible refine aE hQ ?_;(try cases h);simp only[aS,aV,bF,bG,go_sem,hD,hY,hZ,gA,hm,h2,Ae];try exact cq)
 |(cases h;done))
theorem Ku (hS:Gb p T W fuel) (hQ:pR 0 0 [(8,some (true,5)),(9,none)] (.tuple [.agg (fM mf), .int .i64 0]) ⟨[],[]⟩=Q) {a:Int} {m:Mc} {y:Lay} {q:Nat} {s:St} {g:Int} (h:At p T W fuel a m y q s)
 (aeh:m.back p.aX.L g=(none,mf)∨∃ a' m',m.back p.aX.L g=(some a',m')∧∀ y' s' tm,At p T W fuel a' m' y' q s'→vr tm (TMr fuel q a')→JJ B Q (.goto 1) tm s')
 {tm:Tm} (ht:vr tm [(2, .int .i64 fuel),(8, .ptr 2 0),(10, .ptr 0 0),(11, .ptr q 0),(12, .int .i64 g)]):JJ B Q (.goto 0) tm s:=by
 obtain⟨⟨r,hr,hi⟩,pK,dO,vP,hfu⟩:=h
 obtain⟨fr,rs,f,zQ,h1,h2,h3,h4⟩:=Kt hS.ok pK (by have:=dO.st;omega)
 have C9:=dO.run (by have:=hS.fuel;omega) hS.ok hS.W hS.T
 have hc:=PH hS.ok hS.right pK (by have:=dO.st;omega) zQ
 have c1:=Z6 hi zQ C9.L hc g
 have oN:=zZ p.aX.L m g
 refine Dr (r:= .seq .skip Q3L) rfl (lH.pM ht (lH.kQ ?_))
 have⟨hD,hY,hZ,gA⟩:=bR
 repeat' (first
 |simp only[go_sem,hD,hY,hZ,gA]
 |(with_reducible first|refine bl fun hc=>?_|refine bm fun hc=>?_|refine bn (fun hc=>?_) fun hc=>?_)<;>(try simp only[hc,bs,↓reduceIte]at h)<;>try simp only[hc]
 |(with_reducible refine aE hQ ?_;exact fO)
 |(cases h;replace h:=hr;clear hr;(try simp only[bs,↓reduceIte]at h))
 |(cases h;done))
 refine CR c1 fun d s2 Kv=>?_
 obtain⟨rfl,y2,vV,nL⟩:=Kv
 have jD:=nL.jG
 rw[fy]at jD
 have Yf:=(nL.loc (2,BX) (by simp)).1
 have iY:=fY Yf
 have Ae : ∀ r,(s2.ah.set 2 r)[2]? = some r:=fun r=>List.getElem?_set_self iY
 simp only at Yf
 have hb:m.back p.aX.L g=(if(m.close p.aX.L g).2.fin==0 then some (m.close p.aX.L g).1 else none,(m.close p.aX.L g).2):=rfl
 rcases Bool.eq_false_or_eq_true ((m.close p.aX.L g).2.fin==0)with b|b
 ·rw [b,if_pos rfl]at hb
  rcases aeh with he|⟨a',m',he,hIH⟩
  ·rw[hb]at he;cases he
  ·have hk:=ZZ (pk hS.right) pK he
   rw[hb]at he
   cases he
   repeat' (first
 |simp only[go_sem,hD,hY,hZ,gA,jD,b]
 |(with_reducible first|refine bl fun hc=>?_|refine bm fun hc=>?_|refine bn (fun hc=>?_) fun hc=>?_)<;>(try simp only[hc,bs,↓reduceIte]at h)<;>try simp only[hc]
 |(with_reducible refine aE hQ ?_;(try cases h);simp only[aS,aV,bF,bG,go_sem,hD,hY,hZ,gA,jD,b];try exact cq)
 |(cases h;replace h:=hr;clear hr;(try simp only[bs,↓reduceIte]at h))
 | (cases h;done))
   refine hIH y2 s2 _ ⟨⟨r,hr,nL⟩,hk,dO.close g,by simpa using b,by rw[oN.2.2.2.1];exact hfu⟩ ?_
   simp only[go_sem]
   repeat' (first|exact Ok.out|with_reducible refine jb ?_ ?_)
 ·rw [b,if_neg (by simp)]at hb
  rcases aeh with he|⟨a',m',he,hIH⟩
  ·rw [hb]at he
   cases he
   simp only[fM]at hQ
   repeat' (first
 |simp only[go_sem,hD,hY,hZ,gA,jD,b,Yf,Ae]
 |(with_reducible first|refine bl fun hc=>?_|refine bm fun hc=>?_|refine bn (fun hc=>?_) fun hc=>?_)<;>(try simp only[hc,bs,↓reduceIte]at h)<;>try simp only[hc]
 |(with_reducible refine aE hQ ?_;(try cases h);simp only[aS,aV,bF,bG,go_sem,hD,hY,hZ,gA,jD,b,Yf,Ae];try exact cq)
 |(cases h;replace h:=hr;clear hr;(try simp only[bs,↓reduceIte]at h))
 |(cases h;done))
  ·rw[hb]at he;cases he
theorem V3 (hS:Gb p T W fuel) (hQ:pR 0 0 [(8,some (true,5)),(9,none)] (.tuple [.agg (fM mf), .int .i64 0]) ⟨[],[]⟩=Q) : ∀ (N:Nat) (a:Int) (m:Mc) (y:Lay) (q:Nat) (s:St),At p T W fuel a m y q s→Mc.go p p.aX.L T W fuel N a m=some mf→
 Sem Tryz.prog B 131 Q3T (JJ B Q) (TMr fuel q a) s:=by
 intro N
 induction N with
 |zero=>intro a m y q s _ h;cases h
 | succ N ih=>
  intro a m y q s qW kM
  have IH : ∀ (a':Int) (m':Mc) (y':Lay) (s':St) (tm:Tm),Mc.go p p.aX.L T W fuel N a' m'=some mf→At p T W fuel a' m' y' q s'→vr tm (TMr fuel q a')→JJ B Q (.goto 1) tm s':=fun a' m' y' s' tm hg hA ht=>
   Dr (r:= .seq .skip Q3T) rfl (lH.pM ht (lH.once (Sem.nj (ih a' m' y' q s' hA hg))))
  have aol:=qW
  obtain⟨⟨r,hr,hi⟩,pK,dO,vP,hfu⟩:=qW
  simp only[Mc.go]at kM
  refine iI ?_
  have⟨hD,hY,hZ,gA⟩:=bR
  have hm:=hi.jG
  rw[fy]at hm
  have qD:=hi.uH
  rcases Bool.eq_false_or_eq_true (a == -1)with ba|ba
  ·have hn:m.next p p.aX.L T W fuel a=m.back p.aX.L 0:=by unfold Mc.next;rw [if_pos ba]
   rw[hn]at kM
   repeat' (first
 |simp only[go_sem,hD,hY,hZ,gA,ba]
 |(with_reducible first|refine bl fun hc=>?_|refine bm fun hc=>?_|refine bn (fun hc=>?_) fun hc=>?_)<;>(try simp only[hc,bs,↓reduceIte]at h)<;>try simp only[hc]
 |(with_reducible refine aE hQ ?_;(try cases h);simp only[aS,aV,bF,bG,go_sem,hD,hY,hZ,gA,ba];try exact cq)
 |(cases h;replace h:=hr;clear hr;(try simp only[bs,↓reduceIte]at h))
 | (cases h;done))
   refine Ku hS hQ aol (g:=0) ?_ ?_
   ·rcases e:m.back p.aX.L 0 with ⟨_ | a',m'⟩
    ·rw[e]at kM;cases kM;exact .inl rfl
    ·rw[e]at kM;exact .inr ⟨a',m',rfl,fun y' s' tm h1 h2=>IH a' m' y' s' tm kM h1 h2⟩
   ·simp only [go_sem]
    repeat' (first|exact Ok.out|with_reducible refine jb ?_ ?_)
  rcases Bool.eq_false_or_eq_true (m.steps==fuel)with bf|bf
  ·have hn:m.next p p.aX.L T W fuel a=(none,{m with fin:=2}):=by unfold Mc.next;rw [if_neg (by simp [ba]),if_pos bf]
   rw[hn]at kM
   cases kM
   have h2:=hi.tQ (m':= {m with fin:=2}) rfl rfl hi.t0 hi.t1
   rw[fy]at h2
   simp only at h2
   repeat' (first
 |simp only[go_sem,hD,hY,hZ,gA,ba,bf,hm,qD]
 |(with_reducible first|refine bl fun hc=>?_|refine bm fun hc=>?_|refine bn (fun hc=>?_) fun hc=>?_)<;>(try simp only[hc,bs,↓reduceIte]at h)<;>try simp only[hc]
 |(with_reducible refine aE hQ ?_;(try cases h);simp only[aS,aV,bF,bG,go_sem,hD,hY,hZ,gA,ba,bf,hm,qD];try exact cq)
 |(cases h;replace h:=hr;clear hr;(try simp only[bs,↓reduceIte]at h))
 | (cases h;done))
   refine Fh hQ h2 ?_
   simp only[go_sem]
   repeat' (first|exact Ok.out|with_reducible refine jb ?_ ?_)
  -- a statement
  obtain⟨fr,rs,f,zQ,h1,h2,h3,h4⟩:=Kt hS.ok pK (by have:=dO.st;omega)
  have aom:a≠ -1:=by simpa using ba
  obtain⟨hx,wQ,gD,c,hac,Kw⟩:=Z7 pK h4 hS.right aom h1
  have hfb:=hS.fuel
  have C9:=dO.run (by omega) hS.ok hS.W hS.T
  have aws:m.steps<fuel:=by
   have h:m.steps≠fuel:=by simpa using bf
   omega
  have vf:=dO.steps
  have Fe:IntKind.wrap .i64 (m.steps+1)=m.steps+1:=ei (by omega) (by omega)
  have BU:IntKind.wrap .i64 (a - 1)=(c:Int):=by
   have:=(List.getElem?_eq_some_iff.1 Kw).1
   have:=C9.L
   rw[show a - 1=(c:Int) by omega];exact ei (by omega) (by omega)
  have cS:(fA p)[2]? = some (.slice .shared 17 (p.aX.L.map dv)):=rfl
  have Ms:=hi.tQ (m':= {m with steps:=m.steps+1}) rfl rfl hi.t0 hi.t1
  generalize pO:fp p.aX.L a=it at *
  have aon:2≠q:=by
   have e1:=(hi.loc (q,r) (by simp)).1
   have e2:=(hi.loc (2,BX) (by simp)).1
   exact LP e2 e1 fun e=>by have e':BX=r:=e;rw[← e']at hr;cases hr
  have Gc:17≤r.length:=by omega
  have Mt:List.drop 17 r = []:=List.drop_of_length_le (by omega)
  have nL:=Ms.qU (r':=dv it) (by simpa using aon) (by omega)
  have nA:=Ms.jG
  have Hu:=(Ms.loc (q,r) (by simp)).1
  have wu:=(nL.loc (q,dv it) (by simp)).1
  rw[fy]at nA nL Hu wu
  simp only at nA nL Hu wu
  have hle:q<s.ah.length:=fY (hi.loc (q,r) (by simp)).1
  have PK:mU ({m with steps:=m.steps+1} : Mc) fr rs:=⟨zQ.st,zQ.len,zQ.names,zQ.vars⟩
  have PN:Ib p T W ({m with steps:=m.steps+1} : Mc):=⟨C9.W,C9.T,C9.trace,C9.out,C9.L,C9.P,C9.reads⟩
  have Kx:po p p.aX.L a ({m with steps:=m.steps+1} : Mc):=pK.of rfl (Nat.le_refl _) pK.at_
  have hn:m.next p p.aX.L T W fuel a=(if it.s.kind==4 then(if(({m with steps:=m.steps+1} : Mc).call p W it.s).2.fin==0 then some (({m with steps:=m.steps+1} : Mc).call p W it.s).1 else none,(({m with steps:=m.steps+1} : Mc).call p W it.s).2)
   else if it.s.kind==9 then(if(({m with steps:=m.steps+1} : Mc).fe W it.s).2.fin==0 then(({m with steps:=m.steps+1} : Mc).fe W it.s).2.back p.aX.L (({m with steps:=m.steps+1} : Mc).fe W it.s).1 else(none,(({m with steps:=m.steps+1} : Mc).fe W it.s).2))
   else(if(({m with steps:=m.steps+1} : Mc).do p p.aX.L T W it).2.fin==0 then some (({m with steps:=m.steps+1} : Mc).do p p.aX.L T W it).1 else none,(({m with steps:=m.steps+1} : Mc).do p p.aX.L T W it).2)):=by
   unfold Mc.next
   rw[if_neg (by simp[ba]),if_neg (by simp[bf])]
   dsimp only
   rw[pO]
  rw[hn]at kM
  generalize Mr:({m with steps:=m.steps+1} : Mc)=m1 at *
  have aoo:m1.fin=0:=by rw[← Mr];exact vP
  have V4:m1.steps=m.steps+1:=by rw[← Mr]
  have PO : ∀ m2:Mc,BW m1 m2→m2.st.length≤101→xJ m2:=fun m2 hl hs=>dO.less (by rw[Mr];exact hl) hs
  have Ky:m1.st=m.st:=by rw[← Mr]
  rcases Bool.eq_false_or_eq_true (it.s.kind==4)with b4|b4
  ·rw [if_pos b4]at kM
   have He:it.s.kind=4:=by simpa using b4
   have c1:=SL hS.ok hS.right.may nL PK PN Kx.ui (SM hS.ok hS.right hx He h2 h3)
   repeat' (first
 |simp only[go_sem,hD,hY,hZ,gA,ba,bf,hm,qD,Fe,nA,BU,Kw,cS,Hu,wu,hle,b4,Gc,Mt,List.append_nil]
 |(with_reducible first|refine bl fun hc=>?_|refine bm fun hc=>?_|refine bn (fun hc=>?_) fun hc=>?_)<;>(try simp only[hc,bs,↓reduceIte]at h)<;>try simp only[hc]
 |(with_reducible refine aE hQ ?_;(try cases h);simp only[aS,aV,bF,bG,go_sem,hD,hY,hZ,gA,ba,bf,hm,qD,Fe,nA,BU,Kw,cS,Hu,wu,hle,b4,Gc,Mt,List.append_nil];try exact cq)
 |(cases h;replace h:=hr;clear hr;(try simp only[bs,↓reduceIte]at h))
 | (cases h;done))
   refine CR c1 fun d s2 Kv=>?_
   obtain⟨rfl,y2,_,BY⟩:=Kv
   have oq:=BY.jG
   rw[fy]at oq
   have oN:=SO p W m1 it.s
   have la:(m1.call p W it.s).2.st.length≤101:=by
    rcases oN.2 with h|h
    ·rw[Ky]at h;have:=dO.st;omega
    ·exact h
   rcases Bool.eq_false_or_eq_true ((m1.call p W it.s).2.fin==0)with b|b
   ·rw [b,if_pos rfl]at kM
    repeat' (first
 |simp only[go_sem,hD,hY,hZ,gA,oq,b]
 |(with_reducible first|refine bl fun hc=>?_|refine bm fun hc=>?_|refine bn (fun hc=>?_) fun hc=>?_)<;>(try simp only[hc,bs,↓reduceIte]at h)<;>try simp only[hc]
 |(with_reducible refine aE hQ ?_;(try cases h);simp only[aS,aV,bF,bG,go_sem,hD,hY,hZ,gA,oq,b];try exact cq)
 |(cases h;replace h:=hr;clear hr;(try simp only[bs,↓reduceIte]at h))
 | (cases h;done))
    refine IH _ _ y2 s2 _ kM ⟨⟨dv it,rfl,BY⟩,Z1 hS.right Kx hx He (by rw[wQ, ← h4];unfold Mc.top;rw[Ky]) (by simpa using b) rfl aoo,PO _ oN.1 la,by simpa using b,by rw[oN.1.steps,V4];omega⟩ ?_
    simp only[go_sem]
    repeat' (first|exact Ok.out|with_reducible refine jb ?_ ?_)
   ·rw [b,if_neg (by simp)]at kM
    cases kM
    repeat' (first
 |simp only[go_sem,hD,hY,hZ,gA,oq,b]
 |(with_reducible first|refine bl fun hc=>?_|refine bm fun hc=>?_|refine bn (fun hc=>?_) fun hc=>?_)<;>(try simp only[hc,bs,↓reduceIte]at h)<;>try simp only[hc]
 |(with_reducible refine aE hQ ?_;(try cases h);simp only[aS,aV,bF,bG,go_sem,hD,hY,hZ,gA,oq,b];try exact cq)
 |(cases h;replace h:=hr;clear hr;(try simp only[bs,↓reduceIte]at h))
 | (cases h;done))
    refine Fh hQ BY ?_
    simp only[go_sem]
    repeat' (first|exact Ok.out|with_reducible refine jb ?_ ?_)
  rw[if_neg (by simp[b4])]at kM
  rcases Bool.eq_false_or_eq_true (it.s.kind==9)with b9|b9
  ·rw [if_pos b9]at kM
   have c1:=Z4 nL PK (Mq hS.ok hS.right hx h2 h3).said PN.W PN.trace
   repeat' (first
 |simp only[go_sem,hD,hY,hZ,gA,ba,bf,hm,qD,Fe,nA,BU,Kw,cS,Hu,wu,hle,b4,b9,Gc,Mt,List.append_nil]
 |(with_reducible first|refine bl fun hc=>?_|refine bm fun hc=>?_|refine bn (fun hc=>?_) fun hc=>?_)<;>(try simp only[hc,bs,↓reduceIte]at h)<;>try simp only[hc]
 |(with_reducible refine aE hQ ?_;(try cases h);simp only[aS,aV,bF,bG,go_sem,hD,hY,hZ,gA,ba,bf,hm,qD,Fe,nA,BU,Kw,cS,Hu,wu,hle,b4,b9,Gc,Mt,List.append_nil];try exact cq)
 |(cases h;replace h:=hr;clear hr;(try simp only[bs,↓reduceIte]at h))
 | (cases h;done))
   refine CR c1 fun d s2 Kv=>?_
   obtain⟨rfl,y2,_,BY⟩:=Kv
   have oq:=BY.jG
   rw[fy]at oq
   have rG:=PI W m1 it.s
   have hgs:=(zI W m1 it.s).1
   rcases Bool.eq_false_or_eq_true ((m1.fe W it.s).2.fin==0)with b|b
   ·rw [b,if_pos rfl]at kM
    repeat' (first
 |simp only[go_sem,hD,hY,hZ,gA,oq,b]
 |(with_reducible first|refine bl fun hc=>?_|refine bm fun hc=>?_|refine bn (fun hc=>?_) fun hc=>?_)<;>(try simp only[hc,bs,↓reduceIte]at h)<;>try simp only[hc]
 |(with_reducible refine aE hQ ?_;(try cases h);simp only[aS,aV,bF,bG,go_sem,hD,hY,hZ,gA,oq,b];try exact cq)
 |(cases h;replace h:=hr;clear hr;(try simp only[bs,↓reduceIte]at h))
 | (cases h;done))
    have R9:m1.mem.length≤(m1.fe W it.s).2.mem.length:=by
     have hw:=gH m1 it.s.x
     unfold Mc.fe
     split
     ·dsimp only
      split
      ·rw[(eW _ _ _ _).2.1,hw.2.1];exact Nat.le_refl _
      ·rw[hw.2.1];exact Nat.le_refl _
     ·rw[(eW _ _ _ _).2.1];exact Nat.le_refl _
    refine Ku (a:=a) (g:=(m1.fe W it.s).1) hS hQ (y:=y2) ⟨⟨dv it,rfl,BY⟩,Kx.of hgs R9 Kx.at_,PO _ rG (by rw[hgs,Ky];exact dO.st),by simpa using b,by rw[rG.steps,V4];omega⟩ ?_ ?_
    ·rcases e:(m1.fe W it.s).2.back p.aX.L (m1.fe W it.s).1 with ⟨_ | a',m'⟩
     ·rw[e]at kM;cases kM;exact .inl rfl
     ·rw[e]at kM;exact .inr ⟨a',m',rfl,fun y' s' tm h1 h2=>IH a' m' y' s' tm kM h1 h2⟩
    ·simp only [go_sem]
     repeat' (first|exact Ok.out|with_reducible refine jb ?_ ?_)
   ·rw [b,if_neg (by simp)]at kM
    cases kM
    repeat' (first
 |simp only[go_sem,hD,hY,hZ,gA,oq,b]
 |(with_reducible first|refine bl fun hc=>?_|refine bm fun hc=>?_|refine bn (fun hc=>?_) fun hc=>?_)<;>(try simp only[hc,bs,↓reduceIte]at h)<;>try simp only[hc]
 |(with_reducible refine aE hQ ?_;(try cases h);simp only[aS,aV,bF,bG,go_sem,hD,hY,hZ,gA,oq,b];try exact cq)
 |(cases h;replace h:=hr;clear hr;(try simp only[bs,↓reduceIte]at h))
 | (cases h;done))
    refine Fh hQ BY ?_
    simp only[go_sem]
    repeat' (first|exact Ok.out|with_reducible refine jb ?_ ?_)
  rw[if_neg (by simp[b9])]at kM
  have c1:=aof hS.ok hS.right.may nL PK PN (Mq hS.ok hS.right hx h2 h3)
  repeat' (first
 |simp only[go_sem,hD,hY,hZ,gA,ba,bf,hm,qD,Fe,nA,BU,Kw,cS,Hu,wu,hle,b4,b9,Gc,Mt,List.append_nil]
 |(with_reducible first|refine bl fun hc=>?_|refine bm fun hc=>?_|refine bn (fun hc=>?_) fun hc=>?_)<;>(try simp only[hc,bs,↓reduceIte]at h)<;>try simp only[hc]
 |(with_reducible refine aE hQ ?_;(try cases h);simp only[aS,aV,bF,bG,go_sem,hD,hY,hZ,gA,ba,bf,hm,qD,Fe,nA,BU,Kw,cS,Hu,wu,hle,b4,b9,Gc,Mt,List.append_nil];try exact cq)
 |(cases h;replace h:=hr;clear hr;(try simp only[bs,↓reduceIte]at h))
 | (cases h;done))
  refine CR c1 fun d s2 Kv=>?_
  obtain⟨rfl,y2,_,BY⟩:=Kv
  have oq:=BY.jG
  rw[fy]at oq
  have hdl:=Z8 p p.aX.L T W m1 it
  have Ba:=(Pt p p.aX.L T W m1 it).1
  rcases Bool.eq_false_or_eq_true ((m1.do p p.aX.L T W it).2.fin==0)with b|b
  ·rw [b,if_pos rfl]at kM
   repeat' (first
 |simp only[go_sem,hD,hY,hZ,gA,oq,b]
 |(with_reducible first|refine bl fun hc=>?_|refine bm fun hc=>?_|refine bn (fun hc=>?_) fun hc=>?_)<;>(try simp only[hc,bs,↓reduceIte]at h)<;>try simp only[hc]
 |(with_reducible refine aE hQ ?_;(try cases h);simp only[aS,aV,bF,bG,go_sem,hD,hY,hZ,gA,oq,b];try exact cq)
 |(cases h;replace h:=hr;clear hr;(try simp only[bs,↓reduceIte]at h))
 | (cases h;done))
   refine IH _ _ y2 s2 _ kM ⟨⟨dv it,rfl,BY⟩,ahw hS.right Kx hx (by rw[wQ, ← h4];unfold Mc.top;rw[Ky]) (by simpa using b),PO _ hdl (by rw[Ba,Ky];exact dO.st),by simpa using b,by rw[hdl.steps,V4];omega⟩ ?_
   simp only[go_sem]
   repeat' (first|exact Ok.out|with_reducible refine jb ?_ ?_)
  ·rw [b,if_neg (by simp)]at kM
   cases kM
   repeat' (first
 |simp only[go_sem,hD,hY,hZ,gA,oq,b]
 |(with_reducible first|refine bl fun hc=>?_|refine bm fun hc=>?_|refine bn (fun hc=>?_) fun hc=>?_)<;>(try simp only[hc,bs,↓reduceIte]at h)<;>try simp only[hc]
 |(with_reducible refine aE hQ ?_;(try cases h);simp only[aS,aV,bF,bG,go_sem,hD,hY,hZ,gA,oq,b];try exact cq)
 |(cases h;replace h:=hr;clear hr;(try simp only[bs,↓reduceIte]at h))
 | (cases h;done))
   refine Fh hQ BY ?_
   simp only[go_sem]
   repeat' (first|exact Ok.out|with_reducible refine jb ?_ ?_)
end
end Go.Abs
namespace Go.Abs
set_option maxRecDepth 8000
open Go.Proofs
def ofM (p:Pg) (T W:List Int) (fuel:Int):Mc×Int:=
 if decide (fuel<0) ||(decide (fuel > 1000000) || !(p.check.1==0))then(⟨[],[],0,0,0,[],[]⟩,1)else((runM p T W fuel).getD ⟨[],[],0,0,0,[],[]⟩,0)
theorem Fi (m:Mc):D.bK 0 0 (fM m)=true:=by simp[fM,D.bK,D.ok,Tag.ok,iz,Ic]
theorem aad {p:Pg} (hR:p.Right) : ∃ (j:Nat) (q:Pc),p.at iK=(j:Int)∧p.procs[j]? = some q∧p.find q.name=some q∧q.params.length=0:=by
 have h:=hR.main
 unfold Pg.tA at h
 cases e:p.find iK with
 |none=>rw[e]at h;cases h
 |some q=>
  rw[e]at h
  obtain⟨j,h1,h2⟩:=Ia (k:=0) e
  refine⟨j,q,by simpa[Pg.at]using h1,h2,by rw[zY e];exact e, ?_⟩
  simp only[decide_eq_false_iff_not]at h
  omega
theorem V6 {p:Pg} (hO:p.iP) {T W:List Int} (hT:T.length<1000000) (hW:W.length<1000000) (fuel:Int) (s:St) :
 aF Tryz.prog sn [.agg (cz p), .slice .shared 1 (T.map bP), .int .i64 fuel, .slice .shared 1 (W.map bP)] s (.tuple [.agg (fM (ofM p T W fuel).1), .int .i64 (ofM p T W fuel).2]) s:=by
 refine aF.pure ?_ (by simp[D.bK,D.ok,Tag.ok,jw,iz]) (by simp only[D.ok,D.bK,Fi];rfl) s
 have cM:=fun s=>SR hO s
 have cN:=fun s=>Cf (p:=p) (by have:=hO.procs;omega) s
 generalize hR:ofM p T W fuel=R
 unfold ofM at hR
 obtain⟨R1,R2⟩:=R
 dsimp only
 unfold S0
 by_cases Kz:(decide (fuel<0) ||(decide (fuel > 1000000) || !(p.check.1==0)))=true
 ·rw [if_pos Kz]at hR
  cases hR
  simp only[fM,List.map_nil]
  rcases Bool.eq_false_or_eq_true (decide (fuel<0))with b1|b1
  ·refine aF.go uP rfl fun B Q hB hQ=> ?_
   have⟨hD,hY,hZ,gA⟩:=bR
   repeat' (first
 |simp only[go_sem,hD,hY,hZ,gA,b1]
 |(with_reducible first|refine bl fun hc=>?_|refine bm fun hc=>?_|refine bn (fun hc=>?_) fun hc=>?_)<;>(try simp only[hc,bs,↓reduceIte]at h)<;>try simp only[hc]
 |(with_reducible refine aE hQ ?_;(try cases h);simp only[aS,aV,bF,bG,go_sem,hD,hY,hZ,gA,b1];try exact cq)
 | (cases h;done))
   refine lH.kQ ?_
   repeat' (first
 |simp only[go_sem,hD,hY,hZ,gA,b1]
 |(with_reducible first|refine bl fun hc=>?_|refine bm fun hc=>?_|refine bn (fun hc=>?_) fun hc=>?_)<;>(try simp only[hc,bs,↓reduceIte]at h)<;>try simp only[hc]
 |(with_reducible refine aE hQ ?_;(try cases h);simp only[aS,aV,bF,bG,go_sem,hD,hY,hZ,gA,b1];try exact cq)
 | (cases h;done))
  rcases Bool.eq_false_or_eq_true (decide (fuel > 1000000))with b2|b2
  ·refine aF.go uP rfl fun B Q hB hQ=> ?_
   have⟨hD,hY,hZ,gA⟩:=bR
   repeat' (first
 |simp only[go_sem,hD,hY,hZ,gA,b1,b2]
 |(with_reducible first|refine bl fun hc=>?_|refine bm fun hc=>?_|refine bn (fun hc=>?_) fun hc=>?_)<;>(try simp only[hc,bs,↓reduceIte]at h)<;>try simp only[hc]
 |(with_reducible refine aE hQ ?_;(try cases h);simp only[aS,aV,bF,bG,go_sem,hD,hY,hZ,gA,b1,b2];try exact cq)
 | (cases h;done))
   refine lH.kQ ?_
   repeat' (first
 |simp only[go_sem,hD,hY,hZ,gA,b1,b2]
 |(with_reducible first|refine bl fun hc=>?_|refine bm fun hc=>?_|refine bn (fun hc=>?_) fun hc=>?_)<;>(try simp only[hc,bs,↓reduceIte]at h)<;>try simp only[hc]
 |(with_reducible refine aE hQ ?_;(try cases h);simp only[aS,aV,bF,bG,go_sem,hD,hY,hZ,gA,b1,b2];try exact cq)
 | (cases h;done))
  ·have b3:(p.check.1==0)=false:=by simpa [b1,b2]using Kz
   rw[b3]at cM
   refine aF.go uP rfl fun B Q hB hQ=>?_
   have⟨hD,hY,hZ,gA⟩:=bR
   repeat' (first
 |simp only[go_sem,hD,hY,hZ,gA,b1,b2]
 |(with_reducible refine CU (cM _) ?_)
 |(with_reducible first|refine bl fun hc=>?_|refine bm fun hc=>?_|refine bn (fun hc=>?_) fun hc=>?_)<;>(try simp only[hc,bs,↓reduceIte]at h)<;>try simp only[hc]
 |(with_reducible refine aE hQ ?_;(try cases h);simp only[aS,aV,bF,bG,go_sem,hD,hY,hZ,gA,b1,b2];try exact cq)
 | (cases h;done))
   refine lH.kQ ?_
   repeat' (first
 |simp only[go_sem,hD,hY,hZ,gA,b1,b2]
 |(with_reducible refine CU (cM _) ?_)
 |(with_reducible first|refine bl fun hc=>?_|refine bm fun hc=>?_|refine bn (fun hc=>?_) fun hc=>?_)<;>(try simp only[hc,bs,↓reduceIte]at h)<;>try simp only[hc]
 |(with_reducible refine aE hQ ?_;(try cases h);simp only[aS,aV,bF,bG,go_sem,hD,hY,hZ,gA,b1,b2];try exact cq)
 |(cases h;done))
 rw[if_neg Kz]at hR
 simp only[Bool.or_eq_true,not_or,Bool.not_eq_true,Bool.not_eq_false']at Kz
 obtain⟨b1,b2,b3⟩:=Kz
 rw[b3]at cM
 have PQ:0≤fuel∧fuel≤1000000:=by simp at b1 b2;omega
 obtain⟨mf,hmf⟩:=Hh p T W PQ.1
 rw[hmf]at hR
 simp only[Option.getD_some]at hR
 cases hR
 have Yg:=zO b3
 have hS:Gb p T W fuel:=⟨hO,Yg,hW,hT,PQ⟩
 obtain⟨j,q,j1,j2,j3,j4⟩:=aad Yg
 have cP:=fun s=>(show aF Tryz.prog iD [.dz (fA p) 0, .str [109,97,105,110]] s (.int .i64 (p.at iK)) s from EH (p:=p) (by have:=hO.procs;omega) iK s)
 rw[j1]at cP
 have rG:=hO.procs.2.2
 refine aF.go uP rfl fun B Q hB hQ=>?_
 have⟨hD,hY,hZ,gA⟩:=bR
 -- from the globals on
 have start : ∀ (y:Lay) (s:St),Inv p T W y (jE p) [(2,BX)] s→Sem Tryz.prog B 131 Q3X (JJ B Q) [(2, .int .i64 fuel),(8, .ptr 2 0),(10, .ptr 0 0)] s:=by
  intro y s hi
  have Ms:=hi.new [.int .i64 0, .int .i64 0, .slice .full 0 [], .str [], .str [], .int .i64 0, .int .i64 0, .str [], .slice .full 0 [], .bool false, .slice .full 0 [], .slice .full 0 [], .slice .full 0 [], .int .i64 0, .int .i64 0, .int .i64 0, .int .i64 0]
  have nA:=Ms.jG
  rw[fy]at nA
  simp only at nA
  obtain⟨y2,s2,hF,nL⟩:=Mp Ms hO Yg.may j2 j3 (by simp[jE]) (l:= []) (by simp) (by simp) (by simp[jE]) 0
  have hF':=bM.qY (.cons (Wk.refl _) (.cons (Wk.refl _) (.cons (Wk.nil .full 0 1) (jr.refl _)))) hF
  have hF2:aF Tryz.prog jn [.ptr 0 0, .int .i64 (j:Int), .slice .full 0 [], .int .i64 0] _ _ s2:=hF'
  have pK:=Mi (m:=jE p) (pk Yg) j2 (l:= []) (call:=0) (by simp[j4]) (by simp) (by simp[jE]) (by simp[jE]) (.inl ⟨rfl,rfl⟩)
  have kM:=hmf
  unfold runM at kM
  rw[j1]at kM
  dsimp only at kM
  have iZ:=w6 p (jE p) (j:Int) [] 0
  have uy:=(yE p (jE p) (j:Int) [] 0).1
  have wS:((jE p).open p (j:Int) [] 0).2.fin=0:=by
   unfold Mc.open
   split<;>rfl
  have aej:=V3 (B:=B) hS hQ _ _ _ y2 s.ah.length s2 ⟨⟨_,rfl,nL⟩,pK,⟨by rw[iZ.2.2.2];simp[jE],by rw[iZ.1,iZ.2.2.2];simp[jE],by rw[iZ.2.1,iZ.2.2.2];simp[jE],by rw[iZ.2.2.1,iZ.2.2.2];simp[jE],Nat.le_trans uy (by simp[jE])⟩,wS,by rw[iZ.2.2.2];simp[jE];exact PQ.1⟩ kM
  refine Sem.nj ?_
  repeat' (first
 |simp only[go_sem,hD,hY,hZ,gA]
 |(with_reducible first|refine bl fun hc=>?_|refine bm fun hc=>?_|refine bn (fun hc=>?_) fun hc=>?_)<;>(try simp only[hc,bs,↓reduceIte]at h)<;>try simp only[hc]
 |(with_reducible refine aE hQ ?_;exact fO)
 |(cases h;done))
  refine Sem.nj ?_
  repeat' (first
 |simp only[go_sem,hD,hY,hZ,gA]
 |(with_reducible first|refine bl fun hc=>?_|refine bm fun hc=>?_|refine bn (fun hc=>?_) fun hc=>?_)<;>(try simp only[hc,bs,↓reduceIte]at h)<;>try simp only[hc]
 |(with_reducible refine aE hQ ?_;exact fO)
 |(cases h;done))
  refine Sem.nj ?_
  repeat' (first
 |simp only[go_sem,hD,hY,hZ,gA,nA]
 |(with_reducible refine CU (cP _) ?_)
 |(with_reducible refine CU (hF2) ?_)
 |(with_reducible first|refine bl fun hc=>?_|refine bm fun hc=>?_|refine bn (fun hc=>?_) fun hc=>?_)<;>(try simp only[hc,bs,↓reduceIte]at h)<;>try simp only[hc]
 |(with_reducible refine aE hQ ?_;(try cases h);simp only[aS,aV,bF,bG,go_sem,hD,hY,hZ,gA,nA];try exact cq)
 |(cases h;done))
  refine Sem.nj ?_
  repeat' (first
 |simp only[go_sem,hD,hY,hZ,gA]
 |(with_reducible first|refine bl fun hc=>?_|refine bm fun hc=>?_|refine bn (fun hc=>?_) fun hc=>?_)<;>(try simp only[hc,bs,↓reduceIte]at h)<;>try simp only[hc]
 |(with_reducible refine aE hQ ?_;exact fO)
 |(cases h;done))
  refine Sem.pM ?_ aej
  simp only[go_sem]
  repeat' (first|exact Ok.out|with_reducible refine jb ?_ ?_)
 generalize hG:p.globals.length=G at *
 have hGb:G≤900000:=by rw[← hG];exact hO.procs.2.2
 let row:Nat→List D:=fun k=> [.dz (fA p) 0, .slice (.tok 2) 1 ((List.range k).map fun i=>fq (3+i)), .slice .shared 1 (T.map bP), .slice .shared 1 (W.map bP), .ek 1, .ek 1, .int .i64 0, .int .i64 0, .int .i64 0, .slice (.tok 0) 1 [], .slice (.tok 1) 2 []]
 have loop : ∀ d k:Nat,k+d=G→bp Tryz.prog B 131 Q2B (kC 0 (nT (Sem Tryz.prog B 131 Q3X (JJ B Q)) (JJ B Q))) [(2, .int .i64 fuel),(8, .ptr 2 0),(10, .ptr 0 0),(34, .int .i64 (G:Int)),(35, .int .i64 (k:Int))]
  ⟨row k::cz p::BX::List.replicate k [.int .i64 0],[some 0,some 0,some k]⟩:=by
  intro d
  induction d with
  |zero=>
   intro k hk
   have uu:k=G:=by omega
   subst uu
   have hD:decide ((k:Int)<(k:Int))=false:=by simp
   refine bp.kQ ?_
   repeat' (first
 |simp only[go_sem,hD,hY,hZ,gA]
 |(with_reducible first|refine bl fun hc=>?_|refine bm fun hc=>?_|refine bn (fun hc=>?_) fun hc=>?_)<;>(try simp only[hc,bs,↓reduceIte]at h)<;>try simp only[hc]
 |(with_reducible refine aE hQ ?_;exact fO)
 | (cases h;done))
   refine Sem.pM (bx:= [(2, .int .i64 fuel),(8, .ptr 2 0),(10, .ptr 0 0)]) (by simp only[go_sem];repeat' (first|exact Ok.out|with_reducible refine jb ?_ ?_)) ?_
   have hκ:((List.range k).map (3 + ·)).length=k:=by simp
   have hmp:((List.range k).map fun i=>fq (3+i))=(((List.range k).map (3 + ·)).take k).map fq:=by rw[List.take_of_length_le (by simp),List.map_map];rfl
   refine Sem.wkO (fy p T W ⟨(List.range k).map (3 + ·),[], .ek 1, .ek 1⟩ (jE p)::cz p::BX::List.replicate k [.int .i64 0]) ?_ (start ⟨(List.range k).map (3 + ·),[], .ek 1, .ek 1⟩ _ ?_)
   ·refine .cons ?_ (gC.refl _)
    simp only[row,fy,hG, ← hmp,jE,List.map_nil]
    exact Ok.out
   ·have SH:((List.range k).map (3 + ·)).Nodup:=by
     rw[List.nodup_iff_pairwise_ne,List.pairwise_map]
     exact List.Pairwise.imp (fun h=>by omega) (List.nodup_iff_pairwise_ne.1 List.nodup_range)
    refine⟨rfl,rfl,rfl,by simp[jE,hG],fun i c v e1 e2=>?_,rfl,fun i o fr e1 e2=>by simp at e1, .inl ⟨rfl,rfl⟩,⟨[], .inl ⟨rfl,rfl⟩⟩, ?_,fun x mx=>?_⟩
    ·have hD:=(List.getElem?_eq_some_iff.1 e1).1
     simp only[hκ]at hD
     rw[List.getElem?_map,List.getElem?_range hD]at e1
     simp only[jE]at e2
     rw[List.getElem?_replicate_of_lt (by omega)]at e2
     simp only[Option.map_some,Option.some.injEq]at e1 e2
     subst e1 e2
     show(_::_::_::List.replicate k [D.int .i64 0])[3+i]? = _
     rw[show 3+i=i+1+1+1 by omega]
     simp only[List.getElem?_cons_succ]
     exact List.getElem?_replicate_of_lt hD
    ·simp only [Lay.own,D.arr,List.append_nil]
     rw[List.nodup_cons]
     exact⟨by simp,SH⟩
    ·rw [List.mem_singleton.1 mx]
     refine⟨rfl, ?_⟩
     simp only[Lay.own,D.arr,List.append_nil,List.mem_cons,List.mem_map,List.mem_range,not_or]
     exact⟨by omega,by rintro⟨i,_,h⟩;omega⟩
  | succ d ih=>
   intro k hk
   have hD:decide ((k:Int)<(G:Int))=true:=by simp;omega
   have bO:k<4611686018427387904:=by omega
   have eO : ∀ os,iB 1 8 (.slice (.tok 2) 1 ((List.range k).map fun i=>fq (3+i))) (.slice .full 1 [[.ptr (3+k) 0]]) ⟨os,[some 0,some 0,some k]⟩ =
    some (.slice (.tok 2) 1 ((List.range (k+1)).map fun i=>fq (3+i)),⟨os,[some 0,some 0,some (k+1)]⟩):=fun os=>by
    rw[nX (size:=1) (by simp only[List.length_map,List.length_range,List.length_singleton];unfold bC;omega) (by simp)]
    simp[List.range_succ,fq]
   have hln : ∀ a b c:List D,(a::b::c::List.replicate k [D.int .i64 0]).length=3+k:=fun a b c=>by simp;omega
   have aek : ∀ a b c:List D,a::b::c::List.replicate k [D.int .i64 0]++ [[D.int .i64 0]] = a::b::c::List.replicate (k+1) [D.int .i64 0]:=fun a b c=>by rw[List.replicate_succ'];rfl
   refine bp.kQ ?_
   simp only[row]
   repeat' (first
 |simp only[go_sem,hD,hY,hZ,gA,eO,hln,aek]
 |(with_reducible first|refine bl fun hc=>?_|refine bm fun hc=>?_|refine bn (fun hc=>?_) fun hc=>?_)<;>(try simp only[hc,bs,↓reduceIte]at h)<;>try simp only[hc]
 |(with_reducible refine aE hQ ?_;(try cases h);simp only[aS,aV,bF,bG,go_sem,hD,hY,hZ,gA,eO,hln,aek];try exact cq)
 | (cases h;done))
   have:=ih (k+1) (by omega)
   simp only[row,List.range_succ,List.map_append,List.map_cons,List.map_nil]at this
   refine bp.pM ?_ this
   simp only[go_sem,aI bO]
   repeat' (first|exact Ok.out|with_reducible refine jb ?_ ?_)
 repeat' (first
 |simp only[go_sem,hD,hY,hZ,gA,b1,b2]
 |(with_reducible first|refine bl fun hc=>?_|refine bm fun hc=>?_|refine bn (fun hc=>?_) fun hc=>?_)<;>(try simp only[hc,bs,↓reduceIte]at h)<;>try simp only[hc]
 |(with_reducible refine aE hQ ?_;(try cases h);simp only[aS,aV,bF,bG,go_sem,hD,hY,hZ,gA,b1,b2];try exact cq)
 |(cases h;done))
 refine lH.once (Sem.nj ?_)
 repeat' (first
 |simp only[go_sem,hD,hY,hZ,gA,b1,b2]
 |(with_reducible refine CU (cM _) ?_)
 |(with_reducible first|refine bl fun hc=>?_|refine bm fun hc=>?_|refine bn (fun hc=>?_) fun hc=>?_)<;>(try simp only[hc,bs,↓reduceIte]at h)<;>try simp only[hc]
 |(with_reducible refine aE hQ ?_;(try cases h);simp only[aS,aV,bF,bG,go_sem,hD,hY,hZ,gA,b1,b2];try exact cq)
 |(cases h;done))
 refine Sem.nj ?_
 repeat' (first
 |simp only[go_sem,hD,hY,hZ,gA]
 |(with_reducible refine CU (cN _) ?_)
 |(with_reducible first|refine bl fun hc=>?_|refine bm fun hc=>?_|refine bn (fun hc=>?_) fun hc=>?_)<;>(try simp only[hc,bs,↓reduceIte]at h)<;>try simp only[hc]
 |(with_reducible refine aE hQ ?_;exact fO)
 |(cases h;done))
 refine Sem.nj ?_
 repeat' (first
 |simp only[go_sem,hD,hY,hZ,gA]
 |(with_reducible first|refine bl fun hc=>?_|refine bm fun hc=>?_|refine bn (fun hc=>?_) fun hc=>?_)<;>(try simp only[hc,bs,↓reduceIte]at h)<;>try simp only[hc]
 |(with_reducible refine aE hQ ?_;exact fO)
 |(cases h;done))
 refine bp.Dq 2 9 1 rfl rfl ?_
 refine bp.Dq 2 10 2 rfl rfl ?_
 refine bp.Dq 2 1 1 rfl rfl ?_
 simp only[List.set_cons_succ,List.set_cons_zero,List.length_nil,List.nil_append,List.length_cons,List.cons_append]
 have l0:=loop G 0 (by omega)
 simp only[row,List.range_zero,List.map_nil,List.replicate_zero]at l0
 refine bp.re [(2, .int .i64 fuel),(8, .ptr 1 0),(10, .ptr 2 0),(34, .int .i64 (G:Int)),(35, .int .i64 ((0:Nat):Int))]
  [cz p,BX,[.dz (fA p) 0, .slice (.tok 2) 1 [], .slice .shared 1 (T.map bP), .slice .shared 1 (W.map bP), .ek 1, .ek 1, .int .i64 0, .int .i64 0, .int .i64 0, .slice (.tok 0) 1 [], .slice (.tok 1) 2 []]] 3 3 (by rw[hB];exact Nat.zero_le _) (by rw[hB];exact Nat.zero_le _) ?_ ?_ ?_
 ·simp only [go_sem,hG]
  repeat' (first|exact Ok.out|with_reducible refine jb ?_ ?_)
 ·simp only [go_sem,XZ]
  repeat' (first|exact Ok.out|with_reducible refine jb ?_ ?_)
 have r1 : ∀ os ts,D.e7 os ts (fA p)=fA p:=fun os ts=>fB os ts _ (uh p)
 have r2 : ∀ n m,D.bK n m (fA p)=true:=fun n m=>iC (Nat.zero_le n) (Nat.zero_le m) _ (uh p)
 have r3 : ∀ os ts l,D.nV os ts (List.map bP l)=List.map bP l:=fun os ts l=>jm os ts _ (iz l)
 have r4 : ∀ n m l,D.gS n m (List.map bP l)=true:=fun n m l=>mE (Nat.zero_le n) (Nat.zero_le m) _ (iz l)
 refine bp.ajS hB [2,0,1] _ _ (by decide) (by simp) ?_ ?_ l0
 ·simp[Bk,D.e7,D.cU,D.nV,D.bK,D.gS,D.ok,Tag.cU,Tag.ok,St.cut,r1,r2,r3,r4,LQ,Rw,BX]
 ·simp[C1,Tm.get,D.cU,D.ok]
theorem z6 {a b:List Int} (ha:a.length<1000000000) (g:Tag) (s:St):aF Tryz.prog lz [.slice .shared 1 (a.map bP), .slice g 1 (b.map bP)] s (.bool (a==b)) s:=by
 refine bM.qY (.cons (Wk.refl _) (.cons (Wk.shared _ _ _) .nil)) (aF.pure ?_ (by simp[D.bK,D.ok,Tag.ok,iz]) rfl s)
 generalize h:(a==b)=R
 unfold S0
 by_cases hl:a.length=b.length
 ·have e1:((a.length:Int) != (b.length:Int))=false:=by simp [hl]
  refine aF.go vD rfl fun B Q hB hQ=>?_
  have⟨hD,hY,hZ,gA⟩:=bR
  repeat' (first
 |simp only[go_sem,hD,hY,hZ,gA,e1]
 |(with_reducible first|refine bl fun hc=>?_|refine bm fun hc=>?_|refine bn (fun hc=>?_) fun hc=>?_)<;>(try simp only[hc,bs,↓reduceIte]at h)<;>try simp only[hc]
 |(with_reducible refine aE hQ ?_;(try cases h);simp only[aS,aV,bF,bG,go_sem,hD,hY,hZ,gA,e1];try exact cq)
 | (cases h;done))
  refine ff 0 0 (bp.ind (ι:=List Int×List Int×Nat) (fun i=>a.drop i.2.2=i.1∧b.drop i.2.2=i.2.1∧(i.1==i.2.1)=R) (fun i=>i.1.length)
   (fun i=> [(0, .slice .shared 1 (a.map bP)),(1, .slice .shared 1 (b.map bP)),(12, .int .i64 (a.length:Int)),(13, .int .i64 (i.2.2:Int))]) (fun i=>⟨[],[]⟩) ?_ (a,b,0) ⟨rfl,rfl,h⟩)
  rintro⟨ra,rb,k⟩ ⟨h1,h2,h⟩ IH
  dsimp only at h1 h2 h
  cases ra with
  |nil=>
   have hD:=drop_nil h1
   have:b.drop k = []:=by rw[List.drop_eq_nil_iff]at h1 ⊢;omega
   rw[h2]at this
   subst this
   have h':true=R:=h
   subst h'
   repeat' (first
 |simp only[go_sem,hD,hY,hZ,gA]
 |(with_reducible first|refine bl fun hc=>?_|refine bm fun hc=>?_|refine bn (fun hc=>?_) fun hc=>?_)<;>(try simp only[hc,bs,↓reduceIte]at h)<;>try simp only[hc]
 |(with_reducible refine aE hQ ?_;exact fO)
 | (cases h;done))
  | cons x ra=>
   obtain⟨hY,g2,hD,g4⟩:=drop_cons h1
   have bO:k<4611686018427387904:=by omega
   cases rb with
   |nil=>rw[List.drop_eq_nil_iff]at h2;omega
   | cons y rb=>
    obtain⟨mn,g2',Pl,g4'⟩:=drop_cons h2
    have e2:(x != y) = !(x==y):=rfl
    simp only[List.cons_beq_cons]at h
    rcases Bool.eq_false_or_eq_true (x==y)with c|c
    ·simp only [c,Bool.true_and]at h
     repeat' (first
 |simp only[go_sem,hD,hY,hZ,gA,e2,c,mn]
 |(with_reducible first|refine bl fun hc=>?_|refine bm fun hc=>?_|refine bn (fun hc=>?_) fun hc=>?_)<;>(try simp only[hc,bs,↓reduceIte]at h)<;>try simp only[hc]
 |(with_reducible refine aE hQ ?_;(try cases h);simp only[aS,aV,bF,bG,go_sem,hD,hY,hZ,gA,e2,c,mn];try exact cq)
 | (cases h;done))
     refine eQ 0 0 ?_ ?_ (IH (ra,rb,k+1) ⟨g2,g2',h⟩ (Nat.lt_succ_self _))
     ·(simp only[go_sem,hD,hY,hZ,gA,aI bO];try exact bX)
     ·(simp only[go_sem,hD,hY,hZ,gA,aI bO];try exact bX)
    ·simp only [c,Bool.false_and]at h
     repeat' (first
 |simp only[go_sem,hD,hY,hZ,gA,e2,c,mn]
 |(with_reducible first|refine bl fun hc=>?_|refine bm fun hc=>?_|refine bn (fun hc=>?_) fun hc=>?_)<;>(try simp only[hc,bs,↓reduceIte]at h)<;>try simp only[hc]
 |(with_reducible refine aE hQ ?_;(try cases h);simp only[aS,aV,bF,bG,go_sem,hD,hY,hZ,gA,e2,c,mn];try exact cq)
 |(cases h;done))
 ·have e1:((a.length:Int) != (b.length:Int))=true:=by simp;omega
  have:(a==b)=false:=by
   rw[beq_eq_false_iff_ne];intro e;rw[e]at hl;exact hl rfl
  rw[this]at h
  subst h
  refine aF.go vD rfl fun B Q hB hQ=>?_
  have⟨hD,hY,hZ,gA⟩:=bR
  repeat' (first
 |simp only[go_sem,hD,hY,hZ,gA,e1]
 |(with_reducible first|refine bl fun hc=>?_|refine bm fun hc=>?_|refine bn (fun hc=>?_) fun hc=>?_)<;>(try simp only[hc,bs,↓reduceIte]at h)<;>try simp only[hc]
 |(with_reducible refine aE hQ ?_;(try cases h);simp only[aS,aV,bF,bG,go_sem,hD,hY,hZ,gA,e1];try exact cq)
 |(cases h;done))
theorem SV {a b:List (Int×List Int)} (ha:a.length<1000000000) (hv : ∀ e∈a,e.2.length<1000000000) (s:St):aF Tryz.prog rh [.slice .shared 2 (a.map fj), .slice .shared 2 (b.map fj)] s (.bool (a==b)) s:=by
 refine aF.pure ?_ (by simp[D.bK,D.ok,Tag.ok,Ic]) rfl s
 generalize h:(a==b)=R
 unfold S0
 by_cases hl:a.length=b.length
 ·have e1:((a.length:Int) != (b.length:Int))=false:=by simp [hl]
  refine aF.go uD rfl fun B Q hB hQ=>?_
  have⟨hD,hY,hZ,gA⟩:=bR
  repeat' (first
 |simp only[go_sem,hD,hY,hZ,gA,e1]
 |(with_reducible first|refine bl fun hc=>?_|refine bm fun hc=>?_|refine bn (fun hc=>?_) fun hc=>?_)<;>(try simp only[hc,bs,↓reduceIte]at h)<;>try simp only[hc]
 |(with_reducible refine aE hQ ?_;(try cases h);simp only[aS,aV,bF,bG,go_sem,hD,hY,hZ,gA,e1];try exact cq)
 | (cases h;done))
  refine ff 0 0 (bp.ind (ι:=List (Int×List Int)×List (Int×List Int)×Nat) (fun i=>a.drop i.2.2=i.1∧b.drop i.2.2=i.2.1∧(i.1==i.2.1)=R) (fun i=>i.1.length)
   (fun i=> [(0, .slice .shared 2 (a.map fj)),(1, .slice .shared 2 (b.map fj)),(12, .int .i64 (a.length:Int)),(13, .int .i64 (i.2.2:Int))]) (fun i=>⟨[],[]⟩) ?_ (a,b,0) ⟨rfl,rfl,h⟩)
  rintro⟨ra,rb,k⟩ ⟨h1,h2,h⟩ IH
  dsimp only at h1 h2 h
  cases ra with
  |nil=>
   have hD:=drop_nil h1
   have:b.drop k = []:=by rw[List.drop_eq_nil_iff]at h1 ⊢;omega
   rw[h2]at this
   subst this
   have h':true=R:=h
   subst h'
   repeat' (first
 |simp only[go_sem,hD,hY,hZ,gA]
 |(with_reducible first|refine bl fun hc=>?_|refine bm fun hc=>?_|refine bn (fun hc=>?_) fun hc=>?_)<;>(try simp only[hc,bs,↓reduceIte]at h)<;>try simp only[hc]
 |(with_reducible refine aE hQ ?_;exact fO)
 | (cases h;done))
  | cons x ra=>
   obtain⟨hY,g2,hD,g4⟩:=drop_cons h1
   have bO:k<4611686018427387904:=by omega
   cases rb with
   |nil=>rw[List.drop_eq_nil_iff]at h2;omega
   |cons y rb=>
    obtain⟨mn,g2',Pl,g4'⟩:=drop_cons h2
    obtain⟨x1,x2⟩:=x
    obtain⟨y1,y2⟩:=y
    have e2:(x1 != y1) = !(x1==y1):=rfl
    have hb:((x1,x2)==(y1,y2))=(x1==y1 && x2==y2):=rfl
    have cE:=fun g s=>z6 (a:=x2) (b:=y2) (hv _ (List.mem_of_getElem? hY)) g s
    simp only[List.cons_beq_cons,hb]at h
    rcases Bool.eq_false_or_eq_true (x1==y1)with c|c<;>rcases Bool.eq_false_or_eq_true (x2==y2)with c2|c2<;>simp only[c,c2,Bool.true_and,Bool.false_and]at h
    ·repeat' (first
 |simp only[go_sem,hD,hY,hZ,gA,e2,c,c2,mn,fj]
 |(with_reducible refine CU (cE _ _) ?_)
 |(with_reducible first|refine bl fun hc=>?_|refine bm fun hc=>?_|refine bn (fun hc=>?_) fun hc=>?_)<;>(try simp only[hc,bs,↓reduceIte]at h)<;>try simp only[hc]
 |(with_reducible refine aE hQ ?_;(try cases h);simp only[aS,aV,bF,bG,go_sem,hD,hY,hZ,gA,e2,c,c2,mn,fj];try exact cq)
 | (cases h;done))
     refine eQ 0 0 ?_ ?_ (IH (ra,rb,k+1) ⟨g2,g2',h⟩ (Nat.lt_succ_self _))
     ·(simp only[go_sem,hD,hY,hZ,gA,aI bO,fj];try exact bX)
     ·(simp only[go_sem,hD,hY,hZ,gA,aI bO,fj];try exact bX)
    ·repeat' (first
 |simp only[go_sem,hD,hY,hZ,gA,e2,c,c2,mn,fj]
 |(with_reducible refine CU (cE _ _) ?_)
 |(with_reducible first|refine bl fun hc=>?_|refine bm fun hc=>?_|refine bn (fun hc=>?_) fun hc=>?_)<;>(try simp only[hc,bs,↓reduceIte]at h)<;>try simp only[hc]
 |(with_reducible refine aE hQ ?_;(try cases h);simp only[aS,aV,bF,bG,go_sem,hD,hY,hZ,gA,e2,c,c2,mn,fj];try exact cq)
 | (cases h;done))
    ·repeat' (first
 |simp only[go_sem,hD,hY,hZ,gA,e2,c,c2,mn,fj]
 |(with_reducible refine CU (cE _ _) ?_)
 |(with_reducible first|refine bl fun hc=>?_|refine bm fun hc=>?_|refine bn (fun hc=>?_) fun hc=>?_)<;>(try simp only[hc,bs,↓reduceIte]at h)<;>try simp only[hc]
 |(with_reducible refine aE hQ ?_;(try cases h);simp only[aS,aV,bF,bG,go_sem,hD,hY,hZ,gA,e2,c,c2,mn,fj];try exact cq)
 | (cases h;done))
    ·repeat' (first
 |simp only[go_sem,hD,hY,hZ,gA,e2,c,c2,mn,fj]
 |(with_reducible refine CU (cE _ _) ?_)
 |(with_reducible first|refine bl fun hc=>?_|refine bm fun hc=>?_|refine bn (fun hc=>?_) fun hc=>?_)<;>(try simp only[hc,bs,↓reduceIte]at h)<;>try simp only[hc]
 |(with_reducible refine aE hQ ?_;(try cases h);simp only[aS,aV,bF,bG,go_sem,hD,hY,hZ,gA,e2,c,c2,mn,fj];try exact cq)
 |(cases h;done))
 ·have e1:((a.length:Int) != (b.length:Int))=true:=by simp;omega
  have:(a==b)=false:=by
   rw[beq_eq_false_iff_ne];intro e;rw[e]at hl;exact hl rfl
  rw[this]at h
  subst h
  refine aF.go uD rfl fun B Q hB hQ=>?_
  have⟨hD,hY,hZ,gA⟩:=bR
  repeat' (first
 |simp only[go_sem,hD,hY,hZ,gA,e1]
 |(with_reducible first|refine bl fun hc=>?_|refine bm fun hc=>?_|refine bn (fun hc=>?_) fun hc=>?_)<;>(try simp only[hc,bs,↓reduceIte]at h)<;>try simp only[hc]
 |(with_reducible refine aE hQ ?_;(try cases h);simp only[aS,aV,bF,bG,go_sem,hD,hY,hZ,gA,e1];try exact cq)
 |(cases h;done))
structure Mc.SW (m:Mc):Prop where
 out:m.out.length<1000000000
 trace:m.trace.length<1000000000
 bN : ∀ e∈m.trace,e.2.length<1000000000
def z7 (a b:Mc):Bool:=a.fin==b.fin && (a.steps==b.steps && (a.reads==b.reads && a.out==b.out))
def avO (a b:Mc):Bool:=z7 a b && a.trace==b.trace
theorem aaf {a b:Mc} (ha:a.SW) (s:St):aF Tryz.prog tW [.agg (fM a), .agg (fM b)] s (.bool (z7 a b)) s:=by
 refine aF.pure ?_ (by simp[D.bK,D.ok,Fi]) rfl s
 have cE:=fun g s=>z6 (a:=a.out) (b:=b.out) ha.out g s
 generalize h:z7 a b=R
 simp only[z7]at h
 unfold S0
 simp only[fM]
 rcases Bool.eq_false_or_eq_true (a.fin==b.fin)with c1|c1
 all_goals rcases Bool.eq_false_or_eq_true (a.steps==b.steps)with c2|c2
 all_goals rcases Bool.eq_false_or_eq_true (a.reads==b.reads)with c3|c3
 all_goals
  simp only[c1,c2,c3,Bool.true_and,Bool.false_and]at h
  subst h
  refine aF.go Ey rfl fun B Q hB hQ=>?_
  have⟨hD,hY,hZ,gA⟩:=bR
  repeat' (first
 |simp only[go_sem,hD,hY,hZ,gA,c1,c2,c3]
 |(with_reducible refine CU (cE _ _) ?_)
 |(with_reducible first|refine bl fun hc=>?_|refine bm fun hc=>?_|refine bn (fun hc=>?_) fun hc=>?_)<;>(try simp only[hc,bs,↓reduceIte]at h)<;>try simp only[hc]
 |(with_reducible refine aE hQ ?_;(try cases h);simp only[aS,aV,bF,bG,go_sem,hD,hY,hZ,gA,c1,c2,c3];try exact cq)
 |(cases h;done))
theorem Gd:fM (ofM rO [] [5,2] 50).1 = [.int .i64 1, .int .i64 7, .int .i64 0, .slice .shared 1 ([5,5].map bP), .slice .shared 2 ([(2,[]),(5,[5])].map fj)]:=by kernel_rfl
theorem ahL:(ofM rO [] [5,2] 50).2=0:=by kernel_rfl
theorem aag:Nat.ble (rO.size+1) 1000=true:=by kernel_rfl
theorem SX (n:Int):qp (.ofInt .f64) (.int .i64 n) (.int .i64 n)=some (.val (.float .f64 (FloatKind.nearest .f64 n))):=nd rfl
theorem KA (a b:Nat):qp .Ig (.val (.float .f64 a)) (.val (.float .f64 b))=some (.val (.complex .f64 a b)):=nd rfl
theorem KB (a b:Nat) (d:D):qp .real (.val (.complex .f64 a b)) d=some (.val (.float .f64 a)):=nd rfl
theorem Yh:qp .eq (.val (.float .f64 (FloatKind.nearest .f64 7))) (.val (.float .f64 4619567317775286272))=some (.bool true):=by
 have:FloatKind.nearest .f64 7=4619567317775286272:=by decide +kernel
 rw[this]
 have h:(FloatKind.f64.format.order 4619567317775286272 4619567317775286272==some .eq)=true:=by decide +kernel
 show(if FloatKind.f64=FloatKind.f64 then some (D.bool (FloatKind.f64.format.order 4619567317775286272 4619567317775286272==some .eq))else none)=_
 rw[if_pos rfl,h]
theorem aem:rO.iP:=by
 have vf:rO.size<100000:=by have:=Nat.le_of_ble_eq_true aag;omega
 exact⟨R3 (by decide +kernel) (by omega),by omega⟩
theorem aen (n k:Nat) (m:Mc):D.gx n k (fM m)=fM m:=ie n k _ (Fi m)
theorem aah (m:Mc):(fM m).length=5:=nd rfl
theorem V9 (m:Mc):List.take 5 (fM m)=fM m:=nd rfl
theorem ahM (m:Mc):(fM m)[0]? = some (.int .i64 m.fin):=nd rfl
theorem ahN (m:Mc):(fM m)[1]? = some (.int .i64 m.steps):=nd rfl
theorem ahO (m:Mc):(fM m)[2]? = some (.int .i64 m.reads):=nd rfl
theorem ahP (m:Mc):(fM m)[3]? = some (.slice .shared 1 (m.out.map bP)):=nd rfl
theorem ahQ (m:Mc):(fM m)[4]? = some (.slice .shared 2 (m.trace.map fj)):=nd rfl
attribute [go_sem] aen aah V9 ahM ahN ahO ahP ahQ
theorem aai (m:Mc) (s:St):aF Tryz.prog xp [.agg (fM m)] s (.val (.complex .f64 (FloatKind.nearest .f64 m.steps) (FloatKind.nearest .f64 m.reads))) s:=by
 refine aF.pure ?_ (by simp[D.bK,D.ok,Fi]) rfl s
 unfold S0
 refine aF.go HF rfl fun B Q hB hQ=>?_
 have⟨hD,hY,hZ,gA⟩:=bR
 repeat' (first
 |simp only[go_sem,hD,hY,hZ,gA,fM,SX,KA]
 |(with_reducible first|refine bl fun hc=>?_|refine bm fun hc=>?_|refine bn (fun hc=>?_) fun hc=>?_)<;>(try simp only[hc,bs,↓reduceIte]at h)<;>try simp only[hc]
 |(with_reducible refine aE hQ ?_;(try cases h);simp only[aS,aV,bF,bG,go_sem,hD,hY,hZ,gA,fM,SX,KA];try exact cq)
 |(cases h;done))
theorem ahR (s:St):aF Tryz.prog xn [] s (.bool true) s:=by
 refine aF.pure ?_ rfl rfl s
 have h1:=fun s=>adS s
 have h2:=fun s=>V6 (T:= []) (W:= [5,2]) aem (by simp) (by simp) 50 s
 have h4:=fun s=>aai (ofM rO [] [5,2] 50).1 s
 have m1:(ofM rO [] [5,2] 50).1.steps=7:=by have:=congrArg (fun l=>l[1]?) Gd;simpa[fM]using this
 have m2:(ofM rO [] [5,2] 50).1.reads=0:=by have:=congrArg (fun l=>l[2]?) Gd;simpa[fM]using this
 rw[m1,m2]at h4
 rw[Gd]at h2 h4
 rw[ahL]at h2
 simp only[List.map_cons,List.map_nil,bP,fj]at h2 h4
 have h3:=fun g s=>z6 (a:= [5,5]) (b:= [5,5]) (by simp) g s
 have h5:=fun g s=>z6 (a:= [5]) (b:= [5]) (by simp) g s
 have e5:(([5,5] : List Int) == [5,5])=true:=rfl
 have e6:(([5] : List Int) == [5])=true:=rfl
 rw[e5]at h3
 rw[e6]at h5
 simp only[List.map_cons,List.map_nil,bP]at h3 h5
 have uz:=fun s=>bM.qY (.cons (Wk.refl _) (.cons (Wk.nil .full 0 1) (.cons (Wk.refl _) (.cons (Wk.shared .full _ _) .nil)))) (h2 s)
 have h2 : ∀ s,aF Tryz.prog sn [.agg (cz rO), .slice .full 0 [], .int .i64 50, .slice .full 1 [[.int .i64 5],[.int .i64 2]]] s _ s:=uz
 clear uz
 have z0 : ∀ x:Int,(x==x)=true:=fun x=>beq_self_eq_true x
 have z2:(((2:Nat):Int)==2)=true:=rfl
 unfold S0
 refine aF.go HC rfl fun B Q hB hQ=>?_
 have⟨hD,hY,hZ,gA⟩:=bR
 repeat' (first
 |simp only[go_sem,hD,hY,hZ,gA,z0,z2,KB,Yh,Int.toNat_one,List.getElem?_cons_succ,List.getElem?_cons_zero]
 |(with_reducible refine CU (h1 _) ?_)
 |(with_reducible refine CU (h2 _) ?_)
 |(with_reducible refine CU (h3 _ _) ?_)
 |(with_reducible refine CU (h5 _ _) ?_)
 |(with_reducible refine CU (h4 _) ?_)
 |(with_reducible first|refine bl fun hc=>?_|refine bm fun hc=>?_|refine bn (fun hc=>?_) fun hc=>?_)<;>(try simp only[hc,bs,↓reduceIte]at h)<;>try simp only[hc]
 |(with_reducible refine aE hQ ?_;(try cases h);simp only[aS,aV,bF,bG,go_sem,hD,hY,hZ,gA,z0,z2,KB,Yh,Int.toNat_one,List.getElem?_cons_succ,List.getElem?_cons_zero];try exact cq)
 |(cases h;done))
theorem aaj {p:Pg} (hO:p.iP) (T:List Int) (fuel:Int) (s:St):aF Tryz.prog tU [.agg (cz p), .slice .shared 1 (T.map bP), .int .i64 fuel] s (.bool (p.check.1==0 && (decide (0≤fuel) && (decide (fuel≤400) && decide ((T.length:Int)≤100))))) s:=by
 refine aF.pure ?_ (by simp[D.bK,D.ok,Tag.ok,jw,iz]) rfl s
 have h1:=fun s=>SR hO s
 have g1:decide (fuel≥0)=decide (0≤fuel):=rfl
 unfold S0
 rcases Bool.eq_false_or_eq_true (p.check.1==0)with b1|b1
 all_goals rcases Bool.eq_false_or_eq_true (decide (0≤fuel))with b2|b2
 all_goals rcases Bool.eq_false_or_eq_true (decide (fuel≤400))with b3|b3
 all_goals rcases Bool.eq_false_or_eq_true (decide ((T.length:Int)≤100))with b4|b4
 all_goals simp only[b1,b2,b3,b4,Bool.true_and,Bool.false_and]
 all_goals rw[b1]at h1
 all_goals rw[b2]at g1
 all_goals
  refine aF.go Ev rfl fun B Q hB hQ=>?_
  have⟨hD,hY,hZ,gA⟩:=bR
  repeat' (first
 |simp only[go_sem,hD,hY,hZ,gA,g1,b3,b4]
 |(with_reducible refine CU (h1 _) ?_)
 |(with_reducible first|refine bl fun hc=>?_|refine bm fun hc=>?_|refine bn (fun hc=>?_) fun hc=>?_)<;>(try simp only[hc,bs,↓reduceIte]at h)<;>try simp only[hc]
 |(with_reducible refine aE hQ ?_;(try cases h);simp only[aS,aV,bF,bG,go_sem,hD,hY,hZ,gA,g1,b3,b4];try exact cq)
 |(cases h;done))
def Pg.whole (p:Pg) (T:List Int) (fuel:Int):Mc:=(ofM p T (oK 0 p.all) fuel).1
theorem PR {p:Pg} (hO:p.iP) (wT:p.all.length≤1000) {T:List Int} (hT:T.length<1000000) (fuel:Int) (s:St):aF Tryz.prog tV [.agg (cz p), .slice .shared 1 (T.map bP), .int .i64 fuel] s (.agg (fM (p.whole T fuel))) s:=by
 refine aF.pure ?_ (by simp[D.bK,D.ok,Tag.ok,jw,iz]) (by simp only[D.ok,Fi]) s
 have wQ:=hO.procs
 have h1:=fun s=>ahs (p:=p) (by omega) wT 0 s
 have hW:(oK 0 p.all).length<1000000:=by have:=DO 0 p.all;omega
 have h2:=fun s=>V6 hO hT hW fuel s
 unfold Pg.whole
 unfold S0
 refine aF.go Ew rfl fun B Q hB hQ=>?_
 have⟨hD,hY,hZ,gA⟩:=bR
 repeat' (first
 |simp only[go_sem,hD,hY,hZ,gA]
 |(with_reducible refine CU (h1 _) ?_)
 |(with_reducible refine CU (h2 _) ?_)
 |(with_reducible first|refine bl fun hc=>?_|refine bm fun hc=>?_|refine bn (fun hc=>?_) fun hc=>?_)<;>(try simp only[hc,bs,↓reduceIte]at h)<;>try simp only[hc]
 |(with_reducible refine aE hQ ?_;exact fO)
 |(cases h;done))
end Go.Abs
namespace Go.Abs
def Reads (n:Nat) (m:Mc):Prop:=0≤m.reads∧m.reads≤(n:Int)∧(m.fin=3→m.reads=(n:Int))
def Sm.tells (s:Sm):Nat:=if s.kind==4 ||(decide (s.kind≥7) && !s.has)then 0 else 1
def Mu (m m':Mc):Prop:=m'.trace=m.trace∧m'.out=m.out∧m'.reads=m.reads
def Mv (T:List Int) (x:Sm) (m m':Mc):Prop:=∃ bN:List Int,m'.trace=m.trace++ [(x.id,bN)]∧m'.out=m.out++(if x.kind==3 then bN else [])∧bN.length=x.tells∧
 (if x.kind==2 then ∃ v,T[m.reads.toNat]? = some v∧bN = [v]∧m'.reads=m.reads+1 else m'.reads=m.reads)
def z8 (T:List Int) (x:Sm) (m m':Mc):Prop:=Mu m m'∨Mv T x m m'
theorem aak {s:Sm} (h:s.one=true):1≤s.kind∧s.kind≤10∧(s.kind≠9→s.has=false):=by
 unfold Sm.one at h
 split at h
 ·cases h
 ·rename_i c
  simp only[Bool.or_eq_true,not_or,Bool.not_eq_true,Bool.and_eq_false_iff,decide_eq_false_iff_not,bne_eq_false_iff_eq]at c
  obtain⟨⟨⟨⟨⟨c1,c2⟩,_⟩,_⟩,_⟩,c3⟩:=c
  refine⟨by omega,by omega,fun hk=>?_⟩
  rcases c3 with c3|c3
  ·exact c3
  ·exact absurd c3 hk
theorem sA {T W:List Int} {x:Sm} {m m1:Mc} {bN:List Int} (hW:W.contains x.id=true) (e:m1.trace=m.trace) (eo:m1.out=m.out) (er:m1.reads=m.reads) (hv:bN.length=x.tells) (h3:(x.kind==3)=false) (h2:(x.kind==2)=false):Mv T x m (m1.event W x.id bN):=by
 have k:=eW W m1 x.id bN
 refine⟨bN, ?_, ?_,hv, ?_⟩
 ·unfold Mc.event;rw[if_pos hW];dsimp only;rw[e]
 ·rw[h3];simp[k.2.2.2.2.2,eo]
 ·rw[h2];simp[k.2.2.2.2.1,er]
theorem PS {p:Pg} {T W:List Int} {m:Mc} {v:Sm} (hk:(v.kind==4)=true) (hW:W.contains v.id=true):z8 T v m (m.call p W v).2:=by
 have h1:=zX v.args m []
 have h2:=w7 v.args m []
 unfold Mc.call
 generalize Mc.args v.args m [] = r at *
 obtain⟨o,m1⟩:=r
 dsimp only at h1 h2
 have k4:v.kind=4:=by simpa using hk
 cases o with
 |none=>exact .inl ⟨h1.2,h1.1,h2.1⟩
 | some l=>
  dsimp only
  by_cases c:m1.st.length > 100
  ·rw[if_pos c];exact .inl ⟨h1.2,h1.1,h2.1⟩
  ·rw [if_neg c]
   have e2:=w6 p (m1.event W v.id []) (p.at v.proc) l v.id
   obtain⟨bN,g1,g2,g3,g4⟩:=sA (T:=T) (x:=v) (m:=m) (bN:= []) hW h1.2 h1.1 h2.1 (by unfold Sm.tells;rw[hk];rfl) (by rw[k4];rfl) (by rw[k4];rfl)
   exact .inr ⟨bN,e2.1.trans g1,e2.2.1.trans g2,g3,by rw[e2.2.2.1];exact g4⟩
theorem Lx {T W:List Int} {m:Mc} {v:Sm} (hk:(v.kind==9)=true) (hW:W.contains v.id=true):z8 T v m (m.fe W v).2:=by
 have hw:=gH m v.x
 have k9:v.kind=9:=by simpa using hk
 have k4:(v.kind==4)=false:=by rw[k9];rfl
 have k7:decide (v.kind≥7)=true:=by simp[k9]
 unfold Mc.fe
 rcases Bool.eq_false_or_eq_true v.has with c|c
 ·rw [if_pos c]
  dsimp only
  split
  ·exact .inr (sA hW hw.2.2.2.2.2 hw.2.2.2.2.1 hw.2.2.2.1 (by unfold Sm.tells;rw[k4,k7,c];rfl) (by rw[k9];rfl) (by rw[k9];rfl))
  ·exact .inl ⟨hw.2.2.2.2.2,hw.2.2.2.2.1,hw.2.2.2.1⟩
 ·rw [if_neg (by rw [c];exact Bool.false_ne_true)]
  exact .inr (sA hW rfl rfl rfl (by unfold Sm.tells;rw[k4,k7,c];rfl) (by rw[k9];rfl) (by rw[k9];rfl))
theorem Wa {p:Pg} {L:List Im} {T W:List Int} {m:Mc} {it:Im} (h1:it.s.one=true) (k4:(it.s.kind==4)=false) (k9:(it.s.kind==9)=false) (hW:W.contains it.s.id=true):z8 T it.s m (m.do p L T W it).2:=by
 have hw:=gH m it.s.x
 obtain⟨o1,o2,o3⟩:=aak h1
 have hh:=o3 (by simpa using k9)
 have late:(decide (it.s.kind≥7))=true→it.s.tells=0:=fun e=>by unfold Sm.tells;rw[k4,e,hh];rfl
 have aor:(decide (it.s.kind≥7))=false→it.s.tells=1:=fun e=>by unfold Sm.tells;rw[k4,e];rfl
 unfold Mc.do
 dsimp only
 by_cases c7:(it.s.kind==7)=true
 ·rw [if_pos c7]
  have e:it.s.kind=7:=by simpa using c7
  exact .inr (sA hW rfl rfl rfl (late (by simp[e])).symm (by rw[e];rfl) (by rw[e];rfl))
 rw[if_neg c7]
 by_cases c8:(it.s.kind==8)=true
 ·rw [if_pos c8]
  have e:it.s.kind=8:=by simpa using c8
  exact .inr (sA hW rfl rfl rfl (late (by simp[e])).symm (by rw[e];rfl) (by rw[e];rfl))
 rw[if_neg c8]
 by_cases yH:(it.s.kind==10)=true
 ·rw [if_pos yH]
  have e:it.s.kind=10:=by simpa using yH
  exact .inr (sA hW rfl rfl rfl (late (by simp[e])).symm (by rw[e];rfl) (by rw[e];rfl))
 rw[if_neg yH]
 have s7:decide (it.s.kind≥7)=false:=by
  simp only[beq_iff_eq]at c7 c8 yH
  simp only[beq_eq_false_iff_ne,ne_eq]at k9
  simp only[decide_eq_false_iff_not]
  omega
 have one:=aor s7
 by_cases c2:(it.s.kind==2)=true
 ·rw [if_pos c2]
  have e:it.s.kind=2:=by simpa using c2
  cases ht:T[m.reads.toNat]? with
  |none=>exact .inl ⟨rfl,rfl,rfl⟩
  |some n=>
   dsimp only
   have k:=eW W (({m with reads:=m.reads+1} : Mc).set it.s.name n) it.s.id [n]
   refine .inr ⟨[n], ?_, ?_,by rw[one];rfl, ?_⟩
   ·unfold Mc.event;rw[if_pos hW];rfl
   ·rw[k.2.2.2.2.2,e];simp[Mc.set]
   ·rw[if_pos c2];exact⟨n,ht,rfl,k.2.2.2.2.1⟩
 rw[if_neg c2]
 have c2':(it.s.kind==2)=false:=by simpa using c2
 by_cases cw:(m.bo it.s.x).1.2=true
 ·rw [if_pos cw]
  have k:=eW W (m.bo it.s.x).2 it.s.id [(m.bo it.s.x).1.1]
  have et:((m.bo it.s.x).2.event W it.s.id [(m.bo it.s.x).1.1]).trace=m.trace++ [(it.s.id,[(m.bo it.s.x).1.1])]:=by
   unfold Mc.event;rw[if_pos hW];dsimp only;rw[hw.2.2.2.2.2]
  by_cases c3:(it.s.kind==3)=true
  ·have e:it.s.kind=3:=by simpa using c3
   have n1 : ¬((it.s.kind==1)=true):=by rw[e];decide
   rw[if_neg n1,if_pos c3]
   refine .inr ⟨[(m.bo it.s.x).1.1],et, ?_,by rw[one];rfl, ?_⟩
   ·rw[if_pos c3];dsimp only;rw[k.2.2.2.2.2,hw.2.2.2.2.1]
   ·rw[if_neg c2];dsimp only;rw[k.2.2.2.2.1,hw.2.2.2.1]
  ·have key:Mv T it.s m ((m.bo it.s.x).2.event W it.s.id [(m.bo it.s.x).1.1]):=
    sA hW hw.2.2.2.2.2 hw.2.2.2.2.1 hw.2.2.2.1 (by rw[one];rfl) (by simpa using c3) c2'
   rw[if_neg c3]
   split
   ·exact .inr key
   split
   ·exact .inr key
   split
   ·exact .inr key
   ·exact .inr key
 ·rw [if_neg cw]
  exact .inl ⟨hw.2.2.2.2.2,hw.2.2.2.2.1,hw.2.2.2.1⟩
theorem KD (L:List Im) (m:Mc) (g:Int):Mu m (m.back L g).2:=by
 have h:=zZ L m g
 exact⟨h.1,h.2.1,h.2.2.1⟩
theorem z8.Yi {T:List Int} {x:Sm} {m m1 m2:Mc} (h:z8 T x m m1) (k:Mu m1 m2):z8 T x m m2:=by
 rcases h with h|⟨v,h1,h2,h3,h4⟩
 ·exact .inl ⟨k.1.trans h.1,k.2.1.trans h.2.1,k.2.2.trans h.2.2⟩
 ·exact .inr ⟨v,k.1.trans h1,k.2.1.trans h2,h3,by rw[k.2.2];exact h4⟩
theorem PU {p:Pg} {L:List Im} {T W:List Int} (hW : ∀ x∈L,W.contains x.s.id=true∧x.s.one=true) {fuel a:Int} {m:Mc} (ha:mL L a) :
 Mu m (m.next p L T W fuel a).2∨∃ x∈L,Mv T x.s m (m.next p L T W fuel a).2:=by
 unfold Mc.next
 by_cases c1:(a == -1)=true
 ·rw[if_pos c1];exact .inl (KD L m 0)
 rw[if_neg c1]
 by_cases c2:(m.steps==fuel)=true
 ·rw[if_pos c2];exact .inl ⟨rfl,rfl,rfl⟩
 rw[if_neg c2]
 have hm:=n8 ha (by simpa using c1)
 obtain⟨w1,w2⟩:=hW _ hm
 dsimp only
 have fin : ∀ {m':Mc},z8 T (fp L a).s {m with steps:=m.steps+1} m'→Mu m m'∨∃ x∈L,Mv T x.s m m':=fun {m'} h=>by
  rcases h with h|h
  ·exact .inl h
  ·exact .inr ⟨_,hm,h⟩
 by_cases c4:((fp L a).s.kind==4)=true
 ·rw[if_pos c4];exact fin (PS c4 w1)
 rw[if_neg c4]
 by_cases c9:((fp L a).s.kind==9)=true
 ·rw [if_pos c9]
  have:=Lx (T:=T) (m:= {m with steps:=m.steps+1}) c9 w1
  split
  ·exact fin (this.Yi (KD ..))
  ·exact fin this
 rw[if_neg c9]
 exact fin (Wa w2 (by simpa using c4) (by simpa using c9) w1)
def ou (f:Int→Sm) (k:Int):List (Int×List Int)→List Int
 | []=> []
 |e::l=>(if(f e.1).kind==k then e.2 else [])++ou f k l
theorem Aa (f:Int→Sm) (k:Int) : ∀ a b,ou f k (a++b)=ou f k a++ou f k b
 | [],b=>rfl
 |e::a,b=>by simp only[List.cons_append,ou,Aa f k a b,List.append_assoc]
structure ur (L:List Im) (f:Int→Sm) (T:List Int) (m:Mc):Prop where
 ev : ∀ e∈m.trace,∃ x∈L,x.s.id=e.1∧e.2.length=x.s.tells
 out:ou f 3 m.trace=m.out
 ins:ou f 2 m.trace=T.take m.reads.toNat
 reads:0≤m.reads∧m.reads≤(T.length:Int)
theorem ur.Yi {L:List Im} {f:Int→Sm} {T:List Int} {m m':Mc} (h:ur L f T m) (k:Mu m m'):ur L f T m':=by
 obtain⟨k1,k2,k3⟩:=k
 exact⟨by rw[k1];exact h.ev,by rw[k1,k2];exact h.out,by rw[k1,k3];exact h.ins,by rw[k3];exact h.reads⟩
theorem ur.tel {L:List Im} {f:Int→Sm} {T:List Int} {m m':Mc} {x:Im} (hx:x∈L) (hf:f x.s.id=x.s) (h:ur L f T m) (k:Mv T x.s m m'):ur L f T m':=by
 obtain⟨v,k1,k2,k3,k4⟩:=k
 refine⟨fun e me=>?_, ?_, ?_, ?_⟩
 ·rw [k1]at me
  rcases List.mem_append.1 me with me|me
  ·exact h.ev e me
  ·rw[List.mem_singleton.1 me];exact⟨x,hx,rfl,k3⟩
 ·rw[k1,k2,Aa,h.out];simp[ou,hf]
 ·rw [k1,Aa,h.ins]
  by_cases c:(x.s.kind==2)=true
  ·rw [if_pos c]at k4
   obtain⟨w,j1,j2,j3⟩:=k4
   have hr:=h.reads.1
   have e:m'.reads.toNat=m.reads.toNat+1:=by rw[j3];omega
   rw[e,List.take_add_one,j1,j2]
   simp[ou,hf,c]
  ·rw [if_neg c]at k4
   rw[k4]
   have c':(x.s.kind==2)=false:=by simpa using c
   simp[ou,hf,c']
 ·by_cases c:(x.s.kind==2)=true
  ·rw [if_pos c]at k4
   obtain⟨w,j1,j2,j3⟩:=k4
   have hr:=h.reads
   have:=(List.getElem?_eq_some_iff.1 j1).1
   omega
  ·rw [if_neg c]at k4
   rw[k4];exact h.reads
theorem Mw {p:Pg} {L:List Im} (hL:wZ p L) {f:Int→Sm} (hf : ∀ x∈L,f x.s.id=x.s) {T W:List Int} (hW : ∀ x∈L,W.contains x.s.id=true∧x.s.one=true) {fuel:Int} : ∀ (N:Nat) (a:Int) (m m':Mc),mL L a→n9 L m→m.fin=0→(m.trace.length:Int)=m.steps→ur L f T m→
 Mc.go p L T W fuel N a m=some m'→ur L f T m'
 | 0,_,_,_,_,_,_,_,_,h=>by simp[Mc.go]at h
 | N+1,a,m,m',ha,hs,hfi,ht,hl,h=>by
  have hn:=BR (fuel:=fuel) (tape:=T) hL (fun x mx=>(hW x mx).1) ha hs hfi ht
  have he:=PU (p:=p) (T:=T) (W:=W) (fuel:=fuel) (m:=m) hW ha
  have l9:ur L f T (m.next p L T W fuel a).2:=by
   rcases he with he|⟨x,mx,he⟩
   ·exact hl.Yi he
   ·exact hl.tel mx (hf x mx) he
  simp only[Mc.go]at h
  cases e:m.next p L T W fuel a with
  | mk o m1=>
   rw[e]at h hn l9
   cases o with
   |none=>simp only[Option.some.injEq]at h;subst h;exact l9
   |some a1=>
    obtain⟨h1,h2,h3,h4⟩:=hn
    exact Mw hL hf hW N a1 m1 m' h1 h2 h3 h4 l9 h
theorem SY {p:Pg} (hL:wZ p p.aX.L) {f:Int→Sm} (hf : ∀ x∈p.aX.L,f x.s.id=x.s) {T W:List Int} (hW : ∀ x∈p.aX.L,W.contains x.s.id=true∧x.s.one=true) {fuel:Int} {m:Mc} (h:runM p T W fuel=some m):ur p.aX.L f T m:=by
 obtain⟨h1,h2,h3,h4⟩:=DN hL
 have ho:=w6 p (jE p) (p.at iK) [] 0
 refine Mw hL hf hW _ _ _ _ h1 h2 h3 h4 ?_ h
 have h0:ur p.aX.L f T (jE p):=⟨fun e me=>by simp[jE]at me,rfl,rfl,by simp[jE]⟩
 exact h0.Yi ⟨ho.1,ho.2.1,ho.2.2.1⟩
def aww (fuel:Int) (m:Mc):Prop:=m.fin=2→m.steps=fuel
def lP (W:List Int) (l:List (Int×List Int)):List (Int×List Int):=l.filter fun e=>W.contains e.1
def gh (W:List Int) (m:Mc):Mc:= {m with trace:=lP W m.trace}
theorem nO {W V:List Int} {m:Mc} {id:Int} {bN:List Int} (hV:V.contains id=true):gh W (m.event V id bN)=(gh W m).event W id bN:=by
 unfold Mc.event
 rw[if_pos hV]
 unfold gh lP
 dsimp only
 rw[List.filter_append]
 by_cases c:W.contains id=true
 ·rw[if_pos c,List.filter_cons_of_pos (by exact c)];rfl
 ·rw[if_neg c,List.filter_cons_of_neg (by exact c)];simp
theorem B0 (W:List Int) (m:Mc) (x:Ex):(gh W m).bo x=((m.bo x).1,gh W (m.bo x).2):=by
 have e:x.bo (gh W m).top.names (gh W m).bN=x.bo m.top.names m.bN:=rfl
 unfold Mc.bo
 dsimp only
 rw[e]
 split<;>rfl
theorem DV (W:List Int) : ∀ (l:List Ar) (m:Mc) (out:List Nat),Mc.args l (gh W m) out=((Mc.args l m out).1,gh W (Mc.args l m out).2)
 | [],m,out=>rfl
 | a::l,m,out=>by
  simp only[Mc.args,B0]
  split
  ·exact DV W l m _
  ·split
   ·exact DV W l {(m.bo a.x).2 with mem:=(m.bo a.x).2.mem++ [(m.bo a.x).1.1]} _
   ·rfl
theorem KE (W:List Int) (p:Pg) (m:Mc) (i:Int) (l:List Nat) (c:Int):(gh W m).open p i l c=((m.open p i l c).1,gh W (m.open p i l c).2):=by
 unfold Mc.open
 split<;>rfl
theorem SZ (W:List Int) (L:List Im) (m:Mc) (g:Int):(gh W m).close L g=((m.close L g).1,gh W (m.close L g).2):=by
 have e:(gh W m).top=m.top:=rfl
 unfold Mc.close
 dsimp only
 rw[e]
 split
 ·rfl
 ·split<;>rfl
theorem S1 {W V:List Int} (m:Mc) {s:Sm} (hV:V.contains s.id=true):(gh W m).fe W s=((m.fe V s).1,gh W (m.fe V s).2):=by
 unfold Mc.fe
 simp only[B0]
 split
 ·split
  ·simp only[nO hV]
  ·rfl
 ·simp only[nO hV]
theorem Wb {W V:List Int} (p:Pg) (m:Mc) {s:Sm} (hV:V.contains s.id=true):(gh W m).call p W s=((m.call p V s).1,gh W (m.call p V s).2):=by
 unfold Mc.call
 rw[DV]
 generalize Mc.args s.args m [] = r
 obtain⟨o,m1⟩:=r
 cases o with
 |none=>rfl
 |some l=>
  have e:(gh W m1).st=m1.st:=rfl
  dsimp only
  rw[e]
  by_cases c:m1.st.length > 100
  ·rw[if_pos c,if_pos c];rfl
  ·rw[if_neg c,if_neg c, ← nO hV,KE]
theorem aep {W V:List Int} (p:Pg) (L:List Im) (T:List Int) (m:Mc) {it:Im} (hV:V.contains it.s.id=true):(gh W m).do p L T W it=((m.do p L T V it).1,gh W (m.do p L T V it).2):=by
 have er:(gh W m).reads=m.reads:=rfl
 have hw:=B0 W m it.s.x
 unfold Mc.do
 dsimp only
 rw[er,hw]
 generalize m.bo it.s.x=r
 by_cases c7:(it.s.kind==7)=true
 ·rw[if_pos c7,if_pos c7,nO hV]
 rw[if_neg c7,if_neg c7]
 by_cases c8:(it.s.kind==8)=true
 ·rw[if_pos c8,if_pos c8,nO hV]
 rw[if_neg c8,if_neg c8]
 by_cases yH:(it.s.kind==10)=true
 ·rw[if_pos yH,if_pos yH,nO hV]
 rw[if_neg yH,if_neg yH]
 by_cases c2:(it.s.kind==2)=true
 ·rw [if_pos c2,if_pos c2]
  cases T[m.reads.toNat]? with
  |none=>rfl
  |some n=>dsimp only;rw[nO hV];rfl
 rw[if_neg c2,if_neg c2]
 dsimp only
 rw[← nO hV]
 by_cases cw:r.1.2=true
 ·rw [if_pos cw,if_pos cw]
  by_cases d1:(it.s.kind==1)=true
  ·rw[if_pos d1,if_pos d1];rfl
  rw[if_neg d1,if_neg d1]
  by_cases d1:(it.s.kind==3)=true
  ·rw[if_pos d1,if_pos d1];rfl
  rw[if_neg d1,if_neg d1]
  by_cases d1:(it.s.kind==5)=true
  ·rw[if_pos d1,if_pos d1]
  rw[if_neg d1,if_neg d1]
  by_cases d1:(it.s.kind==6)=true
  ·rw[if_pos d1,if_pos d1]
  rw[if_neg d1,if_neg d1]
 ·rw[if_neg cw,if_neg cw]
theorem Wc {p:Pg} {L:List Im} {T W V:List Int} (hV : ∀ x∈L,V.contains x.s.id=true) {fuel a:Int} (m:Mc) (ha:mL L a) :
 (gh W m).next p L T W fuel a=((m.next p L T V fuel a).1,gh W (m.next p L T V fuel a).2):=by
 have back : ∀ (m:Mc) (g:Int),(gh W m).back L g=((m.back L g).1,gh W (m.back L g).2):=fun m g=>by
  unfold Mc.back
  simp only[SZ]
  rfl
 have es:(gh W m).steps=m.steps:=rfl
 unfold Mc.next
 rw[es]
 by_cases c1:(a == -1)=true
 ·rw[if_pos c1,if_pos c1];exact back m 0
 rw[if_neg c1,if_neg c1]
 by_cases c2:(m.steps==fuel)=true
 ·rw[if_pos c2,if_pos c2];rfl
 rw[if_neg c2,if_neg c2]
 have hm:=hV _ (n8 ha (by simpa using c1))
 have e1:({gh W m with steps:=m.steps+1} : Mc)=gh W {m with steps:=m.steps+1}:=rfl
 dsimp only
 rw[e1]
 by_cases c4:((fp L a).s.kind==4)=true
 ·rw[if_pos c4,if_pos c4,Wb p _ hm];rfl
 rw[if_neg c4,if_neg c4]
 by_cases c9:((fp L a).s.kind==9)=true
 ·rw [if_pos c9,if_pos c9,S1 _ hm]
  have ef : ∀ m:Mc,(gh W m).fin=m.fin:=fun _=>rfl
  dsimp only
  rw[ef]
  split
  ·exact back _ _
  ·rfl
 rw[if_neg c9,if_neg c9,aep p L T _ hm];rfl
theorem S2 {p:Pg} {L:List Im} (hL:wZ p L) {T W V:List Int} (hV : ∀ x∈L,V.contains x.s.id=true) {fuel:Int} : ∀ (N:Nat) (a:Int) (m m':Mc),mL L a→n9 L m→m.fin=0→(m.trace.length:Int)=m.steps→
 Mc.go p L T V fuel N a m=some m'→Mc.go p L T W fuel N a (gh W m)=some (gh W m')
 | 0,_,_,_,_,_,_,_,h=>by simp[Mc.go]at h
 | N+1,a,m,m',ha,hs,hfi,ht,h=>by
  have hn:=BR (fuel:=fuel) (tape:=T) hL hV ha hs hfi ht
  simp only[Mc.go]at h ⊢
  rw[Wc hV m ha]
  cases e:m.next p L T V fuel a with
  | mk o m1=>
   rw[e]at h hn
   cases o with
   |none=>simp only[Option.some.injEq]at h;subst h;rfl
   |some a1=>
    obtain⟨h1,h2,h3,h4⟩:=hn
    exact S2 hL hV N a1 m1 m' h1 h2 h3 h4 h
theorem PW {p:Pg} (hL:wZ p p.aX.L) {T V:List Int} (W:List Int) (hV : ∀ x∈p.aX.L,V.contains x.s.id=true) {fuel:Int} {m:Mc} (h:runM p T V fuel=some m):runM p T W fuel=some (gh W m):=by
 obtain⟨h1,h2,h3,h4⟩:=DN hL
 have:=S2 (W:=W) hL hV _ _ _ _ h1 h2 h3 h4 h
 unfold runM
 dsimp only
 have e:gh W (jE p)=jE p:=rfl
 have e2:=KE W p (jE p) (p.at iK) [] 0
 rw[e]at e2
 rw[e2]
 exact this
theorem KF : ∀ l:List It,oK 0 l=l.map fun i=>i.s.id
 | []=>rfl
 |i::l=>by simp only[oK,List.map_cons,KF l];rfl
theorem DW {p:Pg} (hb:p.may=true) : ∀ x∈p.aX.L,(oK 0 p.all).contains x.s.id=true∧x.s.one=true:=fun x mx=>by
 have h1:x.s∈p.pre:=by rw[← (lg p).1];exact List.mem_map_of_mem mx
 refine⟨?_,Mg hb _ h1⟩
 rw[KF,List.contains_iff_mem]
 have e:p.all.map (fun i=>i.s.id)=(p.all.map It.s).map fun s=>s.id:=by rw[List.map_map];rfl
 rw[e,(zz hb).2]
 exact List.mem_map_of_mem h1
theorem S3 {p:Pg} (hb:p.may=true) {v:Sm} (hv:v∈p.pre):p.Cp v.id=v:=by
 obtain⟨h1,h2⟩:=VJ hb ⟨v,hv,rfl⟩
 obtain⟨i,hi⟩:=List.getElem?_of_mem hv
 obtain⟨j,hj⟩:=List.getElem?_of_mem h1
 have e1:=BE hb hi
 have e2:=BE hb hj
 have:i=j:=by omega
 subst this
 rw[hi]at hj
 exact(Option.some.inj hj).symm
theorem PX {p:Pg} {T W:List Int} {fuel:Int} {m:Mc} (h0:0≤fuel) (h:runM p T W fuel=some m):m.steps≤fuel:=by
 have h1:=yE p (jE p) (p.at iK) [] 0
 have e2:(jE p).steps=0:=rfl
 exact J8 p _ T W _ _ _ m (by rw[h1.2,e2];exact h0) h
theorem Fk {f:Int→Sm} {k:Int} : ∀ {l:List (Int×List Int)},(∀ e∈l,e.2.length≤1)→(ou f k l).length≤l.length
 | [],_=>Nat.le_refl _
 |e::l,h=>by
  have h1:=Fk (f:=f) (k:=k) fun e m=>h e (List.mem_cons_of_mem _ m)
  have h2:=h e (List.mem_cons_self ..)
  simp only[ou,List.length_append,List.length_cons]
  split<;>simp<;>omega
theorem Wd (s:Sm):s.tells≤1:=by unfold Sm.tells;split<;>omega
structure Run (p:Pg) (T:List Int) (fuel:Int) (m:Mc):Prop where
 run:runM p T (oK 0 p.all) fuel=some m
 of:ofM p T (oK 0 p.all) fuel=(m,0)
 whole:p.whole T fuel=m
 awx:ur p.aX.L p.Cp T m
 told:VH m
 steps:m.steps≤fuel
 len:m.SW
 small:m.trace.length≤fuel.toNat∧m.out.length≤fuel.toNat∧∀ e∈m.trace,e.2.length≤1
theorem aer {p:Pg} (hc:(p.check.1==0)=true) {T:List Int} {fuel:Int} (h0:0≤fuel) (h1:fuel≤1000000) : ∃ m,Run p T fuel m:=by
 have hR:=zO hc
 have hb:=hR.may
 obtain⟨m,hm⟩:=Hh p T (oK 0 p.all) h0
 have wS:ofM p T (oK 0 p.all) fuel=(m,0):=by
  unfold ofM
  rw[if_neg,hm];rfl
  simp[hc];omega
 have hl:=Ho hR
 have hlg:=SY (f:=p.Cp) hl (fun x mx=>S3 hb (by rw[← (lg p).1];exact List.mem_map_of_mem mx)) (DW hb) hm
 have ht:=Sq hl (fun x mx=>(DW hb x mx).1) hm
 have hs:=PX h0 hm
 have hv : ∀ e∈m.trace,e.2.length≤1:=fun e me=>by
  obtain⟨x,_,_,h⟩:=hlg.ev e me
  rw[h];exact Wd _
 have uw:m.trace.length≤fuel.toNat:=by rcases ht with ⟨_,h⟩|⟨_,h⟩<;>omega
 have iZ:m.out.length≤fuel.toNat:=by rw[← hlg.out];exact Nat.le_trans (Fk hv) uw
 exact⟨m,hm,wS,by unfold Pg.whole;rw[wS],hlg,ht,hs,⟨by omega,by omega,fun e me=>by have:=hv e me;omega⟩,uw,iZ,hv⟩
theorem Run.watch {p:Pg} (hc:(p.check.1==0)=true) {T:List Int} {fuel:Int} (h0:0≤fuel) (h1:fuel≤1000000) {m:Mc} (h:Run p T fuel m) (W:List Int):ofM p T W fuel=(gh W m,0):=by
 have hR:=zO hc
 have:=PW (Ho hR) W (fun x mx=>(DW hR.may x mx).1) h.run
 unfold ofM
 rw[if_neg,this];rfl
 simp[hc];omega
theorem Mc.SW.cut {m:Mc} (h:m.SW) (W:List Int):(gh W m).SW:=by
 have hl:(lP W m.trace).length≤m.trace.length:=List.length_filter_le ..
 exact⟨h.out,Nat.lt_of_le_of_lt hl h.trace,fun e me=>h.bN e (List.mem_filter.1 me).1⟩
theorem PY (m:Mc):z7 m m=true:=by
 unfold z7
 simp
structure awy (fuel:Int) (r s:Mc):Prop where
 steps:r.steps=fuel
 trace:(r.trace.length:Int)=fuel
 more:r.steps≤s.steps
 reads:r.reads≤s.reads
 out:(decide ((r.out.length:Int)≤(s.out.length:Int)) && r.out==s.out.take r.out.length)=true
 told:fuel≤(s.trace.length:Int)∧s.trace.take fuel.toNat=r.trace
set_option maxRecDepth 8000
open Go.Proofs
theorem Wf {p:Pg} {T:List Int} {fuel:Int} (h:(p.check.1==0 && (decide (0≤fuel) && (decide (fuel≤400) && decide ((T.length:Int)≤100))))=true):(p.check.1==0)=true∧0≤fuel∧fuel≤400∧T.length≤100:=by
 simp only[Bool.and_eq_true,decide_eq_true_eq]at h
 exact⟨h.1,h.2.1,h.2.2.1,by omega⟩
theorem S4 (W:List Int) (e:Int×List Int) (l:List (Int×List Int)):lP W (e::l)=if W.contains e.1 then e::lP W l else lP W l:=by
 unfold lP
 rw[List.filter_cons]
theorem Wg (W:List Int) (l:List (Int×List Int)):(lP W l).length≤l.length:=List.length_filter_le ..
theorem S5 {l:List (Int×List Int)} (hl:l.length≤1000000) {W:List Int} (hW:W.length<1000000000) (s:St):aF Tryz.prog zc [.slice .shared 2 (l.map fj), .slice .shared 1 (W.map bP)] s (.slice .shared 2 ((lP W l).map fj)) s:=by
 refine aF.pure ?_ (by simp[D.bK,D.ok,Tag.ok,iz,Ic]) (by simp only[D.ok,Tag.ok,Ic];rfl) s
 obtain⟨R,hR⟩ : ∃ R,lP W l=R:=⟨_,rfl⟩
 rw[hR]
 have X3:R.length≤1000000:=by rw[← hR];exact Nat.le_trans (Wg W l) hl
 unfold S0
 refine aF.go Jx rfl fun B Q hB hQ=>?_
 have⟨hD,hY,hZ,gA⟩:=bR
 repeat' (first
 |simp only[go_sem,hD,hY,hZ,gA]
 |(with_reducible first|refine bl fun hc=>?_|refine bm fun hc=>?_|refine bn (fun hc=>?_) fun hc=>?_)<;>(try simp only[hc,bs,↓reduceIte]at h)<;>try simp only[hc]
 |(with_reducible refine aE hQ ?_;exact fO)
 |(cases h;done))
 refine bp.q6 5 2 rfl ?_
 simp only[go_sem,hD,hY,hZ,gA]
 refine ff 0 1 (bp.ind (ι:=List (Int×List Int)×Nat×List (Int×List Int)×Nat) (fun i=>l.drop i.2.1=i.1∧i.2.2.1++lP W i.1=R∧i.2.2.2=i.2.2.1.length) (fun i=>i.1.length)
  (fun i=> [(1, .slice .shared 1 (W.map bP)),(5, .slice (.tok 0) 2 (i.2.2.1.map fj)),(10, .slice .shared 2 (l.map fj)),(11, .int .i64 (l.length:Int)),(12, .int .i64 (i.2.1:Int))]) (fun i=>⟨[],[some i.2.2.2]⟩) ?_ (l,0,[],0) ⟨rfl,hR,rfl⟩)
 clear hR
 rintro⟨rest,k,out,n'⟩ ⟨h1,h2,h3⟩ IH
 dsimp only at h1 h2 h3
 subst h3
 have iZ:out.length≤1000000:=by have:=congrArg List.length h2;rw[List.length_append]at this;omega
 cases rest with
 |nil=>
  have hD:=drop_nil h1
  simp only[lP,List.filter_nil,List.append_nil]at h2
  subst h2
  repeat' (first
 |simp only[go_sem,hD,hY,hZ,gA]
 |(with_reducible first|refine bl fun hc=>?_|refine bm fun hc=>?_|refine bn (fun hc=>?_) fun hc=>?_)<;>(try simp only[hc,bs,↓reduceIte]at h)<;>try simp only[hc]
 |(with_reducible refine aE hQ ?_;exact fO)
 |(cases h;done))
 |cons a rest=>
  obtain⟨hY,g2,hD,g4⟩:=drop_cons h1
  have bO:k<4611686018427387904:=by omega
  have hZ:(out.length+1)*33≤bC:=by unfold bC;omega
  rw[S4]at h2
  obtain⟨a1,a2⟩:=a
  dsimp only at h2
  repeat' (first
 |simp only[go_sem,hD,hY,hZ,gA,fj]
 |(with_reducible first|refine bl fun hc=>?_|refine bm fun hc=>?_|refine bn (fun hc=>?_) fun hc=>?_)<;>(try simp only[hc,bs,↓reduceIte]at h)<;>try simp only[hc]
 |(with_reducible refine aE hQ ?_;(try cases h);simp only[aS,aV,bF,bG,go_sem,hD,hY,hZ,gA,fj];try exact cq)
 | (cases h;done))
  refine eQ 1 1 ?_ ?_ (bp.ind (ι:=List Int×Nat) (fun i=>W.drop i.2=i.1∧out++(if i.1.contains a1 then(a1,a2)::lP W rest else lP W rest)=R) (fun i=>i.1.length)
   (fun i=> [(1, .slice .shared 1 (W.map bP)),(5, .slice (.tok 0) 2 (out.map fj)),(7, .ptr 0 0),(10, .slice .shared 2 (l.map fj)),(11, .int .i64 (l.length:Int)),(12, .int .i64 (k:Int)),(16, .slice .shared 1 (W.map bP)),(17, .int .i64 (W.length:Int)),(18, .int .i64 (i.2:Int))]) (fun i=>⟨[[.int .i64 a1, .slice .shared 1 (a2.map bP)]],[some out.length]⟩) ?_ (W,0) ⟨rfl,h2⟩)
  ·(simp only[go_sem,hD,hY,hZ,gA,fj];try exact bX)
  ·(simp only[go_sem,hD,hY,hZ,gA,fj];try exact bX)
  clear h2
  rintro⟨w,q⟩ ⟨w1,h2⟩ By
  dsimp only at w1 h2
  cases w with
  |nil=>
   have hD:=drop_nil w1
   simp only[List.contains_nil,Bool.false_eq_true,if_false]at h2
   repeat' (first
 |simp only[go_sem,hD,hY,hZ,gA]
 |(with_reducible first|refine bl fun hc=>?_|refine bm fun hc=>?_|refine bn (fun hc=>?_) fun hc=>?_)<;>(try simp only[hc,bs,↓reduceIte]at h)<;>try simp only[hc]
 |(with_reducible refine aE hQ ?_;exact fO)
 | (cases h;done))
   refine eQ 0 1 ?_ ?_ (IH (rest,k+1,out,_) ⟨g2,h2,rfl⟩ (Nat.lt_succ_self _))
   ·(simp only[go_sem,hD,hY,hZ,gA,aI bO];try exact bX)
   ·(simp only[go_sem,hD,hY,hZ,gA,aI bO];try exact bX)
  | cons b w=>
   obtain⟨Ie,u2,Pl,u4⟩:=drop_cons w1
   have wu:q<4611686018427387904:=by omega
   rw[List.contains_cons]at h2
   rcases Bool.eq_false_or_eq_true (a1==b)with c|c
   ·simp only [c,Bool.true_or,if_true]at h2
    repeat' (first
 |simp only[go_sem,hD,hY,hZ,gA,c,Ie]
 |(with_reducible first|refine bl fun hc=>?_|refine bm fun hc=>?_|refine bn (fun hc=>?_) fun hc=>?_)<;>(try simp only[hc,bs,↓reduceIte]at h)<;>try simp only[hc]
 |(with_reducible refine aE hQ ?_;(try cases h);simp only[aS,aV,bF,bG,go_sem,hD,hY,hZ,gA,c,Ie];try exact cq)
 | (cases h;done))
    refine eQ 0 1 ?_ ?_ (IH (rest,k+1,out++ [(a1,a2)],out.length+1) ⟨g2,by rw[← h2];simp,by simp⟩ (Nat.lt_succ_self _))
    ·(simp only[go_sem,hD,hY,hZ,gA,aI bO,List.map_append,List.map_cons,List.map_nil,fj];try exact bX)
    ·(simp only[go_sem,hD,hY,hZ,gA,aI bO,List.map_append,List.map_cons,List.map_nil,fj];try exact bX)
   ·simp only [c,Bool.false_or]at h2
    repeat' (first
 |simp only[go_sem,hD,hY,hZ,gA,c,Ie]
 |(with_reducible first|refine bl fun hc=>?_|refine bm fun hc=>?_|refine bn (fun hc=>?_) fun hc=>?_)<;>(try simp only[hc,bs,↓reduceIte]at h)<;>try simp only[hc]
 |(with_reducible refine aE hQ ?_;(try cases h);simp only[aS,aV,bF,bG,go_sem,hD,hY,hZ,gA,c,Ie];try exact cq)
 | (cases h;done))
    refine eQ 1 1 ?_ ?_ (By (w,q+1) ⟨u2,h2⟩ (Nat.lt_succ_self _))
    ·(simp only[go_sem,hD,hY,hZ,gA,aI wu];try exact bX)
    ·(simp only[go_sem,hD,hY,hZ,gA,aI wu];try exact bX)
theorem KH (p:Pg) (T:List Int) (fuel:Int) (W:List Int) (s:St):aF Tryz.prog vu [.agg (cz p), .slice .shared 1 (T.map bP), .int .i64 fuel, .slice .shared 1 (W.map bP)] s (.bool true) s:=by
 refine aF.pure ?_ (by simp[D.bK,D.ok,Tag.ok,jw,iz]) rfl s
 have h1:=fun s=>ahR s
 have h2:=fun s=>adO p s
 unfold S0
 rcases Bool.eq_false_or_eq_true (decide (p.Cq≤20000))with hw|hw
 case inr=>
  simp only[hw]at h2
  refine aF.go mw rfl fun B Q hB hQ=>?_
  have⟨hD,hY,hZ,gA⟩:=bR
  repeat' (first
 |simp only[go_sem,hD,hY,hZ,gA]
 |(with_reducible refine CU (h1 _) ?_)
 |(with_reducible refine CU (h2 _) ?_)
 |(with_reducible first|refine bl fun hc=>?_|refine bm fun hc=>?_|refine bn (fun hc=>?_) fun hc=>?_)<;>(try simp only[hc,bs,↓reduceIte]at h)<;>try simp only[hc]
 |(with_reducible refine aE hQ ?_;exact fO)
 |(cases h;done))
 simp only[hw]at h2
 obtain⟨dO,ahS⟩:=Pw (of_decide_eq_true hw)
 have ho:p.iP:=⟨ahS,by omega⟩
 have h3:=fun s=>aaj ho T fuel s
 rcases Bool.eq_false_or_eq_true (p.check.1==0 && (decide (0≤fuel) && (decide (fuel≤400) && decide ((T.length:Int)≤100))))with b1|b1
 case inr=>
  rw[b1]at h3
  refine aF.go mw rfl fun B Q hB hQ=>?_
  have⟨hD,hY,hZ,gA⟩:=bR
  repeat' (first
 |simp only[go_sem,hD,hY,hZ,gA]
 |(with_reducible refine CU (h1 _) ?_)
 |(with_reducible refine CU (h2 _) ?_)
 |(with_reducible refine CU (h3 _) ?_)
 |(with_reducible first|refine bl fun hc=>?_|refine bm fun hc=>?_|refine bn (fun hc=>?_) fun hc=>?_)<;>(try simp only[hc,bs,↓reduceIte]at h)<;>try simp only[hc]
 |(with_reducible refine aE hQ ?_;exact fO)
 |(cases h;done))
 rw[b1]at h3
 obtain⟨hc,f0,f1,hT1⟩:=Wf b1
 rcases Bool.eq_false_or_eq_true (decide ((W.length:Int) > 100))with b2|b2
 ·refine aF.go mw rfl fun B Q hB hQ=> ?_
  have⟨hD,hY,hZ,gA⟩:=bR
  repeat' (first
 |simp only[go_sem,hD,hY,hZ,gA,b2]
 |(with_reducible refine CU (h1 _) ?_)
 |(with_reducible refine CU (h2 _) ?_)
 |(with_reducible refine CU (h3 _) ?_)
 |(with_reducible first|refine bl fun hc=>?_|refine bm fun hc=>?_|refine bn (fun hc=>?_) fun hc=>?_)<;>(try simp only[hc,bs,↓reduceIte]at h)<;>try simp only[hc]
 |(with_reducible refine aE hQ ?_;(try cases h);simp only[aS,aV,bF,bG,go_sem,hD,hY,hZ,gA,b2];try exact cq)
 |(cases h;done))
 have hW1:W.length≤100:=by simp only[decide_eq_false_iff_not]at b2;omega
 obtain⟨m,hm⟩:=aer (T:=T) hc f0 (by omega)
 have wT:p.all.length≤1000:=by have:=(Cl (zO hc).may).1;omega
 have h4:=fun s=>V6 (T:=T) (W:=W) ho (by omega) (by omega) fuel s
 rw[hm.watch hc f0 (by omega) W]at h4
 have h5:=fun s=>PR ho wT (T:=T) (by omega) fuel s
 rw[hm.whole]at h5
 have h6:=fun s=>aaf (b:=m) (hm.len.cut W) s
 have e6:z7 (gh W m) m=true:=PY m
 rw[e6]at h6
 have h7:=fun s=>S5 (l:=m.trace) (by have:=hm.small.1;omega) (W:=W) (by omega) s
 have h8:=fun s=>SV (a:=(gh W m).trace) (b:=lP W m.trace) (hm.len.cut W).trace (hm.len.cut W).bN s
 have e8:((gh W m).trace==lP W m.trace)=true:=by show(lP W m.trace==lP W m.trace)=true;simp
 rw[e8]at h8
 generalize gh W m=r at *
 refine aF.go mw rfl fun B Q hB hQ=>?_
 have⟨hD,hY,hZ,gA⟩:=bR
 repeat' (first
 |simp only[go_sem,hD,hY,hZ,gA,b2]
 |(with_reducible refine CU (h1 _) ?_)
 |(with_reducible refine CU (h2 _) ?_)
 |(with_reducible refine CU (h3 _) ?_)
 |(with_reducible refine CU (h4 _) ?_)
 |(with_reducible refine CU (h5 _) ?_)
 |(with_reducible refine CU (h6 _) ?_)
 |(with_reducible refine CU (h7 _) ?_)
 |(with_reducible refine CU (h8 _) ?_)
 |(with_reducible first|refine bl fun hc=>?_|refine bm fun hc=>?_|refine bn (fun hc=>?_) fun hc=>?_)<;>(try simp only[hc,bs,↓reduceIte]at h)<;>try simp only[hc]
 |(with_reducible refine aE hQ ?_;(try cases h);simp only[aS,aV,bF,bG,go_sem,hD,hY,hZ,gA,b2];try exact cq)
 |(cases h;done))
def M0:Map:=⟨fun _ _=>none,fun _=>(0, .any),fun _=>none⟩
def Kept (w w':World):Prop:=w.keptBut w' (fun _=>False)∧∀ a:Addr,a.block<w.heap.size→w'.frozen? a=w.frozen? a
theorem Kept.frame {w w':World} (h:Kept w w') (may:MemPlace→Prop):w.keptBut w' may:=World.keptBut_mono (fun _ f=>f.elim) h.1
theorem Ext.aet {M M':Map} {s':St} {w w':World} (e:Ext M S0 w M' s' w'):Kept w w':=by
 have hh : ∀ b,b<w.heap.size→w'.heap[b]? = w.heap[b]? :=fun b hb=>
  e.kept b hb (fun o ho=>by simp[S0]at ho) (fun t c z hl=>by obtain⟨n,hn⟩:=hl;simp[S0]at hn)
 refine⟨⟨e.os,e.output,fun i hi=>?_⟩,fun a ha=>?_⟩
 ·rw [hh i hi]
  exact(World.keptBut_refl w (fun _=>False)).2.2 i hi
 ·simp only[World.frozen?,hh _ ha]
theorem aos (G:Nat→Nat→Option Value) (w:World) (h : ∀ b o v,G b o=some v→w.cell? ⟨b,o,none⟩=some v∧v.oneCell'=true):Rel ⟨G,fun _=>(0, .any),fun _=>none⟩ S0 w:=
 ⟨h,fun o ds e=>by simp [S0]at e,fun o ho=>by simp [S0]at ho,fun o o' ho=>by simp [S0]at ho,fun t n e=>by simp [S0]at e,
  fun t b c z o hl=>by obtain⟨n,hn⟩:=hl;simp[S0]at hn,fun t t' b c z c' z' hl=>by obtain⟨n,hn⟩:=hl;simp[S0]at hn⟩
def PZ (w:World):Prop:=∀ g cs,aaD g=some cs→∃ T fr,w.heap[g]? = some (.cells cs T fr)
theorem ahT (G:Nat→Nat→Option Value) {w:World} (h:PZ w):Laid ⟨G,fun _=>(0, .any),fun _=>none⟩ S0 w:=
 fun g cs hg=>⟨h g cs hg,fun o ho=>by simp[S0]at ho,fun t c z hl=>by obtain⟨n,hn⟩:=hl;simp[S0]at hn⟩
theorem S6 {P:Program} {f:FuncId} {args:List D} {fJ:Array Value} {w:World} {G:Nat→Nat→Option Value} (h:bM P f args S0 fun d _=>d = .bool true)
 (hG : ∀ b o v,G b o=some v→w.cell? ⟨b,o,none⟩=some v∧v.oneCell'=true) (hl:fJ.size=args.length)
 (ha : ∀ (i:Nat) (d:D) (v:Value),args[i]? = some d→fJ[i]? = some v→RD ⟨G,fun _=>(0, .any),fun _=>none⟩ S0 d v) (ky:PZ w) :
 Calls P f fJ w fun e w'=>e = .returned (.bool true)∧Kept w w':=by
 refine(h _ w fJ (aos G w hG) (ahT G ky) hl ha).mono fun e w' hw=>?_
 obtain⟨M',d,v,s',rfl,rfl,he,_,hv⟩:=hw
 rw[hv.nS]
 exact⟨rfl,he.aet⟩
section
variable {P:Program} {H:Type} {enc:TypeId×Value→H}
theorem KI {f:Func} {s:ChangeSpec} {apart fresh handsOn again:Bool} {W W':World} {args:Array Value} {v:Value} {ds gs:List (DataW H)} {before pa pv:List MemPlace}
 (hW:DataW.Whole enc P f.params.toList s.vars apart W args.toList ds gs before)
 (aeu : ∀ (b:Nat) (sp:Nat→Bool) (hd:Bool),DataW.TrodAll enc P W' b sp hd f.resultTypes.toList (v.resultList f.resultTypes.size) (s.fn H (ds++gs)).results [])
 (za : ∀ sp:Nat→Bool,(∀ p∈before,sp p.block=true)→DataW.TrodAll enc P W' 0 sp true f.params.toList args.toList (s.fn H (ds++gs)).args pa)
 (zV : ∀ sp:Nat→Bool,(∀ p∈before,sp p.block=true)→DataW.TrodVars enc P W' sp s.vars (s.fn H (ds++gs)).vars pv)
 (rH:before=pa++pv) (hk:Kept W W')
 (pK : ∀ (j:Nat) (t:TypeId) (r:Value),f.resultTypes[j]? = some t→(v.resultList f.resultTypes.size)[j]? = some r→Value.okWide P W' .any 0 t r) :
 s.post enc P f apart fresh handsOn again W args v W':=by
 have hD : ∀ p∈before,p.block<W.heap.size:=fun p hp=>hW.lt p hp
 have hold : ∀ p∈before,(fun b=>decide (b<W.heap.size)) p.block=true:=fun p hp=>by simpa using hD p hp
 refine⟨ds,gs,before,[],pa,pv,hW,aeu _ _ _,za _ hold,zV _ hold,World.keptBut_mono (fun p hp=>⟨hp, ?_⟩) (hk.frame (· ∈before)),fun _=>?_⟩
 ·rw [rH,List.mem_append]at hp
  exact Or.inr hp
 ·obtain⟨_,_,_,_,_,hz,hn⟩:=hW
  refine⟨pK,_,_,([]++pa)++pv,⟨[]++pa,pv,ChangeShapes.trodAll_append (za _ (fun _ _=>rfl)) (aeu _ _ _),zV _ (fun _ _=>rfl),rfl, ?_, ?_⟩, ?_⟩
  ·intro b off hp
   have mV:MemPlace.cell b off∈before:=by rw[rH];simpa using hp
   rw[hk.2 _ (hD _ mV)]
   exact hz b off mV
  ·intro ha
   have:=hn ha
   rw[rH]at this
   simpa using this
  ·intro p hp _
   rw[rH]
   simpa using hp
end
end Go.Abs
namespace Go.Abs
open Go.RowKit Go.ChangeShapes Go.WideShapes
def B1 (w:World) (b o:Nat):Option Value:=
 match w.cell? ⟨b,o,none⟩with
 |some v=>if v.oneCell'=true then some v else none
 |none=>none
theorem Mx {w:World} (b o:Nat) (v:Value) (h:B1 w b o=some v):w.cell? ⟨b,o,none⟩=some v∧v.oneCell'=true:=by
 unfold B1 at h
 split at h
 ·split at h
  ·cases h;exact⟨‹_›, ‹_›⟩
  ·cases h
 ·cases h
def qB (w:World):Map:=⟨B1 w,fun _=>(0, .any),fun _=>none⟩
theorem Kept.sameAt {w w':World} (h:Kept w w') {p:MemPlace} (hp:p.block<w.heap.size):w.sameAt w' p:=by
 have hk:=h.1.2.2 p.block hp
 cases p with
 | cell b off=>
  simp only[MemPlace.block]at hk hp
  simp only[World.sameAt,World.cell?]
  split at hk
  ·rename_i c t fr c' t' Mn e e'
   rw[e,e']
   simp only[hk.2.2.2 off (fun f=>f)]
  ·rename_i es clock A9 aev e e'
   rw[e,e']
  ·rw[hk]
 | map b=>
  simp only[MemPlace.block]at hk hp
  simp only[World.sameAt]
  split at hk
  ·rename_i c t fr c' t' Mn e e'
   rw[e,e']
   obtain⟨rfl,rfl,hs,hc⟩:=hk
   have:c'=c:=by
    apply Array.ext_getElem?
    intro i
    exact hc i (fun f=>f)
   rw[this]
  ·rename_i es clock A9 aev e e'
   rcases hk with f|⟨rfl,rfl⟩
   ·exact f.elim
   ·rw[e,e']
  ·exact hk
section
variable {P:Program} {H:Type} {enc:TypeId×Value→H} {T:TypeId→Prop}
theorem Fl (K:Kids P T) (hz : ∀ {t e:TypeId},T t→P.underlying t=some (.slice e)→0<P.cellsOf e) {W W':World} (hk:Kept W W') {sp:Nat→Bool} :
 ∀ {ts:List TypeId} {vs:List Value} {ds:List (DataW H)} {ps:List MemPlace},(∀ t∈ts,T t)→(∀ p∈ps,p.block<W.heap.size)→(∀ p∈ps,sp p.block=true)→
  DataW.TrodAll enc P W 0 (fun _=>true) true ts vs ds ps→DataW.TrodAll enc P W' 0 sp true ts vs ds ps
 | [],[],[],_,_,_,_,h=>h
 |t::ts,v::vs,d::ds,ps,hT,hD,hs,⟨p,q,⟨n,h1⟩,h2,e⟩=>by
  subst e
  refine⟨p,q,⟨n,DataW.trod_stays K hz (fun f=>by cases f) (hT t (List.mem_cons_self ..)) h1 (fun x hx=>hk.sameAt (hD x (List.mem_append_left _ hx))) (fun x hx=>hs x (List.mem_append_left _ hx))⟩, ?_,rfl⟩
  exact Fl K hz hk (fun t ht=>hT t (List.mem_cons_of_mem _ ht)) (fun x hx=>hD x (List.mem_append_right _ hx)) (fun x hx=>hs x (List.mem_append_right _ hx)) h2
 | [],[],_::_,_,_,_,_,h=>h.elim
 | [],_::_,_,_,_,_,_,h=>h.elim
 |_::_,[],_,_,_,_,_,h=>h.elim
 |_::_,_::_,[],_,_,_,_,h=>h.elim
theorem Wh (K:Kids P T) (hz : ∀ {t e:TypeId},T t→P.underlying t=some (.slice e)→0<P.cellsOf e) {f:Func} {s:ChangeSpec} {apart fresh handsOn again:Bool} {tb:TypeId} {W W':World} {args:Array Value} {ds gs:List (DataW H)} {before:List MemPlace}
 (hT : ∀ t∈f.params.toList,T t) (hb:P.underlying tb=some .bool) (hr:f.resultTypes = #[tb]) (zV:s.vars = []) (hW:DataW.Whole enc P f.params.toList s.vars apart W args.toList ds gs before)
 (Au:s.fn H (ds++gs) = {results:= [.lit (.bool true)],args:=ds}) (hk:Kept W W'):s.post enc P f apart fresh handsOn again W args (.bool true) W':=by
 have hW':=hW
 have hD : ∀ p∈before,p.block<W.heap.size:=fun p hp=>hW.lt p hp
 obtain⟨p,q,hA,hV,rfl,hfz,SH⟩:=hW
 rw[zV]at hV
 obtain⟨rfl,rfl⟩:=trodVars_none hV
 simp only[List.append_nil]at hD Au
 refine KI (pa:=p) (pv:= []) hW' (fun b sp hd=>?_) (fun sp CY=>?_) (fun sp CY=>?_) rfl hk (ok_one hr rfl (okWide_bool_mk hb _))
 ·rw [List.append_nil,Au,hr]
  exact trodAll_cons_mk (shut_bool hb _) trodAll_mk0
 ·rw [List.append_nil,Au]
  simp only[List.append_nil]at CY
  exact Fl K hz hk hT hD CY hA
 ·rw [List.append_nil,Au,zV]
  rfl
theorem aam {f:FuncId} {args:List D} {fJ:Array Value} {w:World} (h:bM P f args S0 fun d _=>d = .bool true) (hl:fJ.size=args.length)
 (ha : ∀ (i:Nat) (d:D) (v:Value),args[i]? = some d→fJ[i]? = some v→RD (qB w) S0 d v) (ky:PZ w):Calls P f fJ w fun e w'=>e = .returned (.bool true)∧Kept w w':=
 S6 (G:=B1 w) h Mx hl ha ky
end
end Go.Abs
namespace Go.Abs
open Go.Proofs
def px (n:Int):List D:= [.int .i64 n]
theorem ahU (n:Int):D.bK 0 0 (px n)=true:=rfl
theorem aex (n m:Nat) (l:List Int):D.kx n m (l.map px)=l.map px:=lY ahU n m l
attribute [go_sem] px aex
def ahV (op:Int):aG:=
 if op=5 then [42]else if op=6 then [47]else if op=7 then [37]else if op=8 then [43]else if op=9 then [45]else if op=10 then [60]else if op=11 then [60,61]
 else if op=12 then [62]else if op=13 then [62,61]else if op=14 then [61,61]else if op=15 then [33,61]else if op=16 then [38,38]else [124,124]
def avP (op:Int):Int:=(ac2 (ahV op)).1
def S7:Nat→List aG
 | 0=> []
 |n+1=>S7 n++ [[UInt8.ofNat (97+n)]]
end Go.Abs
namespace Go.Abs
open Go.RowKit Go.ChangeShapes Go.WideShapes
theorem My {W:World} {a:Addr} {len cap:Nat} {zs:List Int} (hl:len≤cap) (hz:len≤zs.length) (hc : ∀ i,i<zs.length→W.cell? (a.add i)=some (.int .i64 (zs.getD i 0))) :
 RD (qB W) S0 (.slice .shared 1 ((zs.take len).map px)) (.slice (some a) len cap):=by
 by_cases h0:len=0
 ·subst h0
  exact .lB _ _ _
 ·obtain⟨b,off,rfl,gW⟩:=Go.ints_at hc (by omega)
  have hlen:((zs.take len).map px).length=len:=by simp;omega
  have e:((zs.take len).map px).length=len:=hlen
  have key : ∀ (i:Nat) (row:List D) (j:Nat) (d:D),((zs.take len).map px)[i]? = some row→row[j]? = some d→(qB W).G b (off+(i*1+j))=some (.int .i64 (zs.getD i 0))∧d = .int .i64 (zs.getD i 0):=by
   intro i row j d h1 h2
   rw[List.getElem?_map,Option.map_eq_some_iff]at h1
   obtain⟨n,h1,rfl⟩:=h1
   rw[List.getElem?_take]at h1
   split at h1
   ·rename_i hi
    have hd:zs.getD i 0=n:=by rw[List.getD_eq_getElem?_getD,h1];rfl
    have nL:i<zs.length:=(List.getElem?_eq_some_iff.1 h1).1
    cases j with
    |zero=>
     simp[px]at h2
     subst h2
     refine⟨?_,by rw[hd]⟩
     have:=gW i nL
     show B1 W b (off+(i*1+0))=_
     unfold B1
     rw[show off+(i*1+0)=off+i by omega,this]
     rfl
    |succ j=>simp[px]at h2
   ·cases h1
  have:=RD.slice (M:=qB W) (s:=S0) .shared 1 ((zs.take len).map px) b off cap (by omega) (fun row hr=>by obtain⟨n,_,rfl⟩:=List.mem_map.1 hr;rfl)
   (fun i row j d h1 h2=>⟨_,(key i row j d h1 h2).1⟩) (fun i row j d u h1 h2 hu=>by
    obtain⟨k1,k2⟩:=key i row j d h1 h2
    rw[k1]at hu
    cases hu
    rw[k2]
    exact .int _ _) trivial
  rw[hlen]at this
  exact this
end Go.Abs
namespace Go.Abs
open Go.RowKit Go.ChangeShapes Go.WideShapes
def fu (W:World) (ds:List D) (cs:List Value):Prop:=ds.length=cs.length∧(∀ (i:Nat) (d:D) (v:Value),ds[i]? = some d→cs[i]? = some v→RD (qB W) S0 d v)∧∀ v∈cs,v.oneCell'=true
theorem fu.one {W:World} {d:D} {v:Value} (h:RD (qB W) S0 d v) (hv:v.oneCell'=true):fu W [d] [v]:=by
 refine⟨rfl,fun i d' v' h1 h2=>?_,fun u hu=>by simp at hu;subst hu;exact hv⟩
 cases i with
 |zero=>simp at h1 h2;subst h1 h2;exact h
 |succ i=>simp at h1
theorem fu.app {W:World} {ds nJ:List D} {cs jJ:List Value} (h:fu W ds cs) (h':fu W nJ jJ):fu W (ds++nJ) (cs++jJ):=by
 obtain⟨a1,a2,a3⟩:=h
 obtain⟨b1,b2,b3⟩:=h'
 refine⟨by simp[a1,b1],fun i d v h1 h2=>?_,fun v hv=>?_⟩
 ·by_cases hi:i<ds.length
  ·rw [List.getElem?_append_left hi]at h1
   rw[List.getElem?_append_left (by omega)]at h2
   exact a2 i d v h1 h2
  ·rw [List.getElem?_append_right (by omega)]at h1
   rw[List.getElem?_append_right (by omega), ← a1]at h2
   exact b2 _ d v h1 h2
 ·rcases List.mem_append.1 hv with hv | hv
  ·exact a3 v hv
  ·exact b3 v hv
theorem fu.at {W:World} {ds nJ:List D} {cs:List Value} {o n:Nat} (h:fu W ds ((cs.drop o).take n)) (h':fu W nJ (cs.drop (o+n))):fu W (ds++nJ) (cs.drop o):=by
 have e:cs.drop o=(cs.drop o).take n++cs.drop (o+n):=by rw[← List.drop_drop,List.take_append_drop]
 rw[e]
 exact h.app h'
theorem fu.end {W:World} {cs:List Value} {o:Nat} (h:cs.length=o):fu W [] (cs.drop o):=by
 rw[← h,List.drop_length]
 exact⟨rfl,fun i d v h=>by simp at h,fun v hv=>by cases hv⟩
section
variable {H:Type} {enc:TypeId×Value→H} {P:Program} {W:World} {sp:Nat→Bool}
def structOf (P:Program) (t:TypeId):List (TypeId×Nat):=
 match P.underlying t with
 |some (.struct fs)=>fs.toList.map fun f=>(f.type,f.offset)
 |_=> []
theorem l6 {t:TypeId} {l:List (TypeId×Nat)} {fuel:Nat} {cs:List Value} {x:DataW H×List MemPlace} (h:structOf P t=l) (eK:l≠ []) (ht:DataW.trod enc P W 0 sp true fuel t cs=some x) :
 ∃ n,fuel=n+1∧cs.length=P.cellsOf t∧∀ (i:Nat) (f:TypeId×Nat),l[i]? = some f→∃ y,DataW.trod enc P W 0 sp true n f.1 ((cs.drop f.2).take (P.cellsOf f.1))=some y:=by
 unfold structOf at h
 split at h
 ·rename_i fs hu
  obtain⟨xs,n,e,_,hl,hlen,hf⟩:=DataW.trod_struct hu ht
  refine⟨n,e,hl,fun i f hi=>?_⟩
  subst h
  rw[List.getElem?_map,Option.map_eq_some_iff]at hi
  obtain⟨g,hg,rfl⟩:=hi
  have CQ:fs[i]? = some g:=by simpa using hg
  have hi:i<xs.length:=by rw[hlen];exact(Array.getElem?_eq_some_iff.1 CQ).1
  exact⟨xs[i],by rw[hf i g CQ,List.getElem?_eq_getElem hi]⟩
 ·exact absurd h.symm eK
theorem HV {t:TypeId} {l:List (TypeId×Nat)} (h:structOf P t=l) (eK:l≠ []) : ∃ fs,P.underlying t=some (.struct fs):=by
 unfold structOf at h
 split at h
 ·exact⟨_, ‹_›⟩
 ·exact absurd h.symm eK
theorem Da {α:Type} {Q:Nat→α→Prop} : ∀ n,(∀ i,i<n→∃ y,Q i y)→∃ ys:List α,ys.length=n∧∀ i y,ys[i]? = some y→Q i y
 | 0,_=>⟨[],rfl,fun i y h=>by simp at h⟩
 | n+1,h=>by
  obtain⟨ys,h1,h2⟩:=Da n fun i hi=>h i (by omega)
  obtain⟨y,hy⟩:=h n (by omega)
  refine⟨ys++ [y],by simp[h1],fun i z hz=>?_⟩
  by_cases hi:i<ys.length
  ·rw[List.getElem?_append_left hi]at hz;exact h2 i z hz
  ·rw [List.getElem?_append_right (by omega)]at hz
   have:i - ys.length=0:=by
    rcases Nat.eq_zero_or_pos (i - ys.length)with h|h
    ·exact h
    ·rw[List.getElem?_eq_none (by simp only[List.length_cons,List.length_nil];omega)]at hz;cases hz
   rw[this]at hz
   simp at hz
   subst hz
   have:i=n:=by omega
   subst this
   exact hy
theorem py {α:Type} (en:α→List D) (good:α→Prop) {z:Nat} {t e:TypeId} {fuel:Nat} {cs:List Value} {x:DataW H×List MemPlace} (ht:P.underlying t=some (.slice e)) (hz:P.cellsOf e=z) (Ye:0<z) (hen : ∀ y,(en y).length=z)
 (hel : ∀ n<fuel,∀ cs x,DataW.trod enc P W 0 sp true n e cs=some x→∃ y,fu W (en y) cs∧good y) (h:DataW.trod enc P W 0 sp true fuel t cs=some x) :
 ∃ ys:List α,fu W [.slice .shared z (ys.map en)] cs∧∀ y∈ys,good y:=by
 rcases DataW.trod_slice ht h with ⟨rfl,_⟩|⟨a,len,cap,elems,rest,n,hn,rfl,_,hb,hl,hm,hlen,gW,_,_⟩
 ·exact⟨[],fu.one (.iA _ _ _ rfl trivial) rfl,fun y hy=>by cases hy⟩
 ·by_cases h0:len=0
  ·subst h0
   exact⟨[],fu.one (.lB _ _ _) rfl,fun y hy=>by cases hy⟩
  ·obtain⟨ys,hys,vn⟩:=Da (Q:=fun i y=>good y∧∃ jJ,W.cells? 0 (a.add (i*z)) z=some jJ∧fu W (en y) jJ) len fun i hi=>by
    have hc:=gW i hi
    rw[List.getElem?_eq_getElem (by omega),hz,Option.bind_eq_some_iff]at hc
    obtain⟨jJ,h1,h2⟩:=hc
    obtain⟨y,h3,h4⟩:=hel n (by omega) _ _ h2
    exact⟨y,h4,jJ,h1,h3⟩
   have cell : ∀ i y,ys[i]? = some y→∀ (j:Nat) d,(en y)[j]? = some d→∃ v,W.cell? ((a.add (i*z)).add j)=some v∧RD (qB W) S0 d v∧v.oneCell'=true:=by
    intro i y hy j d hd
    obtain⟨_,jJ,h1,h2,h3,h4⟩:=vn i y hy
    obtain⟨_,k1,k2⟩:=World.cells?_some h1
    have hj:j<z:=by rw[← hen y];exact(List.getElem?_eq_some_iff.1 hd).1
    have hv:jJ[j]? = some jJ[j]:=List.getElem?_eq_getElem (by omega)
    exact⟨jJ[j],by rw[k2 j hj,hv],h3 j d _ hd hv,h4 _ (List.getElem_mem _)⟩
   obtain⟨b,off,spot⟩:=a
   have ahW:spot=none:=by
    have hy:ys[0]? = some (ys[0]'(by omega)):=List.getElem?_eq_getElem (by omega)
    obtain⟨d,hd⟩ : ∃ d,(en (ys[0]'(by omega)))[0]? = some d:=⟨_,List.getElem?_eq_getElem (show 0<(en (ys[0]'(by omega))).length by rw[hen];exact Ye)⟩
    obtain⟨v,hv,_⟩:=cell 0 _ hy 0 _ hd
    have:=World.cell?_spot hv
    simpa[Addr.add]using this
   subst ahW
   have e:(ys.map en).length=len:=by simp[hys]
   have:=RD.slice (M:=qB W) (s:=S0) .shared z (ys.map en) b off cap (by omega) (fun row hr=>by obtain⟨y,_,rfl⟩:=List.mem_map.1 hr;exact hen y)
    (fun i row j d h1 h2=>by
     rw[List.getElem?_map,Option.map_eq_some_iff]at h1
     obtain⟨y,h1,rfl⟩:=h1
     obtain⟨v,hv,_,h4⟩:=cell i y h1 j d h2
     rw[add_plain,add_plain]at hv
     refine⟨v, ?_⟩
     show B1 W b (off+(i*z+j))=_
     unfold B1
     rw[show off+(i*z+j)=off+i*z+j by omega,hv]
     simp[h4])
    (fun i row j d u h1 h2 hu=>by
     rw[List.getElem?_map,Option.map_eq_some_iff]at h1
     obtain⟨y,h1,rfl⟩:=h1
     obtain⟨v,hv,h3,h4⟩:=cell i y h1 j d h2
     rw[add_plain,add_plain]at hv
     obtain⟨hu,_⟩:=Mx _ _ _ hu
     rw[show off+(i*z+j)=off+i*z+j by omega,hv]at hu
     cases hu
     exact h3) trivial
   rw[e]at this
   refine⟨ys,fu.one this rfl,fun y hy=>?_⟩
   obtain⟨i,hi⟩:=List.getElem?_of_mem hy
   exact(vn i y hi).1
theorem Fm {t:TypeId} {fuel:Nat} {cs:List Value} {x:DataW H×List MemPlace} (ht:P.underlying t=some (.int .i64)) (h:DataW.trod enc P W 0 sp true fuel t cs=some x) : ∃ n:Int,fu W [.int .i64 n] cs∧n≤9223372036854775807∧ -9223372036854775808≤n:=by
 obtain⟨n,rfl,_,hw⟩:=DataW.trod_int ht h
 simp[Lit.wf,IntKind.min,IntKind.max,IntKind.signed,IntKind.bits]at hw
 exact⟨n,fu.one (.int _ _) rfl,by omega,by omega⟩
theorem Gf {t:TypeId} {fuel:Nat} {cs:List Value} {x:DataW H×List MemPlace} (ht:P.underlying t=some .bool) (h:DataW.trod enc P W 0 sp true fuel t cs=some x) : ∃ b:Bool,fu W [.bool b] cs:=by
 obtain⟨n,rfl,_⟩:=DataW.trod_bool ht h
 exact⟨n,fu.one (.bool _) rfl⟩
theorem vZ {t:TypeId} {fuel:Nat} {cs:List Value} {x:DataW H×List MemPlace} (ht:P.underlying t=some .string) (h:DataW.trod enc P W 0 sp true fuel t cs=some x) : ∃ s:aG,fu W (encStr s) cs∧s.length≤maxLen:=by
 obtain⟨s,rfl,_,hm⟩:=DataW.trod_string ht h
 obtain⟨⟨l⟩⟩:=s
 exact⟨l,fu.one (.str l) rfl,hm⟩
theorem ahX {tE tI tN tS tK:TypeId} (hE:structOf P tE = [(tI,0),(tN,1),(tS,2),(tK,3)]) (hEc:P.cellsOf tE=4) (hI:P.underlying tI=some (.int .i64)) (hN:P.underlying tN=some (.int .i64)) (hS:P.underlying tS=some .string) (hK:P.underlying tK=some (.slice tE))
 (cI:P.cellsOf tI=1) (cN:P.cellsOf tN=1) (cS:P.cellsOf tS=1) (cK:P.cellsOf tK=1) :
 ∀ (fuel:Nat) (cs:List Value) (x:DataW H×List MemPlace),DataW.trod enc P W 0 sp true fuel tE cs=some x→∃ y:Ex,fu W (cj y) cs∧y.rI:=by
 intro fuel
 induction fuel using Nat.strongRecOn with
 | _ fuel ih=>
  intro cs x h
  obtain⟨n,rfl,hl,hf⟩:=l6 hE (by simp) h
  obtain⟨y0,h0⟩:=hf 0 _ rfl
  obtain⟨y1,h1⟩:=hf 1 _ rfl
  obtain⟨y2,h2⟩:=hf 2 _ rfl
  obtain⟨y3,h3⟩:=hf 3 _ rfl
  dsimp only at h0 h1 h2 h3
  rw[cI]at h0
  rw[cN]at h1
  rw[cS]at h2
  rw[cK]at h3
  obtain⟨op,r0,_⟩:=Fm hI h0
  obtain⟨m,r1,hm,_⟩:=Fm hN h1
  obtain⟨s,r2,_⟩:=vZ hS h2
  obtain⟨ks,r3,hg⟩:=py (W:=W) cj Ex.rI hK hEc (by decide) WR (fun k hk cs x hx=>ih k (by omega) cs x hx) h3
  refine⟨⟨op,m,s,ks⟩, ?_,hm, ?_⟩
  ·have:=r0.at (r1.at (r2.at (r3.at (fu.end (by rw [hl,hEc])))))
   rw[je]
   simpa[encStr]using this
  ·clear r3
   induction ks with
   |nil=>exact trivial
   |cons k ks ihk=>exact⟨hg k (by simp),ihk fun y hy=>hg y (by simp[hy])⟩
theorem fu.agg {ds:List D} {v:Value} (h:fu W ds v.cells.toList) (hv : ∃ vs,v = .agg vs):RD (qB W) S0 (.agg ds) v:=by
 obtain⟨vs,rfl⟩:=hv
 obtain⟨h1,h2,h3⟩:=h
 have e:(Value.agg vs).cells=vs:=rfl
 rw[e]at h1 h2 h3
 refine .agg ds vs (by simpa using h1) (fun v hv=>h3 v (by simpa using hv)) fun i d v hd hv=>h2 i d v hd (by simpa using hv)
end
end Go.Abs
namespace Go.Abs
open Go.Proofs Go.RowKit Go.ChangeShapes Go.WideShapes
section
variable {H:Type} {enc:TypeId×Value→H} {W:World} {sp:Nat→Bool}
theorem S8 (fuel:Nat) (cs:List Value) (x:DataW H×List MemPlace) (h:DataW.trod enc Tryz.prog W 0 sp true fuel 50 cs=some x) : ∃ y:Ex,fu W (cj y) cs∧y.rI:=
 ahX (tE:=50) (tI:=3) (tN:=2) (tS:=9) (tK:=48) (by kernel_rfl) (by kernel_rfl) (by kernel_rfl) (by kernel_rfl) (by kernel_rfl) (by kernel_rfl) (by kernel_rfl) (by kernel_rfl) (by kernel_rfl) (by kernel_rfl) _ _ _ h
theorem aan:Tryz.prog.underlying 22=some (.slice 9):=by kernel_rfl
theorem yJ:Tryz.prog.underlying 9=some .string:=by kernel_rfl
theorem S9:Tryz.prog.underlying 3=some (.int .i64):=by kernel_rfl
theorem Gg:Tryz.prog.underlying 4=some .bool:=by kernel_rfl
theorem B2:Tryz.prog.cellsOf 9=1:=by kernel_rfl
theorem aeB:Tryz.prog.cellsOf 3=1:=by kernel_rfl
theorem Gh:Tryz.prog.cellsOf 4=1:=by kernel_rfl
theorem Gi:Tryz.prog.cellsOf 22=1:=by kernel_rfl
theorem Yj:Tryz.prog.cellsOf 50=4:=by kernel_rfl
theorem Ab {fuel:Nat} {cs:List Value} {x:DataW H×List MemPlace} (h:DataW.trod enc Tryz.prog W 0 sp true fuel 22 cs=some x) : ∃ l:List aG,fu W [.slice .shared 1 (l.map encStr)] cs:=by
 obtain⟨l,h,_⟩:=py (W:=W) encStr (fun _=>True) aan B2 (by decide) (fun _=>rfl) (fun k hk cs x hx=>by
  obtain⟨s,hs,_⟩:=vZ yJ hx
  exact⟨s,hs,trivial⟩) h
 exact⟨l,h⟩
theorem aeC {fuel:Nat} {cs:List Value} {x:DataW H×List MemPlace} (h:DataW.trod enc Tryz.prog W 0 sp true fuel 73 cs=some x) : ∃ y:Pm,fu W (iJ y) cs:=by
 obtain⟨n,rfl,hl,hf⟩:=l6 (l:= [(9,0),(4,1)]) (by kernel_rfl) (by simp) h
 have hc:Tryz.prog.cellsOf 73=2:=by kernel_rfl
 obtain⟨y0,h0⟩:=hf 0 _ rfl
 obtain⟨y1,h1⟩:=hf 1 _ rfl
 dsimp only at h0 h1
 rw[B2]at h0
 rw[Gh]at h1
 obtain⟨s,r0,_⟩:=vZ yJ h0
 obtain⟨b,r1⟩:=Gf Gg h1
 refine⟨⟨s,b⟩, ?_⟩
 have:=r0.at (r1.at (fu.end (by rw[hl,hc])))
 simpa[encStr,iJ]using this
theorem aeD {fuel:Nat} {cs:List Value} {x:DataW H×List MemPlace} (h:DataW.trod enc Tryz.prog W 0 sp true fuel 123 cs=some x) : ∃ y:Ar,fu W (eB y) cs∧y.x.rI:=by
 obtain⟨n,rfl,hl,hf⟩:=l6 (l:= [(4,0),(9,1),(50,2)]) (by kernel_rfl) (by simp) h
 have hc:Tryz.prog.cellsOf 123=6:=by kernel_rfl
 obtain⟨y0,h0⟩:=hf 0 _ rfl
 obtain⟨y1,h1⟩:=hf 1 _ rfl
 obtain⟨y2,h2⟩:=hf 2 _ rfl
 dsimp only at h0 h1 h2
 rw[Gh]at h0
 rw[B2]at h1
 rw[Yj]at h2
 obtain⟨b,r0⟩:=Gf Gg h0
 obtain⟨s,r1,_⟩:=vZ yJ h1
 obtain⟨e,r2,hr⟩:=S8 _ _ _ h2
 refine⟨⟨b,s,e⟩, ?_,hr⟩
 have:=r0.at (r1.at (r2.at (fu.end (by rw[hl,hc]))))
 rw[je]at this
 simpa[encStr,eB]using this
theorem Ac : ∀ {l:List Sm},(∀ s∈l,s.rI)→Sm.xC l
 | [],_=>trivial
 |s::l,h=>⟨h s (List.mem_cons_self ..),Ac fun t m=>h t (List.mem_cons_of_mem _ m)⟩
theorem aeE : ∀ (fuel:Nat) (cs:List Value) (x:DataW H×List MemPlace),DataW.trod enc Tryz.prog W 0 sp true fuel 54 cs=some x→∃ y:Sm,fu W (bh y) cs∧y.rI:=by
 intro fuel
 induction fuel using Nat.strongRecOn with
 |_ fuel ih=>
  intro cs x h
  obtain⟨n,rfl,hl,hf⟩:=l6 (l:= [(3,0),(3,1),(22,2),(9,3),(9,4),(50,5),(4,9),(51,10),(52,11),(52,12)]) (by kernel_rfl) (by simp) h
  have hc:Tryz.prog.cellsOf 54=13:=by kernel_rfl
  have ca:Tryz.prog.cellsOf 51=1:=by kernel_rfl
  have jJ:Tryz.prog.cellsOf 52=1:=by kernel_rfl
  have ua:Tryz.prog.underlying 51=some (.slice 123):=by kernel_rfl
  have us:Tryz.prog.underlying 52=some (.slice 54):=by kernel_rfl
  have ca6:Tryz.prog.cellsOf 123=6:=by kernel_rfl
  obtain⟨y0,h0⟩:=hf 0 _ rfl
  obtain⟨y1,h1⟩:=hf 1 _ rfl
  obtain⟨y2,h2⟩:=hf 2 _ rfl
  obtain⟨y3,h3⟩:=hf 3 _ rfl
  obtain⟨y4,h4⟩:=hf 4 _ rfl
  obtain⟨y5,h5⟩:=hf 5 _ rfl
  obtain⟨y6,h6⟩:=hf 6 _ rfl
  obtain⟨y7,h7⟩:=hf 7 _ rfl
  obtain⟨y8,h8⟩:=hf 8 _ rfl
  obtain⟨y9,h9⟩:=hf 9 _ rfl
  dsimp only at h0 h1 h2 h3 h4 h5 h6 h7 h8 h9
  rw[aeB]at h0 h1
  rw[Gi]at h2
  rw[B2]at h3 h4
  rw[Yj]at h5
  rw[Gh]at h6
  rw[ca]at h7
  rw[jJ]at h8 h9
  obtain⟨id,r0,_⟩:=Fm S9 h0
  obtain⟨kind,r1,_⟩:=Fm S9 h1
  obtain⟨labels,r2⟩:=Ab h2
  obtain⟨name,r3,_⟩:=vZ yJ h3
  obtain⟨proc,r4,_⟩:=vZ yJ h4
  obtain⟨e,r5,hr⟩:=S8 _ _ _ h5
  obtain⟨b,r6⟩:=Gf Gg h6
  obtain⟨args,r7,ha⟩:=py (W:=W) eB (fun a=>a.x.rI) ua ca6 (by decide) (fun _=>rfl) (fun k hk cs x hx=>aeD hx) h7
  obtain⟨a8,r8,ht⟩:=py (W:=W) bh Sm.rI us hc (by decide) H0 (fun k hk cs x hx=>ih k (by omega) cs x hx) h8
  obtain⟨aR,r9,he⟩:=py (W:=W) bh Sm.rI us hc (by decide) H0 (fun k hk cs x hx=>ih k (by omega) cs x hx) h9
  refine⟨⟨id,kind,labels,name,proc,e,b,args,a8,aR⟩, ?_,hr,ha,Ac ht,Ac he⟩
  have:=r0.at (r1.at (r2.at (r3.at (r4.at (r5.at (r6.at (r7.at (r8.at (r9.at (fu.end (by rw[hl,hc])))))))))))
  rw[je]at this
  rw[ep]
  simpa[encStr]using this
theorem aeF {fuel:Nat} {cs:List Value} {x:DataW H×List MemPlace} (h:DataW.trod enc Tryz.prog W 0 sp true fuel 70 cs=some x) : ∃ y:Pc,fu W (cu y) cs∧Sm.xC y.body:=by
 obtain⟨n,rfl,hl,hf⟩:=l6 (l:= [(9,0),(68,1),(22,2),(52,3),(22,4)]) (by kernel_rfl) (by simp) h
 have hc:Tryz.prog.cellsOf 70=5:=by kernel_rfl
 have cp:Tryz.prog.cellsOf 68=1:=by kernel_rfl
 have jJ:Tryz.prog.cellsOf 52=1:=by kernel_rfl
 have up:Tryz.prog.underlying 68=some (.slice 73):=by kernel_rfl
 have us:Tryz.prog.underlying 52=some (.slice 54):=by kernel_rfl
 have cp2:Tryz.prog.cellsOf 73=2:=by kernel_rfl
 have aou:Tryz.prog.cellsOf 54=13:=by kernel_rfl
 obtain⟨y0,h0⟩:=hf 0 _ rfl
 obtain⟨y1,h1⟩:=hf 1 _ rfl
 obtain⟨y2,h2⟩:=hf 2 _ rfl
 obtain⟨y3,h3⟩:=hf 3 _ rfl
 obtain⟨y4,h4⟩:=hf 4 _ rfl
 dsimp only at h0 h1 h2 h3 h4
 rw[B2]at h0
 rw[cp]at h1
 rw[Gi]at h2 h4
 rw[jJ]at h3
 obtain⟨name,r0,_⟩:=vZ yJ h0
 obtain⟨ps,r1,_⟩:=py (W:=W) iJ (fun _=>True) up cp2 (by decide) (fun _=>rfl) (fun k hk cs x hx=>by
  obtain⟨y,hy⟩:=aeC hx
  exact⟨y,hy,trivial⟩) h1
 obtain⟨vars,r2⟩:=Ab h2
 obtain⟨body,r3,hb⟩:=py (W:=W) bh Sm.rI us aou (by decide) H0 (fun k hk cs x hx=>aeE k cs x hx) h3
 obtain⟨fin,r4⟩:=Ab h4
 refine⟨⟨name,ps,vars,body,fin⟩, ?_,Ac hb⟩
 have:=r0.at (r1.at (r2.at (r3.at (r4.at (fu.end (by rw[hl,hc]))))))
 simpa[encStr,cu]using this
theorem aeG {fuel:Nat} {cs:List Value} {x:DataW H×List MemPlace} (h:DataW.trod enc Tryz.prog W 0 sp true fuel 25 cs=some x) : ∃ y:Pg,fu W (cz y) cs∧y.rI:=by
 obtain⟨n,rfl,hl,hf⟩:=l6 (l:= [(22,0),(23,1)]) (by kernel_rfl) (by simp) h
 have hc:Tryz.prog.cellsOf 25=2:=by kernel_rfl
 have cp:Tryz.prog.cellsOf 23=1:=by kernel_rfl
 have up:Tryz.prog.underlying 23=some (.slice 70):=by kernel_rfl
 have cp5:Tryz.prog.cellsOf 70=5:=by kernel_rfl
 obtain⟨y0,h0⟩:=hf 0 _ rfl
 obtain⟨y1,h1⟩:=hf 1 _ rfl
 dsimp only at h0 h1
 rw[Gi]at h0
 rw[cp]at h1
 obtain⟨globals,r0⟩:=Ab h0
 obtain⟨procs,r1,hp⟩:=py (W:=W) cu (fun f=>Sm.xC f.body) up cp5 (by decide) (fun _=>rfl) (fun k hk cs x hx=>aeF hx) h1
 refine⟨⟨globals,procs⟩, ?_,hp⟩
 have:=r0.at (r1.at (fu.end (by rw[hl,hc])))
 simpa[cz]using this
end
end Go.Abs
namespace Go.Abs
open Go.Proofs Go.ChangeShapes Go.WideShapes Go.ChangeAt Go.RowKit
theorem w9 {H:Type} {enc:TypeId×Value→H} {P:Program} {W:World} {sp:Nat→Bool} {t:TypeId} {ts:List TypeId} {ps:List MemPlace} : ∀ {l:List Value} {ds:List (DataW H)},DataW.TrodAll enc P W 0 sp true (t::ts) l ds ps→
 ∃ v l' d nJ p q,l=v::l'∧ds=d::nJ∧DataW.Trod enc P W 0 sp true t v d p∧DataW.TrodAll enc P W 0 sp true ts l' nJ q
 |v::l,d::ds,⟨p,q,h1,h2,e⟩=>⟨v,l,d,ds,p,q,rfl,rfl,h1,h2⟩
 | [],[],h=>h.elim
 | [],_::_,h=>h.elim
 |_::_,[],h=>h.elim
theorem Wi {H:Type} {enc:TypeId×Value→H} {P:Program} {W:World} {sp:Nat→Bool} {ps:List MemPlace} : ∀ {l:List Value} {ds:List (DataW H)},DataW.TrodAll enc P W 0 sp true [] l ds ps→l = []∧ds = []
 | [],[],_=>⟨rfl,rfl⟩
 | [],_::_,h=>h.elim
 |_::_,ds,h=>by cases ds<;>exact h.elim
end Go.Abs
