/-
  What is proved here: part 4 of the road to the claim (RunC0, RunC1, RunC2, RunC3, RunC4, RunC5, RunC6, RunC7, RunSt, RunSz, Jm3, Rj1, Ck1, RunC8, RunC9, RunL0, RunL1, RunTp, RunEv, RunWa, RunL2, LawRu2, LawRu3, Glue2, Join, Binds1, Join2, Join3, Join4, Join5).
  No conditions.
-/
import Derived.Test.YtpjadlleefgcpaaGreatRnC3
import Derived.RowKit3
import Derived.WalkKit
import Derived.ProofKit
import Derived.OpenShut
import Derived.ShutString
import Derived.ChangeMaps5
import Derived.ChangeStays
import Derived.KernelRfl

set_option linter.unusedSimpArgs false
set_option linter.unusedVariables false
namespace Go.Abs
set_option maxRecDepth 8000
open Go.Proofs
theorem aF.ahM {P:Program} {f:FuncId} {args:List D} {z k:Nat} {rows:List (List D)} (h:aF P f args S0 (.slice (.tok 0) z rows) ⟨[],[some k]⟩) (ha:D.bL 0 0 args=true) (hr:D.gS 0 0 rows=true) (s:St) :
 aF P f args s (.slice (.tok s.aw.length) z rows) ⟨s.ah,s.aw++ [some k]⟩:=by
 refine bM.frame [] [] h List.nodup_nil List.nodup_nil (by simp) (by simp) rfl (by simp) rfl (by simp) (by rw[fC _ _ _ ha]) ha ?_
 rintro _ _ ⟨rfl,rfl⟩
 refine⟨by simp[D.back,D.cW,Tag.cW,ky,jl _ _ _ hr], ?_⟩
 simp[St.back,kC]
theorem PE (g:Tag) (z:Nat) (s:St):aF Tryz.prog kz [.slice g z []] s (.slice .full 1 []) s:=by
 refine bM.qu (.cons (Wk.nil _ _ 1) .nil) (aF.pure ?_ rfl rfl s)
 unfold S0
 refine aF.go pN rfl fun B Q hB hQ=>?_
 have⟨hD,hY,hZ,gA⟩:=bR
 repeat' (first
 |simp only[go_sem,hD,hY,hZ,gA]
 |(with_reducible first|refine bo fun hc=>?_|refine bp fun hc=>?_|refine bq (fun hc=>?_) fun hc=>?_)<;>(try simp only[hc,bs,↓reduceIte]at h)<;>try simp only[hc]
 |(with_reducible refine aE hQ ?_;exact fV)
 |(cases h;done))
 refine Um (fun _=>?_) ?_
 ·repeat' (first
 |simp only[go_sem,hD,hY,hZ,gA,gY,true_or,Nat.zero_le]
 |(with_reducible first|refine bo fun hc=>?_|refine bp fun hc=>?_|refine bq (fun hc=>?_) fun hc=>?_)<;>(try simp only[hc,bs,↓reduceIte]at h)<;>try simp only[hc]
 |(with_reducible refine aE hQ ?_;(try cases h);simp only[aV,aX,bH,bI,go_sem,hD,hY,hZ,gA,gY,true_or,Nat.zero_le];try exact cq)
 |(cases h;done))
 ·repeat' (first
 |simp only[go_sem,hD,hY,hZ,gA,gY,true_or,Nat.zero_le]
 |(with_reducible first|refine bo fun hc=>?_|refine bp fun hc=>?_|refine bq (fun hc=>?_) fun hc=>?_)<;>(try simp only[hc,bs,↓reduceIte]at h)<;>try simp only[hc]
 |(with_reducible refine aE hQ ?_;(try cases h);simp only[aV,aX,bH,bI,go_sem,hD,hY,hZ,gA,gY,true_or,Nat.zero_le];try exact cq)
 |(cases h;done))
theorem PF {l:List aG} (hl:l.length<1073741824) (h0:l≠ []) (s:St):aF Tryz.prog kz [.slice .shared 1 (l.map encStr)] s (.slice (.tok s.aw.length) 1 (l.map encStr)) ⟨s.ah,s.aw++ [some l.length]⟩:=by
 refine aF.ahM ?_ (by simp[D.bL,D.ok,Tag.ok,fb]) (fb l) s
 unfold S0
 refine aF.goK 0 1 (Nat.zero_le _) (Nat.zero_le _) pN rfl fun B Q hB hQ=>?_
 have⟨hD,hY,hZ,gA⟩:=bR
 have ha:=fun o T=>sA (size:=1) (bytes:=16) (rows:=l.map encStr) (by simpa using h0) (by simp only[List.length_map];unfold bC;omega) (z:=1) (g:= .shared) o T
 cases l with
 |nil=>exact absurd rfl h0
 |cons x l=>
  simp only[List.map_cons,encStr]at ha
  repeat' (first
 |simp only[go_sem,hD,hY,hZ,gA,ha]
 |(with_reducible first|refine bo fun hc=>?_|refine bp fun hc=>?_|refine bq (fun hc=>?_) fun hc=>?_)<;>(try simp only[hc,bs,↓reduceIte]at h)<;>try simp only[hc]
 |(with_reducible refine aE hQ ?_;(try cases h);simp only[aV,aX,bH,bI,go_sem,hD,hY,hZ,gA,ha];try exact cq)
 |(cases h;done))
theorem Mp {a b:List aG} {n:Nat} (hn:n=a.length) (h:a.length+b.length≤1000000000) {g:Tag} {t:Nat} {s:St} (ht:s.aw[t]? = some (some n)) :
 gY 1 16 (.slice (.tok t) 1 (a.map encStr)) (.slice g 1 (b.map encStr)) s=some (.slice (.tok t) 1 ((a++b).map encStr),⟨s.ah,s.aw.set t (some (a++b).length)⟩):=by
 subst hn
 rw[mH (size:=1) (bytes:=16) (by simp only[List.length_map];unfold bC;omega) (by simpa using ht)]
 simp
theorem aea {p:Pg} (h:p.iJ) (hb:p.may=true) {name:aG} {f:Pc} (hf:p.find name=some f) (s:St):aF Tryz.prog vx [.agg (cD p), .str name] s (.slice .shared 1 ((p.globals++f.own).map encStr)) s:=by
 refine aF.pure ?_ (by simp[D.bL,D.ok,jv]) (by simp only[D.ok,Tag.ok,fb];rfl) s
 have hm:=fun s=>JL h.Pf s
 simp only[Ci,hb]at hm
 obtain⟨rU,rJ,rI⟩:=h.procs
 simp only[Pg.find]at hf
 unfold S0
 refine aF.go FQ rfl fun B Q hB hQ=>?_
 have⟨hD,hY,hZ,gA⟩:=bR
 repeat' (first
 |simp only[go_sem,hD,hY,hZ,gA]
 |(with_reducible refine CU (hm _) ?_)
 |(with_reducible first|refine bo fun hc=>?_|refine bp fun hc=>?_|refine bq (fun hc=>?_) fun hc=>?_)<;>(try simp only[hc,bs,↓reduceIte]at h)<;>try simp only[hc]
 |(with_reducible refine aE hQ ?_;exact fV)
 |(cases h;done))
 refine fi 1 0 (bt.ind (ι:=List Pc×Nat) (fun i=>p.procs.drop i.2=i.1∧iU name i.1=some f) (fun i=>i.1.length)
  (fun i=> [(1, .str name),(2, .ptr 0 0),(11, .slice .shared 5 (p.procs.map cu)),(12, .int .i64 (p.procs.length:Int)),(13, .int .i64 (i.2:Int))]) (fun i=>⟨[cD p],[]⟩) ?_ (p.procs,0) ⟨rfl,hf⟩)
 rintro⟨rest,k⟩ ⟨h1,h2⟩ IH
 dsimp only at h1 h2
 cases rest with
 |nil=>cases h2
 | cons a rest=>
  obtain⟨hY,g2,hD,g4⟩:=drop_cons h1
  have bU:k<4611686018427387904:=by omega
  have vP:=h.small (List.mem_of_getElem? hY)
  simp only[iU]at h2
  rcases Bool.eq_false_or_eq_true (a.name==name)with b1|b1
  ·simp only [b1,if_true]at h2
   cases h2
   have ho:=fun s=>X3 (f:=f) vP.par vP.vars s
   have jk:f.own.length<2000000:=by have:=vP.par;have:=vP.vars;simp[Pc.own,Pc.tx];omega
   cases e:p.globals with
   | nil=>
    simp only[List.nil_append]at *
    have c1:=fun g z s=>PE g z s
    cases e2:f.own with
    |nil=>
     rw[e2]at ho hQ
     have ha:=fun o T=>qE (size:=1) (bytes:=16) (z:=1) (z':=1) (g:= .shared) o T
     repeat' (first
 |simp only[go_sem,hD,hY,hZ,gA,b1,ha,e]
 |(with_reducible refine CU (c1 _ _ _) ?_)
 |(with_reducible refine CU (ho _) ?_)
 |(with_reducible first|refine bo fun hc=>?_|refine bp fun hc=>?_|refine bq (fun hc=>?_) fun hc=>?_)<;>(try simp only[hc,bs,↓reduceIte]at h)<;>try simp only[hc]
 |(with_reducible refine aE hQ ?_;(try cases h);simp only[aV,aX,bH,bI,go_sem,hD,hY,hZ,gA,b1,ha,e];try exact cq)
 | (cases h;done))
    |cons x l=>
     have ha:=fun o T=>sA (size:=1) (bytes:=16) (rows:=f.own.map encStr) (by simp[e2]) (by simp only[List.length_map];unfold bC;omega) (z:=1) (g:= .shared) o T
     repeat' (first
 |simp only[go_sem,hD,hY,hZ,gA,b1,ha,e]
 |(with_reducible refine CU (c1 _ _ _) ?_)
 |(with_reducible refine CU (ho _) ?_)
 |(with_reducible first|refine bo fun hc=>?_|refine bp fun hc=>?_|refine bq (fun hc=>?_) fun hc=>?_)<;>(try simp only[hc,bs,↓reduceIte]at h)<;>try simp only[hc]
 |(with_reducible refine aE hQ ?_;(try cases h);simp only[aV,aX,bH,bI,go_sem,hD,hY,hZ,gA,b1,ha,e];try exact cq)
 | (cases h;done))
   |cons x l=>
    have c1:=fun s=>PF (l:=p.globals) (by omega) (by simp[e]) s
    have ha:=fun {s:St} {t:Nat} (ht:s.aw[t]? = some (some p.globals.length))=>Mp (a:=p.globals) (b:=f.own) (g:= .shared) rfl (by omega) ht
    have wu:=fun o=>Mp (a:=p.globals) (b:=f.own) (g:= .shared) (t:=0) (s:=⟨o,[some p.globals.length]⟩) rfl (by omega) rfl
    repeat' (first
 |simp only[go_sem,hD,hY,hZ,gA,b1,wu]
 |(with_reducible refine CU (c1 _) ?_)
 |(with_reducible refine CU (ho _) ?_)
 |(with_reducible first|refine bo fun hc=>?_|refine bp fun hc=>?_|refine bq (fun hc=>?_) fun hc=>?_)<;>(try simp only[hc,bs,↓reduceIte]at h)<;>try simp only[hc]
 |(with_reducible refine aE hQ ?_;(try cases h);simp only[aV,aX,bH,bI,go_sem,hD,hY,hZ,gA,b1,wu];try exact cq)
 | (cases h;done))
  ·simp only [b1,Bool.false_eq_true,if_false]at h2
   repeat' (first
 |simp only[go_sem,hD,hY,hZ,gA,b1]
 |(with_reducible first|refine bo fun hc=>?_|refine bp fun hc=>?_|refine bq (fun hc=>?_) fun hc=>?_)<;>(try simp only[hc,bs,↓reduceIte]at h)<;>try simp only[hc]
 |(with_reducible refine aE hQ ?_;(try cases h);simp only[aV,aX,bH,bI,go_sem,hD,hY,hZ,gA,b1];try exact cq)
 | (cases h;done))
   refine eY 1 0 ?_ ?_ (IH (rest,k+1) ⟨g2,h2⟩ (Nat.lt_succ_self _))
   ·(simp only[go_sem,hD,hY,hZ,gA,aI bU];try exact cj)
   ·(simp only[go_sem,hD,hY,hZ,gA,aI bU];try exact cj)
theorem Lw {p:Pg} (hb:p.may=true) {i:Nat} {f:Pc} (hf:p.procs[i]? = some f) : ∃ a b:Int,p.aY.lo[i]? = some a∧p.aY.hi[i]? = some b∧(if decide (a<b)=true then a else -1)=ga f.body (-1):=by
 obtain⟨a,b,e,h1,h2,h3,h4⟩:=(lh p).2 i f hf
 refine⟨_,_,h1,h2, ?_⟩
 cases B6:f.body with
 |nil=>
  rw[B6]at h3
  have:b = []:=by simpa[Sm.dd]using h3
  subst this
  simp[ga]
 | cons s l=>
  rw[B6,Sm.dd,Sm.qc]at h3
  cases b with
  |nil=>simp at h3
  | cons x b=>
   simp only[List.map_cons,List.cons_append,List.cons.injEq]at h3
   have hx:p.pre[a.length]? = some s:=by
    rw[← (lh p).1,h4]
    simp[h3.1]
   have:=BF hb hx
   rw[if_pos (by simp;omega)]
   simp only[ga]
   rw[this];omega
theorem aad {p:Pg} (hb:p.may=true) {i:Nat} {f:Pc} (hf:p.procs[i]? = some f) (s:St):aF Tryz.prog o7 [.dA (fA p) 0, .int .i64 (i:Int)] s (.int .i64 (ga f.body (-1))) s:=by
 refine aF.pure ?_ (by simp[D.bL,D.ok,uh]) rfl s
 obtain⟨a,b,h1,h2,h⟩:=Lw hb hf
 generalize ga f.body (-1)=R at h
 unfold S0
 rw[nY]
 refine aF.go zt rfl fun B Q hB hQ=>?_
 have⟨hD,hY,hZ,gA⟩:=bR
 repeat' (first
 |simp only[go_sem,hD,hY,hZ,gA,h1,h2]
 |(with_reducible first|refine bo fun hc=>?_|refine bp fun hc=>?_|refine bq (fun hc=>?_) fun hc=>?_)<;>(try simp only[hc,bs,↓reduceIte]at h)<;>try simp only[hc]
 |(with_reducible refine aE hQ ?_;(try cases h);simp only[aV,aX,bH,bI,go_sem,hD,hY,hZ,gA,h1,h2];try exact cq)
 |(cases h;done))
set_option maxRecDepth 8000
open Go.Proofs
section
variable {p:Pg} {T W:List Int} {y:Lay} {m:Mc} {loc:List (Nat×List D)} {s:St}
theorem jE.row {s:St} {d:D} {cs:List D} (h:jE s d cs) (hn:cs≠ []) : ∃ o g more,d = .eB 1 o g cs.length∧s.ah[o]? = some (.int .i64 ((g:Nat):Int)::(cs++more)):=by
 rcases h with ⟨_,h⟩|h
 ·exact absurd h hn
 ·exact h
theorem Inv.VZ (h:Inv p T W y m loc s) {fr:Fr} {r:List Fr} (ji:m.st=fr::r) : ∃ so g cells o,y.sd = .eB 1 so g (r.length+1)∧s.ah[so]? = some (.int .i64 ((g:Nat):Int)::cells)∧cells[r.length]? = some (.ptr o 0)∧s.ah[o]? = some (pw y.κ fr)∧y.φ[0]? = some o:=by
 have il:=h.sy
 rw[ji]at il
 cases hφ:y.φ with
 |nil=>rw[hφ]at il;simp at il
 | cons o φ=>
  rw[hφ]at il
  simp only[List.length_cons]at il
  obtain⟨so,g,more,h1,h2⟩:=h.stack.row (by simp[hφ])
  refine⟨so,g,_,o, ?_,h2, ?_,(h.frame 0 o fr (by rw[hφ];rfl) (by rw[ji];rfl)).1,rfl⟩
  ·rw[h1];simp[hφ];omega
  ·rw [hφ,List.reverse_cons,List.map_append,List.append_assoc,List.getElem?_append_right (by simp;omega)]
   simp[xJ,show r.length - φ.length=0 by omega]
theorem PG (h:Inv p T W y m loc s) {fr:Fr} {r:List Fr} (ji:m.st=fr::r) (hs:r.length<1000000) : ∃ o,y.φ[0]? = some o∧s.ah[o]? = some (pw y.κ fr)∧aF Tryz.prog kL [.ptr 0 0] s (.ptr o 0) s:=by
 obtain⟨so,g,cells,o,h1,h2,h3,h4,h5⟩:=h.VZ ji
 refine⟨o,h5,h4, ?_⟩
 have hm:=h.jF
 rw[fx,h1]at hm
 have hw:IntKind.wrap .i64 (((r.length+1:Nat):Int) - 1)=((r.length:Nat):Int):=by rw[show((r.length+1:Nat):Int) - 1=(r.length:Int) by omega];exact ek (by omega) (by omega)
 have hl:(r.length<r.length+1)=True:=by simp
 refine bM.uD Az rfl fun B Q hB hQ=>?_
 have⟨hD,hY,hZ,gA⟩:=bR
 repeat' (first
 |simp only[go_sem,hD,hY,hZ,gA,hm,hw,h2,h3,hl,Nat.mul_one]
 |(with_reducible first|refine bo fun hc=>?_|refine bp fun hc=>?_|refine bq (fun hc=>?_) fun hc=>?_)<;>(try simp only[hc,bs,↓reduceIte]at h)<;>try simp only[hc]
 |(with_reducible refine aE hQ ?_;(try cases h);simp only[aV,aX,bH,bI,go_sem,hD,hY,hZ,gA,hm,hw,h2,h3,hl,Nat.mul_one];try exact cq)
 |(cases h;done))
 (refine gL hQ ?_;simp only[aV,aX,bH,bI,go_sem])
theorem Ct (h:Inv p T W y m loc s) {fr:Fr} {r:List Fr} (ji:m.st=fr::r) (hs:r.length<1000000) (hn:fr.names.length<1000000) {name:aG} {j c:Nat} (hj:jf name 0 fr.names=(j:Int)) (hc:fr.vars[j]? = some c) :
 aF Tryz.prog iL [.ptr 0 0, .str name] s (.ptr (y.κ.getD c 0) 0) s:=by
 obtain⟨o,_,h1,c1⟩:=PG h ji hs
 have c2:=fun s=>Cf (l:=fr.names) (by omega) name s
 rw[hj]at c2
 rw[pw]at h1
 refine bM.uD ym rfl fun B Q hB hQ=>?_
 have⟨hD,hY,hZ,gA⟩:=bR
 repeat' (first
 |simp only[go_sem,hD,hY,hZ,gA,h1,hc,fl,Option.map_some]
 |(with_reducible refine CU (c1) ?_)
 |(with_reducible refine CU (c2 _) ?_)
 |(with_reducible first|refine bo fun hc=>?_|refine bp fun hc=>?_|refine bq (fun hc=>?_) fun hc=>?_)<;>(try simp only[hc,bs,↓reduceIte]at h)<;>try simp only[hc]
 |(with_reducible refine aE hQ ?_;(try cases h);simp only[aV,aX,bH,bI,go_sem,hD,hY,hZ,gA,h1,hc,fl,Option.map_some];try exact cq)
 |(cases h;done))
 (refine gL hQ ?_;simp only[aV,aX,bH,bI,go_sem])
abbrev Rl (p:Pg) (T W:List Int) (d:D) (m':Mc) (X:Lay→Prop) (loc:List (Nat×List D)):D→St→Prop:=fun d' s'=>d'=d∧∃ y',X y'∧Inv p T W y' m' loc s'
theorem Mq (h:Inv p T W y m loc s) (hW:W.length<1000000) (ht:m.trace.length<2000000) (id:Int) (bK:List Int) :
 bM Tryz.prog eA [.ptr 0 0, .int .i64 id, .slice .shared 1 (bK.map bT)] s (Rl p T W (.tuple []) (m.event W id bK) (· = y) loc):=by
 have hm:=h.jF
 rw[fx]at hm
 have hl:=h.uI
 have c1:=fun s=>Lv (l:=W) (by omega) id s
 have eQ:gY 2 32 (.slice (.tok 1) 2 (m.trace.map gC)) (.slice .full 2 [[.int .i64 id, .slice .shared 1 (bK.map bT)]]) s=some (.slice (.tok 1) 2 ((m.trace++ [(id,bK)]).map gC),⟨s.ah,s.aw.set 1 (some (m.trace.length+1))⟩):=by
  rw[mH (size:=2) (bytes:=32) (by simp only[List.length_map,List.length_singleton];unfold bC;omega) (by simpa using h.t1)]
  simp[gC]
 refine bM.uD yo rfl fun B Q hB hQ=>?_
 have⟨hD,hY,hZ,gA⟩:=bR
 cases hb:W.contains id
 ·repeat' (first
 |simp only[go_sem,hD,hY,hZ,gA,hm,hb]
 |(with_reducible refine CU (c1 _) ?_)
 |(with_reducible first|refine bo fun hc=>?_|refine bp fun hc=>?_|refine bq (fun hc=>?_) fun hc=>?_)<;>(try simp only[hc,bs,↓reduceIte]at h)<;>try simp only[hc]
 |(with_reducible refine aE hQ ?_;(try cases h);simp only[aV,aX,bH,bI,go_sem,hD,hY,hZ,gA,hm,hb];try exact cq)
 |(cases h;done))
  (refine gL hQ ?_;simp only[aV,aX,bH,bI,go_sem])
  refine⟨rfl,y,rfl, ?_⟩
  unfold Mc.event
  rw[hb]
  exact h
 ·repeat' (first
 |simp only[go_sem,hD,hY,hZ,gA,hm,hb,eQ,hl]
 |(with_reducible refine CU (c1 _) ?_)
 |(with_reducible first|refine bo fun hc=>?_|refine bp fun hc=>?_|refine bq (fun hc=>?_) fun hc=>?_)<;>(try simp only[hc,bs,↓reduceIte]at h)<;>try simp only[hc]
 |(with_reducible refine aE hQ ?_;(try cases h);simp only[aV,aX,bH,bI,go_sem,hD,hY,hZ,gA,hm,hb,eQ,hl];try exact cq)
 | (cases h;done))
  (refine gL hQ ?_;simp only[aV,aX,bH,bI,go_sem])
  refine⟨rfl,y,rfl, ?_⟩
  have:=h.tQ (m':=m.event W id bK) (ts:=s.aw.set 1 (some (m.trace.length+1))) (dT W m id bK).1 (dT W m id bK).2.1 (by rw[(dT W m id bK).2.2.2.2.2,List.getElem?_set_ne (by omega)];exact h.t0) (by
   unfold Mc.event
   rw[hb]
   simp[(List.getElem?_eq_some_iff.1 h.t1).1])
  unfold Mc.event at this ⊢
  rw[hb,if_pos rfl]at this ⊢
  simp only[fx,List.map_append,List.map_cons,List.map_nil]at this
  exact this
theorem Mr (l:List Sm) (hl:l.length<4611686018427387904) (o:Int) (s:St):aF Tryz.prog qa [.slice .shared 13 (l.map bh), .int .i64 o] s (.int .i64 (firstM l o)) s:=by
 refine aF.pure ?_ (by simp[D.bL,D.ok,Tag.ok,pD]) rfl s
 unfold S0
 cases l with
 |nil=>
  have e:decide ((0:Int) > 0)=false:=rfl
  simp only[firstM,ga,List.map_nil]
  refine aF.go Ao rfl fun B Q hB hQ=>?_
  have⟨hD,hY,hZ,gA⟩:=bR
  repeat' (first
 |simp only[go_sem,hD,hY,hZ,gA,e]
 |(with_reducible first|refine bo fun hc=>?_|refine bp fun hc=>?_|refine bq (fun hc=>?_) fun hc=>?_)<;>(try simp only[hc,bs,↓reduceIte]at h)<;>try simp only[hc]
 |(with_reducible refine aE hQ ?_;(try cases h);simp only[aV,aX,bH,bI,go_sem,hD,hY,hZ,gA,e];try exact cq)
 |(cases h;done))
 |cons a l=>
  have e:decide (((l.length+1:Nat):Int) > 0)=true:=by simp
  simp only[firstM,ga,List.map_cons]
  refine aF.go Ao rfl fun B Q hB hQ=>?_
  have⟨hD,hY,hZ,gA⟩:=bR
  repeat' (first
 |simp only[go_sem,hD,hY,hZ,gA,e]
 |(with_reducible first|refine bo fun hc=>?_|refine bp fun hc=>?_|refine bq (fun hc=>?_) fun hc=>?_)<;>(try simp only[hc,bs,↓reduceIte]at h)<;>try simp only[hc]
 |(with_reducible refine aE hQ ?_;(try cases h);simp only[aV,aX,bH,bI,go_sem,hD,hY,hZ,gA,e];try exact cq)
 |(cases h;done))
end
end Go.Abs
namespace Go.Abs
set_option maxRecDepth 8000
open Go.Proofs
section
variable {p:Pg} {T W:List Int} {y:Lay} {m:Mc} {loc:List (Nat×List D)} {s:St}
theorem Kq {s:St} {o g z bytes:Nat} {t:Tag} {cs more r:List D} {len:Nat} (hs:s.ah[o]? = some (.int .i64 (g:Int)::(cs++more))) (hl:cs.length=len*z) (hm:(len+1)*(bytes+1)≤bC) :
 AW z bytes (.eB z o g len) (.slice t z [r]) s=some (.eB z o (g+1) (len+1),⟨s.ah.set o (.int .i64 ((g+1:Nat):Int)::(cs++r)),s.aw⟩):=by
 have ha:nO s o g=some (cs++more):=by unfold nO;rw[hs];simp
 simp only[AW,ha,List.length_singleton,hm,or_true,and_self,if_true,List.flatten_cons,List.flatten_nil,List.append_nil]
 rw[if_pos (by simp;omega), ← hl,List.take_append_of_le_length (Nat.le_refl _),List.take_length]
theorem Wk.ahN (z z':Nat):Wk (.ew z) (.slice .shared z' []):=fun M s v h=>by
 cases h with
 |ew _ a=>cases a with
  |none=>exact .iA _ _ _ rfl trivial
  |some a=>exact .lC _ _ _
theorem aF.ahO {P:Program} {f:FuncId} {a b:D} {d:D} {s:St} {v:D} {l:List Int} (hv:jE s v (l.map qD)) (h : ∀ s,aF P f [a,b, .slice .shared 1 (l.map bT)] s d s) (ha:D.ok 0 0 a=true) (hb:D.ok 0 0 b=true) (hd:d.flat=true) :
 aF P f [a,b,v] s d s:=by
 rcases hv with ⟨rfl,e⟩|⟨o,g,more,rfl,e⟩
 ·have:l = []:=by simpa using e
  subst this
  exact bM.qu (.cons (Wk.refl _) (.cons (Wk.refl _) (.cons (Wk.ahN 1 1) .nil))) (h s)
 ·have ei : ∀ l:List Int,(l.map bT).flatten=l.map qD:=fun l=>by
   induction l with
   |nil=>rfl
   |cons x l ih=>simp only[List.map_cons,List.flatten_cons,ih];rfl
  have hlen:(l.map qD).length=(l.map bT).length:=by simp
  rw[hlen]
  have e0:D.jw o g (l.map bT) [a,b, .eB 1 o g (l.map bT).length] = [a,b, .slice .shared 1 (l.map bT)]:=by
   simp only[D.jw,Jo _ _ _ a ha,Jo _ _ _ b hb,D.fK,and_self,if_true]
  refine aF.aj4 (k:=2) (rows:=l.map bT) rfl (by rw[ei];exact e) (by intro r hr;obtain⟨x,_,rfl⟩:=List.mem_map.1 hr;rfl) ?_ ?_ hd
  ·rw[e0];exact h S0
  ·rw[e0];simp[D.bL,D.ok,Tag.ok,ha,hb,iN]
structure mT (m:Mc) (fr:Fr) (r:List Fr):Prop where
 st:m.st=fr::r
 len:r.length<1000000
 names:fr.names.length<1000000
 vars:fr.vars.length<1000000
theorem mT.top {fr:Fr} {r:List Fr} (h:mT m fr r):m.top=fr:=by simp[Mc.top,h.st]
theorem SO {fr:Fr} {k c:Nat} {rest:List Nat} (h:fr.vars.drop k=c::rest) (m:Mc):(fr.vars.take (k+1)).map (fun c=>m.mem.getD c 0)=(fr.vars.take k).map (fun c=>m.mem.getD c 0)++ [m.mem.getD c 0]:=by
 have:=(drop_cons h).1
 rw[List.take_add_one,this]
 simp
theorem DT (h:Inv p T W y m loc s) {fr:Fr} {r:List Fr} (ht:mT m fr r) {x:Ex} (hx:x.size<1000000) (htx:x.texts) :
 bM Tryz.prog jV [.ptr 0 0, .agg (cd x)] s (fun d s'=>Rl p T W (zS (m.bA x).1) (m.bA x).2 (fun y'=>y' = {y with vd:=y'.vd}) loc d s'∧s'.aw=s.aw):=by
 have h1:=h.new (cd x)
 generalize Yf:(s.ah.length,cd x)::loc=V0 at h1
 obtain⟨o,ho,SP,c1⟩:=PG h1 ht.st ht.len
 have hm:=h1.jF
 rw[fx]at hm
 have hl:=h1.uI
 simp only at hm hl
 rw[pw]at SP
 have hvl:=ht.vars
 have Qx:=ht.names
 refine bM.uD yn rfl fun B Q hB hQ=>?_
 have⟨hD,hY,hZ,gA⟩:=bR
 -- the rounds
 have loop : ∀ (n k:Nat) (rest:List Nat) (vd:D) (s2:St),s2.aw=s.aw→rest.length=n→fr.vars.drop k=rest→Inv p T W {y with vd:=vd} m V0 s2→jE s2 vd (((fr.vars.take k).map fun c=>m.mem.getD c 0).map qD)→
  bt Tryz.prog B 64 QQN (kB 0 (nR (kb Tryz.prog B 64 QQZ Q) Q)) [(0, .ptr 0 0),(3, .ptr s.ah.length 0),(6, .ptr o 0),(24, .slice .shared 1 (fr.vars.map fun c=>fl (y.κ.getD c 0))),(25, .int .i64 (fr.vars.length:Int)),(26, .int .i64 (k:Int))] s2:=by
  intro n
  induction n with
  | zero=>
   intro k rest vd s2 vq A4 hd h2 ha
   have:rest = []:=List.eq_nil_of_length_eq_zero A4
   subst this
   have hD:=drop_nil hd
   have hk:fr.vars.take k=fr.vars:=List.take_of_length_le (List.drop_eq_nil_iff.1 hd)
   rw[hk]at ha
   have Yg:(fr.vars.map fun c=>m.mem.getD c 0)=m.bK:=by unfold Mc.bK;rw[ht.top]
   rw[Yg]at ha
   have jD:=h2.jF
   rw[fx]at jD
   have iX:=h2.uI
   have Hu:=(h2.frame 0 o fr ho (by rw[ht.st];rfl)).1
   rw[pw]at Hu
   have tF:=(h2.loc (s.ah.length,cd x) (by rw[← Yf];exact List.mem_cons_self ..)).1
   simp only at jD Hu tF
   have c2:aF Tryz.prog wG [.agg (cd x), .slice .shared 1 (fr.names.map encStr),vd] s2 (zS (x.bA fr.names m.bK)) s2:=
    aF.ahO ha (fun s=>VY (by omega) htx (by omega) (by rw[← Yg,List.length_map];omega) s) (by simp[D.ok,lT]) (by simp[D.ok,Tag.ok,fb]) (by simp[D.flat,D.Eo])
   have hw:(m.bA x).1=x.bA fr.names m.bK:=by unfold Mc.bA;rw[ht.top]
   generalize hr:x.bA fr.names m.bK=q at *
   have tr:(m.bA x).2=if q.2 then m else {m with fin:=4}:=by unfold Mc.bA;rw[ht.top,hr]
   obtain⟨q1,q2⟩:=q
   have vS:Inv p T W {y with vd:=vd} {m with fin:=4} V0 ⟨s2.ah.set 0 (fx p T W {y with vd:=vd} {m with fin:=4}),s2.aw⟩:=h2.tQ (m':= {m with fin:=4}) rfl rfl h2.t0 h2.t1
   rw[fx]at vS
   have nG : ∀ q∈loc,q∈V0:=fun q mq=>by rw[← Yf];exact List.mem_cons_of_mem _ mq
   refine bt.kR ?_
   cases q2
   ·repeat' (first
 |simp only[go_sem,hD,hY,hZ,gA,jD,iX,Hu,tF]
 |(with_reducible refine CU (c2) ?_)
 |(with_reducible first|refine bo fun hc=>?_|refine bp fun hc=>?_|refine bq (fun hc=>?_) fun hc=>?_)<;>(try simp only[hc,bs,↓reduceIte]at h)<;>try simp only[hc]
 |(with_reducible refine aE hQ ?_;(try cases h);simp only[aV,aX,bH,bI,go_sem,hD,hY,hZ,gA,jD,iX,Hu,tF];try exact cq)
 |(cases h;replace h:=hr;clear hr;(try simp only[bs,↓reduceIte]at h))
 | (cases h;done))
    (refine gL hQ ?_;simp only[aV,aX,bH,bI,go_sem])
    refine⟨⟨by rw[hw],{y with vd:=vd},rfl, ?_⟩,vq⟩
    rw[tr]
    exact vS.sub nG
   ·repeat' (first
 |simp only[go_sem,hD,hY,hZ,gA,jD,iX,Hu,tF]
 |(with_reducible refine CU (c2) ?_)
 |(with_reducible first|refine bo fun hc=>?_|refine bp fun hc=>?_|refine bq (fun hc=>?_) fun hc=>?_)<;>(try simp only[hc,bs,↓reduceIte]at h)<;>try simp only[hc]
 |(with_reducible refine aE hQ ?_;(try cases h);simp only[aV,aX,bH,bI,go_sem,hD,hY,hZ,gA,jD,iX,Hu,tF];try exact cq)
 |(cases h;replace h:=hr;clear hr;(try simp only[bs,↓reduceIte]at h))
 | (cases h;done))
    (refine gL hQ ?_;simp only[aV,aX,bH,bI,go_sem])
    refine⟨⟨by rw[hw],{y with vd:=vd},rfl, ?_⟩,vq⟩
    rw[tr]
    exact h2.sub nG
  | succ n ih=>
   intro k rest vd s2 vq A4 hd h2 ha
   cases rest with
   |nil=>cases A4
   | cons c rest=>
    obtain⟨hY,g2,hD,g4⟩:=drop_cons hd
    have bU:k<4611686018427387904:=by omega
    have SQ:c<m.mem.length:=(h2.frame 0 o fr ho (by rw[ht.st];rfl)).2.2 c (List.mem_of_getElem? hY)
    have hκ:y.κ[c]? = some (y.κ.getD c 0):=by
     rw[List.getD_eq_getElem?_getD,List.getElem?_eq_getElem (by have:=h2.len;simp only at this;omega)];rfl
    have gV:=h2.cell c _ _ hκ (by rw[List.getElem?_eq_getElem SQ])
    have oZ:m.mem[c] = m.mem.getD c 0:=by rw[List.getD_eq_getElem?_getD,List.getElem?_eq_getElem SQ];rfl
    rw[oZ]at gV
    generalize ahP:m.mem.getD c 0=v at gV
    have jD:=h2.jF
    rw[fx]at jD
    have iX:=h2.uI
    simp only at jD
    have hlen:k<1000000:=by have:=ht.vars;omega
    have hvt:((fr.vars.take (k+1)).map fun c=>m.mem.getD c 0).map qD=((fr.vars.take k).map fun c=>m.mem.getD c 0).map qD++ [.int .i64 v]:=by
     rw[SO hd m,ahP,List.map_append];rfl
    rcases ha with ⟨rfl,e⟩|⟨vo,g,more,rfl,e⟩
    ·have eQ:=Jm (z:=1) (bytes:=8) .full [.int .i64 v] s2 (by unfold bC;omega)
     have h3:=h2.PC (vd:= .eB 1 s2.ah.length 0 1) (s1:=⟨s2.ah++ [[.int .i64 ((0:Nat):Int), .int .i64 v]],s2.aw⟩) (fun o r e _=>by rw[List.getElem?_append_left (fW e)];exact e)
      ⟨[v], .inr ⟨_,0,[],rfl,by simp[qD]⟩⟩ (.inr (.inr rfl)) rfl
     rw[fx]at h3
     simp only at h3
     refine bt.kR ?_
     have hA : ∀ e:List (List D),(s2.ah++e)[0]? = s2.ah[0]? :=fun e=>List.getElem?_append_left iX
     repeat' (first
 |simp only[go_sem,hD,hY,hZ,gA,jD,iX,gV,hY,fl,eQ,Option.map_some,hA]
 |(with_reducible first|refine bo fun hc=>?_|refine bp fun hc=>?_|refine bq (fun hc=>?_) fun hc=>?_)<;>(try simp only[hc,bs,↓reduceIte]at h)<;>try simp only[hc]
 |(with_reducible refine aE hQ ?_;(try cases h);simp only[aV,aX,bH,bI,go_sem,hD,hY,hZ,gA,jD,iX,gV,hY,fl,eQ,Option.map_some,hA];try exact cq)
 |(cases h;replace h:=hr;clear hr;(try simp only[bs,↓reduceIte]at h))
 | (cases h;done))
     refine bt.pM ?_ (ih (k+1) rest _ _ vq (by simpa using A4) g2 h3 ?_)
     ·simp only [go_sem,aI bU,fl]
      repeat' (first|exact Ok.out|with_reducible refine iZ ?_ ?_)
     ·rw [hvt,e]
      refine .inr ⟨_,0,[],rfl, ?_⟩
      show((s2.ah++ [_]).set 0 _)[s2.ah.length]? = _
      rw[List.getElem?_set_ne (by omega)]
      simp
    ·have oK:(((fr.vars.take k).map fun c=>m.mem.getD c 0).map qD).length=k:=by simp;omega
     have eQ:=Kq (t:= .full) (bytes:=8) (r:= [.int .i64 v]) e (len:=k) (z:=1) (by rw[oK,Nat.mul_one]) (by unfold bC;omega)
     rw[oK]at jD h2
     have Hv:0≠vo:=fun e'=>(h2.vW (o:=vo) (by simp[D.arr])) e'.symm
     have dh:jE ⟨s2.ah.set vo (.int .i64 ((g+1:Nat):Int)::(((fr.vars.take k).map fun c=>m.mem.getD c 0).map qD++ [.int .i64 v])),s2.aw⟩ (.eB 1 vo (g+1) (k+1)) (((fr.vars.take k).map fun c=>m.mem.getD c 0).map qD++ [.int .i64 v]):=
      .inr ⟨vo,g+1,[],by simp;omega,by simp[fW e]⟩
     have h3:=h2.PC (vd:= .eB 1 vo (g+1) (k+1)) (s1:=⟨s2.ah.set vo (.int .i64 ((g+1:Nat):Int)::(((fr.vars.take k).map fun c=>m.mem.getD c 0).map qD++ [.int .i64 v])),s2.aw⟩) (fun o r e hn=>by rw[List.getElem?_set_ne (fun e'=>hn (by rw[← e'];simp[D.arr]))];exact e)
      ⟨(fr.vars.take (k+1)).map fun c=>m.mem.getD c 0,by rw[hvt];exact dh⟩ (.inl rfl) rfl
     rw[fx]at h3
     simp only at h3
     refine bt.kR ?_
     have hA : ∀ e:List D,(s2.ah.set vo e)[0]? = s2.ah[0]? :=fun e=>List.getElem?_set_ne (Ne.symm Hv)
     repeat' (first
 |simp only[go_sem,hD,hY,hZ,gA,jD,iX,gV,hY,fl,eQ,Option.map_some,hA]
 |(with_reducible first|refine bo fun hc=>?_|refine bp fun hc=>?_|refine bq (fun hc=>?_) fun hc=>?_)<;>(try simp only[hc,bs,↓reduceIte]at h)<;>try simp only[hc]
 |(with_reducible refine aE hQ ?_;(try cases h);simp only[aV,aX,bH,bI,go_sem,hD,hY,hZ,gA,jD,iX,gV,hY,fl,eQ,Option.map_some,hA];try exact cq)
 |(cases h;replace h:=hr;clear hr;(try simp only[bs,↓reduceIte]at h))
 |(cases h;done))
     refine bt.pM ?_ (ih (k+1) rest _ _ vq (by simpa using A4) g2 h3 ?_)
     ·simp only [go_sem,aI bU,fl]
      repeat' (first|exact Ok.out|with_reducible refine iZ ?_ ?_)
     ·rw [hvt]
      exact dh.keep fun o mo=>by
       have:o=vo:=by simpa[D.arr]using mo
       subst this
       show(List.set _ 0 _)[o]? = _
       rw[List.getElem?_set_ne Hv]
 -- the values' slice is emptied
 obtain⟨l,hv⟩:=h1.bK
 have h0:((s.ah++ [cd x])[0]?).isSome=true:=by rw[hm];rfl
 rcases hv with ⟨e,_⟩|⟨vo,g,more,e,e2⟩
 ·rw [e]at hm
  have uq:xf (.ew 1) none (some (.int .i64 0))=some (.ew 1):=by simp[xf,sW,sX]
  have h3:=h1.PC (vd:= .ew 1) (s1:=⟨s.ah++ [cd x],s.aw⟩) (fun _ _ e _=>e) ⟨[], .inl ⟨rfl,rfl⟩⟩ (.inl (by rw[e])) rfl
  have BU:=(h3.frame 0 o fr ho (by rw[ht.st];rfl)).1
  rw[fx]at h3 BU
  rw[pw]at BU
  simp only at h3 BU
  repeat' (first
 |simp only[go_sem,hD,hY,hZ,gA,hm,hl,SP,uq,BU]
 |(with_reducible refine CU (c1) ?_)
 |(with_reducible first|refine bo fun hc=>?_|refine bp fun hc=>?_|refine bq (fun hc=>?_) fun hc=>?_)<;>(try simp only[hc,bs,↓reduceIte]at h)<;>try simp only[hc]
 |(with_reducible refine aE hQ ?_;(try cases h);simp only[aV,aX,bH,bI,go_sem,hD,hY,hZ,gA,hm,hl,SP,uq,BU];try exact cq)
 |(cases h;replace h:=hr;clear hr;(try simp only[bs,↓reduceIte]at h))
 |(cases h;done))
  refine bt.pM ?_ (loop _ 0 fr.vars _ _ rfl rfl rfl h3 (.inl ⟨rfl,rfl⟩))
  simp only[go_sem,fl]
  repeat' (first|exact Ok.out|with_reducible refine iZ ?_ ?_)
 ·rw [List.length_map]at e
  rw[e]at hm
  have Hv:0≠vo:=fun e'=>(h1.vW (o:=vo) (by rw[e];simp[D.arr])) e'.symm
  have uq:xf (.eB 1 vo g l.length) none (some (.int .i64 0))=some (.eB 1 vo g 0):=by simp[xf,sW,sX]
  have h3:=h1.PC (vd:= .eB 1 vo g 0) (s1:=⟨s.ah++ [cd x],s.aw⟩) (fun _ _ e _=>e) ⟨[], .inr ⟨vo,g,l.map qD++more,rfl,e2⟩⟩ (.inl (by rw[e];rfl)) rfl
  have BU:=(h3.frame 0 o fr ho (by rw[ht.st];rfl)).1
  rw[fx]at h3 BU
  rw[pw]at BU
  simp only at h3 BU
  repeat' (first
 |simp only[go_sem,hD,hY,hZ,gA,hm,hl,SP,uq,BU]
 |(with_reducible refine CU (c1) ?_)
 |(with_reducible first|refine bo fun hc=>?_|refine bp fun hc=>?_|refine bq (fun hc=>?_) fun hc=>?_)<;>(try simp only[hc,bs,↓reduceIte]at h)<;>try simp only[hc]
 |(with_reducible refine aE hQ ?_;(try cases h);simp only[aV,aX,bH,bI,go_sem,hD,hY,hZ,gA,hm,hl,SP,uq,BU];try exact cq)
 |(cases h;replace h:=hr;clear hr;(try simp only[bs,↓reduceIte]at h))
 | (cases h;done))
  refine bt.pM ?_ (loop _ 0 fr.vars _ _ rfl rfl rfl h3 (.inr ⟨vo,g,l.map qD++more,rfl, ?_⟩))
  ·simp only [go_sem,fl]
   repeat' (first|exact Ok.out|with_reducible refine iZ ?_ ?_)
  ·show(List.set _ 0 _)[vo]? = _
   rw[List.getElem?_set_ne Hv];exact e2
end
end Go.Abs
namespace Go.Abs
set_option maxRecDepth 8000
open Go.Proofs
section
variable {p:Pg} {T W:List Int} {y:Lay} {m:Mc} {loc:List (Nat×List D)} {s:St}
theorem Dm:Wk (.slice .full 0 []) (.slice .shared 1 (([] : List Int).map bT)):=Wk.nil _ _ _
theorem vY (h:Inv p T W y m loc s) (hW:W.length<1000000) (ht:m.trace.length<2000000) (id:Int) :
 bM Tryz.prog eA [.ptr 0 0, .int .i64 id, .slice .full 0 []] s (Rl p T W (.tuple []) (m.event W id []) (· = y) loc):=
 bM.qu (.cons (Wk.refl _) (.cons (Wk.refl _) (.cons Dm .nil))) (Mq h hW ht id [])
theorem DU (h:Inv p T W y m loc s) (hW:W.length<1000000) (ht:m.trace.length<2000000) (id n:Int) :
 bM Tryz.prog eA [.ptr 0 0, .int .i64 id, .slice .full 1 [[.int .i64 n]]] s (Rl p T W (.tuple []) (m.event W id [n]) (· = y) loc):=
 bM.qu (.cons (Wk.refl _) (.cons (Wk.refl _) (.cons (Wk.shared _ _ _) .nil))) (Mq h hW ht id [n])
theorem aae (h:Inv p T W y m loc s) {fr:Fr} {r:List Fr} (ht:mT m fr r) {v:Sm} (hv:v.nz) (hW:W.length<1000000) (htr:m.trace.length<2000000) :
 bM Tryz.prog oB [.ptr 0 0, .agg (bh v)] s (Rl p T W (.int .i64 (m.fa W v).1) (m.fa W v).2 (fun y'=>y' = {y with vd:=y'.vd}) loc):=by
 have h1:=h.new (bh v)
 have hx:(s.ah++ [bh v])[s.ah.length]? = some (bh v):=by simp
 have nG : ∀ q∈loc,q∈(s.ah.length,bh v)::loc:=fun q mq=>List.mem_cons_of_mem _ mq
 refine bM.uD yk rfl fun B Q hB hQ=>?_
 have⟨hD,hY,hZ,gA⟩:=bR
 rcases Bool.eq_false_or_eq_true v.has with b|b
 ·have c1:=DT h1 ht (x:=v.x) (by have:=hv.2.2;omega) hv.1
  repeat' (first
 |simp only[go_sem,hD,hY,hZ,gA,hx,b]
 |(with_reducible first|refine bo fun hc=>?_|refine bp fun hc=>?_|refine bq (fun hc=>?_) fun hc=>?_)<;>(try simp only[hc,bs,↓reduceIte]at h)<;>try simp only[hc]
 |(with_reducible refine aE hQ ?_;(try cases h);simp only[aV,aX,bH,bI,go_sem,hD,hY,hZ,gA,hx,b];try exact cq)
 | (cases h;done))
  refine CR c1 fun d s2 h2=>?_
  obtain⟨⟨rfl,y2,vZ,h2⟩,_⟩:=h2
  have tF:=(h2.loc (s.ah.length,bh v) (List.mem_cons_self ..)).1
  have hw:=fB m v.x
  simp only at tF
  rcases Bool.eq_false_or_eq_true (m.bA v.x).1.2 with b2|b2
  ·have c2:=DU h2 hW (by rw [hw.2.2.2.2.2];exact htr) v.id (m.bA v.x).1.1
   repeat' (first
 |simp only[go_sem,hD,hY,hZ,gA,tF,b2]
 |(with_reducible first|refine bo fun hc=>?_|refine bp fun hc=>?_|refine bq (fun hc=>?_) fun hc=>?_)<;>(try simp only[hc,bs,↓reduceIte]at h)<;>try simp only[hc]
 |(with_reducible refine aE hQ ?_;(try cases h);simp only[aV,aX,bH,bI,go_sem,hD,hY,hZ,gA,tF,b2];try exact cq)
 | (cases h;done))
   refine CR c2 fun d s3 h3=>?_
   obtain⟨rfl,y3,rfl,h3⟩:=h3
   repeat' (first
 |simp only[go_sem,hD,hY,hZ,gA]
 |(with_reducible first|refine bo fun hc=>?_|refine bp fun hc=>?_|refine bq (fun hc=>?_) fun hc=>?_)<;>(try simp only[hc,bs,↓reduceIte]at h)<;>try simp only[hc]
 |(with_reducible refine aE hQ ?_;exact fV)
 | (cases h;done))
   (refine gL hQ ?_;simp only[aV,aX,bH,bI,go_sem])
   refine⟨by simp only[Mc.fa,b,if_true],y3,vZ, ?_⟩
   simp only[Mc.fa,b,b2,if_true]
   exact h3.sub nG
  ·repeat' (first
 |simp only[go_sem,hD,hY,hZ,gA,tF,b2]
 |(with_reducible first|refine bo fun hc=>?_|refine bp fun hc=>?_|refine bq (fun hc=>?_) fun hc=>?_)<;>(try simp only[hc,bs,↓reduceIte]at h)<;>try simp only[hc]
 |(with_reducible refine aE hQ ?_;(try cases h);simp only[aV,aX,bH,bI,go_sem,hD,hY,hZ,gA,tF,b2];try exact cq)
 | (cases h;done))
   (refine gL hQ ?_;simp only[aV,aX,bH,bI,go_sem])
   refine⟨by simp only[Mc.fa,b,if_true],y2,vZ, ?_⟩
   simp only[Mc.fa,b,b2,if_true,Bool.false_eq_true,if_false]
   exact h2.sub nG
 ·have c1:=vY h1 hW htr v.id
  repeat' (first
 |simp only[go_sem,hD,hY,hZ,gA,hx,b]
 |(with_reducible first|refine bo fun hc=>?_|refine bp fun hc=>?_|refine bq (fun hc=>?_) fun hc=>?_)<;>(try simp only[hc,bs,↓reduceIte]at h)<;>try simp only[hc]
 |(with_reducible refine aE hQ ?_;(try cases h);simp only[aV,aX,bH,bI,go_sem,hD,hY,hZ,gA,hx,b];try exact cq)
 |(cases h;done))
  refine CR c1 fun d s2 h2=>?_
  obtain⟨rfl,y2,rfl,h2⟩:=h2
  repeat' (first
 |simp only[go_sem,hD,hY,hZ,gA]
 |(with_reducible first|refine bo fun hc=>?_|refine bp fun hc=>?_|refine bq (fun hc=>?_) fun hc=>?_)<;>(try simp only[hc,bs,↓reduceIte]at h)<;>try simp only[hc]
 |(with_reducible refine aE hQ ?_;exact fV)
 |(cases h;done))
  (refine gL hQ ?_;simp only[aV,aX,bH,bI,go_sem])
  refine⟨by simp only[Mc.fa,b,Bool.false_eq_true,if_false],y2,rfl, ?_⟩
  simp only[Mc.fa,b,Bool.false_eq_true,if_false]
  exact h2.sub nG
end
end Go.Abs
namespace Go.Abs
set_option maxRecDepth 8000
open Go.Proofs
section
variable {p:Pg} {T W:List Int} {y:Lay} {m:Mc} {loc:List (Nat×List D)} {s:St}
theorem gD.setAt : ∀ {l:List (List D)} {i:Nat} {r r':List D},l[i]? = some r→jr r r'→gD l (l.set i r')
 |a::l,0,r,r',h,w=>by simp at h;subst h;exact .cons w (gD.refl l)
 |a::l,i+1,r,r',h,w=> .cons (jr.refl a) (gD.setAt (l:=l) (by simpa using h) w)
def Lay.push (y:Lay) (n K:Nat) (sd:D):Lay:= {y with κ:=y.κ++(List.range K).map (n+2 + ·),φ:=(n+1)::y.φ,sd:=sd}
theorem V1 {κ:List Nat} {n K j:Nat} (hj:j<K):(κ++(List.range K).map (n+2 + ·)).getD (κ.length+j) 0=n+2+j:=by
 rw[List.getD_eq_getElem?_getD,List.getElem?_append_right (by omega),show κ.length+j - κ.length=j by omega]
 simp[hj]
theorem DV {κ e:List Nat} {c:Nat} (hc:c<κ.length):(κ++e).getD c 0=κ.getD c 0:=by
 rw[List.getD_eq_getElem?_getD,List.getD_eq_getElem?_getD,List.getElem?_append_left hc]
theorem PH {κ:List Nat} {n:Nat} (h:n≤κ.length):(List.range n).map (fun c=>κ.getD c 0)=κ.take n:=by
 apply List.ext_getElem?
 intro i
 simp only[List.getElem?_map]
 by_cases hi:i<n
 ·rw [List.getElem?_range hi,List.getElem?_take_of_lt hi,List.getElem?_eq_getElem (show i<κ.length by omega)]
  simp[List.getD_eq_getElem?_getD,List.getElem?_eq_getElem (show i<κ.length by omega)]
 ·rw[List.getElem?_eq_none (by simp;omega),List.getElem?_eq_none (by simp;omega)];rfl
theorem Inv.push (h:Inv p T W y m loc s) {K:Nat} {sd:D} {fr:Fr} {s':St} (hg:p.globals.length≤m.mem.length) (hfv : ∀ c∈fr.vars,c<m.mem.length+K)
 (k : ∀ (o:Nat) (r:List D),s.ah[o]? = some r→o≠0→o∉y.sd.arr→s'.ah[o]? = some r)
 (k0:s'.ah[0]? = some (fx p T W (y.push s.ah.length K sd) m)) (kc : ∀ j,j<K→s'.ah[s.ah.length+2+j]? = some [.int .i64 0])
 (kf:s'.ah[s.ah.length+1]? = some (pw (y.push s.ah.length K sd).κ fr)) (ks:jE s' sd ((y.push s.ah.length K sd).φ.reverse.map xJ)) (rW:sd.arr=y.sd.arr∨sd.arr = [s.ah.length+2+K])
 (t0:s'.aw[0]? = s.aw[0]?) (t1:s'.aw[1]? = s.aw[1]?) :
 Inv p T W (y.push s.ah.length K sd) {m with st:=fr::m.st,mem:=m.mem++List.replicate K 0} loc s':=by
 have Am:=h.own
 rw[Lay.own,List.nodup_cons,List.nodup_append,List.nodup_append]at Am
 obtain⟨n0,nκ,⟨ns,nv,Yd⟩,Ko⟩:=Am
 have lt:=h.tD
 have ltκ : ∀ c∈y.κ,c<s.ah.length:=fun c mc=>lt c (by simp[Lay.own,mc])
 have lts : ∀ c∈y.sd.arr,c<s.ah.length:=fun c mc=>lt c (by simp[Lay.own,mc])
 have ltv : ∀ c∈y.vd.arr,c<s.ah.length:=fun c mc=>lt c (by simp[Lay.own,mc])
 have uI:=h.uI
 have Kp : ∀ o,o∈(y.push s.ah.length K sd).own→o∈y.own∨(s.ah.length+2≤o∧o≤s.ah.length+2+K):=fun o mo=>by
  simp only[Lay.own,Lay.push,List.mem_cons,List.mem_append,List.mem_map,List.mem_range]at mo ⊢
  rcases mo with rfl|(mo|⟨j,hj,rfl⟩)|mo|mo
  ·exact .inl (.inl rfl)
  ·exact .inl (.inr (.inl mo))
  ·exact .inr ⟨by omega,by omega⟩
  ·rcases rW with e | e
   ·rw[e]at mo;exact .inl (.inr (.inr (.inl mo)))
   ·rw[e]at mo;have:=List.mem_singleton.1 mo;exact .inr ⟨by omega,by omega⟩
  ·exact .inl (.inr (.inr (.inr mo)))
 have g : ∀ {o:Nat} {r:List D},s.ah[o]? = some r→o∉y.own→s'.ah[o]? = some r∧o∉(y.push s.ah.length K sd).own:=fun {o r} e hn=>by
  refine⟨k o r e (fun e0=>hn (by rw[e0];simp[Lay.own])) (fun ms=>hn (by simp[Lay.own,ms])),fun mo=>?_⟩
  rcases Kp o mo with mo|mo
  ·exact hn mo
  ·have:=fW e;omega
 have hlen:=h.len
 refine⟨k0,by rw[t0];exact h.t0,by rw[t1];exact h.t1,by simp[Lay.push,hlen],fun i c v e1 e2=>?_,by simp[Lay.push,h.sy],fun i o Ms e1 e2=>?_,ks, ?_, ?_,fun q mq=>g (h.loc q mq).1 (h.loc q mq).2⟩
 ·simp only [Lay.push]at e1
  dsimp only at e2
  rcases Nat.lt_or_ge i y.κ.length with hi|hi
  ·rw [List.getElem?_append_left hi]at e1
   rw[List.getElem?_append_left (by omega)]at e2
   have hc:=List.mem_of_getElem? e1
   exact k c _ (h.cell i c v e1 e2) (h.vW (by simp[hc])) (fun ms=>Ko c hc c (List.mem_append_left _ ms) rfl)
  ·rw [List.getElem?_append_right hi]at e1
   rw[List.getElem?_append_right (by omega)]at e2
   have hD:=(List.getElem?_eq_some_iff.1 e1).1
   simp only[List.length_map,List.length_range]at hD
   rw[List.getElem?_map,List.getElem?_range hD]at e1
   rw[List.getElem?_replicate_of_lt (by omega)]at e2
   simp only[Option.map_some,Option.some.injEq]at e1 e2
   subst e1 e2
   exact kc _ hD
 ·cases i with
  |zero=>
   simp only[Lay.push,List.getElem?_cons_zero,Option.some.injEq]at e1 e2
   subst e1 e2
   refine⟨kf,fun mo=>?_,fun c mc=>by simp only[List.length_append,List.length_replicate];exact hfv c mc⟩
   rcases Kp _ mo with mo|mo
   ·have:=lt _ mo;omega
   ·omega
  |succ i=>
   simp only[Lay.push,List.getElem?_cons_succ]at e1 e2
   obtain⟨f1,f2,f3⟩:=h.frame i o Ms e1 e2
   obtain⟨f4,f5⟩:=g f1 f2
   exact⟨by simp only[Lay.push];rw[Ht (by rw[hlen];exact f3)];exact f4,f5,fun c mc=>by have:=f3 c mc;simp only[List.length_append];omega⟩
 ·obtain⟨l,hl⟩:=h.bK
  refine⟨l,hl.keep fun o mo=>?_⟩
  rw[List.getElem?_eq_getElem (ltv o mo)]
  exact k o _ (List.getElem?_eq_getElem _) (h.vW (by simp[mo])) (fun ms=>Yd o ms o mo rfl)
 ·have SR:((List.range K).map (s.ah.length+2 + ·)).Nodup:=by
   rw[List.nodup_iff_pairwise_ne,List.pairwise_map]
   exact List.Pairwise.imp (fun h=>by omega) (List.nodup_iff_pairwise_ne.1 List.nodup_range)
  have FB : ∀ o∈(List.range K).map (s.ah.length+2 + ·),s.ah.length+2≤o∧o<s.ah.length+2+K:=fun o mo=>by
   obtain⟨j,hj,rfl⟩:=List.mem_map.1 mo
   have:=List.mem_range.1 hj;exact⟨by omega,by omega⟩
  have PI : ∀ o∈sd.arr,(o∈y.sd.arr)∨o=s.ah.length+2+K:=fun o mo=>by
   rcases rW with e|e
   ·rw[e]at mo;exact .inl mo
   ·rw[e]at mo;exact .inr (List.mem_singleton.1 mo)
  simp only[Lay.own,Lay.push]
  rw[List.nodup_cons,List.nodup_append,List.nodup_append,List.nodup_append]
  refine⟨fun mo=>?_,⟨nκ,SR,fun a ma b mb e=>?_⟩,⟨?_,nv,fun a ma b mb e=>?_⟩,fun a ma b mb e=>?_⟩
  ·simp only [List.mem_append]at mo
   rcases mo with (mo|mo)|mo|mo
   ·exact n0 (by simp[mo])
   ·have:=FB _ mo;omega
   ·rcases PI _ mo with mo | mo
    ·exact n0 (by simp[mo])
    ·omega
   ·exact n0 (by simp[mo])
  ·have:=ltκ a ma;have:=FB b mb;omega
  ·rcases rW with e | e <;> rw [e]
   ·exact ns
   ·simp
  ·rcases PI a ma with ma | ma
   ·exact Yd a ma b mb e
   ·have:=ltv b mb;omega
  ·rcases List.mem_append.1 ma with ma | ma
   ·rcases List.mem_append.1 mb with mb | mb
    ·rcases PI b mb with mb | mb
     ·exact Ko a ma b (List.mem_append_left _ mb) e
     ·have:=ltκ a ma;omega
    ·exact Ko a ma b (List.mem_append_right _ mb) e
   ·have:=FB a ma
    rcases List.mem_append.1 mb with mb|mb
    ·rcases PI b mb with mb | mb
     ·have:=lts b mb;omega
     ·omega
    ·have:=ltv b mb;omega
theorem aaf {gl ps:List (List D)} {bytes:Nat} (hb:(gl.length+ps.length)*(bytes+1)≤bC) (ts:List (Option Nat)) : ∃ (g1 g2:Tag) (z1 z2:Nat) (t1 t2:List (Option Nat)),(∀ os,gY 1 bytes (.slice .full 0 []) (.slice .shared 1 gl) ⟨os,ts⟩=some (.slice g1 z1 gl,⟨os,t1⟩))∧
 (∀ os,gY 1 bytes (.slice g1 z1 gl) (.slice .shared 1 ps) ⟨os,t1⟩=some (.slice g2 z2 (gl++ps),⟨os,t2⟩))∧
 ((g2 = .full∧t2=ts∧gl++ps = [])∨(g2 = .tok ts.length∧z2=1∧t2=ts++ [some (gl++ps).length])):=by
 have h1:gl.length*(bytes+1)≤bC:=Nat.le_trans (Nat.mul_le_mul_right _ (Nat.le_add_right _ _)) hb
 have h2:ps.length*(bytes+1)≤bC:=Nat.le_trans (Nat.mul_le_mul_right _ (Nat.le_add_left _ _)) hb
 cases gl with
 |nil=>
  cases ps with
  |nil=>exact⟨.full, .full,0,0,ts,ts,fun os=>qE os ts,fun os=>qE os ts, .inl ⟨rfl,rfl,rfl⟩⟩
  |cons a ps=>exact⟨.full, .tok ts.length,0,1,ts,_,fun os=>qE os ts,fun os=>sA (by simp) h2 os ts, .inr ⟨rfl,rfl,rfl⟩⟩
 |cons a gl=>
  refine⟨.tok ts.length, .tok ts.length,1,1,ts++ [some (a::gl).length],ts++ [some (a::gl++ps).length],fun os=>sA (by simp) h1 os ts,fun os=>?_, .inr ⟨rfl,rfl,rfl⟩⟩
  rw[mH (size:=1) hb (by simp)]
  simp;omega
theorem Mt (h:Inv p T W y m loc s) (hp:p.iJ) (hb:p.may=true) {i:Nat} {f:Pc} (hf:p.procs[i]? = some f) (ahQ:p.find f.name=some f) (ji:m.st.length<1000000) {l:List Nat} (hl : ∀ c∈l,c<m.mem.length) (sa:l.length<1000000)
 (hg:p.globals.length≤m.mem.length) (call:Int) :
 ∃ y' s',aF Tryz.prog jm [.ptr 0 0, .int .i64 (i:Int), .slice .shared 1 (l.map fun c=>fl (y.κ.getD c 0)), .int .i64 call] s (.int .i64 (m.open p (i:Int) l call).1) s'∧Inv p T W y' (m.open p (i:Int) l call).2 loc s':=by
 have hm:=h.jF
 rw[fx]at hm
 have qH:=h.uI
 obtain⟨rU,rJ,rI⟩:=hp.procs
 have vP:=hp.small (List.mem_of_getElem? hf)
 have cV:=fun s=>aea hp hb ahQ s
 have cF:=fun s=>aad hb hf s
 have hi:i<p.procs.length:=(List.getElem?_eq_some_iff.1 hf).1
 obtain⟨g1,g2,z1,z2,t1,t2,a1,a2,a3⟩:=aaf (gl:=(y.κ.take p.globals.length).map fl) (ps:=l.map fun c=>fl (y.κ.getD c 0)) (bytes:=8) (by simp only[List.length_map,List.length_take];unfold bC;omega) s.aw
 have hA : ∀ e:List (List D),(s.ah++e)[0]? = s.ah[0]? :=fun e=>List.getElem?_append_left qH
 have n0 : ∀ e1 e2:List (List D),(s.ah++e1++e2)[0]? = s.ah[0]? :=fun e1 e2=>by rw[List.append_assoc];exact hA _
 have n1 : ∀ a b:List D,(s.ah++ [a]++ [b])[s.ah.length+1]? = some b:=fun a b=>by simp
 have n2 : ∀ a b:List D,(s.ah++ [a]++ [b])[s.ah.length]? = some a:=fun a b=>by simp
 have n3 : ∀ a b c:List D,(s.ah++ [a]++ [b]).set (s.ah.length+1) c=s.ah++ [a]++ [c]:=fun a b c=>by simp[List.append_assoc,List.set_append_right]
 have n4 : ∀ a:List D,(s.ah++ [a])[s.ah.length]? = some a:=fun a=>by simp
 have n5 : ∀ a b:List D,(s.ah++ [a]).set s.ah.length b=s.ah++ [b]:=fun a b=>by simp
 have hpc:cu f = [.str f.name, .slice .shared 2 (f.params.map iH), .slice .shared 1 (f.vars.map encStr), .slice .shared 13 (f.body.map bh), .slice .shared 1 (f.fin.map encStr)]:=rfl
 generalize hn:s.ah.length=n at *
 have LH:(m.open p (i:Int) l call).1=ga f.body (-1)∧(m.open p (i:Int) l call).2 = {m with st:=⟨(i:Int),p.globals++f.own,List.range p.globals.length++l++(List.range f.vars.length).map (m.mem.length + ·),call⟩::m.st,mem:=m.mem++List.replicate f.vars.length 0}:=by
  unfold Mc.open
  rw[Int.toNat_natCast,hf]
  exact⟨rfl,rfl⟩
 rw[LH.1,LH.2]
 generalize kh:(y.κ.take p.globals.length).map fl++l.map (fun c=>fl (y.κ.getD c 0))=kj at *
 have hgr:kj.length<2000000:=by rw[← kh];simp only[List.length_append,List.length_map,List.length_take];omega
 have hvl:=vP.vars
 -- the states of the rounds
 let fr:Nat→List D:=fun k=> [.int .i64 (i:Int), .slice .shared 1 ((p.globals++f.own).map encStr), .slice (.tok s.aw.length) 1 (kj++(List.range k).map (fun j=>fl (n+2+j))), .int .i64 call]
 obtain⟨O,hO⟩ : ∃ O:Nat→List (List D),∀ k,O k=s.ah++ [cu f]++ [fr k]++List.replicate k [.int .i64 0]:=⟨_,fun _=>rfl⟩
 have oL : ∀ k,(O k).length=n+2+k:=fun k=>by rw[hO];simp[hn];omega
 have V3 : ∀ k o,o<n→(O k)[o]? = s.ah[o]? :=fun k o ho=>by rw[hO,List.append_assoc,List.append_assoc,List.getElem?_append_left (by omega)]
 have oF : ∀ k,(O k)[n+1]? = some (fr k):=fun k=>by rw[hO,List.getElem?_append_left (by simp[hn])];simp[hn]
 have oC : ∀ k j,j<k→(O k)[n+2+j]? = some [.int .i64 0]:=fun k j hj=>by
  rw[hO,List.getElem?_append_right (by simp only[List.length_append,List.length_singleton,hn];omega)]
  simp only[List.length_append,List.length_singleton,hn]
  rw[show n+2+j - (n+1+1)=j by omega,List.getElem?_replicate_of_lt hj]
 have oF' : ∀ k e,(O k++e)[n+1]? = some (fr k):=fun k e=>by rw[List.getElem?_append_left (by rw[oL];omega)];exact oF k
 have o0 : ∀ k,(O k)[0]? = s.ah[0]? :=fun k=>V3 k 0 qH
 have o0' : ∀ k e,(O k++e)[0]? = s.ah[0]? :=fun k e=>by rw[List.getElem?_append_left (by rw[oL];omega)];exact o0 k
 have oS : ∀ k,(O k++ [[D.int .i64 0]]).set (n+1) (fr (k+1))=O (k+1):=fun k=>by
  rw[hO,hO,List.replicate_succ']
  simp only[List.append_assoc]
  rw[List.set_append_right _ _ (by omega),hn,show n+1 - n=1 by omega]
  rfl
 have zU:(List.range p.globals.length++l++(List.range f.vars.length).map (m.mem.length + ·)).map (fun c=>fl ((y.push n f.vars.length .dR).κ.getD c 0))=kj++(List.range f.vars.length).map (fun j=>fl (n+2+j)):=by
  simp only[List.map_append,List.map_map,Lay.push, ← kh]
  congr 1
  ·congr 1
   ·rw [← PH (by rw [h.len];exact hg),List.map_map]
    exact List.map_congr_left fun c mc=>by simp only[Function.comp];rw[DV (by rw[h.len];have:=List.mem_range.1 mc;omega)]
   ·exact List.map_congr_left fun c mc=>by rw[DV (by rw[h.len];exact hl c mc)]
  ·exact List.map_congr_left fun j mj=>by simp only[Function.comp];rw[← h.len,V1 (List.mem_range.1 mj)]
 have aom:jr (fr f.vars.length) (pw (y.push n f.vars.length .dR).κ ⟨(i:Int),p.globals++f.own,List.range p.globals.length++l++(List.range f.vars.length).map (m.mem.length + ·),call⟩):=by
  unfold pw
  dsimp only
  rw[zU]
  exact .cons (Wk.refl _) (.cons (Wk.refl _) (.cons (Wk.shared _ _ _) (.cons (Wk.refl _) .nil)))
 -- the stack
 generalize hK:f.vars.length=K at *
 obtain⟨sd,O',e1,e3,e4,e5,e6⟩ : ∃ (sd:D) (O':List (List D)),(∀ tm:Tm,tm.get 70=y.sd→tm.get 72 = .slice .full 1 [[.ptr (n+1) 0]]→aJ (.app 1 8 (.s 70) (.s 72)) tm ⟨O K,s.aw++ [some (kj.length+K)]⟩=some (sd,⟨O',s.aw++ [some (kj.length+K)]⟩))∧
  (∀ (o:Nat) (r:List D),(O K)[o]? = some r→o∉y.sd.arr→O'[o]? = some r)∧jE ⟨O',s.aw⟩ sd (((n+1)::y.φ).reverse.map xJ)∧(sd.arr=y.sd.arr∨sd.arr = [n+2+K])∧sd.row=some [sd]:=by
  rcases h.stack with ⟨e,e2⟩|⟨so,g,more,e,e2⟩
  ·have hφ:y.φ = []:=by simpa using e2
   refine⟨.eB 1 (n+2+K) 0 1,O K++ [[.int .i64 ((0:Nat):Int), .ptr (n+1) 0]],fun tm h1 h2=>?_,fun o r e _=>by rw[List.getElem?_append_left (fW (s:=⟨O K,[]⟩) e)];exact e, .inr ⟨n+2+K,0,[],by simp[hφ], ?_⟩, .inr rfl,rfl⟩
   ·simp only [aJ,X.ev,h1,h2,e]
    rw[Jm _ _ _ (by unfold bC;omega)]
    simp only[oL]
   ·rw [hφ]
    show(O K++ [_])[n+2+K]? = _
    rw[← oL K]
    simp[xJ]
  ·have aon:so<n:=by have:=fW e2;omega
   have hlen:(y.φ.reverse.map xJ).length=m.st.length:=by simp[h.sy]
   have e2':(O K)[so]? = some (.int .i64 ((g:Nat):Int)::(y.φ.reverse.map xJ++more)):=by rw[V3 K so aon];exact e2
   rw[hlen]at e
   refine⟨.eB 1 so (g+1) (m.st.length+1),(O K).set so (.int .i64 ((g+1:Nat):Int)::(y.φ.reverse.map xJ++ [.ptr (n+1) 0])),fun tm h1 h2=>?_,fun o r e hn=>?_, .inr ⟨so,g+1,[],by simp[h.sy], ?_⟩, .inl (by rw[e];rfl),rfl⟩
   ·simp only [aJ,X.ev,h1,h2,e]
    rw[Kq (s:=⟨O K,_⟩) e2' (by rw[hlen,Nat.mul_one]) (by unfold bC;omega)]
   ·rw[List.getElem?_set_ne (fun e'=>hn (by rw[‹y.sd=_›, ← e'];simp[D.arr]))];exact e
   ·simp[oL,show so<n+2+K by omega,xJ]
 have o'0:O'[0]? = s.ah[0]? :=by
  rw[hm]
  exact e3 0 _ (by rw[o0];exact hm) (fun mo=>(h.vW (by simp[mo])) rfl)
 have Yh:0<O'.length:=fW (s:=⟨O',[]⟩) (o'0.trans hm)
 have o'f:O'[n+1]? = some (fr K):=e3 _ _ (oF K) (fun mo=>by have:=h.tD (n+1) (by simp[Lay.own,mo]);omega)
 let row:=fx p T W (y.push n K sd) {m with st:=⟨(i:Int),p.globals++f.own,List.range p.globals.length++l++(List.range K).map (m.mem.length + ·),call⟩::m.st,mem:=m.mem++List.replicate K 0}
 refine⟨y.push n K sd,⟨(O'.set 0 row).set (n+1) (pw (y.push n K sd).κ ⟨(i:Int),p.globals++f.own,List.range p.globals.length++l++(List.range K).map (m.mem.length + ·),call⟩),s.aw++ [some (kj.length+K)]⟩, ?_, ?_⟩
 case refine_2=>
  subst hn
  have gO : ∀ (o:Nat) (r:List D),O'[o]? = some r→o≠0→o≠s.ah.length+1→((O'.set 0 row).set (s.ah.length+1) (pw (y.push s.ah.length K sd).κ ⟨(i:Int),p.globals++f.own,List.range p.globals.length++l++(List.range K).map (m.mem.length + ·),call⟩))[o]? = some r:=fun o r e h1 h2=>by
   rw[List.getElem?_set_ne (Ne.symm h2),List.getElem?_set_ne (Ne.symm h1)];exact e
  refine h.push (K:=K) (sd:=sd) hg (fun c mc=>?_) (fun o r e h1 h2=>?_) ?_ (fun j hj=>?_) ?_ (e4.keep fun o mo=>?_) e5 ?_ ?_
  ·simp only [List.mem_append,List.mem_range,List.mem_map]at mc
   rcases mc with (mc|mc)|⟨x,mc,rfl⟩
   ·omega
   ·have:=hl c mc;omega
   ·omega
  ·have:=fW e
   exact gO o r (e3 o r (by rw[V3 K o this];exact e) h2) h1 (by omega)
  ·rw [List.getElem?_set_ne (by omega)]
   simp[Yh,row]
  ·refine gO _ _ (e3 _ _ (oC K j hj) fun mo=> ?_) (by omega) (by omega)
   have:=h.tD _ (show s.ah.length+2+j∈y.own by simp[Lay.own,mo]);omega
  ·have:=fW (s:=⟨O',[]⟩) o'f
   rw[List.getElem?_set_self (by rw[List.length_set];exact this)]
  ·have:o≠0∧o≠s.ah.length+1:=by
    rcases e5 with e|e
    ·rw [e]at mo
     have h1:=h.tD o (by simp[Lay.own,mo])
     exact⟨h.vW (by simp[mo]),by omega⟩
    ·rw [e]at mo
     have:=List.mem_singleton.1 mo
     exact⟨by omega,by omega⟩
   show(List.set _ _ _)[o]? = _
   rw[List.getElem?_set_ne (Ne.symm this.2),List.getElem?_set_ne (Ne.symm this.1)]
  ·exact List.getElem?_append_left (List.getElem?_eq_some_iff.1 h.t0).1
  ·exact List.getElem?_append_left (List.getElem?_eq_some_iff.1 h.t1).1
 refine bM.up ?_
 refine bM.uD zp rfl fun B Q hB hQ=>?_
 have⟨hD,hY,hZ,gA⟩:=bR
 have loop : ∀ d k:Nat,k+d=K→bt Tryz.prog B 82 QBZ (kB 0 (nR (kb Tryz.prog B 82 QC6 Q) Q))
  [(0, .ptr 0 0),(1, .int .i64 (i:Int)),(10, .ptr (n+1) 0),(52, .int .i64 (K:Int)),(53, .int .i64 (k:Int))] ⟨O k,s.aw++ [some (kj.length+k)]⟩:=by
  intro d
  induction d with
  |zero=>
   intro k hk
   have uv:k=K:=by omega
   subst uv
   have hD:decide ((k:Int)<(k:Int))=false:=by simp
   have jD:=o'0.trans hm
   have Hu:=o'f
   have vh : ∀ r,(O'.set 0 r)[0]? = some r:=fun r=>List.getElem?_set_self Yh
   refine bt.kR ?_
   repeat' (first
 |simp only[go_sem,hD,hY,hZ,gA,hm,o0,e1,e6,jD,Yh,vh]
 |(with_reducible refine CU (cF _) ?_)
 |(with_reducible first|refine bo fun hc=>?_|refine bp fun hc=>?_|refine bq (fun hc=>?_) fun hc=>?_)<;>(try simp only[hc,bs,↓reduceIte]at h)<;>try simp only[hc]
 |(with_reducible refine aE hQ ?_;(try cases h);simp only[aV,aX,bH,bI,go_sem,hD,hY,hZ,gA,hm,o0,e1,e6,jD,Yh,vh];try exact cq)
 | (cases h;done))
   (refine gL hQ ?_;simp only[aV,aX,bH,bI,go_sem])
   have ei:row = [.dA (fA p) 0, .slice .shared 1 ((y.κ.take p.globals.length).map fl), .slice .shared 1 (T.map bT), .slice .shared 1 (W.map bT),sd,y.vd,
    .int .i64 m.fin, .int .i64 m.steps, .int .i64 m.reads, .slice (.tok 0) 1 (m.out.map bT), .slice (.tok 1) 2 (m.trace.map gC)]:=by
    simp only[row,fx,Lay.push]
    rw[List.take_append_of_le_length (by rw[h.len];exact hg)]
   refine⟨_,⟨(O'.set 0 row).set (n+1) _,_⟩,Wk.refl _, ?_,rfl,rfl,rfl⟩
   rw[ei]
   exact gD.setAt (by rw[List.getElem?_set_ne (by omega)];exact Hu) aom
  | succ d ih=>
   intro k hk
   have hD:decide ((k:Int)<(K:Int))=true:=by simp;omega
   have bU:k<4611686018427387904:=by omega
   have hfk:=oF k
   have V4:=oF' k [[.int .i64 0]]
   have eQ:gY 1 8 (.slice (.tok s.aw.length) 1 (kj++(List.range k).map (fun j=>fl (n+2+j)))) (.slice .full 1 [[.ptr (n+2+k) 0]]) ⟨O k++ [[.int .i64 0]],s.aw++ [some (kj.length+k)]⟩ =
    some (.slice (.tok s.aw.length) 1 (kj++(List.range (k+1)).map (fun j=>fl (n+2+j))),⟨O k++ [[.int .i64 0]],s.aw++ [some (kj.length+(k+1))]⟩):=by
    rw[mH (size:=1) (by simp only[List.length_append,List.length_map,List.length_range,List.length_singleton];unfold bC;omega) (by simp)]
    simp[List.range_succ,fl,Nat.add_assoc]
   have oSk:=oS k
   simp only[fr,List.map_append,List.range_succ,List.map_cons,List.map_nil]at hfk V4 oSk
   refine bt.kR ?_
   repeat' (first
 |simp only[go_sem,hD,hY,hZ,gA,hfk,V4,oL,eQ,oSk]
 |(with_reducible first|refine bo fun hc=>?_|refine bp fun hc=>?_|refine bq (fun hc=>?_) fun hc=>?_)<;>(try simp only[hc,bs,↓reduceIte]at h)<;>try simp only[hc]
 |(with_reducible refine aE hQ ?_;(try cases h);simp only[aV,aX,bH,bI,go_sem,hD,hY,hZ,gA,hfk,V4,oL,eQ,oSk];try exact cq)
 | (cases h;done))
   refine bt.pM ?_ (ih (k+1) (by omega))
   simp only[go_sem,aI bU]
   repeat' (first|exact Ok.out|with_reducible refine iZ ?_ ?_)
 have l0:=loop K 0 (by omega)
 have hO0:O 0=s.ah++ [cu f]++ [fr 0]:=by rw[hO];simp
 rw[hO0]at l0
 repeat' (first
 |simp only[go_sem,hD,hY,hZ,gA,hm,hA,n0,n1,n2,n3,n4,n5,hf,a1,a2,nY, ← EG,hn]
 |(with_reducible refine CU (cV _) ?_)
 |(with_reducible first|refine bo fun hc=>?_|refine bp fun hc=>?_|refine bq (fun hc=>?_) fun hc=>?_)<;>(try simp only[hc,bs,↓reduceIte]at h)<;>try simp only[hc]
 |(with_reducible refine aE hQ ?_;(try cases h);simp only[aV,aX,bH,bI,go_sem,hD,hY,hZ,gA,hm,hA,n0,n1,n2,n3,n4,n5,hf,a1,a2,nY, ← EG,hn];try exact cq)
 |(cases h;done))
 simp only[fr,List.range_zero,List.map_nil,List.append_nil,List.map_append]at l0
 rcases a3 with ⟨rfl,rfl,rfl⟩|⟨rfl,rfl,rfl⟩
 ·refine bt.Ds (n+1) 2 1 (n1 _ _) rfl ?_
  simp only[n3,List.set_cons_succ,List.set_cons_zero]
  refine bt.pM ?_ l0
  simp only[go_sem,hK]
  repeat' (first|exact Ok.out|with_reducible refine iZ ?_ ?_)
 ·refine bt.pM ?_ l0
  simp only[go_sem,hK]
  repeat' (first|exact Ok.out|with_reducible refine iZ ?_ ?_)
end
end Go.Abs
namespace Go.Abs
set_option maxRecDepth 8000
open Go.Proofs
section
variable {p:Pg} {T W:List Int} {y:Lay} {m:Mc} {loc:List (Nat×List D)} {s:St}
def v7 (fr:Fr) (name:aG) (c:Nat):Prop:=∃ j:Nat,jf name 0 fr.names=(j:Int)∧fr.vars[j]? = some c
theorem v7.cell {fr:Fr} {name:aG} {c:Nat} (h:v7 fr name c) (ht:m.top=fr):m.cell name=c:=by
 obtain⟨j,h1,h2⟩:=h
 unfold Mc.cell
 rw[ht,h1,Int.toNat_natCast,List.getD_eq_getElem?_getD,h2];rfl
theorem Inv.pop (h:Inv p T W y m loc s) {fr:Fr} {r:List Fr} (ji:m.st=fr::r) {so g:Nat} (rW:y.sd = .eB 1 so g (r.length+1)) :
 Inv p T W {y with φ:=y.φ.tail,sd:= .eB 1 so g r.length} {m with st:=r} loc ⟨s.ah.set 0 (fx p T W {y with φ:=y.φ.tail,sd:= .eB 1 so g r.length} {m with st:=r}),s.aw⟩:=by
 have ie:(D.eB 1 so g r.length).arr=y.sd.arr:=by rw[rW];rfl
 have PJ:Lay.own {y with φ:=y.φ.tail,sd:= .eB 1 so g r.length} = y.own:=by simp only[Lay.own,ie]
 have il:=h.sy
 rw[ji]at il
 have ne : ∀ {q:Nat} {r':List D},s.ah[q]? = some r'→q≠0→(s.ah.set 0 (fx p T W {y with φ:=y.φ.tail,sd:= .eB 1 so g r.length} {m with st:=r}))[q]? = some r':=fun e hn=>by
  rw[List.getElem?_set_ne (Ne.symm hn)];exact e
 have nf : ∀ {q:Nat},q∉y.own→q≠0:=fun hq e=>hq (by rw[e];simp[Lay.own])
 obtain⟨l,hl⟩:=h.bK
 refine⟨by simp[h.uI],h.t0,h.t1,h.len,fun i c v e1 e2=>ne (h.cell i c v e1 e2) (h.vW (by simp[List.mem_of_getElem? e1])),by simp[il],fun i o Ms e1 e2=>?_, ?_,⟨l,hl.keep fun o mo=>?_⟩,by rw[PJ];exact h.own,fun q mq=>?_⟩
 ·obtain⟨f1,f2,f3⟩:=h.frame (i+1) o Ms (by simpa [List.getElem?_tail]using e1) (by rw [ji];simpa using e2)
  exact⟨ne f1 (nf f2),by rw[PJ];exact f2,f3⟩
 ·cases hφ:y.φ with
  |nil=>rw[hφ]at il;simp at il
  | cons o φ=>
   rw[hφ]at il
   rcases h.stack with ⟨e,_⟩|⟨so',g',more,e,e2⟩
   ·rw[e]at rW;cases rW
   ·have e':=e
    rw[rW,D.eB.injEq]at e'
    obtain⟨_,rfl,rfl,_⟩:=e'
    refine .inr ⟨so,g,[.ptr o 0]++more,by simp at il ⊢;omega,ne ?_ (h.vW (by rw[rW];simp[D.arr]))⟩
    rw[e2,hφ]
    simp[xJ]
 ·show(s.ah.set 0 _)[o]? = _
  rw[List.getElem?_set_ne (Ne.symm (h.vW (by simp[mo])))]
 ·obtain⟨f1,f2⟩:=h.loc q mq
  exact⟨ne f1 (nf f2),by rw[PJ];exact f2⟩
theorem Kr {L:List Im} {c:Nat} {it:Im} (h:L[c]? = some it) {a:Int} (ha:a=(c:Int)+1):fj L a=it:=by
 unfold fj
 rw[ha,show((c:Int)+1 - 1).toNat=c by omega,List.getD_eq_getElem?_getD,h];rfl
theorem aag (h:Inv p T W y m loc s) {fr:Fr} {r:List Fr} (ht:mT m fr r) (hL:p.aY.L.length<1000000)
 (hc:fr.call=0∨∃ (c:Nat) (it:Im) (uH:Fr) (r2:List Fr),fr.call=(c:Int)+1∧p.aY.L[c]? = some it∧mT {m with st:=r} uH r2∧(it.s.name≠ []→∃ k,v7 uH it.s.name k)) (xI:Int) :
 bM Tryz.prog oD [.ptr 0 0, .int .i64 xI] s (Rl p T W (.int .i64 (m.close p.aY.L xI).1) (m.close p.aY.L xI).2 (fun y'=>∃ sd,y' = {y with φ:=y.φ.tail,sd:=sd}) loc):=by
 obtain⟨so,g,cells,o,h1,h2,h3,h4,h5⟩:=h.VZ ht.st
 obtain⟨o',_,Fe,c1⟩:=PG h ht.st ht.len
 have ho:o'=o:=by rw[h5]at *;cases ‹some o=some o'›;rfl
 subst ho
 have hm:=h.jF
 rw[fx,h1]at hm
 have hl:=h.uI
 have hp:=h.pop ht.st h1
 have hpf:=hp.jF
 have hlen:=ht.len
 have hw:IntKind.wrap .i64 (((r.length+1:Nat):Int) - 1)=((r.length:Nat):Int):=by rw[show((r.length+1:Nat):Int) - 1=(r.length:Int) by omega];exact ek (by omega) (by omega)
 have uq:xf (.eB 1 so g (r.length+1)) none (some (.int .i64 (r.length:Int)))=some (.eB 1 so g r.length):=by simp[xf,sW,sX];omega
 have vh : ∀ r,(s.ah.set 0 r)[0]? = some r:=fun r=>List.getElem?_set_self hl
 rw[pw]at Fe
 have oK:m.close p.aY.L xI=if fr.call==0 then(-1,{{m with st:=r}with fin:=1})else((fj p.aY.L fr.call).next,if(fj p.aY.L fr.call).s.name == []then {m with st:=r}else({m with st:=r} : Mc).set (fj p.aY.L fr.call).s.name xI):=by
  unfold Mc.close
  rw[ht.top,ht.st];rfl
 rw[oK]
 rcases hc with hc|⟨c,it,uH,r2,hc,pO,tu,hn⟩
 ·rw [hc]at Fe
  have e0:((0:Int)==0)=true:=rfl
  have h5:=hp.tQ (m':= {{m with st:=r}with fin:=1}) rfl rfl hp.t0 hp.t1
  rw[fx]at h5
  simp only[List.set_set]at h5
  rw[hc,if_pos e0]
  refine bM.uD qL rfl fun B Q hB hQ=>?_
  have⟨hD,hY,hZ,gA⟩:=bR
  repeat' (first
 |simp only[go_sem,hD,hY,hZ,gA,hm,hl,hw,uq,vh,Fe,e0,List.set_set]
 |(with_reducible refine CU (c1) ?_)
 |(with_reducible first|refine bo fun hc=>?_|refine bp fun hc=>?_|refine bq (fun hc=>?_) fun hc=>?_)<;>(try simp only[hc,bs,↓reduceIte]at h)<;>try simp only[hc]
 |(with_reducible refine aE hQ ?_;(try cases h);simp only[aV,aX,bH,bI,go_sem,hD,hY,hZ,gA,hm,hl,hw,uq,vh,Fe,e0,List.set_set];try exact cq)
 |(cases h;done))
  (refine gL hQ ?_;simp only[aV,aX,bH,bI,go_sem])
  exact⟨rfl,_,⟨_,rfl⟩,h5⟩
 ·rw [hc]at Fe
  have BV:IntKind.wrap .i64 ((c:Int)+1 - 1)=(c:Int):=by
   have:=(List.getElem?_eq_some_iff.1 pO).1
   rw[show(c:Int)+1 - 1=(c:Int) by omega];exact ek (by omega) (by omega)
  have e0:((c:Int)+1==0)=false:=by simp;omega
  have aoo:=Kr pO hc
  have hz : ∀ (z:List D) (e:List D),(s.ah.set 0 e++ [z]).set s.ah.length (dz it)=s.ah.set 0 e++ [dz it]:=fun z e=>by simp
  have hg : ∀ z e:List D,(s.ah.set 0 e++ [z])[s.ah.length]? = some z:=fun z e=>by simp
  have cS:(fA p)[2]? = some (.slice .shared 17 (p.aY.L.map dz)):=rfl
  have sa : ∀ e:List D,(s.ah.set 0 e).length=s.ah.length:=fun e=>List.length_set
  have dh:=hp.new (dz it)
  rw[fx]at dh
  simp only[sa]at dh
  have ET:dz it = [.int .i64 it.s.id, .int .i64 it.s.kind, .slice .shared 1 (it.s.labels.map encStr), .str it.s.name, .str it.s.proc, .int .i64 it.s.x.op, .int .i64 it.s.x.n, .str it.s.x.name, .slice .shared 4 (it.s.x.kids.map cd), .bool it.s.has, .slice .shared 6 (it.s.args.map eC), .slice .shared 13 (it.s.a8.map bh), .slice .shared 13 (it.s.aS.map bh), .int .i64 it.proc, .int .i64 it.up, .int .i64 it.next, .int .i64 it.loop]:=rfl
  have c3:(dz it)[3]? = some (.str it.s.name):=rfl
  rw[hc,if_neg (by rw[e0];simp),show fj p.aY.L ((c:Int)+1)=it from hc ▸ aoo]
  refine bM.uD qL rfl fun B Q hB hQ=>?_
  have⟨hD,hY,hZ,gA⟩:=bR
  rcases Bool.eq_false_or_eq_true (it.s.name == [])with b|b
  ·repeat' (first
 |simp only[go_sem,hD,hY,hZ,gA,hm,hl,hw,uq,vh,Fe,e0,BV,pO,hz,hg,sa,c3,b,cS]
 |(with_reducible refine CU (c1) ?_)
 |(with_reducible first|refine bo fun hc=>?_|refine bp fun hc=>?_|refine bq (fun hc=>?_) fun hc=>?_)<;>(try simp only[hc,bs,↓reduceIte]at h)<;>try simp only[hc]
 |(with_reducible refine aE hQ ?_;(try cases h);simp only[aV,aX,bH,bI,go_sem,hD,hY,hZ,gA,hm,hl,hw,uq,vh,Fe,e0,BV,pO,hz,hg,sa,c3,b,cS];try exact cq)
 | (cases h;done))
   (refine gL hQ ?_;simp only[aV,aX,bH,bI,go_sem])
   refine⟨rfl,{y with φ:=y.φ.tail,sd:= .eB 1 so g r.length},⟨_,rfl⟩, ?_⟩
   simp only[b,if_true]
   exact dh.sub fun q mq=>List.mem_cons_of_mem _ mq
  ·obtain⟨k,hk⟩:=hn (by intro e;rw [e]at b;cases b)
   have Ks:=hk.cell tu.top
   obtain⟨j,hj,BW⟩:=hk
   have c2:=Ct dh tu.st tu.len tu.names hj BW
   have hkm:k<m.mem.length:=by
    have hlp:=hp.sy
    rw[tu.st]at hlp
    cases hφ:y.φ.tail with
    |nil=>simp[hφ]at hlp
    |cons o2 φ2=>exact(hp.frame 0 o2 uH (by simp[hφ]) (by rw[tu.st];rfl)).2.2 k (List.mem_of_getElem? BW)
   have hκ:y.κ[k]? = some (y.κ.getD k 0):=by
    rw[List.getD_eq_getElem?_getD,List.getElem?_eq_getElem (by have:=h.len;omega)];rfl
   have gV:=dh.cell k _ _ hκ (List.getElem?_eq_getElem hkm)
   have vS:=dh.VV hκ xI
   have jn:=(vS.loc (s.ah.length,dz it) (List.mem_cons_self ..)).1
   simp only at gV vS jn c2
   have hb:(it.s.name != [])=true:=by simp[bne,b]
   repeat' (first
 |simp only[go_sem,hD,hY,hZ,gA,hm,hl,hw,uq,vh,Fe,e0,BV,pO,hz,hg,sa,c3,b,cS,gV,jn]
 |(with_reducible refine CU (c1) ?_)
 |(with_reducible refine CU (c2) ?_)
 |(with_reducible first|refine bo fun hc=>?_|refine bp fun hc=>?_|refine bq (fun hc=>?_) fun hc=>?_)<;>(try simp only[hc,bs,↓reduceIte]at h)<;>try simp only[hc]
 |(with_reducible refine aE hQ ?_;(try cases h);simp only[aV,aX,bH,bI,go_sem,hD,hY,hZ,gA,hm,hl,hw,uq,vh,Fe,e0,BV,pO,hz,hg,sa,c3,b,cS,gV,jn];try exact cq)
 | (cases h;done))
   (refine gL hQ ?_;simp only[aV,aX,bH,bI,go_sem])
   refine⟨rfl,{y with φ:=y.φ.tail,sd:= .eB 1 so g r.length},⟨_,rfl⟩, ?_⟩
   simp only[b,Bool.false_eq_true,if_false,Mc.set,Ks]
   exact vS.sub fun q mq=>List.mem_cons_of_mem _ mq
end
end Go.Abs
namespace Go.Abs
set_option maxRecDepth 8000
open Go.Proofs
section
variable {p:Pg} {T W:List Int} {y:Lay} {m:Mc} {loc:List (Nat×List D)} {s:St}
structure aef (p:Pg) (fr:Fr) (it:Im):Prop where
 said:it.s.nz
 brk:it.s.kind=7→∃ (c:Nat) (it2:Im),it.loop=(c:Int)+1∧p.aY.L[c]? = some it2
 F4:it.s.kind=10→∃ (i:Nat) (f:Pc),it.proc=(i:Int)∧p.procs[i]? = some f
 name:it.s.kind=1∨it.s.kind=2→∃ k,v7 fr it.s.name k
 a8:it.s.a8.length<1000000
 aS:it.s.aS.length<1000000
structure Ih (p:Pg) (T W:List Int) (m:Mc):Prop where
 W:W.length<1000000
 T:T.length<1000000
 trace:m.trace.length<2000000
 out:m.out.length<2000000
 L:p.aY.L.length<1000000
 P:Pc.a7 p.procs<1000000000
 reads:0≤m.reads∧m.reads<2000000
theorem cell_of (h:Inv p T W y m loc s) {fr:Fr} {r:List Fr} (ji:m.st=fr::r) {c j:Nat} (hc:fr.vars[j]? = some c):y.κ[c]? = some (y.κ.getD c 0)∧∃ v,m.mem[c]? = some v∧s.ah[y.κ.getD c 0]? = some [.int .i64 v]:=by
 have il:=h.sy
 rw[ji]at il
 cases hφ:y.φ with
 |nil=>simp[hφ]at il
 | cons o φ=>
  have SQ:=(h.frame 0 o fr (by simp[hφ]) (by rw[ji];rfl)).2.2 c (List.mem_of_getElem? hc)
  have hκ:y.κ[c]? = some (y.κ.getD c 0):=by
   rw[List.getD_eq_getElem?_getD,List.getElem?_eq_getElem (by have:=h.len;omega)];rfl
  exact⟨hκ,_,List.getElem?_eq_getElem SQ,h.cell c _ _ hκ (List.getElem?_eq_getElem SQ)⟩
theorem aop (hp:p.iJ) (V5:p.may=true) (h:Inv p T W y m loc s) {fr:Fr} {r:List Fr} (ht:mT m fr r) (hz:Ih p T W m) {it:Im} (hd:aef p fr it) :
 bM Tryz.prog qw [.ptr 0 0, .agg (dz it)] s (Rl p T W (.int .i64 (m.do p p.aY.L T W it).1) (m.do p p.aY.L T W it).2 (fun y'=>∃ vd,y' = {y with vd:=vd}) loc):=by
 have h1:=(h.new (dz it)).new (bh it.s)
 simp only[List.length_append,List.length_singleton]at h1
 have z0 : ∀ z:List D,(s.ah++ [z])[s.ah.length]? = some z:=fun z=>by simp
 have z1 : ∀ z:List D,(s.ah++ [dz it]++ [z]).set (s.ah.length+1) (bh it.s)=s.ah++ [dz it]++ [bh it.s]:=fun z=>by simp[List.append_assoc,List.set_append_right]
 have z2 : ∀ a z:List D,(s.ah++ [a]++ [z])[s.ah.length+1]? = some z:=fun a z=>by simp
 have z3 : ∀ a z:List D,(s.ah++ [a]++ [z])[s.ah.length]? = some a:=fun a z=>by simp
 have z4:=h1.jF
 rw[fx]at z4
 have vJ:=h1.uI
 simp only at z4 vJ
 have cS:(fA p)[2]? = some (.slice .shared 17 (p.aY.L.map dz)):=rfl
 have nG : ∀ q∈loc,q∈(s.ah.length+1,bh it.s)::(s.ah.length,dz it)::loc:=fun q mq=>List.mem_cons_of_mem _ (List.mem_cons_of_mem _ mq)
 generalize hn:s.ah.length=n at *
 have jn : ∀ {y2:Lay} {m2:Mc} {s2:St},Inv p T W y2 m2 ((n+1,bh it.s)::(n,dz it)::loc) s2→s2.ah[n]? = some (dz it)∧s2.ah[n+1]? = some (bh it.s)∧0<s2.ah.length:=fun h2=>
  ⟨(h2.loc (n,dz it) (by simp)).1,(h2.loc (n+1,bh it.s) (by simp)).1,h2.uI⟩
 rcases Bool.eq_false_or_eq_true (it.s.kind==7)with b7|b7
 ·have c1:=vY h1 hz.W hz.trace it.s.id
  obtain⟨c,it2,e1,e2⟩:=hd.brk (by simpa using b7)
  have hw:IntKind.wrap .i64 ((c:Int)+1 - 1)=(c:Int):=by
   have:=(List.getElem?_eq_some_iff.1 e2).1
   have:=hz.L
   rw[show(c:Int)+1 - 1=(c:Int) by omega];exact ek (by omega) (by omega)
  have yL:m.do p p.aY.L T W it=(it2.next,m.event W it.s.id []):=by
   unfold Mc.do
   dsimp only
   rw[if_pos b7,Kr e2 e1]
  rw[yL]
  refine bM.uD ij rfl fun B Q hB hQ=>?_
  have⟨hD,hY,hZ,gA⟩:=bR
  repeat' (first
 |simp only[go_sem,hD,hY,hZ,gA,z0,z1,z2,z3,hn,b7]
 |(with_reducible first|refine bo fun hc=>?_|refine bp fun hc=>?_|refine bq (fun hc=>?_) fun hc=>?_)<;>(try simp only[hc,bs,↓reduceIte]at h)<;>try simp only[hc]
 |(with_reducible refine aE hQ ?_;(try cases h);simp only[aV,aX,bH,bI,go_sem,hD,hY,hZ,gA,z0,z1,z2,z3,hn,b7];try exact cq)
 |(cases h;done))
  refine CR c1 fun d s2 h2=>?_
  obtain⟨rfl,y2,rfl,h2⟩:=h2
  obtain⟨x1,x2,x3⟩:=jn h2
  have jD:=h2.jF
  rw[fx]at jD
  repeat' (first
 |simp only[go_sem,hD,hY,hZ,gA,x1,x2,jD,cS,e1,hw,e2]
 |(with_reducible first|refine bo fun hc=>?_|refine bp fun hc=>?_|refine bq (fun hc=>?_) fun hc=>?_)<;>(try simp only[hc,bs,↓reduceIte]at h)<;>try simp only[hc]
 |(with_reducible refine aE hQ ?_;(try cases h);simp only[aV,aX,bH,bI,go_sem,hD,hY,hZ,gA,x1,x2,jD,cS,e1,hw,e2];try exact cq)
 |(cases h;done))
  (refine gL hQ ?_;simp only[aV,aX,bH,bI,go_sem])
  exact⟨rfl,_,⟨_,rfl⟩,h2.sub nG⟩
 rcases Bool.eq_false_or_eq_true (it.s.kind==8)with b8|b8
 ·have c1:=vY h1 hz.W hz.trace it.s.id
  have yL:m.do p p.aY.L T W it=(it.loop,m.event W it.s.id []):=by
   unfold Mc.do
   dsimp only
   rw[if_neg (by simp[b7]),if_pos b8]
  rw[yL]
  refine bM.uD ij rfl fun B Q hB hQ=>?_
  have⟨hD,hY,hZ,gA⟩:=bR
  repeat' (first
 |simp only[go_sem,hD,hY,hZ,gA,z0,z1,z2,z3,hn,b7,b8]
 |(with_reducible first|refine bo fun hc=>?_|refine bp fun hc=>?_|refine bq (fun hc=>?_) fun hc=>?_)<;>(try simp only[hc,bs,↓reduceIte]at h)<;>try simp only[hc]
 |(with_reducible refine aE hQ ?_;(try cases h);simp only[aV,aX,bH,bI,go_sem,hD,hY,hZ,gA,z0,z1,z2,z3,hn,b7,b8];try exact cq)
 |(cases h;done))
  refine CR c1 fun d s2 h2=>?_
  obtain⟨rfl,y2,rfl,h2⟩:=h2
  obtain⟨x1,x2,x3⟩:=jn h2
  repeat' (first
 |simp only[go_sem,hD,hY,hZ,gA,x1,x2]
 |(with_reducible first|refine bo fun hc=>?_|refine bp fun hc=>?_|refine bq (fun hc=>?_) fun hc=>?_)<;>(try simp only[hc,bs,↓reduceIte]at h)<;>try simp only[hc]
 |(with_reducible refine aE hQ ?_;(try cases h);simp only[aV,aX,bH,bI,go_sem,hD,hY,hZ,gA,x1,x2];try exact cq)
 |(cases h;done))
  (refine gL hQ ?_;simp only[aV,aX,bH,bI,go_sem])
  exact⟨rfl,_,⟨_,rfl⟩,h2.sub nG⟩
 rcases Bool.eq_false_or_eq_true (it.s.kind==10)with tG|tG
 ·have c1:=vY h1 hz.W hz.trace it.s.id
  obtain⟨i,f,e1,e2⟩:=hd.F4 (by simpa using tG)
  have cA:=fun s=>adO hp V5 e2 it.s.name s
  have yL:m.do p p.aY.L T W it=((kZ f.fin it.s.name (Sm.dd f.body)).1,m.event W it.s.id []):=by
   unfold Mc.do
   dsimp only
   rw[if_neg (by simp[b7]),if_neg (by simp[b8]),if_pos tG,e1,Int.toNat_natCast,e2]
  rw[yL]
  refine bM.uD ij rfl fun B Q hB hQ=>?_
  have⟨hD,hY,hZ,gA⟩:=bR
  repeat' (first
 |simp only[go_sem,hD,hY,hZ,gA,z0,z1,z2,z3,hn,b7,b8,tG]
 |(with_reducible first|refine bo fun hc=>?_|refine bp fun hc=>?_|refine bq (fun hc=>?_) fun hc=>?_)<;>(try simp only[hc,bs,↓reduceIte]at h)<;>try simp only[hc]
 |(with_reducible refine aE hQ ?_;(try cases h);simp only[aV,aX,bH,bI,go_sem,hD,hY,hZ,gA,z0,z1,z2,z3,hn,b7,b8,tG];try exact cq)
 |(cases h;done))
  refine CR c1 fun d s2 h2=>?_
  obtain⟨rfl,y2,rfl,h2⟩:=h2
  obtain⟨x1,x2,x3⟩:=jn h2
  have jD:=h2.jF
  rw[fx]at jD
  repeat' (first
 |simp only[go_sem,hD,hY,hZ,gA,x1,x2,jD,e1]
 |(with_reducible refine CU (cA _) ?_)
 |(with_reducible first|refine bo fun hc=>?_|refine bp fun hc=>?_|refine bq (fun hc=>?_) fun hc=>?_)<;>(try simp only[hc,bs,↓reduceIte]at h)<;>try simp only[hc]
 |(with_reducible refine aE hQ ?_;(try cases h);simp only[aV,aX,bH,bI,go_sem,hD,hY,hZ,gA,x1,x2,jD,e1];try exact cq)
 |(cases h;done))
  (refine gL hQ ?_;simp only[aV,aX,bH,bI,go_sem])
  exact⟨rfl,_,⟨_,rfl⟩,h2.sub nG⟩
 rcases Bool.eq_false_or_eq_true (it.s.kind==2)with b2|b2
 ·obtain⟨k,hk⟩:=hd.name (.inr (by simpa using b2))
  have ib:=hz.reads
  have hTl:=hz.T
  have Gs:=ib.1
  have awx : ∀ r,((s.ah++ [dz it]++ [bh it.s]).set 0 r)[0]? = some r:=fun r=>List.getElem?_set_self vJ
  cases e:T[m.reads.toNat]? with
  | none=>
   have uy:decide (m.reads≥(T.length:Int))=true:=by have:=List.getElem?_eq_none_iff.1 e;simp;omega
   have yL:m.do p p.aY.L T W it=(-1,{m with fin:=3}):=by
    unfold Mc.do
    dsimp only
    rw[if_neg (by simp[b7]),if_neg (by simp[b8]),if_neg (by simp[tG]),if_pos b2,e]
   rw[yL]
   have h2:=h1.tQ (m':= {m with fin:=3}) rfl rfl h1.t0 h1.t1
   rw[fx]at h2
   simp only at h2
   refine bM.uD ij rfl fun B Q hB hQ=>?_
   have⟨hD,hY,hZ,gA⟩:=bR
   repeat' (first
 |simp only[go_sem,hD,hY,hZ,gA,z0,z1,z2,z3,z4,hn,b7,b8,tG,b2,uy,vJ]
 |(with_reducible first|refine bo fun hc=>?_|refine bp fun hc=>?_|refine bq (fun hc=>?_) fun hc=>?_)<;>(try simp only[hc,bs,↓reduceIte]at h)<;>try simp only[hc]
 |(with_reducible refine aE hQ ?_;(try cases h);simp only[aV,aX,bH,bI,go_sem,hD,hY,hZ,gA,z0,z1,z2,z3,z4,hn,b7,b8,tG,b2,uy,vJ];try exact cq)
 | (cases h;done))
   (refine gL hQ ?_;simp only[aV,aX,bH,bI,go_sem])
   exact⟨rfl,_,⟨_,rfl⟩,h2.sub nG⟩
  | some v=>
   have uy:decide (m.reads≥(T.length:Int))=false:=by have:=(List.getElem?_eq_some_iff.1 e).1;simp;omega
   have Fg:IntKind.wrap .i64 (m.reads+1)=m.reads+1:=ek (by omega) (by omega)
   have Ks:=hk.cell ht.top
   obtain⟨j,hj,BW⟩:=hk
   have yL:m.do p p.aY.L T W it=(it.next,(({m with reads:=m.reads+1,mem:=m.mem.set k v} : Mc).event W it.s.id [v])):=by
    unfold Mc.do
    dsimp only
    rw[if_neg (by simp[b7]),if_neg (by simp[b8]),if_neg (by simp[tG]),if_pos b2,e]
    have:({m with reads:=m.reads+1} : Mc).cell it.s.name=k:=Ks
    simp only[Mc.set,this]
   rw[yL]
   have h2:=h1.tQ (m':= {m with reads:=m.reads+1}) rfl rfl h1.t0 h1.t1
   have tu:mT ({m with reads:=m.reads+1} : Mc) fr r:=⟨ht.st,ht.len,ht.names,ht.vars⟩
   have c2:=Ct h2 tu.st tu.len tu.names hj BW
   obtain⟨hκ,v0,g1,g2⟩:=cell_of h2 tu.st BW
   have h3:=h2.VV hκ v
   have c3:=DU h3 hz.W hz.trace it.s.id v
   obtain⟨x1,x2,x3⟩:=jn h3
   obtain⟨x4,x5,x6⟩:=jn h2
   rw[fx]at c2 g2 c3 x1 x2 x4 x5
   simp only at c2 g2 c3 x1 x2 x4 x5
   refine bM.uD ij rfl fun B Q hB hQ=>?_
   have⟨hD,hY,hZ,gA⟩:=bR
   repeat' (first
 |simp only[go_sem,hD,hY,hZ,gA,z0,z1,z2,z3,z4,hn,b7,b8,tG,b2,uy,vJ,e,Fg,Gs,x1,x2,x4,x5,g2]
 |(with_reducible refine CU (c2) ?_)
 |(with_reducible first|refine bo fun hc=>?_|refine bp fun hc=>?_|refine bq (fun hc=>?_) fun hc=>?_)<;>(try simp only[hc,bs,↓reduceIte]at h)<;>try simp only[hc]
 |(with_reducible refine aE hQ ?_;(try cases h);simp only[aV,aX,bH,bI,go_sem,hD,hY,hZ,gA,z0,z1,z2,z3,z4,hn,b7,b8,tG,b2,uy,vJ,e,Fg,Gs,x1,x2,x4,x5,g2];try exact cq)
 | (cases h;done))
   refine CR c3 fun d s2 h4=>?_
   obtain⟨rfl,y2,rfl,h4⟩:=h4
   obtain⟨x1,x2,x3⟩:=jn h4
   repeat' (first
 |simp only[go_sem,hD,hY,hZ,gA,x1,x2]
 |(with_reducible first|refine bo fun hc=>?_|refine bp fun hc=>?_|refine bq (fun hc=>?_) fun hc=>?_)<;>(try simp only[hc,bs,↓reduceIte]at h)<;>try simp only[hc]
 |(with_reducible refine aE hQ ?_;(try cases h);simp only[aV,aX,bH,bI,go_sem,hD,hY,hZ,gA,x1,x2];try exact cq)
 | (cases h;done))
   (refine gL hQ ?_;simp only[aV,aX,bH,bI,go_sem])
   exact⟨rfl,_,⟨_,rfl⟩,h4.sub nG⟩
 -- an expression is reckoned
 have hx:it.s.x.size<1000000:=by have:=hd.said.2.2;omega
 have c1:=DT h1 ht hx hd.said.1
 rcases Bool.eq_false_or_eq_true (m.bA it.s.x).1.2 with bw|bw
 case inr=>
  have yL:m.do p p.aY.L T W it=(-1,(m.bA it.s.x).2):=by
   unfold Mc.do
   dsimp only
   rw[if_neg (by simp[b7]),if_neg (by simp[b8]),if_neg (by simp[tG]),if_neg (by simp[b2]),if_neg (by simp[bw])]
  rw[yL]
  refine bM.uD ij rfl fun B Q hB hQ=>?_
  have⟨hD,hY,hZ,gA⟩:=bR
  repeat' (first
 |simp only[go_sem,hD,hY,hZ,gA,z0,z1,z2,z3,hn,b7,b8,tG,b2]
 |(with_reducible first|refine bo fun hc=>?_|refine bp fun hc=>?_|refine bq (fun hc=>?_) fun hc=>?_)<;>(try simp only[hc,bs,↓reduceIte]at h)<;>try simp only[hc]
 |(with_reducible refine aE hQ ?_;(try cases h);simp only[aV,aX,bH,bI,go_sem,hD,hY,hZ,gA,z0,z1,z2,z3,hn,b7,b8,tG,b2];try exact cq)
 |(cases h;done))
  refine CR c1 fun d s2 h2=>?_
  obtain⟨⟨rfl,y2,vZ,h2⟩,_⟩:=h2
  repeat' (first
 |simp only[go_sem,hD,hY,hZ,gA,bw]
 |(with_reducible first|refine bo fun hc=>?_|refine bp fun hc=>?_|refine bq (fun hc=>?_) fun hc=>?_)<;>(try simp only[hc,bs,↓reduceIte]at h)<;>try simp only[hc]
 |(with_reducible refine aE hQ ?_;(try cases h);simp only[aV,aX,bH,bI,go_sem,hD,hY,hZ,gA,bw];try exact cq)
 |(cases h;done))
  (refine gL hQ ?_;simp only[aV,aX,bH,bI,go_sem])
  exact⟨rfl,y2,⟨_,vZ⟩,h2.sub nG⟩
 have SS:(m.bA it.s.x).2=m:=by
  unfold Mc.bA
  dsimp only
  rw[if_pos (show(it.s.x.bA m.top.names m.bK).2=true from bw)]
 have yL:m.do p p.aY.L T W it=(let m1:=m.event W it.s.id [(m.bA it.s.x).1.1];let n:=(m.bA it.s.x).1.1
  if it.s.kind==1 then(it.next,m1.set it.s.name n)else if it.s.kind==3 then(it.next,{m1 with out:=m1.out++ [n]})
  else if it.s.kind==5 then(if n==0 then firstM it.s.aS it.next else firstM it.s.a8 it.next,m1)else if it.s.kind==6 then(if n==0 then it.next else firstM it.s.a8 it.s.id,m1)else(it.next,m1)):=by
  unfold Mc.do
  dsimp only
  rw[if_neg (by simp[b7]),if_neg (by simp[b8]),if_neg (by simp[tG]),if_neg (by simp[b2]),if_pos bw,SS]
 rw[yL]
 rw[SS]at c1
 generalize hR:(m.bA it.s.x).1=R at *
 obtain⟨v,ok⟩:=R
 subst bw
 dsimp only
 have he:=dT W m it.s.id [v]
 have SU:mT (m.event W it.s.id [v]) fr r:=⟨by rw[he.1];exact ht.st,ht.len,ht.names,ht.vars⟩
 have nb:(v != 0) = !(v==0):=rfl
 have fT:=fun o s=>Mr it.s.a8 (by have:=hd.a8;omega) o s
 have fE:=fun o s=>Mr it.s.aS (by have:=hd.aS;omega) o s
 refine bM.uD ij rfl fun B Q hB hQ=>?_
 have⟨hD,hY,hZ,gA⟩:=bR
 repeat' (first
 |simp only[go_sem,hD,hY,hZ,gA,z0,z1,z2,z3,hn,b7,b8,tG,b2]
 |(with_reducible first|refine bo fun hc=>?_|refine bp fun hc=>?_|refine bq (fun hc=>?_) fun hc=>?_)<;>(try simp only[hc,bs,↓reduceIte]at h)<;>try simp only[hc]
 |(with_reducible refine aE hQ ?_;(try cases h);simp only[aV,aX,bH,bI,go_sem,hD,hY,hZ,gA,z0,z1,z2,z3,hn,b7,b8,tG,b2];try exact cq)
 |(cases h;done))
 refine CR c1 fun d s2 h2=>?_
 obtain⟨⟨rfl,y2,vZ,h2⟩,_⟩:=h2
 obtain⟨x1,x2,x3⟩:=jn h2
 have c2:=DU h2 hz.W hz.trace it.s.id v
 repeat' (first
 |simp only[go_sem,hD,hY,hZ,gA,x1,x2]
 |(with_reducible first|refine bo fun hc=>?_|refine bp fun hc=>?_|refine bq (fun hc=>?_) fun hc=>?_)<;>(try simp only[hc,bs,↓reduceIte]at h)<;>try simp only[hc]
 |(with_reducible refine aE hQ ?_;(try cases h);simp only[aV,aX,bH,bI,go_sem,hD,hY,hZ,gA,x1,x2];try exact cq)
 |(cases h;done))
 refine CR c2 fun d s3 h3=>?_
 obtain⟨rfl,y3,rfl,h3⟩:=h3
 obtain⟨x1,x2,x3⟩:=jn h3
 have oj:=h3.jF
 rw[fx]at oj
 rcases Bool.eq_false_or_eq_true (it.s.kind==1)with b1|b1
 ·obtain⟨k,hk⟩:=hd.name (.inl (by simpa using b1))
  have Ks:=hk.cell SU.top
  obtain⟨j,hj,BW⟩:=hk
  have c3:=Ct h3 SU.st SU.len SU.names hj BW
  obtain⟨hκ,v0,g1,g2⟩:=cell_of h3 SU.st BW
  have h4:=h3.VV hκ v
  obtain⟨x4,x5,x6⟩:=jn h4
  simp only at x4 x5
  repeat' (first
 |simp only[go_sem,hD,hY,hZ,gA,x1,x2,b1,g2,x4,x5]
 |(with_reducible refine CU (c3) ?_)
 |(with_reducible first|refine bo fun hc=>?_|refine bp fun hc=>?_|refine bq (fun hc=>?_) fun hc=>?_)<;>(try simp only[hc,bs,↓reduceIte]at h)<;>try simp only[hc]
 |(with_reducible refine aE hQ ?_;(try cases h);simp only[aV,aX,bH,bI,go_sem,hD,hY,hZ,gA,x1,x2,b1,g2,x4,x5];try exact cq)
 |(cases h;done))
  (refine gL hQ ?_;simp only[aV,aX,bH,bI,go_sem])
  rw[if_pos b1]
  refine⟨rfl,y3,⟨_,vZ⟩, ?_⟩
  simp only[Mc.set,Ks]
  exact h4.sub nG
 rw[if_neg (by simp[b1])]at hQ
 rcases Bool.eq_false_or_eq_true (it.s.kind==3)with b3|b3
 ·rw [if_pos b3]at hQ
  have eQ:gY 1 8 (.slice (.tok 0) 1 ((m.event W it.s.id [v]).out.map bT)) (.slice .full 1 [[.int .i64 v]]) s3=some (.slice (.tok 0) 1 (((m.event W it.s.id [v]).out++ [v]).map bT),⟨s3.ah,s3.aw.set 0 (some ((m.event W it.s.id [v]).out.length+1))⟩):=by
   rw[mH (size:=1) (by simp only[List.length_map,List.length_singleton,he.2.2.2.2.2];have:=hz.out;unfold bC;omega) (by simpa using h3.t0)]
   simp[bT]
  have h4:=h3.tQ (m':= {m.event W it.s.id [v]with out:=(m.event W it.s.id [v]).out++ [v]}) (ts:=s3.aw.set 0 (some ((m.event W it.s.id [v]).out.length+1))) rfl rfl (by simp[(List.getElem?_eq_some_iff.1 h3.t0).1]) (by rw[List.getElem?_set_ne (by omega)];exact h3.t1)
  obtain⟨x4,x5,x6⟩:=jn h4
  rw[fx]at h4 x4 x5
  simp only[List.map_append,List.map_cons,List.map_nil,bT]at h4 x4 x5 eQ
  repeat' (first
 |simp only[go_sem,hD,hY,hZ,gA,x1,x2,b1,b3,oj,eQ,x3,x4,x5]
 |(with_reducible first|refine bo fun hc=>?_|refine bp fun hc=>?_|refine bq (fun hc=>?_) fun hc=>?_)<;>(try simp only[hc,bs,↓reduceIte]at h)<;>try simp only[hc]
 |(with_reducible refine aE hQ ?_;(try cases h);simp only[aV,aX,bH,bI,go_sem,hD,hY,hZ,gA,x1,x2,b1,b3,oj,eQ,x3,x4,x5];try exact cq)
 |(cases h;done))
  (refine gL hQ ?_;simp only[aV,aX,bH,bI,go_sem])
  exact⟨rfl,y3,⟨_,vZ⟩,h4.sub nG⟩
 rw[if_neg (by simp[b3])]at hQ
 rcases Bool.eq_false_or_eq_true (it.s.kind==5)with b5|b5
 ·rw [if_pos b5]at hQ
  rcases Bool.eq_false_or_eq_true (v==0)with bv|bv
  ·rw [if_pos bv]at hQ
   repeat' (first
 |simp only[go_sem,hD,hY,hZ,gA,x1,x2,b1,b3,b5,nb,bv]
 |(with_reducible refine CU (fT _ _) ?_)
 |(with_reducible refine CU (fE _ _) ?_)
 |(with_reducible first|refine bo fun hc=>?_|refine bp fun hc=>?_|refine bq (fun hc=>?_) fun hc=>?_)<;>(try simp only[hc,bs,↓reduceIte]at h)<;>try simp only[hc]
 |(with_reducible refine aE hQ ?_;(try cases h);simp only[aV,aX,bH,bI,go_sem,hD,hY,hZ,gA,x1,x2,b1,b3,b5,nb,bv];try exact cq)
 | (cases h;done))
   (refine gL hQ ?_;simp only[aV,aX,bH,bI,go_sem])
   exact⟨rfl,y3,⟨_,vZ⟩,h3.sub nG⟩
  ·rw [if_neg (by simp [bv])]at hQ
   repeat' (first
 |simp only[go_sem,hD,hY,hZ,gA,x1,x2,b1,b3,b5,nb,bv]
 |(with_reducible refine CU (fT _ _) ?_)
 |(with_reducible refine CU (fE _ _) ?_)
 |(with_reducible first|refine bo fun hc=>?_|refine bp fun hc=>?_|refine bq (fun hc=>?_) fun hc=>?_)<;>(try simp only[hc,bs,↓reduceIte]at h)<;>try simp only[hc]
 |(with_reducible refine aE hQ ?_;(try cases h);simp only[aV,aX,bH,bI,go_sem,hD,hY,hZ,gA,x1,x2,b1,b3,b5,nb,bv];try exact cq)
 | (cases h;done))
   (refine gL hQ ?_;simp only[aV,aX,bH,bI,go_sem])
   exact⟨rfl,y3,⟨_,vZ⟩,h3.sub nG⟩
 rw[if_neg (by simp[b5])]at hQ
 rcases Bool.eq_false_or_eq_true (it.s.kind==6)with b6|b6
 ·rw [if_pos b6]at hQ
  rcases Bool.eq_false_or_eq_true (v==0)with bv|bv
  ·rw [if_pos bv]at hQ
   repeat' (first
 |simp only[go_sem,hD,hY,hZ,gA,x1,x2,b1,b3,b5,b6,nb,bv]
 |(with_reducible refine CU (fT _ _) ?_)
 |(with_reducible refine CU (fE _ _) ?_)
 |(with_reducible first|refine bo fun hc=>?_|refine bp fun hc=>?_|refine bq (fun hc=>?_) fun hc=>?_)<;>(try simp only[hc,bs,↓reduceIte]at h)<;>try simp only[hc]
 |(with_reducible refine aE hQ ?_;(try cases h);simp only[aV,aX,bH,bI,go_sem,hD,hY,hZ,gA,x1,x2,b1,b3,b5,b6,nb,bv];try exact cq)
 | (cases h;done))
   (refine gL hQ ?_;simp only[aV,aX,bH,bI,go_sem])
   exact⟨rfl,y3,⟨_,vZ⟩,h3.sub nG⟩
  ·rw [if_neg (by simp [bv])]at hQ
   repeat' (first
 |simp only[go_sem,hD,hY,hZ,gA,x1,x2,b1,b3,b5,b6,nb,bv]
 |(with_reducible refine CU (fT _ _) ?_)
 |(with_reducible refine CU (fE _ _) ?_)
 |(with_reducible first|refine bo fun hc=>?_|refine bp fun hc=>?_|refine bq (fun hc=>?_) fun hc=>?_)<;>(try simp only[hc,bs,↓reduceIte]at h)<;>try simp only[hc]
 |(with_reducible refine aE hQ ?_;(try cases h);simp only[aV,aX,bH,bI,go_sem,hD,hY,hZ,gA,x1,x2,b1,b3,b5,b6,nb,bv];try exact cq)
 | (cases h;done))
   (refine gL hQ ?_;simp only[aV,aX,bH,bI,go_sem])
   exact⟨rfl,y3,⟨_,vZ⟩,h3.sub nG⟩
 rw[if_neg (by simp[b6])]at hQ
 repeat' (first
 |simp only[go_sem,hD,hY,hZ,gA,x1,x2,b1,b3,b5,b6]
 |(with_reducible first|refine bo fun hc=>?_|refine bp fun hc=>?_|refine bq (fun hc=>?_) fun hc=>?_)<;>(try simp only[hc,bs,↓reduceIte]at h)<;>try simp only[hc]
 |(with_reducible refine aE hQ ?_;(try cases h);simp only[aV,aX,bH,bI,go_sem,hD,hY,hZ,gA,x1,x2,b1,b3,b5,b6];try exact cq)
 |(cases h;done))
 (refine gL hQ ?_;simp only[aV,aX,bH,bI,go_sem])
 exact⟨rfl,y3,⟨_,vZ⟩,h3.sub nG⟩
end
end Go.Abs
namespace Go.Abs
set_option maxRecDepth 8000
open Go.Proofs
section
variable {p:Pg} {T W:List Int} {y:Lay} {m:Mc} {loc:List (Nat×List D)} {s:St}
theorem zW : ∀ (l:List Ar) (m:Mc) (out:List Nat),(Mc.args l m out).2.out=m.out∧(Mc.args l m out).2.trace=m.trace
 | [],m,out=>⟨rfl,rfl⟩
 | a::l,m,out=>by
  have hw:=fB m a.x
  simp only[Mc.args]
  by_cases c:a.ref=true
  ·rw[if_pos c];exact zW l m _
  ·rw [if_neg c]
   by_cases c2:(m.bA a.x).1.2=true
   ·rw [if_pos c2]
    obtain⟨h1,h2⟩:=zW l {(m.bA a.x).2 with mem:=(m.bA a.x).2.mem++ [(m.bA a.x).1.1]} (out++ [(m.bA a.x).2.mem.length])
    exact⟨h1.trans hw.2.2.2.2.1,h2.trans hw.2.2.2.2.2⟩
   ·rw[if_neg c2];exact⟨hw.2.2.2.2.1,hw.2.2.2.2.2⟩
structure SV (p:Pg) (fr:Fr) (v:Sm):Prop where
 said:v.nz
 args : ∀ a∈v.args,a.x.texts∧a.x.size<1000000∧(a.ref=true→∃ k,v7 fr a.name k)
 proc : ∃ (j:Nat) (q:Pc),p.at v.proc=(j:Int)∧p.procs[j]? = some q∧p.find q.name=some q
theorem SW (hp:p.iJ) (V5:p.may=true) (h:Inv p T W y m loc s) {fr:Fr} {r:List Fr} (ht:mT m fr r) (hz:Ih p T W m) (hg:p.globals.length≤m.mem.length) {v:Sm} (hd:SV p fr v) :
 bM Tryz.prog o6 [.ptr 0 0, .agg (bh v)] s (Rl p T W (.int .i64 (m.call p W v).1) (m.call p W v).2 (fun _=>True) loc):=by
 have h1:=h.new (bh v)
 have IG:2≤s.aw.length:=by have:=(List.getElem?_eq_some_iff.1 h.t1).1;omega
 generalize hn:s.ah.length=n at h1
 generalize LL:s.aw.length=tk at IG
 have yi:v.args.length<1000000:=by have:=hd.said.2.2;have:=Ar.eJ v.args;omega
 have awy:=ht.st
 refine bM.uD zr rfl fun B Q hB hQ=>?_
 have⟨hD,hY,hZ,gA⟩:=bR
 have loop : ∀ (rest:List Ar) (k:Nat) (m1:Mc) (out:List Nat) (y1:Lay) (s1:St),v.args.drop k=rest→Mc.args v.args m [] = Mc.args rest m1 out→m1.st=m.st→m1.trace=m.trace∧m1.out=m.out→m.mem.length≤m1.mem.length→out.length=k∧k≤v.args.length→(∀ c∈out,c<m1.mem.length)→
  Inv p T W y1 m1 ((n,bh v)::loc) s1→s1.aw[tk]? = some (some out.length)→
  bt Tryz.prog B 67 QD8 (kB 0 (nR (kb Tryz.prog B 67 QDN Q) Q))
   [(0, .ptr 0 0),(3, .ptr n 0),(5, .slice (.tok tk) 1 (out.map fun c=>fl (y1.κ.getD c 0))),(12, .slice .shared 6 (v.args.map eC)),(13, .int .i64 (v.args.length:Int)),(14, .int .i64 (k:Int))] s1:=by
  intro rest
  induction rest with
  | nil=>
   intro k m1 out y1 s1 G3 nA vg A7 vJ wk pJ h2 V6
   have hD:=drop_nil G3
   have wO:mT m1 fr r:=⟨by rw[vg];exact ht.st,ht.len,ht.names,ht.vars⟩
   obtain⟨so,g,cells,o,e1,e2,e3,e4,e5⟩:=h2.VZ wO.st
   have jD:=h2.jF
   rw[fx,e1]at jD
   have tF:=(h2.loc (n,bh v) (by simp)).1
   have iX:=h2.uI
   have Gv:m.call p W v=if m1.st.length > 100 then(-1,{m1 with fin:=5})else(m1.event W v.id []).open p (p.at v.proc) out v.id:=by
    unfold Mc.call
    rw[nA]
    rfl
   have hlen:m1.st.length=r.length+1:=by rw[wO.st];rfl
   rw[Gv,hlen]at hQ
   simp only at tF
   refine bt.kR ?_
   by_cases Vj:r.length+1 > 100
   ·have Fh:decide (((r.length+1:Nat):Int) > 100)=true:=by simp;omega
    rw[if_pos Vj]at hQ
    have h3:=h2.tQ (m':= {m1 with fin:=5}) rfl rfl h2.t0 h2.t1
    rw[fx,e1]at h3
    simp only at h3
    repeat' (first
 |simp only[go_sem,hD,hY,hZ,gA,jD,tF,Fh,iX]
 |(with_reducible first|refine bo fun hc=>?_|refine bp fun hc=>?_|refine bq (fun hc=>?_) fun hc=>?_)<;>(try simp only[hc,bs,↓reduceIte]at h)<;>try simp only[hc]
 |(with_reducible refine aE hQ ?_;(try cases h);simp only[aV,aX,bH,bI,go_sem,hD,hY,hZ,gA,jD,tF,Fh,iX];try exact cq)
 | (cases h;done))
    (refine gL hQ ?_;simp only[aV,aX,bH,bI,go_sem])
    exact⟨rfl,y1,trivial,h3.sub fun q mq=>List.mem_cons_of_mem _ mq⟩
   ·have Fh:decide (((r.length+1:Nat):Int) > 100)=false:=by simp;omega
    rw[if_neg Vj]at hQ
    have c1:=vY h2 hz.W (by rw[A7.1];exact hz.trace) v.id
    repeat' (first
 |simp only[go_sem,hD,hY,hZ,gA,jD,tF,Fh,iX]
 |(with_reducible first|refine bo fun hc=>?_|refine bp fun hc=>?_|refine bq (fun hc=>?_) fun hc=>?_)<;>(try simp only[hc,bs,↓reduceIte]at h)<;>try simp only[hc]
 |(with_reducible refine aE hQ ?_;(try cases h);simp only[aV,aX,bH,bI,go_sem,hD,hY,hZ,gA,jD,tF,Fh,iX];try exact cq)
 | (cases h;done))
    refine CR c1 fun d s3 h3=>?_
    obtain⟨rfl,y3,rfl,h3⟩:=h3
    have he:=dT W m1 v.id []
    obtain⟨j,q,j1,j2,j3⟩:=hd.proc
    obtain⟨y4,s4,hF,h4⟩:=Mt h3 hp V5 j2 j3 (by rw[he.1,hlen];have:=ht.len;omega) (l:=out) (by rw[he.2.1];exact pJ) (by omega) (by rw[he.2.1];omega) v.id
    have hF':=fun g:Tag=>bM.qu (.cons (Wk.refl _) (.cons (Wk.refl _) (.cons (Wk.shared g 1 _) (jr.refl _)))) hF
    have hF2:aF Tryz.prog jm [.ptr 0 0, .int .i64 (j:Int), .slice (.tok tk) 1 (out.map fun c=>fl (y3.κ.getD c 0)), .int .i64 v.id] s3 _ s4:=hF' _
    have cP:=fun s=>EH (p:=p) (by have:=hp.procs.1;omega) v.proc s
    have oj:=h3.jF
    rw[fx]at oj
    have hx3:=(h3.loc (n,bh v) (by simp)).1
    simp only at hx3
    rw[j1]at hQ cP
    repeat' (first
 |simp only[go_sem,hD,hY,hZ,gA,oj,hx3]
 |(with_reducible refine CU (cP _) ?_)
 |(with_reducible refine CU (hF2) ?_)
 |(with_reducible first|refine bo fun hc=>?_|refine bp fun hc=>?_|refine bq (fun hc=>?_) fun hc=>?_)<;>(try simp only[hc,bs,↓reduceIte]at h)<;>try simp only[hc]
 |(with_reducible refine aE hQ ?_;(try cases h);simp only[aV,aX,bH,bI,go_sem,hD,hY,hZ,gA,oj,hx3];try exact cq)
 | (cases h;done))
    (refine gL hQ ?_;simp only[aV,aX,bH,bI,go_sem])
    exact⟨rfl,y4,trivial,h4.sub fun q mq=>List.mem_cons_of_mem _ mq⟩
  | cons a rest ih=>
   intro k m1 out y1 s1 G3 nA vg A7 vJ wk pJ h2 V6
   obtain⟨hY,g2,hD,g4⟩:=drop_cons G3
   have bU:k<4611686018427387904:=by omega
   obtain⟨a1,a2,a3⟩:=hd.args a (List.mem_of_getElem? hY)
   have wO:mT m1 fr r:=⟨by rw[vg];exact ht.st,ht.len,ht.names,ht.vars⟩
   have h3:=h2.new (eC a)
   have zq : ∀ z:List D,(s1.ah++ [z]).set s1.ah.length (eC a)=s1.ah++ [eC a]:=fun z=>by simp
   have zg : ∀ z:List D,(s1.ah++ [z])[s1.ah.length]? = some z:=fun z=>by simp
   have eQ : ∀ (x:Nat) (os:List (List D)),gY 1 8 (.slice (.tok tk) 1 (out.map fun c=>fl (y1.κ.getD c 0))) (.slice .full 1 [[.ptr x 0]]) ⟨os,s1.aw⟩=some (.slice (.tok tk) 1 ((out.map fun c=>fl (y1.κ.getD c 0))++ [fl x]),⟨os,s1.aw.set tk (some (out.length+1))⟩):=fun x os=>by
    rw[mH (size:=1) (by simp only[List.length_map,List.length_singleton];unfold bC;omega) (by simpa using V6)]
    simp[fl]
   have DW : ∀ k':Nat,(s1.aw.set tk (some k'))[0]? = s1.aw[0]? ∧(s1.aw.set tk (some k'))[1]? = s1.aw[1]? ∧(s1.aw.set tk (some k'))[tk]? = some (some k'):=fun k'=>
    ⟨List.getElem?_set_ne (by omega),List.getElem?_set_ne (by omega),by simp[(List.getElem?_eq_some_iff.1 V6).1]⟩
   refine bt.kR ?_
   rcases Bool.eq_false_or_eq_true a.ref with b|b
   ·obtain⟨c,hc⟩:=a3 b
    have Ks:=hc.cell wO.top
    obtain⟨j,hj,BW⟩:=hc
    have c1:=Ct h3 wO.st wO.len wO.names hj BW
    obtain⟨hκ,v0,gm,_⟩:=cell_of h2 wO.st BW
    have Ah:=(List.getElem?_eq_some_iff.1 gm).1
    repeat' (first
 |simp only[go_sem,hD,hY,hZ,gA,hY,zq,zg,b,eQ]
 |(with_reducible refine CU (c1) ?_)
 |(with_reducible first|refine bo fun hc=>?_|refine bp fun hc=>?_|refine bq (fun hc=>?_) fun hc=>?_)<;>(try simp only[hc,bs,↓reduceIte]at h)<;>try simp only[hc]
 |(with_reducible refine aE hQ ?_;(try cases h);simp only[aV,aX,bH,bI,go_sem,hD,hY,hZ,gA,hY,zq,zg,b,eQ];try exact cq)
 | (cases h;done))
    have:=ih (k+1) m1 (out++ [c]) y1 ⟨s1.ah++ [eC a],s1.aw.set tk (some (out.length+1))⟩ g2 (by rw[nA];simp only[Mc.args,b,if_true,Ks]) vg A7 vJ ⟨by simp[wk.1],g4⟩ (fun x mx=>by
     rcases List.mem_append.1 mx with mx|mx
     ·exact pJ x mx
     ·rw[List.mem_singleton.1 mx];exact Ah) ((h3.sub fun q mq=>List.mem_cons_of_mem _ mq).keep (fun _ _ e=>e) (DW _).1 (DW _).2.1) (by simpa using (DW _).2.2)
    refine bt.pM ?_ this
    simp only[go_sem,aI bU,List.map_append,List.map_cons,List.map_nil]
    repeat' (first|exact Ok.out|with_reducible refine iZ ?_ ?_)
   ·have c1:=DT h3 wO a2 a1
    repeat' (first
 |simp only[go_sem,hD,hY,hZ,gA,hY,zq,zg,b]
 |(with_reducible first|refine bo fun hc=>?_|refine bp fun hc=>?_|refine bq (fun hc=>?_) fun hc=>?_)<;>(try simp only[hc,bs,↓reduceIte]at h)<;>try simp only[hc]
 |(with_reducible refine aE hQ ?_;(try cases h);simp only[aV,aX,bH,bI,go_sem,hD,hY,hZ,gA,hY,zq,zg,b];try exact cq)
 | (cases h;done))
    refine CR c1 fun d s2 h4=>?_
    obtain⟨⟨rfl,y2,vZ,h4⟩,vq⟩:=h4
    have hw:=fB m1 a.x
    simp only at vq
    rcases Bool.eq_false_or_eq_true (m1.bA a.x).1.2 with bw|bw
    ·have SS:(m1.bA a.x).2=m1:=by
      unfold Mc.bA
      dsimp only
      rw[if_pos (show(a.x.bA m1.top.names m1.bK).2=true from bw)]
     rw[SS]at h4
     have yq : ∀ z:List D,(s2.ah++ [z]).set s2.ah.length [.int .i64 (m1.bA a.x).1.1] = s2.ah++ [[.int .i64 (m1.bA a.x).1.1]]:=fun z=>by simp
     have yg : ∀ z:List D,(s2.ah++ [z])[s2.ah.length]? = some z:=fun z=>by simp
     rw[← vq]at eQ DW
     have h5:=h4.aoj (m1.bA a.x).1.1 (by omega)
     have hyκ:y2.κ=y1.κ:=by rw[vZ]
     have ahU:y1.κ.length=m1.mem.length:=h2.len
     repeat' (first
 |simp only[go_sem,hD,hY,hZ,gA,bw,yq,yg,eQ]
 |(with_reducible first|refine bo fun hc=>?_|refine bp fun hc=>?_|refine bq (fun hc=>?_) fun hc=>?_)<;>(try simp only[hc,bs,↓reduceIte]at h)<;>try simp only[hc]
 |(with_reducible refine aE hQ ?_;(try cases h);simp only[aV,aX,bH,bI,go_sem,hD,hY,hZ,gA,bw,yq,yg,eQ];try exact cq)
 | (cases h;done))
     have:=ih (k+1) {m1 with mem:=m1.mem++ [(m1.bA a.x).1.1]} (out++ [m1.mem.length]) {y2 with κ:=y2.κ++ [s2.ah.length]} ⟨s2.ah++ [[.int .i64 (m1.bA a.x).1.1]],s2.aw.set tk (some (out.length+1))⟩ g2
      (by rw [nA];simp only [Mc.args,b,Bool.false_eq_true,if_false,bw,if_true,SS]) vg A7 (by simp;omega) ⟨by simp [wk.1],g4⟩ (fun x mx=>by
       simp only[List.length_append,List.length_singleton]
       rcases List.mem_append.1 mx with mx|mx
       ·have:=pJ x mx;omega
       ·rw[List.mem_singleton.1 mx];omega) ((h5.sub fun q mq=>List.mem_cons_of_mem _ mq).keep (fun _ _ e=>e) (DW _).1 (DW _).2.1) (by simpa using (DW _).2.2)
     refine bt.pM ?_ this
     have aos:(out.map fun c=>fl ((y2.κ++ [s2.ah.length]).getD c 0))=out.map fun c=>fl (y1.κ.getD c 0):=List.map_congr_left fun c mc=>by rw[hyκ,DV (by have:=pJ c mc;omega)]
     have dh:(y2.κ++ [s2.ah.length]).getD m1.mem.length 0=s2.ah.length:=by rw[hyκ, ← ahU];simp[List.getD_eq_getElem?_getD]
     simp only[go_sem,aI bU,List.map_append,List.map_cons,List.map_nil,aos,dh]
     repeat' (first|exact Ok.out|with_reducible refine iZ ?_ ?_)
    ·repeat' (first
 |simp only[go_sem,hD,hY,hZ,gA,bw]
 |(with_reducible first|refine bo fun hc=>?_|refine bp fun hc=>?_|refine bq (fun hc=>?_) fun hc=>?_)<;>(try simp only[hc,bs,↓reduceIte]at h)<;>try simp only[hc]
 |(with_reducible refine aE hQ ?_;(try cases h);simp only[aV,aX,bH,bI,go_sem,hD,hY,hZ,gA,bw];try exact cq)
 |(cases h;done))
     (refine gL hQ ?_;simp only[aV,aX,bH,bI,go_sem])
     have Gv:m.call p W v=(-1,(m1.bA a.x).2):=by
      unfold Mc.call
      rw[nA]
      simp only[Mc.args,b,Bool.false_eq_true,if_false,bw]
     rw[Gv]
     exact⟨rfl,y2,trivial,h4.sub fun q mq=>List.mem_cons_of_mem _ (List.mem_cons_of_mem _ mq)⟩
 have Yi:(s.ah++ [bh v])[n]? = some (bh v):=by simp[← hn]
 have l0:=loop v.args 0 m [] y ⟨s.ah++ [bh v],s.aw++ [some 0]⟩ rfl rfl rfl ⟨rfl,rfl⟩ (Nat.le_refl _) ⟨rfl,Nat.zero_le _⟩ (by simp) (h1.aw _) (by simp[← LL])
 repeat' (first
 |simp only[go_sem,hD,hY,hZ,gA,Yi,hn]
 |(with_reducible first|refine bo fun hc=>?_|refine bp fun hc=>?_|refine bq (fun hc=>?_) fun hc=>?_)<;>(try simp only[hc,bs,↓reduceIte]at h)<;>try simp only[hc]
 |(with_reducible refine aE hQ ?_;(try cases h);simp only[aV,aX,bH,bI,go_sem,hD,hY,hZ,gA,Yi,hn];try exact cq)
 |(cases h;done))
 refine bt.sm 5 1 rfl ?_
 simp only[go_sem,hD,hY,hZ,gA]
 refine bt.pM ?_ l0
 simp only[go_sem,LL,List.map_nil]
 repeat' (first|exact Ok.out|with_reducible refine iZ ?_ ?_)
end
end Go.Abs
namespace Go.Abs
theorem V7 {v:Sm} (h:v.one=true) (hk:v.kind=1∨v.kind=2):v.name≠ []:=by
 intro e
 have hn:v.hasName=true:=by unfold Sm.hasName;rcases hk with hk|hk<;>simp[hk]
 unfold Sm.one at h
 split at h
 ·cases h
 ·rw [e,hn]at h
  simp[isName]at h
theorem Hw {v:Sm} (hk:v.kind≠10) (hn:v.name≠ []):v.name∈v.said:=by
 unfold Sm.said Sm.sQ
 refine uZ (.inl ?_)
 rw[if_pos (by simp[hk,hn])]
 simp
theorem zX {name:aG} {f:Pc} : ∀ {l:List Pc},iU name l=some f→f.name=name
 |g::l,h=>by
  simp only[iU]at h
  split at h
  ·rename_i e;cases h;simpa using e
  ·exact zX h
mutual
theorem ael : ∀ s:Sm,∀ v∈s.pre,v.size≤s.size
 | ⟨id,kind,labels,name,proc,x,has,args,a8,aS⟩,v,m=>by
  rw[Sm.qc]at m
  rcases List.mem_cons.1 m with rfl|m
  ·exact Nat.le_refl _
  ·simp only [Sm.size]
   rcases List.mem_append.1 m with m|m
   ·have:=Cu a8 v m;omega
   ·have:=Cu aS v m;omega
theorem Cu : ∀ l:List Sm,∀ v∈Sm.dd l,v.size≤Sm.a7 l
 | [],v,m=>by simp[Sm.dd]at m
 |s::l,v,m=>by
  simp only[Sm.dd,List.mem_append]at m
  simp only[Sm.a7]
  rcases m with m|m
  ·have:=ael s v m;omega
  ·have:=Cu l v m;omega
end
theorem F9 : ∀ l:List Sm,l.length≤Sm.a7 l
 | []=>Nat.le_refl _
 |s::l=>by
  have:=F9 l
  have h1:1≤s.size:=by cases s;simp only[Sm.size];omega
  simp only[Sm.a7,List.length_cons];omega
section
variable {p:Pg} {m:Mc} {a:Int}
theorem Kt (hO:p.iJ) (h:po p p.aY.L a m) (hl:m.st.length≤1000) : ∃ fr r f,mT m fr r∧p.procs[fr.proc.toNat]? = some f∧fr.names=p.globals++f.own∧fr.vars.length=fr.names.length∧m.top=fr:=by
 obtain⟨fr,r,e⟩:=h.st.ne
 have ht:m.top=fr:=by simp[Mc.top,e]
 obtain⟨f,h1,h2,h3,h4,h5⟩:=h.fr fr (by rw[e];exact List.mem_cons_self ..)
 have hf:=List.mem_of_getElem? h1
 have s1:=Pc.dm hf
 have s2:=hO.sz
 simp only[Pg.size]at s2
 have hn:fr.names.length<1000000:=by
  rw[h3]
  have s3:=hO.small hf
  simp only[Pc.size]at s1
  simp only[List.length_append,Pc.own,Pc.tx,List.length_map]
  have:=s3.par;have:=s3.vars
  omega
 rw[e]at hl
 exact⟨fr,r,f,⟨e,by simp at hl;omega,hn,by omega⟩,h1,h3,h4,ht⟩
theorem Ga {fr:Fr} (hv:fr.vars.length=fr.names.length) {n:aG} (hn:n∈fr.names) : ∃ k,v7 fr n k:=by
 obtain⟨j,h1,h2⟩:=Kl (k:=0) hn
 exact⟨_,j,by simpa using h1,List.getElem?_eq_getElem (by omega)⟩
theorem aah {fr:Fr} (h:po p p.aY.L a m) (ht:m.top=fr) (hR:p.Right) (ha:a≠ -1) {f:Pc} (hf:p.procs[fr.proc.toNat]? = some f):BT p p.aY.L (fj p.aY.L a) f∧(fj p.aY.L a).proc=fr.proc∧fj p.aY.L a∈p.aY.L∧
 ∃ c:Nat,a=(c:Int)+1∧p.aY.L[c]? = some (fj p.aY.L a):=by
 have hm:=h.at_.resolve_left ha
 have gE:=pj (L:=p.aY.L) (.inr ⟨hm.1,hm.2.1⟩) ha
 obtain⟨f',o⟩:=(pk hR).im _ gE
 have hp:(fj p.aY.L a).proc=fr.proc:=by rw[← ht];exact hm.2.2
 have:f'=f:=by have:=o.proc.1;rw[hp,hf]at this;exact(Option.some.inj this).symm
 subst this
 have h1:=hm.1
 have h2:=hm.2.1
 refine⟨o,hp,gE,(a - 1).toNat,by omega, ?_⟩
 unfold fj
 rw[List.getD_eq_getElem?_getD,List.getElem?_eq_getElem (show(a - 1).toNat<p.aY.L.length by omega)];rfl
theorem Mu (hO:p.iJ) (hR:p.Right) {x:Im} {f:Pc} {fr:Fr} (hx:BT p p.aY.L x f) (hn:fr.names=p.globals++f.own) (hv:fr.vars.length=fr.names.length):aef p fr x:=by
 have hf:=List.mem_of_getElem? hx.proc.1
 have pV:x.s∈p.pre:=by
  simp only[Pg.pre,List.mem_flatten,List.mem_map];exact⟨_,⟨f,hf,rfl⟩,hx.mem⟩
 have dO:=Cu f.body x.s hx.mem
 have s1:=Pc.dm hf
 have s2:=hO.sz
 simp only[Pg.size]at s2
 simp only[Pc.size]at s1
 have hs:Sm.a7 x.s.a8+Sm.a7 x.s.aS≤x.s.size:=by
  cases x with
  |mk s _ _ _ _=>cases s;simp only[Sm.size];omega
 refine⟨hO.said hf _ hx.mem,fun hk=>?_,fun hk=>?_,fun hk=>?_, ?_, ?_⟩
 ·have hl:=hx.loop (.inl hk)
  have h1:=hl.1
  have h2:=hl.2.1
  exact⟨(x.loop - 1).toNat,_,by omega,List.getElem?_eq_getElem (by omega)⟩
 ·obtain⟨i,hi⟩:=Int.eq_ofNat_of_zero_le hx.proc.2
  exact⟨i,f,hi,by have:=hx.proc.1;rwa [hi,Int.toNat_natCast]at this⟩
 ·refine Ga hv ?_
  rw[hn]
  exact zQ hR hx (Hw (by rcases hk with hk|hk<;>omega) (V7 (Mk hR.may _ pV) hk))
 ·have:=F9 x.s.a8;omega
 ·have:=F9 x.s.aS;omega
theorem SX (hO:p.iJ) (hR:p.Right) {x:Im} {f:Pc} {fr:Fr} (hx:BT p p.aY.L x f) (hk:x.s.kind=4) (hn:fr.names=p.globals++f.own) (hv:fr.vars.length=fr.names.length):SV p fr x.s:=by
 have hf:=List.mem_of_getElem? hx.proc.1
 have rW:=hO.said hf _ hx.mem
 have pV:x.s∈p.pre:=by
  simp only[Pg.pre,List.mem_flatten,List.mem_map];exact⟨_,⟨f,hf,rfl⟩,hx.mem⟩
 refine⟨rW,fun b mb=>⟨rW.2.1 b mb, ?_,fun hr=>?_⟩, ?_⟩
 ·have:=rW.2.2
  have key : ∀ l:List Ar,b∈l→b.x.size≤Ar.a7 l:=fun l=>by
   induction l with
   |nil=>intro m;cases m
   |cons c l ih=>
    intro m
    simp only[Ar.a7]
    rcases List.mem_cons.1 m with rfl|m
    ·omega
    ·have:=ih m;omega
  have:=key _ mb
  omega
 ·refine Ga hv ?_
  rw[hn]
  exact zQ hR hx (uZ (.inr ⟨b,mb,hr,rfl⟩))
 ·have jo:=hR.fits _ pV (by simp [hk])
  obtain⟨q,hq⟩:=Hp jo
  obtain⟨j,h1,h2⟩:=Ig (k:=0) hq
  exact⟨j,q,by simpa[Pg.at]using h1,h2,by rw[zX hq];exact hq⟩
theorem PN (hO:p.iJ) (hR:p.Right) (h:po p p.aY.L a m) (hl:m.st.length≤1000) {fr:Fr} {r:List Fr} (ht:mT m fr r) :
 fr.call=0∨∃ (c:Nat) (it:Im) (uH:Fr) (r2:List Fr),fr.call=(c:Int)+1∧p.aY.L[c]? = some it∧mT {m with st:=r} uH r2∧(it.s.name≠ []→∃ k,v7 uH it.s.name k):=by
 have hs:=h.st
 have ji:=ht.st
 rw[ji]at hs
 cases r with
 |nil=>exact .inl hs
 | cons uH r2=>
  obtain⟨⟨h1,He⟩,h2⟩:=hs
  have e1:=h1.1
  have e2:=h1.2.1
  refine .inr ⟨(fr.call - 1).toNat,fj p.aY.L fr.call,uH,r2,by omega, ?_, ?_,fun hn=>?_⟩
  ·unfold fj
   rw[List.getD_eq_getElem?_getD,List.getElem?_eq_getElem (show(fr.call - 1).toNat<p.aY.L.length by omega)];rfl
  ·have h3:po p p.aY.L (-1) {m with st:=uH::r2}:=⟨h2,fun q hq=>h.fr q (by rw [ji];exact List.mem_cons_of_mem _ hq), .inl rfl,h.ui⟩
   obtain⟨Ms,r',f',t,_⟩:=Kt hO h3 (by rw[ji]at hl;simp at hl ⊢;omega)
   have:=t.st
   cases this
   exact t
  ·obtain⟨f,g1,g2,g3,g4,g5⟩:=h.fr uH (by rw [ji];simp)
   have gE:fj p.aY.L fr.call∈p.aY.L:=pj (.inr ⟨e1,e2⟩) (by omega)
   obtain⟨f',o⟩:=(pk hR).im _ gE
   have:f'=f:=by have:=o.proc.1;rw[h1.2.2,g1]at this;exact(Option.some.inj this).symm
   subst this
   refine Ga g4 ?_
   rw[g3]
   exact zQ hR o (Hw (by omega) hn)
end
end Go.Abs
namespace Go.Abs
structure xL (m:Mc):Prop where
 steps:0≤m.steps
 trace:(m.trace.length:Int)≤m.steps
 out:(m.out.length:Int)≤m.steps
 reads:0≤m.reads∧m.reads≤m.steps
 st:m.st.length≤101
structure BX (m m':Mc):Prop where
 trace:m'.trace.length≤m.trace.length+1
 out:m'.out.length≤m.out.length+1
 reads:m'.reads=m.reads∨m'.reads=m.reads+1
 steps:m'.steps=m.steps
theorem SY (W:List Int) (m:Mc) (id:Int) (bK:List Int):(m.event W id bK).trace.length≤m.trace.length+1:=by
 unfold Mc.event
 split<;>simp
theorem mA (W:List Int) (m:Mc) (id:Int) (bK:List Int):BX m (m.event W id bK):=by
 have h:=dT W m id bK
 exact⟨SY W m id bK,by rw[h.2.2.2.2.2];omega, .inl h.2.2.2.2.1,h.2.2.2.1⟩
theorem Fi (m:Mc) (x:Ex):BX m (m.bA x).2:=by
 have h:=fB m x
 exact⟨by rw[h.2.2.2.2.2];omega,by rw[h.2.2.2.2.1];omega, .inl h.2.2.2.1,h.2.2.1⟩
theorem w9 (p:Pg) (m:Mc) (i:Int) (l:List Nat) (c:Int):(m.open p i l c).2.trace=m.trace∧(m.open p i l c).2.out=m.out∧(m.open p i l c).2.reads=m.reads∧(m.open p i l c).2.steps=m.steps:=by
 unfold Mc.open
 split<;>exact⟨rfl,rfl,rfl,rfl⟩
theorem xa : ∀ (l:List Ar) (m:Mc) (out:List Nat),(Mc.args l m out).2.reads=m.reads∧(Mc.args l m out).2.steps=m.steps
 | [],m,out=>⟨rfl,rfl⟩
 | a::l,m,out=>by
  have hw:=fB m a.x
  simp only[Mc.args]
  by_cases c:a.ref=true
  ·rw[if_pos c];exact xa l m _
  ·rw [if_neg c]
   by_cases c2:(m.bA a.x).1.2=true
   ·rw [if_pos c2]
    obtain⟨h1,h2⟩:=xa l {(m.bA a.x).2 with mem:=(m.bA a.x).2.mem++ [(m.bA a.x).1.1]} (out++ [(m.bA a.x).2.mem.length])
    exact⟨h1.trans hw.2.2.2.1,h2.trans hw.2.2.1⟩
   ·rw[if_neg c2];exact⟨hw.2.2.2.1,hw.2.2.1⟩
theorem SZ (p:Pg) (W:List Int) (m:Mc) (v:Sm):BX m (m.call p W v).2∧((m.call p W v).2.st.length≤m.st.length∨(m.call p W v).2.st.length≤101):=by
 have h1:=zW v.args m []
 have h2:=xa v.args m []
 have h3:=(u7 v.args m []).1
 unfold Mc.call
 generalize Mc.args v.args m [] = r at *
 obtain⟨o,m1⟩:=r
 dsimp only at h1 h2 h3
 cases o with
 |none=>exact⟨⟨by simp[h1.2],by simp[h1.1], .inl h2.1,h2.2⟩, .inl (by simp[h3])⟩
 | some l=>
  dsimp only
  by_cases c:m1.st.length > 100
  ·rw[if_pos c];exact⟨⟨by simp[h1.2],by simp[h1.1], .inl h2.1,h2.2⟩, .inl (by simp[h3])⟩
  ·rw [if_neg c]
   have e1:=mA W m1 v.id []
   have e2:=w9 p (m1.event W v.id []) (p.at v.proc) l v.id
   have e3:=(yI p (m1.event W v.id []) (p.at v.proc) l v.id).1
   have e4:=(dT W m1 v.id []).1
   refine⟨⟨by rw[e2.1, ← h1.2];exact e1.trace,by rw[e2.2.1, ← h1.1];exact e1.out, ?_,by rw[e2.2.2.2,e1.steps,h2.2]⟩, .inr (by rw[e4]at e3;omega)⟩
   rw[e2.2.2.1, ← h2.1];exact e1.reads
theorem PO (W:List Int) (m:Mc) (v:Sm):BX m (m.fa W v).2:=by
 have hw:=fB m v.x
 unfold Mc.fa
 split
 ·dsimp only
  split
  ·have e:=mA W (m.bA v.x).2 v.id [(m.bA v.x).1.1]
   exact⟨by rw[← hw.2.2.2.2.2];exact e.trace,by rw[← hw.2.2.2.2.1];exact e.out,by rw[← hw.2.2.2.1];exact e.reads,e.steps.trans hw.2.2.1⟩
  ·exact Fi m v.x
 ·exact mA W m v.id []
theorem aai (p:Pg) (L:List Im) (T W:List Int) (m:Mc) (it:Im):BX m (m.do p L T W it).2:=by
 have hw:=fB m it.s.x
 unfold Mc.do
 dsimp only
 split
 ·exact mA W m _ _
 split
 ·exact mA W m _ _
 split
 ·exact mA W m _ _
 split
 ·split
  ·exact⟨by simp,by simp, .inl rfl,rfl⟩
  ·rename_i n _
   have e:=mA W (({m with reads:=m.reads+1} : Mc).set it.s.name n) it.s.id [n]
   have e2:=(dT W (({m with reads:=m.reads+1} : Mc).set it.s.name n) it.s.id [n])
   exact⟨e.trace,e.out, .inr e2.2.2.2.2.1,e2.2.2.2.1⟩
 split
 ·have e:=mA W (m.bA it.s.x).2 it.s.id [(m.bA it.s.x).1.1]
  have e2:=dT W (m.bA it.s.x).2 it.s.id [(m.bA it.s.x).1.1]
  have k:BX m ((m.bA it.s.x).2.event W it.s.id [(m.bA it.s.x).1.1]):=⟨by rw[← hw.2.2.2.2.2];exact e.trace,by rw[← hw.2.2.2.2.1];exact e.out,by rw[← hw.2.2.2.1];exact e.reads,e.steps.trans hw.2.2.1⟩
  split
  ·exact⟨k.trace,k.out,k.reads,k.steps⟩
  split
  ·exact⟨k.trace,by simp[e2.2.2.2.2.2,hw.2.2.2.2.1],k.reads,k.steps⟩
  split
  ·exact k
  split
  ·exact k
  ·exact k
 ·exact Fi m it.s.x
theorem zY (L:List Im) (m:Mc) (g:Int):(m.close L g).2.trace=m.trace∧(m.close L g).2.out=m.out∧(m.close L g).2.reads=m.reads∧(m.close L g).2.steps=m.steps∧(m.close L g).2.st=m.st.tail:=by
 unfold Mc.close
 dsimp only
 split
 ·exact⟨rfl,rfl,rfl,rfl,rfl⟩
 ·split<;>exact⟨rfl,rfl,rfl,rfl,rfl⟩
theorem xL.less {m m1:Mc} (h:xL m) (k:BX {m with steps:=m.steps+1} m1) (hs:m1.st.length≤101):xL m1:=by
 have h1:=h.steps;have h2:=h.trace;have h3:=h.out;have h4:=h.reads
 have k1:=k.trace;have k2:=k.out;have k3:=k.reads;have k4:=k.steps
 dsimp only at k1 k2 k3 k4
 exact⟨by omega,by omega,by omega,by omega,hs⟩
theorem xL.close {L:List Im} {m:Mc} (h:xL m) (g:Int):xL (m.close L g).2:=by
 obtain⟨h1,h2,h3,h4,h5⟩:=zY L m g
 exact⟨by rw[h4];exact h.steps,by rw[h1,h4];exact h.trace,by rw[h2,h4];exact h.out,by rw[h3,h4];exact h.reads,by rw[h5];have:=h.st;simp;omega⟩
theorem xL.run {p:Pg} {T W:List Int} {m:Mc} (h:xL m) (hs:m.steps≤1000000) (hO:p.iJ) (hW:W.length<1000000) (hT:T.length<1000000):Ih p T W m:=by
 obtain⟨rU,rJ,rI⟩:=hO.procs
 have:=pf p
 have h2:=h.trace;have h3:=h.out;have h4:=h.reads
 exact⟨hW,hT,by omega,by omega,by omega,by omega,by omega⟩
set_option maxRecDepth 8000
open Go.Proofs
theorem aaj {p:Pg} (h:p.iJ) (nM:(p.scope.1==0)=true) (s:St):aF Tryz.prog ry [.agg (cD p)] s (.dA (fA p) 0) s:=by
 refine aF.pure ?_ (by simp[D.bL,D.ok,jv]) (by simp[D.ok,uh]) s
 obtain⟨rU,rJ,rI⟩:=h.procs
 have pJ:=fun s=>vO h s
 have dh:=fun s=>Ce (p:=p) (by omega) s
 have b0:(p.scope.1 != 0) = !(p.scope.1==0):=rfl
 rw[nM]at b0
 unfold S0
 refine aF.go yw rfl fun B Q hB hQ=>?_
 have⟨hD,hY,hZ,gA⟩:=bR
 repeat' (first
 |simp only[go_sem,hD,hY,hZ,gA,b0,Bool.not_true]
 |(with_reducible refine CU (pJ _) ?_)
 |(with_reducible refine CU (dh _) ?_)
 |(with_reducible refine aE hQ ?_;exact bd))
theorem aak {p:Pg} (h:p.iJ) (nM:(p.scope.1==0)=false) (s:St):aF Tryz.prog ry [.agg (cD p)] s .dR s:=by
 refine aF.pure ?_ (by simp[D.bL,D.ok,jv]) rfl s
 have pJ:=fun s=>vO h s
 have b0:(p.scope.1 != 0) = !(p.scope.1==0):=rfl
 rw[nM]at b0
 unfold S0
 refine aF.go yw rfl fun B Q hB hQ=>?_
 have⟨hD,hY,hZ,gA⟩:=bR
 repeat' (first
 |simp only[go_sem,hD,hY,hZ,gA,b0,Bool.not_false]
 |(with_reducible refine CU (pJ _) ?_)
 |(with_reducible refine aE hQ ?_;exact bd))
mutual
theorem V8 {pr up next loop:Int} : ∀ (s:Sm) (m:Im),m∈s.vQ pr up next loop→m.proc=pr
 | ⟨id,kind,labels,name,pc,x,has,args,a8,aS⟩,m,h=>by
  simp only[Sm.vQ]at h
  rcases List.mem_cons.1 h with rfl|h
  ·rfl
  ·rcases List.mem_append.1 h with h | h
   ·exact xb a8 m h
   ·exact xb aS m h
theorem xb {pr up next loop:Int} : ∀ (l:List Sm) (m:Im),m∈Sm.jR pr up next loop l→m.proc=pr
 |s::l,m,h=>by
  simp only[Sm.jR]at h
  rcases List.mem_append.1 h with h|h
  ·exact V8 s m h
  ·exact xb l m h
end
theorem xM : ∀ a b:List Sm,iy (a++b)=iy a++iy b
 | [],b=>rfl
 |v::a,b=>by simp only[List.cons_append,iy,xM a b,List.append_assoc]
mutual
theorem Lx : ∀ s:Sm,(iy s.pre).length≤s.size
 |⟨id,kind,labels,name,pc,x,has,args,a8,aS⟩=>by
  have:=rQ a8;have:=rQ aS
  simp only[Sm.pre,iy,xM,List.length_append,Sm.size];omega
theorem rQ : ∀ l:List Sm,(iy (Sm.dd l)).length≤Sm.a7 l
 | []=>Nat.le_refl _
 |s::l=>by
  have:=Lx s;have:=rQ l
  simp only[Sm.dd,xM,List.length_append,Sm.a7];omega
end
theorem S1 (seen l:List aG):(iV seen l).1.length≤seen.length+l.length:=(Hf l seen).2
theorem V9 {p:Pg} (h:p.iJ) (s:St):aF Tryz.prog vy [.agg (cD p)] s (.agg [.int .i64 p.jump.1, .int .i64 p.jump.2]) s:=by
 refine aF.pure ?_ (by simp[D.bL,D.ok,jv]) rfl s
 obtain⟨rU,rJ,rI⟩:=h.procs
 obtain⟨R,hR⟩ : ∃ R,p.jump=R:=⟨_,rfl⟩
 rw[hR]
 unfold Pg.jump at hR
 unfold S0
 rcases Bool.eq_false_or_eq_true (p.scope.1==0)with nM|nM
 case inr=>
  have hs:=fun s=>aak h nM s
  simp only[nM,Bool.false_eq_true,if_false]at hR
  subst hR
  refine aF.go yp rfl fun B Q hB hQ=>?_
  have⟨hD,hY,hZ,gA⟩:=bR
  repeat' (first
 |simp only[go_sem,hD,hY,hZ,gA]
 |(with_reducible refine CU (hs _) ?_)
 |(with_reducible refine aE hQ ?_;exact bd))
 have hs:=fun s=>aaj h nM s
 have hb:=BH nM
 simp only[nM,if_true]at hR
 refine aF.go yp rfl fun B Q hB hQ=>?_
 have⟨hD,hY,hZ,gA⟩:=bR
 repeat' (first
 |simp only[go_sem,hD,hY,hZ,gA]
 |(with_reducible refine CU (hs _) ?_)
 |(with_reducible refine aE hQ ?_;exact bd))
 refine fi 2 0 (bt.ind (ι:=List Pc×Nat) (fun i=>p.procs.drop i.2=i.1∧yH 7 (sU i.1)=R) (fun i=>i.1.length)
  (fun i=> [(1, .ptr 0 0),(2, .ptr 1 0),(3, .dA (fA p) 0),(16, .slice .shared 5 (p.procs.map cu)),(17, .int .i64 (p.procs.length:Int)),(18, .int .i64 (i.2:Int))]) (fun i=>⟨[cD p,[.int .i64 0, .int .i64 0]],[]⟩) ?_ (p.procs,0) ⟨rfl,hR⟩)
 clear hR
 rintro⟨rest,k⟩ ⟨h1,hR⟩ IH
 dsimp only at h1 hR
 cases rest with
 |nil=>
  have hD:=drop_nil h1
  simp only[sU,yH]at hR
  subst hR
  repeat' (first
 |simp only[go_sem,hD,hY,hZ,gA]
 |(with_reducible refine aE hQ ?_;exact bd))
 | cons f rest=>
  obtain⟨hY,g2,hD,g4⟩:=drop_cons h1
  have bU:k<4611686018427387904:=by omega
  have Aq:=List.mem_of_getElem? hY
  have wV:=fun s=>adM hb hY (by omega) s
  have pV:=rL (k:Int) 0 (-1) 0 f.body
  have wT:=J4 (k:Int) f
  have ahV:=fun m=>xb (pr:=(k:Int)) (up:=0) (next:= -1) (loop:=0) f.body m
  have J6:=E0 h Aq
  have vS:=Hg h Aq
  have aem:(iy (Sm.dd f.body)).length≤900000:=by
   have h1:=rQ f.body
   have h2:=Pc.dm Aq
   simp only[Pc.size]at h2
   omega
  rw[← pV]at aem
  generalize hI:Sm.jR (k:Int) 0 (-1) 0 f.body=I at *
  have hIl:I.length≤900000:=by rw[← pV,List.length_map]at J6;exact J6
  simp only[sU, ← wT]at hR
  obtain⟨J,hJ⟩ : ∃ J,sT f.labels f.fin [] (I.map Im.pair)=J:=⟨_,rfl⟩
  rw[hJ]at hR
  have hld:=fun(m:Im) (hm:m∈I) s=>ZY h hb hY m (ahV m hm) s
  repeat' (first
 |simp only[go_sem,hD,hY,hZ,gA]
 |(with_reducible refine CU (wV _) ?_)
 | (with_reducible refine aE hQ ?_;exact bd))
  refine bt.sm 6 1 rfl ?_
  simp only[go_sem,hD,hY,hZ,gA]
  refine fi 3 1 (bt.ind (ι:=List Im×Nat×List aG×Nat) (fun i=>I.drop i.2.1=i.1∧sT f.labels f.fin i.2.2.1 (i.1.map Im.pair)=J∧i.2.2.2=i.2.2.1.length∧i.2.2.1.length+(iy (i.1.map Im.s)).length≤900000) (fun i=>i.1.length)
   (fun i=> [(1, .ptr 0 0),(2, .ptr 1 0),(3, .dA (fA p) 0),(5, .ptr 2 0),(6, .slice (.tok 0) 1 (i.2.2.1.map encStr)),(16, .slice .shared 5 (p.procs.map cu)),(17, .int .i64 (p.procs.length:Int)),(18, .int .i64 (k:Int)),
    (25, .slice .shared 17 (I.map dz)),(26, .int .i64 (I.length:Int)),(27, .int .i64 (i.2.1:Int))]) (fun i=>⟨[cD p,[.int .i64 0, .int .i64 0],cu f],[some i.2.2.2]⟩) ?_ (I,0,[],0) ⟨rfl,hJ,rfl,by simpa using aem⟩)
  clear hJ
  rintro⟨wY,k2,seen,n2⟩ ⟨j1,j2,j3,j4⟩ EL
  dsimp only at j1 j2 j3 j4
  subst j3
  cases wY with
  | nil=>
   have aen:=drop_nil j1
   simp only[List.map_nil,sT]at j2
   simp only[List.map_nil,iy,List.length_nil,Nat.add_zero]at j4
   have Hx:=fun {s:St} {t:Nat} (ht:s.aw[t]? = some (some seen.length))=>Ss (seen:=seen) (l:=f.fin) (by omega) ht
   obtain⟨P1,hP1⟩ : ∃ P1,iV seen f.fin=P1:=⟨_,rfl⟩
   rw[hP1]at j2 Hx
   rcases Bool.eq_false_or_eq_true P1.2 with c1|c1
   ·simp only [c1,if_true]at j2
    subst j2
    simp only at hR
    repeat' (first
 |simp only[go_sem,hD,hY,hZ,gA,aen,c1,Bool.not_true]
 |(with_reducible refine CU (Hx (by with_unfolding_all rfl)) ?_)
 | (with_reducible refine aE hQ ?_;exact bd))
    refine eY 2 0 ?_ ?_ (IH (rest,k+1) ⟨g2,hR⟩ (Nat.lt_succ_self _))
    ·(simp only[go_sem,hD,hY,hZ,gA,aI bU];try exact cj)
    ·(simp only[go_sem,hD,hY,hZ,gA,aI bU];try exact cj)
   ·simp only [c1,Bool.false_eq_true,if_false]at j2
    subst j2
    simp only[yH]at hR
    subst hR
    repeat' (first
 |simp only[go_sem,hD,hY,hZ,gA,aen,c1,Bool.not_false]
 |(with_reducible refine CU (Hx (by with_unfolding_all rfl)) ?_)
 | (with_reducible refine aE hQ ?_;exact bd))
  | cons m wY=>
   obtain⟨ph,j5,yC,j6⟩:=drop_cons j1
   have yD:k2<4611686018427387904:=by omega
   have Mv:=List.mem_of_getElem? ph
   have X6:=fun s=>hld m Mv s
   simp only[List.map_cons,Im.pair,sT]at j2
   simp only[List.map_cons,iy,List.length_append]at j4
   have Hx:=fun {s:St} {t:Nat} (ht:s.aw[t]? = some (some seen.length))=>Ss (seen:=seen) (l:=m.s.labels) (by omega) ht
   have WV:=S1 seen m.s.labels
   obtain⟨P1,hP1⟩ : ∃ P1,iV seen m.s.labels=P1:=⟨_,rfl⟩
   rw[hP1]at j2 Hx WV
   rcases Bool.eq_false_or_eq_true P1.2 with c1|c1
   ·rcases Bool.eq_false_or_eq_true (qn f.labels m.s m.loop)with c2 | c2
    ·simp only [c1,c2,if_true]at j2
     repeat' (first
 |simp only[go_sem,hD,hY,hZ,gA,ph,yC,c1,c2,Bool.not_true]
 |(with_reducible refine CU (Hx (by with_unfolding_all rfl)) ?_)
 |(with_reducible refine CU (X6 _) ?_)
 | (with_reducible refine aE hQ ?_;exact bd))
     refine eY 3 1 ?_ ?_ (EL (wY,k2+1,P1.1,P1.1.length) ⟨j5,j2,rfl,by dsimp only;omega⟩ (Nat.lt_succ_self _))
     ·(simp only[go_sem,hD,hY,hZ,gA,aI yD];try exact cj)
     ·(simp only[go_sem,hD,hY,hZ,gA,aI yD];try exact cj)
    ·simp only [c1,c2,if_true,Bool.false_eq_true,if_false]at j2
     subst j2
     simp only[yH]at hR
     subst hR
     repeat' (first
 |simp only[go_sem,hD,hY,hZ,gA,ph,yC,c1,c2,Bool.not_true,Bool.not_false]
 |(with_reducible refine CU (Hx (by with_unfolding_all rfl)) ?_)
 |(with_reducible refine CU (X6 _) ?_)
 | (with_reducible refine aE hQ ?_;exact bd))
   ·simp only [c1,Bool.false_eq_true,if_false]at j2
    subst j2
    simp only[yH]at hR
    subst hR
    repeat' (first
 |simp only[go_sem,hD,hY,hZ,gA,ph,yC,c1,Bool.not_false]
 |(with_reducible refine CU (Hx (by with_unfolding_all rfl)) ?_)
 |(with_reducible refine CU (X6 _) ?_)
 |(with_reducible refine aE hQ ?_;exact bd))
theorem Wa (x:It):(fL x)[2]? = some (.slice .shared 1 (x.s.labels.map encStr)):=nd rfl
theorem S2 (x:It):(fL x)[14]? = some (.int .i64 x.cy):=nd rfl
attribute [go_sem] Wa S2
end Go.Abs
namespace Go.Abs
set_option maxRecDepth 8000
open Go.Proofs
def Pc.aou:List Pc→Nat
 | []=>0
 |f::l=>Sm.jd f.body+Pc.aou l
theorem Wb {p:Pg} (h:p.may=false):p.scope=(1,0):=by unfold Pg.scope;rw[h];rfl
theorem aep {p:Pg} (h:p.iJ) (s:St):aF Tryz.prog xw [.agg (cD p)] s (.agg [.int .i64 p.check.1, .int .i64 p.check.2]) s:=by
 refine aF.pure ?_ (by simp[D.bL,D.ok,jv]) rfl s
 have h1:=fun s=>JL h.Pf s
 rw[Ci]at h1
 have h2:=fun s=>vO h s
 have h3:=fun s=>JW h s
 have h4:=fun s=>V9 h s
 have h5:=fun s=>SC h s
 obtain⟨R,hR⟩ : ∃ R,p.check=R:=⟨_,rfl⟩
 rw[hR]
 unfold Pg.check at hR
 unfold S0
 rcases Bool.eq_false_or_eq_true p.may with b0|b0
 case inr=>
  have e:((1:Int)==0)=false:=rfl
  rw[Wb b0]at hR
  simp only[e,Bool.false_eq_true,if_false]at hR
  subst hR
  refine aF.go og rfl fun B Q hB hQ=>?_
  have⟨hD,hY,hZ,gA⟩:=bR
  repeat' (first
 |simp only[go_sem,hD,hY,hZ,gA,b0,Bool.not_false]
 |(with_reducible refine CU (h1 _) ?_)
 |(with_reducible refine aE hQ ?_;exact bd))
 rcases Bool.eq_false_or_eq_true (p.scope.1==0)with b1|b1
 case inr=>
  simp only[b1,Bool.false_eq_true,if_false]at hR
  subst hR
  refine aF.go og rfl fun B Q hB hQ=>?_
  have⟨hD,hY,hZ,gA⟩:=bR
  repeat' (first
 |simp only[go_sem,hD,hY,hZ,gA,b0,b1,Bool.not_true]
 |(with_reducible refine CU (h1 _) ?_)
 |(with_reducible refine CU (h2 _) ?_)
 |(with_reducible refine aE hQ ?_;exact bd))
 simp only[b1,if_true]at hR
 rcases Bool.eq_false_or_eq_true (p.arity.1==0)with b2|b2
 case inr=>
  simp only[b2,Bool.false_eq_true,if_false]at hR
  subst hR
  refine aF.go og rfl fun B Q hB hQ=>?_
  have⟨hD,hY,hZ,gA⟩:=bR
  repeat' (first
 |simp only[go_sem,hD,hY,hZ,gA,b0,b1,b2,Bool.not_true]
 |(with_reducible refine CU (h1 _) ?_)
 |(with_reducible refine CU (h2 _) ?_)
 |(with_reducible refine CU (h3 _) ?_)
 |(with_reducible refine aE hQ ?_;exact bd))
 simp only[b2,if_true]at hR
 rcases Bool.eq_false_or_eq_true (p.jump.1==0)with b3|b3
 case inr=>
  simp only[b3,Bool.false_eq_true,if_false]at hR
  subst hR
  refine aF.go og rfl fun B Q hB hQ=>?_
  have⟨hD,hY,hZ,gA⟩:=bR
  repeat' (first
 |simp only[go_sem,hD,hY,hZ,gA,b0,b1,b2,b3,Bool.not_true]
 |(with_reducible refine CU (h1 _) ?_)
 |(with_reducible refine CU (h2 _) ?_)
 |(with_reducible refine CU (h3 _) ?_)
 |(with_reducible refine CU (h4 _) ?_)
 |(with_reducible refine aE hQ ?_;exact bd))
 simp only[b3,if_true]at hR
 subst hR
 refine aF.go og rfl fun B Q hB hQ=>?_
 have⟨hD,hY,hZ,gA⟩:=bR
 repeat' (first
 |simp only[go_sem,hD,hY,hZ,gA,b0,b1,b2,b3,Bool.not_true]
 |(with_reducible refine CU (h1 _) ?_)
 |(with_reducible refine CU (h2 _) ?_)
 |(with_reducible refine CU (h3 _) ?_)
 |(with_reducible refine CU (h4 _) ?_)
 |(with_reducible refine CU (h5 _) ?_)
 |(with_reducible refine aE hQ ?_;exact bd))
theorem S3 {p:Pg} (h:p.iJ) (s:St):aF Tryz.prog sN [.agg (cD p)] s (.bool (p.check.1==0)) s:=by
 refine aF.pure ?_ (by simp[D.bL,D.ok,jv]) rfl s
 have h1:=fun s=>aep h s
 unfold S0
 refine aF.go HI rfl fun B Q hB hQ=>?_
 have⟨hD,hY,hZ,gA⟩:=bR
 repeat' (first
 |simp only[go_sem,hD,hY,hZ,gA]
 |(with_reducible refine CU (h1 _) ?_)
 |(with_reducible refine aE hQ ?_;exact bd))
def eZ (m:Mc):List D:= [.int .i64 m.fin, .int .i64 m.steps, .int .i64 m.reads, .slice .shared 1 (m.out.map bT), .slice .shared 2 (m.trace.map gC)]
theorem aeq (e:Int×List Int):D.bL 0 0 (gC e)=true:=by simp[gC,D.bL,D.ok,Tag.ok,iN]
theorem Yj (l:List (Int×List Int)):D.gS 0 0 (l.map gC)=true:=gT aeq l
theorem ahW (n m:Nat) (l:List (Int×List Int)):D.kv n m (l.map gC)=l.map gC:=lW aeq n m l
attribute [go_sem] ahW
abbrev runT (m:Mc):List D:= [.int .i64 m.fin, .int .i64 m.steps, .int .i64 m.reads, .slice (.tok 0) 1 (m.out.map bT), .slice (.tok 1) 2 (m.trace.map gC)]
section
variable {p:Pg} {T W:List Int} {fuel:Int} {B:fU} {Q:Exit→Tm→St→Prop} {mf:Mc}
theorem Inv.q5 {y:Lay} {m:Mc} {s:St} {q:Nat} {r r':List D} {loc:List (Nat×List D)} (h:Inv p T W y m ((q,r)::loc) s) (hq : ∀ x∈loc,x.1≠q) (hr:r.length≠4):Inv p T W y m ((q,r')::loc) ⟨s.ah.set q r',s.aw⟩:=by
 obtain⟨h1,h2⟩:=h.loc (q,r) (List.mem_cons_self ..)
 simp only at h1 h2
 have ne : ∀ {o:Nat} {x:List D},s.ah[o]? = some x→o≠q→(s.ah.set q r')[o]? = some x:=fun e hn=>by rw[List.getElem?_set_ne (Ne.symm hn)];exact e
 have no : ∀ o∈y.own,o≠q:=fun o mo e=>h2 (e ▸ mo)
 have ka : ∀ {d:D} {cs:List D},(∀ o∈d.arr,o∈y.own)→jE s d cs→jE ⟨s.ah.set q r',s.aw⟩ d cs:=fun hd ha=>ha.keep fun o mo=>by
  show(s.ah.set q r')[o]? = _
  rw[List.getElem?_set_ne (Ne.symm (no o (hd o mo)))]
 obtain⟨l,hl⟩:=h.bK
 refine⟨ne h.jF (no 0 (by simp[Lay.own])),h.t0,h.t1,h.len,fun i c v e1 e2=>ne (h.cell i c v e1 e2) (no c (by simp[Lay.own,List.mem_of_getElem? e1])),h.sy,fun i o fr e1 e2=>?_,ka (fun o m=>by simp[Lay.own,m]) h.stack,⟨l,ka (fun o m=>by simp[Lay.own,m]) hl⟩,h.own,fun x mx=>?_⟩
 ·obtain⟨f1,f2,f3⟩:=h.frame i o fr e1 e2
  exact⟨ne f1 (LS f1 h1 fun e=>hr (by rw[← e];rfl)),f2,f3⟩
 ·rcases List.mem_cons.1 mx with rfl | mx
  ·exact⟨by simp[fW h1],h2⟩
  ·obtain⟨f1,f2⟩:=h.loc x (List.mem_cons_of_mem _ mx)
   exact⟨ne f1 (hq x mx),f2⟩
abbrev BY:List D:= [.int .i64 0, .int .i64 0, .int .i64 0, .slice .full 0 [], .slice .full 0 []]
structure Gb (p:Pg) (T W:List Int) (fuel:Int):Prop where
 ok:p.iJ
 right:p.Right
 W:W.length<1000000
 T:T.length<1000000
 fuel:0≤fuel∧fuel≤1000000
structure At (p:Pg) (T W:List Int) (fuel:Int) (a:Int) (m:Mc) (y:Lay) (q:Nat) (s:St):Prop where
 inv : ∃ r:List D,r.length=17∧Inv p T W y m [(q,r),(2,BY)] s
 ok:po p p.aY.L a m
 sz:xL m
 fin:m.fin=0
 fuel:m.steps≤fuel
abbrev TMr (fuel:Int) (q:Nat) (a:Int):Tm:= [(2, .int .i64 fuel),(8, .ptr 2 0),(10, .ptr 0 0),(11, .ptr q 0),(13, .int .i64 a)]
abbrev JJ (B:fU) (Q:Exit→Tm→St→Prop):=zc Tryz.prog B 131 Q4A Q
theorem Fj (hQ:pR 0 0 [(8,some (true,5)),(9,none)] (.tuple [.agg (eZ mf), .int .i64 0]) ⟨[],[]⟩=Q) {y:Lay} {q:Nat} {r:List D} {s:St} (h:Inv p T W y mf [(q,r),(2,BY)] s) {tm:Tm} (ht:vu tm [(8, .ptr 2 0),(10, .ptr 0 0)]):JJ B Q (.goto 2) tm s:=by
 refine Dt (r:= .seq .skip Q3S) rfl (lI.pM ht (lI.kR ?_))
 have hm:=h.jF
 rw[fx]at hm
 have h2:=(h.loc (2,BY) (by simp)).1
 have hl:=fW h2
 have⟨hD,hY,hZ,gA⟩:=bR
 have Ae : ∀ r,(s.ah.set 2 r)[2]? = some r:=fun r=>List.getElem?_set_self hl
 simp only[eZ]at hQ
 repeat' (first
 |simp only[go_sem,hD,hY,hZ,gA,hm,h2,Ae]
 |(with_reducible first|refine bo fun hc=>?_|refine bp fun hc=>?_|refine bq (fun hc=>?_) fun hc=>?_)<;>(try simp only[hc,bs,↓reduceIte]at h)<;>try simp only[hc]
 |(with_reducible refine aE hQ ?_;(try cases h);simp only[aV,aX,bH,bI,go_sem,hD,hY,hZ,gA,hm,h2,Ae];try exact cq)
 |(cases h;done))
theorem Ku (hS:Gb p T W fuel) (hQ:pR 0 0 [(8,some (true,5)),(9,none)] (.tuple [.agg (eZ mf), .int .i64 0]) ⟨[],[]⟩=Q) {a:Int} {m:Mc} {y:Lay} {q:Nat} {s:St} {g:Int} (h:At p T W fuel a m y q s)
 (aes:m.back p.aY.L g=(none,mf)∨∃ a' m',m.back p.aY.L g=(some a',m')∧∀ y' s' tm,At p T W fuel a' m' y' q s'→vu tm (TMr fuel q a')→JJ B Q (.goto 1) tm s')
 {tm:Tm} (ht:vu tm [(2, .int .i64 fuel),(8, .ptr 2 0),(10, .ptr 0 0),(11, .ptr q 0),(12, .int .i64 g)]):JJ B Q (.goto 0) tm s:=by
 obtain⟨⟨r,hr,hi⟩,pK,dO,vS,hfu⟩:=h
 obtain⟨fr,rs,f,zR,h1,h2,h3,h4⟩:=Kt hS.ok pK (by have:=dO.st;omega)
 have Db:=dO.run (by have:=hS.fuel;omega) hS.ok hS.W hS.T
 have hc:=PN hS.ok hS.right pK (by have:=dO.st;omega) zR
 have c1:=aag hi zR Db.L hc g
 have oK:=zY p.aY.L m g
 refine Dt (r:= .seq .skip Q3V) rfl (lI.pM ht (lI.kR ?_))
 have⟨hD,hY,hZ,gA⟩:=bR
 repeat' (first
 |simp only[go_sem,hD,hY,hZ,gA]
 |(with_reducible first|refine bo fun hc=>?_|refine bp fun hc=>?_|refine bq (fun hc=>?_) fun hc=>?_)<;>(try simp only[hc,bs,↓reduceIte]at h)<;>try simp only[hc]
 |(with_reducible refine aE hQ ?_;exact fV)
 |(cases h;replace h:=hr;clear hr;(try simp only[bs,↓reduceIte]at h))
 |(cases h;done))
 refine CR c1 fun d s2 Kv=>?_
 obtain⟨rfl,y2,vZ,oa⟩:=Kv
 have jD:=oa.jF
 rw[fx]at jD
 have Yk:=(oa.loc (2,BY) (by simp)).1
 have iX:=fW Yk
 have Ae : ∀ r,(s2.ah.set 2 r)[2]? = some r:=fun r=>List.getElem?_set_self iX
 simp only at Yk
 have hb:m.back p.aY.L g=(if(m.close p.aY.L g).2.fin==0 then some (m.close p.aY.L g).1 else none,(m.close p.aY.L g).2):=rfl
 rcases Bool.eq_false_or_eq_true ((m.close p.aY.L g).2.fin==0)with b|b
 ·rw [b,if_pos rfl]at hb
  rcases aes with he|⟨a',m',he,hIH⟩
  ·rw[hb]at he;cases he
  ·have hk:=Z6 (pk hS.right) pK he
   rw[hb]at he
   cases he
   repeat' (first
 |simp only[go_sem,hD,hY,hZ,gA,jD,b]
 |(with_reducible first|refine bo fun hc=>?_|refine bp fun hc=>?_|refine bq (fun hc=>?_) fun hc=>?_)<;>(try simp only[hc,bs,↓reduceIte]at h)<;>try simp only[hc]
 |(with_reducible refine aE hQ ?_;(try cases h);simp only[aV,aX,bH,bI,go_sem,hD,hY,hZ,gA,jD,b];try exact cq)
 |(cases h;replace h:=hr;clear hr;(try simp only[bs,↓reduceIte]at h))
 | (cases h;done))
   refine hIH y2 s2 _ ⟨⟨r,hr,oa⟩,hk,dO.close g,by simpa using b,by rw[oK.2.2.2.1];exact hfu⟩ ?_
   simp only[go_sem]
   repeat' (first|exact Ok.out|with_reducible refine iZ ?_ ?_)
 ·rw [b,if_neg (by simp)]at hb
  rcases aes with he|⟨a',m',he,hIH⟩
  ·rw [hb]at he
   cases he
   simp only[eZ]at hQ
   repeat' (first
 |simp only[go_sem,hD,hY,hZ,gA,jD,b,Yk,Ae]
 |(with_reducible first|refine bo fun hc=>?_|refine bp fun hc=>?_|refine bq (fun hc=>?_) fun hc=>?_)<;>(try simp only[hc,bs,↓reduceIte]at h)<;>try simp only[hc]
 |(with_reducible refine aE hQ ?_;(try cases h);simp only[aV,aX,bH,bI,go_sem,hD,hY,hZ,gA,jD,b,Yk,Ae];try exact cq)
 |(cases h;replace h:=hr;clear hr;(try simp only[bs,↓reduceIte]at h))
 |(cases h;done))
  ·rw[hb]at he;cases he
theorem Wc (hS:Gb p T W fuel) (hQ:pR 0 0 [(8,some (true,5)),(9,none)] (.tuple [.agg (eZ mf), .int .i64 0]) ⟨[],[]⟩=Q) : ∀ (N:Nat) (a:Int) (m:Mc) (y:Lay) (q:Nat) (s:St),At p T W fuel a m y q s→Mc.go p p.aY.L T W fuel N a m=some mf→
 Sem Tryz.prog B 131 Q43 (JJ B Q) (TMr fuel q a) s:=by
 intro N
 induction N with
 |zero=>intro a m y q s _ h;cases h
 | succ N ih=>
  intro a m y q s q8 kN
  have IH : ∀ (a':Int) (m':Mc) (y':Lay) (s':St) (tm:Tm),Mc.go p p.aY.L T W fuel N a' m'=some mf→At p T W fuel a' m' y' q s'→vu tm (TMr fuel q a')→JJ B Q (.goto 1) tm s':=fun a' m' y' s' tm hg hA ht=>
   Dt (r:= .seq .skip Q43) rfl (lI.pM ht (lI.once (Sem.ni (ih a' m' y' q s' hA hg))))
  have aov:=q8
  obtain⟨⟨r,hr,hi⟩,pK,dO,vS,hfu⟩:=q8
  simp only[Mc.go]at kN
  refine iG ?_
  have⟨hD,hY,hZ,gA⟩:=bR
  have hm:=hi.jF
  rw[fx]at hm
  have qH:=hi.uI
  rcases Bool.eq_false_or_eq_true (a == -1)with ba|ba
  ·have hn:m.next p p.aY.L T W fuel a=m.back p.aY.L 0:=by unfold Mc.next;rw [if_pos ba]
   rw[hn]at kN
   repeat' (first
 |simp only[go_sem,hD,hY,hZ,gA,ba]
 |(with_reducible first|refine bo fun hc=>?_|refine bp fun hc=>?_|refine bq (fun hc=>?_) fun hc=>?_)<;>(try simp only[hc,bs,↓reduceIte]at h)<;>try simp only[hc]
 |(with_reducible refine aE hQ ?_;(try cases h);simp only[aV,aX,bH,bI,go_sem,hD,hY,hZ,gA,ba];try exact cq)
 |(cases h;replace h:=hr;clear hr;(try simp only[bs,↓reduceIte]at h))
 | (cases h;done))
   refine Ku hS hQ aov (g:=0) ?_ ?_
   ·rcases e:m.back p.aY.L 0 with ⟨_ | a',m'⟩
    ·rw[e]at kN;cases kN;exact .inl rfl
    ·rw[e]at kN;exact .inr ⟨a',m',rfl,fun y' s' tm h1 h2=>IH a' m' y' s' tm kN h1 h2⟩
   ·simp only [go_sem]
    repeat' (first|exact Ok.out|with_reducible refine iZ ?_ ?_)
  rcases Bool.eq_false_or_eq_true (m.steps==fuel)with bf|bf
  ·have hn:m.next p p.aY.L T W fuel a=(none,{m with fin:=2}):=by unfold Mc.next;rw [if_neg (by simp [ba]),if_pos bf]
   rw[hn]at kN
   cases kN
   have h2:=hi.tQ (m':= {m with fin:=2}) rfl rfl hi.t0 hi.t1
   rw[fx]at h2
   simp only at h2
   repeat' (first
 |simp only[go_sem,hD,hY,hZ,gA,ba,bf,hm,qH]
 |(with_reducible first|refine bo fun hc=>?_|refine bp fun hc=>?_|refine bq (fun hc=>?_) fun hc=>?_)<;>(try simp only[hc,bs,↓reduceIte]at h)<;>try simp only[hc]
 |(with_reducible refine aE hQ ?_;(try cases h);simp only[aV,aX,bH,bI,go_sem,hD,hY,hZ,gA,ba,bf,hm,qH];try exact cq)
 |(cases h;replace h:=hr;clear hr;(try simp only[bs,↓reduceIte]at h))
 | (cases h;done))
   refine Fj hQ h2 ?_
   simp only[go_sem]
   repeat' (first|exact Ok.out|with_reducible refine iZ ?_ ?_)
  -- a statement
  obtain⟨fr,rs,f,zR,h1,h2,h3,h4⟩:=Kt hS.ok pK (by have:=dO.st;omega)
  have aow:a≠ -1:=by simpa using ba
  obtain⟨hx,wT,gE,c,hac,Kw⟩:=aah pK h4 hS.right aow h1
  have hfb:=hS.fuel
  have Db:=dO.run (by omega) hS.ok hS.W hS.T
  have awC:m.steps<fuel:=by
   have h:m.steps≠fuel:=by simpa using bf
   omega
  have vh:=dO.steps
  have Fg:IntKind.wrap .i64 (m.steps+1)=m.steps+1:=ek (by omega) (by omega)
  have BV:IntKind.wrap .i64 (a - 1)=(c:Int):=by
   have:=(List.getElem?_eq_some_iff.1 Kw).1
   have:=Db.L
   rw[show a - 1=(c:Int) by omega];exact ek (by omega) (by omega)
  have cS:(fA p)[2]? = some (.slice .shared 17 (p.aY.L.map dz)):=rfl
  have Mw:=hi.tQ (m':= {m with steps:=m.steps+1}) rfl rfl hi.t0 hi.t1
  generalize pO:fj p.aY.L a=it at *
  have aox:2≠q:=by
   have e1:=(hi.loc (q,r) (by simp)).1
   have e2:=(hi.loc (2,BY) (by simp)).1
   exact LS e2 e1 fun e=>by have e':BY=r:=e;rw[← e']at hr;cases hr
  have Gc:17≤r.length:=by omega
  have Mx:List.drop 17 r = []:=List.drop_of_length_le (by omega)
  have oa:=Mw.q5 (r':=dz it) (by simpa using aox) (by omega)
  have nA:=Mw.jF
  have Hy:=(Mw.loc (q,r) (by simp)).1
  have Bh:=(oa.loc (q,dz it) (by simp)).1
  rw[fx]at nA oa Hy Bh
  simp only at nA oa Hy Bh
  have hle:q<s.ah.length:=fW (hi.loc (q,r) (by simp)).1
  have PR:mT ({m with steps:=m.steps+1} : Mc) fr rs:=⟨zR.st,zR.len,zR.names,zR.vars⟩
  have PS:Ih p T W ({m with steps:=m.steps+1} : Mc):=⟨Db.W,Db.T,Db.trace,Db.out,Db.L,Db.P,Db.reads⟩
  have Kx:po p p.aY.L a ({m with steps:=m.steps+1} : Mc):=pK.of rfl (Nat.le_refl _) pK.at_
  have hn:m.next p p.aY.L T W fuel a=(if it.s.kind==4 then(if(({m with steps:=m.steps+1} : Mc).call p W it.s).2.fin==0 then some (({m with steps:=m.steps+1} : Mc).call p W it.s).1 else none,(({m with steps:=m.steps+1} : Mc).call p W it.s).2)
   else if it.s.kind==9 then(if(({m with steps:=m.steps+1} : Mc).fa W it.s).2.fin==0 then(({m with steps:=m.steps+1} : Mc).fa W it.s).2.back p.aY.L (({m with steps:=m.steps+1} : Mc).fa W it.s).1 else(none,(({m with steps:=m.steps+1} : Mc).fa W it.s).2))
   else(if(({m with steps:=m.steps+1} : Mc).do p p.aY.L T W it).2.fin==0 then some (({m with steps:=m.steps+1} : Mc).do p p.aY.L T W it).1 else none,(({m with steps:=m.steps+1} : Mc).do p p.aY.L T W it).2)):=by
   unfold Mc.next
   rw[if_neg (by simp[ba]),if_neg (by simp[bf])]
   dsimp only
   rw[pO]
  rw[hn]at kN
  generalize Mv:({m with steps:=m.steps+1} : Mc)=m1 at *
  have aoy:m1.fin=0:=by rw[← Mv];exact vS
  have Wd:m1.steps=m.steps+1:=by rw[← Mv]
  have PT : ∀ m2:Mc,BX m1 m2→m2.st.length≤101→xL m2:=fun m2 hl hs=>dO.less (by rw[Mv];exact hl) hs
  have Ky:m1.st=m.st:=by rw[← Mv]
  rcases Bool.eq_false_or_eq_true (it.s.kind==4)with b4|b4
  ·rw [if_pos b4]at kN
   have He:it.s.kind=4:=by simpa using b4
   have c1:=SW hS.ok hS.right.may oa PR PS Kx.ui (SX hS.ok hS.right hx He h2 h3)
   repeat' (first
 |simp only[go_sem,hD,hY,hZ,gA,ba,bf,hm,qH,Fg,nA,BV,Kw,cS,Hy,Bh,hle,b4,Gc,Mx,List.append_nil]
 |(with_reducible first|refine bo fun hc=>?_|refine bp fun hc=>?_|refine bq (fun hc=>?_) fun hc=>?_)<;>(try simp only[hc,bs,↓reduceIte]at h)<;>try simp only[hc]
 |(with_reducible refine aE hQ ?_;(try cases h);simp only[aV,aX,bH,bI,go_sem,hD,hY,hZ,gA,ba,bf,hm,qH,Fg,nA,BV,Kw,cS,Hy,Bh,hle,b4,Gc,Mx,List.append_nil];try exact cq)
 |(cases h;replace h:=hr;clear hr;(try simp only[bs,↓reduceIte]at h))
 | (cases h;done))
   refine CR c1 fun d s2 Kv=>?_
   obtain⟨rfl,y2,_,Av⟩:=Kv
   have oj:=Av.jF
   rw[fx]at oj
   have oK:=SZ p W m1 it.s
   have lb:(m1.call p W it.s).2.st.length≤101:=by
    rcases oK.2 with h|h
    ·rw[Ky]at h;have:=dO.st;omega
    ·exact h
   rcases Bool.eq_false_or_eq_true ((m1.call p W it.s).2.fin==0)with b|b
   ·rw [b,if_pos rfl]at kN
    repeat' (first
 |simp only[go_sem,hD,hY,hZ,gA,oj,b]
 |(with_reducible first|refine bo fun hc=>?_|refine bp fun hc=>?_|refine bq (fun hc=>?_) fun hc=>?_)<;>(try simp only[hc,bs,↓reduceIte]at h)<;>try simp only[hc]
 |(with_reducible refine aE hQ ?_;(try cases h);simp only[aV,aX,bH,bI,go_sem,hD,hY,hZ,gA,oj,b];try exact cq)
 |(cases h;replace h:=hr;clear hr;(try simp only[bs,↓reduceIte]at h))
 | (cases h;done))
    refine IH _ _ y2 s2 _ kN ⟨⟨dz it,rfl,Av⟩,Z8 hS.right Kx hx He (by rw[wT, ← h4];unfold Mc.top;rw[Ky]) (by simpa using b) rfl aoy,PT _ oK.1 lb,by simpa using b,by rw[oK.1.steps,Wd];omega⟩ ?_
    simp only[go_sem]
    repeat' (first|exact Ok.out|with_reducible refine iZ ?_ ?_)
   ·rw [b,if_neg (by simp)]at kN
    cases kN
    repeat' (first
 |simp only[go_sem,hD,hY,hZ,gA,oj,b]
 |(with_reducible first|refine bo fun hc=>?_|refine bp fun hc=>?_|refine bq (fun hc=>?_) fun hc=>?_)<;>(try simp only[hc,bs,↓reduceIte]at h)<;>try simp only[hc]
 |(with_reducible refine aE hQ ?_;(try cases h);simp only[aV,aX,bH,bI,go_sem,hD,hY,hZ,gA,oj,b];try exact cq)
 |(cases h;replace h:=hr;clear hr;(try simp only[bs,↓reduceIte]at h))
 | (cases h;done))
    refine Fj hQ Av ?_
    simp only[go_sem]
    repeat' (first|exact Ok.out|with_reducible refine iZ ?_ ?_)
  rw[if_neg (by simp[b4])]at kN
  rcases Bool.eq_false_or_eq_true (it.s.kind==9)with b9|b9
  ·rw [if_pos b9]at kN
   have c1:=aae oa PR (Mu hS.ok hS.right hx h2 h3).said PS.W PS.trace
   repeat' (first
 |simp only[go_sem,hD,hY,hZ,gA,ba,bf,hm,qH,Fg,nA,BV,Kw,cS,Hy,Bh,hle,b4,b9,Gc,Mx,List.append_nil]
 |(with_reducible first|refine bo fun hc=>?_|refine bp fun hc=>?_|refine bq (fun hc=>?_) fun hc=>?_)<;>(try simp only[hc,bs,↓reduceIte]at h)<;>try simp only[hc]
 |(with_reducible refine aE hQ ?_;(try cases h);simp only[aV,aX,bH,bI,go_sem,hD,hY,hZ,gA,ba,bf,hm,qH,Fg,nA,BV,Kw,cS,Hy,Bh,hle,b4,b9,Gc,Mx,List.append_nil];try exact cq)
 |(cases h;replace h:=hr;clear hr;(try simp only[bs,↓reduceIte]at h))
 | (cases h;done))
   refine CR c1 fun d s2 Kv=>?_
   obtain⟨rfl,y2,_,Av⟩:=Kv
   have oj:=Av.jF
   rw[fx]at oj
   have rI:=PO W m1 it.s
   have hgs:=(zK W m1 it.s).1
   rcases Bool.eq_false_or_eq_true ((m1.fa W it.s).2.fin==0)with b|b
   ·rw [b,if_pos rfl]at kN
    repeat' (first
 |simp only[go_sem,hD,hY,hZ,gA,oj,b]
 |(with_reducible first|refine bo fun hc=>?_|refine bp fun hc=>?_|refine bq (fun hc=>?_) fun hc=>?_)<;>(try simp only[hc,bs,↓reduceIte]at h)<;>try simp only[hc]
 |(with_reducible refine aE hQ ?_;(try cases h);simp only[aV,aX,bH,bI,go_sem,hD,hY,hZ,gA,oj,b];try exact cq)
 |(cases h;replace h:=hr;clear hr;(try simp only[bs,↓reduceIte]at h))
 | (cases h;done))
    have Sg:m1.mem.length≤(m1.fa W it.s).2.mem.length:=by
     have hw:=fB m1 it.s.x
     unfold Mc.fa
     split
     ·dsimp only
      split
      ·rw[(dT _ _ _ _).2.1,hw.2.1];exact Nat.le_refl _
      ·rw[hw.2.1];exact Nat.le_refl _
     ·rw[(dT _ _ _ _).2.1];exact Nat.le_refl _
    refine Ku (a:=a) (g:=(m1.fa W it.s).1) hS hQ (y:=y2) ⟨⟨dz it,rfl,Av⟩,Kx.of hgs Sg Kx.at_,PT _ rI (by rw[hgs,Ky];exact dO.st),by simpa using b,by rw[rI.steps,Wd];omega⟩ ?_ ?_
    ·rcases e:(m1.fa W it.s).2.back p.aY.L (m1.fa W it.s).1 with ⟨_ | a',m'⟩
     ·rw[e]at kN;cases kN;exact .inl rfl
     ·rw[e]at kN;exact .inr ⟨a',m',rfl,fun y' s' tm h1 h2=>IH a' m' y' s' tm kN h1 h2⟩
    ·simp only [go_sem]
     repeat' (first|exact Ok.out|with_reducible refine iZ ?_ ?_)
   ·rw [b,if_neg (by simp)]at kN
    cases kN
    repeat' (first
 |simp only[go_sem,hD,hY,hZ,gA,oj,b]
 |(with_reducible first|refine bo fun hc=>?_|refine bp fun hc=>?_|refine bq (fun hc=>?_) fun hc=>?_)<;>(try simp only[hc,bs,↓reduceIte]at h)<;>try simp only[hc]
 |(with_reducible refine aE hQ ?_;(try cases h);simp only[aV,aX,bH,bI,go_sem,hD,hY,hZ,gA,oj,b];try exact cq)
 |(cases h;replace h:=hr;clear hr;(try simp only[bs,↓reduceIte]at h))
 | (cases h;done))
    refine Fj hQ Av ?_
    simp only[go_sem]
    repeat' (first|exact Ok.out|with_reducible refine iZ ?_ ?_)
  rw[if_neg (by simp[b9])]at kN
  have c1:=aop hS.ok hS.right.may oa PR PS (Mu hS.ok hS.right hx h2 h3)
  repeat' (first
 |simp only[go_sem,hD,hY,hZ,gA,ba,bf,hm,qH,Fg,nA,BV,Kw,cS,Hy,Bh,hle,b4,b9,Gc,Mx,List.append_nil]
 |(with_reducible first|refine bo fun hc=>?_|refine bp fun hc=>?_|refine bq (fun hc=>?_) fun hc=>?_)<;>(try simp only[hc,bs,↓reduceIte]at h)<;>try simp only[hc]
 |(with_reducible refine aE hQ ?_;(try cases h);simp only[aV,aX,bH,bI,go_sem,hD,hY,hZ,gA,ba,bf,hm,qH,Fg,nA,BV,Kw,cS,Hy,Bh,hle,b4,b9,Gc,Mx,List.append_nil];try exact cq)
 |(cases h;replace h:=hr;clear hr;(try simp only[bs,↓reduceIte]at h))
 | (cases h;done))
  refine CR c1 fun d s2 Kv=>?_
  obtain⟨rfl,y2,_,Av⟩:=Kv
  have oj:=Av.jF
  rw[fx]at oj
  have hdl:=aai p p.aY.L T W m1 it
  have Ba:=(Pw p p.aY.L T W m1 it).1
  rcases Bool.eq_false_or_eq_true ((m1.do p p.aY.L T W it).2.fin==0)with b|b
  ·rw [b,if_pos rfl]at kN
   repeat' (first
 |simp only[go_sem,hD,hY,hZ,gA,oj,b]
 |(with_reducible first|refine bo fun hc=>?_|refine bp fun hc=>?_|refine bq (fun hc=>?_) fun hc=>?_)<;>(try simp only[hc,bs,↓reduceIte]at h)<;>try simp only[hc]
 |(with_reducible refine aE hQ ?_;(try cases h);simp only[aV,aX,bH,bI,go_sem,hD,hY,hZ,gA,oj,b];try exact cq)
 |(cases h;replace h:=hr;clear hr;(try simp only[bs,↓reduceIte]at h))
 | (cases h;done))
   refine IH _ _ y2 s2 _ kN ⟨⟨dz it,rfl,Av⟩,ahI hS.right Kx hx (by rw[wT, ← h4];unfold Mc.top;rw[Ky]) (by simpa using b),PT _ hdl (by rw[Ba,Ky];exact dO.st),by simpa using b,by rw[hdl.steps,Wd];omega⟩ ?_
   simp only[go_sem]
   repeat' (first|exact Ok.out|with_reducible refine iZ ?_ ?_)
  ·rw [b,if_neg (by simp)]at kN
   cases kN
   repeat' (first
 |simp only[go_sem,hD,hY,hZ,gA,oj,b]
 |(with_reducible first|refine bo fun hc=>?_|refine bp fun hc=>?_|refine bq (fun hc=>?_) fun hc=>?_)<;>(try simp only[hc,bs,↓reduceIte]at h)<;>try simp only[hc]
 |(with_reducible refine aE hQ ?_;(try cases h);simp only[aV,aX,bH,bI,go_sem,hD,hY,hZ,gA,oj,b];try exact cq)
 |(cases h;replace h:=hr;clear hr;(try simp only[bs,↓reduceIte]at h))
 | (cases h;done))
   refine Fj hQ Av ?_
   simp only[go_sem]
   repeat' (first|exact Ok.out|with_reducible refine iZ ?_ ?_)
end
end Go.Abs
namespace Go.Abs
set_option maxRecDepth 8000
open Go.Proofs
def ofM (p:Pg) (T W:List Int) (fuel:Int):Mc×Int:=
 if decide (fuel<0) ||(decide (fuel > 1000000) || !(p.check.1==0))then(⟨[],[],0,0,0,[],[]⟩,1)else((runM p T W fuel).getD ⟨[],[],0,0,0,[],[]⟩,0)
theorem Cv (m:Mc):D.bL 0 0 (eZ m)=true:=by simp[eZ,D.bL,D.ok,Tag.ok,iN,Yj]
theorem aal {p:Pg} (hR:p.Right) : ∃ (j:Nat) (q:Pc),p.at iI=(j:Int)∧p.procs[j]? = some q∧p.find q.name=some q∧q.params.length=0:=by
 have h:=hR.main
 unfold Pg.tA at h
 cases e:p.find iI with
 |none=>rw[e]at h;cases h
 |some q=>
  rw[e]at h
  obtain⟨j,h1,h2⟩:=Ig (k:=0) e
  refine⟨j,q,by simpa[Pg.at]using h1,h2,by rw[zX e];exact e, ?_⟩
  simp only[decide_eq_false_iff_not]at h
  omega
theorem aet {p:Pg} (hO:p.iJ) {T W:List Int} (hT:T.length<1000000) (hW:W.length<1000000) (fuel:Int) (s:St) :
 aF Tryz.prog vw [.agg (cD p), .slice .shared 1 (T.map bT), .int .i64 fuel, .slice .shared 1 (W.map bT)] s (.tuple [.agg (eZ (ofM p T W fuel).1), .int .i64 (ofM p T W fuel).2]) s:=by
 refine aF.pure ?_ (by simp[D.bL,D.ok,Tag.ok,jv,iN]) (by simp only[D.ok,D.bL,Cv];rfl) s
 have cM:=fun s=>S3 hO s
 have cN:=fun s=>Ce (p:=p) (by have:=hO.procs;omega) s
 generalize hR:ofM p T W fuel=R
 unfold ofM at hR
 obtain⟨R1,R2⟩:=R
 dsimp only
 unfold S0
 by_cases Kz:(decide (fuel<0) ||(decide (fuel > 1000000) || !(p.check.1==0)))=true
 ·rw [if_pos Kz]at hR
  cases hR
  simp only[eZ,List.map_nil]
  rcases Bool.eq_false_or_eq_true (decide (fuel<0))with b1|b1
  ·refine aF.go uQ rfl fun B Q hB hQ=> ?_
   have⟨hD,hY,hZ,gA⟩:=bR
   repeat' (first
 |simp only[go_sem,hD,hY,hZ,gA,b1]
 |(with_reducible first|refine bo fun hc=>?_|refine bp fun hc=>?_|refine bq (fun hc=>?_) fun hc=>?_)<;>(try simp only[hc,bs,↓reduceIte]at h)<;>try simp only[hc]
 |(with_reducible refine aE hQ ?_;(try cases h);simp only[aV,aX,bH,bI,go_sem,hD,hY,hZ,gA,b1];try exact cq)
 | (cases h;done))
   refine lI.kR ?_
   repeat' (first
 |simp only[go_sem,hD,hY,hZ,gA,b1]
 |(with_reducible first|refine bo fun hc=>?_|refine bp fun hc=>?_|refine bq (fun hc=>?_) fun hc=>?_)<;>(try simp only[hc,bs,↓reduceIte]at h)<;>try simp only[hc]
 |(with_reducible refine aE hQ ?_;(try cases h);simp only[aV,aX,bH,bI,go_sem,hD,hY,hZ,gA,b1];try exact cq)
 | (cases h;done))
  rcases Bool.eq_false_or_eq_true (decide (fuel > 1000000))with b2|b2
  ·refine aF.go uQ rfl fun B Q hB hQ=> ?_
   have⟨hD,hY,hZ,gA⟩:=bR
   repeat' (first
 |simp only[go_sem,hD,hY,hZ,gA,b1,b2]
 |(with_reducible first|refine bo fun hc=>?_|refine bp fun hc=>?_|refine bq (fun hc=>?_) fun hc=>?_)<;>(try simp only[hc,bs,↓reduceIte]at h)<;>try simp only[hc]
 |(with_reducible refine aE hQ ?_;(try cases h);simp only[aV,aX,bH,bI,go_sem,hD,hY,hZ,gA,b1,b2];try exact cq)
 | (cases h;done))
   refine lI.kR ?_
   repeat' (first
 |simp only[go_sem,hD,hY,hZ,gA,b1,b2]
 |(with_reducible first|refine bo fun hc=>?_|refine bp fun hc=>?_|refine bq (fun hc=>?_) fun hc=>?_)<;>(try simp only[hc,bs,↓reduceIte]at h)<;>try simp only[hc]
 |(with_reducible refine aE hQ ?_;(try cases h);simp only[aV,aX,bH,bI,go_sem,hD,hY,hZ,gA,b1,b2];try exact cq)
 | (cases h;done))
  ·have b3:(p.check.1==0)=false:=by simpa [b1,b2]using Kz
   rw[b3]at cM
   refine aF.go uQ rfl fun B Q hB hQ=>?_
   have⟨hD,hY,hZ,gA⟩:=bR
   repeat' (first
 |simp only[go_sem,hD,hY,hZ,gA,b1,b2]
 |(with_reducible refine CU (cM _) ?_)
 |(with_reducible first|refine bo fun hc=>?_|refine bp fun hc=>?_|refine bq (fun hc=>?_) fun hc=>?_)<;>(try simp only[hc,bs,↓reduceIte]at h)<;>try simp only[hc]
 |(with_reducible refine aE hQ ?_;(try cases h);simp only[aV,aX,bH,bI,go_sem,hD,hY,hZ,gA,b1,b2];try exact cq)
 | (cases h;done))
   refine lI.kR ?_
   repeat' (first
 |simp only[go_sem,hD,hY,hZ,gA,b1,b2]
 |(with_reducible refine CU (cM _) ?_)
 |(with_reducible first|refine bo fun hc=>?_|refine bp fun hc=>?_|refine bq (fun hc=>?_) fun hc=>?_)<;>(try simp only[hc,bs,↓reduceIte]at h)<;>try simp only[hc]
 |(with_reducible refine aE hQ ?_;(try cases h);simp only[aV,aX,bH,bI,go_sem,hD,hY,hZ,gA,b1,b2];try exact cq)
 |(cases h;done))
 rw[if_neg Kz]at hR
 simp only[Bool.or_eq_true,not_or,Bool.not_eq_true,Bool.not_eq_false']at Kz
 obtain⟨b1,b2,b3⟩:=Kz
 rw[b3]at cM
 have PU:0≤fuel∧fuel≤1000000:=by simp at b1 b2;omega
 obtain⟨mf,hmf⟩:=Hh p T W PU.1
 rw[hmf]at hR
 simp only[Option.getD_some]at hR
 cases hR
 have Yl:=DR b3
 have hS:Gb p T W fuel:=⟨hO,Yl,hW,hT,PU⟩
 obtain⟨j,q,j1,j2,j3,j4⟩:=aal Yl
 have cP:=fun s=>(show aF Tryz.prog iC [.dA (fA p) 0, .str [109,97,105,110]] s (.int .i64 (p.at iI)) s from EH (p:=p) (by have:=hO.procs;omega) iI s)
 rw[j1]at cP
 have rI:=hO.procs.2.2
 refine aF.go uQ rfl fun B Q hB hQ=>?_
 have⟨hD,hY,hZ,gA⟩:=bR
 -- from the globals on
 have start : ∀ (y:Lay) (s:St),Inv p T W y (jK p) [(2,BY)] s→Sem Tryz.prog B 131 Q47 (JJ B Q) [(2, .int .i64 fuel),(8, .ptr 2 0),(10, .ptr 0 0)] s:=by
  intro y s hi
  have Mw:=hi.new [.int .i64 0, .int .i64 0, .slice .full 0 [], .str [], .str [], .int .i64 0, .int .i64 0, .str [], .slice .full 0 [], .bool false, .slice .full 0 [], .slice .full 0 [], .slice .full 0 [], .int .i64 0, .int .i64 0, .int .i64 0, .int .i64 0]
  have nA:=Mw.jF
  rw[fx]at nA
  simp only at nA
  obtain⟨y2,s2,hF,oa⟩:=Mt Mw hO Yl.may j2 j3 (by simp[jK]) (l:= []) (by simp) (by simp) (by simp[jK]) 0
  have hF':=bM.qu (.cons (Wk.refl _) (.cons (Wk.refl _) (.cons (Wk.nil .full 0 1) (jr.refl _)))) hF
  have hF2:aF Tryz.prog jm [.ptr 0 0, .int .i64 (j:Int), .slice .full 0 [], .int .i64 0] _ _ s2:=hF'
  have pK:=Mm (m:=jK p) (pk Yl) j2 (l:= []) (call:=0) (by simp[j4]) (by simp) (by simp[jK]) (by simp[jK]) (.inl ⟨rfl,rfl⟩)
  have kN:=hmf
  unfold runM at kN
  rw[j1]at kN
  dsimp only at kN
  have jk:=w9 p (jK p) (j:Int) [] 0
  have uz:=(yI p (jK p) (j:Int) [] 0).1
  have wV:((jK p).open p (j:Int) [] 0).2.fin=0:=by
   unfold Mc.open
   split<;>rfl
  have aev:=Wc (B:=B) hS hQ _ _ _ y2 s.ah.length s2 ⟨⟨_,rfl,oa⟩,pK,⟨by rw[jk.2.2.2];simp[jK],by rw[jk.1,jk.2.2.2];simp[jK],by rw[jk.2.1,jk.2.2.2];simp[jK],by rw[jk.2.2.1,jk.2.2.2];simp[jK],Nat.le_trans uz (by simp[jK])⟩,wV,by rw[jk.2.2.2];simp[jK];exact PU.1⟩ kN
  refine Sem.ni ?_
  repeat' (first
 |simp only[go_sem,hD,hY,hZ,gA]
 |(with_reducible first|refine bo fun hc=>?_|refine bp fun hc=>?_|refine bq (fun hc=>?_) fun hc=>?_)<;>(try simp only[hc,bs,↓reduceIte]at h)<;>try simp only[hc]
 |(with_reducible refine aE hQ ?_;exact fV)
 |(cases h;done))
  refine Sem.ni ?_
  repeat' (first
 |simp only[go_sem,hD,hY,hZ,gA]
 |(with_reducible first|refine bo fun hc=>?_|refine bp fun hc=>?_|refine bq (fun hc=>?_) fun hc=>?_)<;>(try simp only[hc,bs,↓reduceIte]at h)<;>try simp only[hc]
 |(with_reducible refine aE hQ ?_;exact fV)
 |(cases h;done))
  refine Sem.ni ?_
  repeat' (first
 |simp only[go_sem,hD,hY,hZ,gA,nA]
 |(with_reducible refine CU (cP _) ?_)
 |(with_reducible refine CU (hF2) ?_)
 |(with_reducible first|refine bo fun hc=>?_|refine bp fun hc=>?_|refine bq (fun hc=>?_) fun hc=>?_)<;>(try simp only[hc,bs,↓reduceIte]at h)<;>try simp only[hc]
 |(with_reducible refine aE hQ ?_;(try cases h);simp only[aV,aX,bH,bI,go_sem,hD,hY,hZ,gA,nA];try exact cq)
 |(cases h;done))
  refine Sem.ni ?_
  repeat' (first
 |simp only[go_sem,hD,hY,hZ,gA]
 |(with_reducible first|refine bo fun hc=>?_|refine bp fun hc=>?_|refine bq (fun hc=>?_) fun hc=>?_)<;>(try simp only[hc,bs,↓reduceIte]at h)<;>try simp only[hc]
 |(with_reducible refine aE hQ ?_;exact fV)
 |(cases h;done))
  refine Sem.pM ?_ aev
  simp only[go_sem]
  repeat' (first|exact Ok.out|with_reducible refine iZ ?_ ?_)
 generalize hG:p.globals.length=G at *
 have hGb:G≤900000:=by rw[← hG];exact hO.procs.2.2
 let row:Nat→List D:=fun k=> [.dA (fA p) 0, .slice (.tok 2) 1 ((List.range k).map fun i=>fl (3+i)), .slice .shared 1 (T.map bT), .slice .shared 1 (W.map bT), .ew 1, .ew 1, .int .i64 0, .int .i64 0, .int .i64 0, .slice (.tok 0) 1 [], .slice (.tok 1) 2 []]
 have loop : ∀ d k:Nat,k+d=G→bt Tryz.prog B 131 Q2L (kB 0 (nR (Sem Tryz.prog B 131 Q47 (JJ B Q)) (JJ B Q))) [(2, .int .i64 fuel),(8, .ptr 2 0),(10, .ptr 0 0),(34, .int .i64 (G:Int)),(35, .int .i64 (k:Int))]
  ⟨row k::cD p::BY::List.replicate k [.int .i64 0],[some 0,some 0,some k]⟩:=by
  intro d
  induction d with
  |zero=>
   intro k hk
   have uv:k=G:=by omega
   subst uv
   have hD:decide ((k:Int)<(k:Int))=false:=by simp
   refine bt.kR ?_
   repeat' (first
 |simp only[go_sem,hD,hY,hZ,gA]
 |(with_reducible first|refine bo fun hc=>?_|refine bp fun hc=>?_|refine bq (fun hc=>?_) fun hc=>?_)<;>(try simp only[hc,bs,↓reduceIte]at h)<;>try simp only[hc]
 |(with_reducible refine aE hQ ?_;exact fV)
 | (cases h;done))
   refine Sem.pM (bx:= [(2, .int .i64 fuel),(8, .ptr 2 0),(10, .ptr 0 0)]) (by simp only[go_sem];repeat' (first|exact Ok.out|with_reducible refine iZ ?_ ?_)) ?_
   have hκ:((List.range k).map (3 + ·)).length=k:=by simp
   have hmp:((List.range k).map fun i=>fl (3+i))=(((List.range k).map (3 + ·)).take k).map fl:=by rw[List.take_of_length_le (by simp),List.map_map];rfl
   refine Sem.wkO (fx p T W ⟨(List.range k).map (3 + ·),[], .ew 1, .ew 1⟩ (jK p)::cD p::BY::List.replicate k [.int .i64 0]) ?_ (start ⟨(List.range k).map (3 + ·),[], .ew 1, .ew 1⟩ _ ?_)
   ·refine .cons ?_ (gD.refl _)
    simp only[row,fx,hG, ← hmp,jK,List.map_nil]
    exact Ok.out
   ·have SR:((List.range k).map (3 + ·)).Nodup:=by
     rw[List.nodup_iff_pairwise_ne,List.pairwise_map]
     exact List.Pairwise.imp (fun h=>by omega) (List.nodup_iff_pairwise_ne.1 List.nodup_range)
    refine⟨rfl,rfl,rfl,by simp[jK,hG],fun i c v e1 e2=>?_,rfl,fun i o fr e1 e2=>by simp at e1, .inl ⟨rfl,rfl⟩,⟨[], .inl ⟨rfl,rfl⟩⟩, ?_,fun x mx=>?_⟩
    ·have hD:=(List.getElem?_eq_some_iff.1 e1).1
     simp only[hκ]at hD
     rw[List.getElem?_map,List.getElem?_range hD]at e1
     simp only[jK]at e2
     rw[List.getElem?_replicate_of_lt (by omega)]at e2
     simp only[Option.map_some,Option.some.injEq]at e1 e2
     subst e1 e2
     show(_::_::_::List.replicate k [D.int .i64 0])[3+i]? = _
     rw[show 3+i=i+1+1+1 by omega]
     simp only[List.getElem?_cons_succ]
     exact List.getElem?_replicate_of_lt hD
    ·simp only [Lay.own,D.arr,List.append_nil]
     rw[List.nodup_cons]
     exact⟨by simp,SR⟩
    ·rw [List.mem_singleton.1 mx]
     refine⟨rfl, ?_⟩
     simp only[Lay.own,D.arr,List.append_nil,List.mem_cons,List.mem_map,List.mem_range,not_or]
     exact⟨by omega,by rintro⟨i,_,h⟩;omega⟩
  | succ d ih=>
   intro k hk
   have hD:decide ((k:Int)<(G:Int))=true:=by simp;omega
   have bU:k<4611686018427387904:=by omega
   have eQ : ∀ os,gY 1 8 (.slice (.tok 2) 1 ((List.range k).map fun i=>fl (3+i))) (.slice .full 1 [[.ptr (3+k) 0]]) ⟨os,[some 0,some 0,some k]⟩ =
    some (.slice (.tok 2) 1 ((List.range (k+1)).map fun i=>fl (3+i)),⟨os,[some 0,some 0,some (k+1)]⟩):=fun os=>by
    rw[mH (size:=1) (by simp only[List.length_map,List.length_range,List.length_singleton];unfold bC;omega) (by simp)]
    simp[List.range_succ,fl]
   have hln : ∀ a b c:List D,(a::b::c::List.replicate k [D.int .i64 0]).length=3+k:=fun a b c=>by simp;omega
   have aew : ∀ a b c:List D,a::b::c::List.replicate k [D.int .i64 0]++ [[D.int .i64 0]] = a::b::c::List.replicate (k+1) [D.int .i64 0]:=fun a b c=>by rw[List.replicate_succ'];rfl
   refine bt.kR ?_
   simp only[row]
   repeat' (first
 |simp only[go_sem,hD,hY,hZ,gA,eQ,hln,aew]
 |(with_reducible first|refine bo fun hc=>?_|refine bp fun hc=>?_|refine bq (fun hc=>?_) fun hc=>?_)<;>(try simp only[hc,bs,↓reduceIte]at h)<;>try simp only[hc]
 |(with_reducible refine aE hQ ?_;(try cases h);simp only[aV,aX,bH,bI,go_sem,hD,hY,hZ,gA,eQ,hln,aew];try exact cq)
 | (cases h;done))
   have:=ih (k+1) (by omega)
   simp only[row,List.range_succ,List.map_append,List.map_cons,List.map_nil]at this
   refine bt.pM ?_ this
   simp only[go_sem,aI bU]
   repeat' (first|exact Ok.out|with_reducible refine iZ ?_ ?_)
 repeat' (first
 |simp only[go_sem,hD,hY,hZ,gA,b1,b2]
 |(with_reducible first|refine bo fun hc=>?_|refine bp fun hc=>?_|refine bq (fun hc=>?_) fun hc=>?_)<;>(try simp only[hc,bs,↓reduceIte]at h)<;>try simp only[hc]
 |(with_reducible refine aE hQ ?_;(try cases h);simp only[aV,aX,bH,bI,go_sem,hD,hY,hZ,gA,b1,b2];try exact cq)
 |(cases h;done))
 refine lI.once (Sem.ni ?_)
 repeat' (first
 |simp only[go_sem,hD,hY,hZ,gA,b1,b2]
 |(with_reducible refine CU (cM _) ?_)
 |(with_reducible first|refine bo fun hc=>?_|refine bp fun hc=>?_|refine bq (fun hc=>?_) fun hc=>?_)<;>(try simp only[hc,bs,↓reduceIte]at h)<;>try simp only[hc]
 |(with_reducible refine aE hQ ?_;(try cases h);simp only[aV,aX,bH,bI,go_sem,hD,hY,hZ,gA,b1,b2];try exact cq)
 |(cases h;done))
 refine Sem.ni ?_
 repeat' (first
 |simp only[go_sem,hD,hY,hZ,gA]
 |(with_reducible refine CU (cN _) ?_)
 |(with_reducible first|refine bo fun hc=>?_|refine bp fun hc=>?_|refine bq (fun hc=>?_) fun hc=>?_)<;>(try simp only[hc,bs,↓reduceIte]at h)<;>try simp only[hc]
 |(with_reducible refine aE hQ ?_;exact fV)
 |(cases h;done))
 refine Sem.ni ?_
 repeat' (first
 |simp only[go_sem,hD,hY,hZ,gA]
 |(with_reducible first|refine bo fun hc=>?_|refine bp fun hc=>?_|refine bq (fun hc=>?_) fun hc=>?_)<;>(try simp only[hc,bs,↓reduceIte]at h)<;>try simp only[hc]
 |(with_reducible refine aE hQ ?_;exact fV)
 |(cases h;done))
 refine bt.Ds 2 9 1 rfl rfl ?_
 refine bt.Ds 2 10 2 rfl rfl ?_
 refine bt.Ds 2 1 1 rfl rfl ?_
 simp only[List.set_cons_succ,List.set_cons_zero,List.length_nil,List.nil_append,List.length_cons,List.cons_append]
 have l0:=loop G 0 (by omega)
 simp only[row,List.range_zero,List.map_nil,List.replicate_zero]at l0
 refine bt.re [(2, .int .i64 fuel),(8, .ptr 1 0),(10, .ptr 2 0),(34, .int .i64 (G:Int)),(35, .int .i64 ((0:Nat):Int))]
  [cD p,BY,[.dA (fA p) 0, .slice (.tok 2) 1 [], .slice .shared 1 (T.map bT), .slice .shared 1 (W.map bT), .ew 1, .ew 1, .int .i64 0, .int .i64 0, .int .i64 0, .slice (.tok 0) 1 [], .slice (.tok 1) 2 []]] 3 3 (by rw[hB];exact Nat.zero_le _) (by rw[hB];exact Nat.zero_le _) ?_ ?_ ?_
 ·simp only [go_sem,hG]
  repeat' (first|exact Ok.out|with_reducible refine iZ ?_ ?_)
 ·simp only [go_sem,X4]
  repeat' (first|exact Ok.out|with_reducible refine iZ ?_ ?_)
 have r1 : ∀ os ts,D.e9 os ts (fA p)=fA p:=fun os ts=>fC os ts _ (uh p)
 have r2 : ∀ n m,D.bL n m (fA p)=true:=fun n m=>iB (Nat.zero_le n) (Nat.zero_le m) _ (uh p)
 have r3 : ∀ os ts l,D.nT os ts (List.map bT l)=List.map bT l:=fun os ts l=>jl os ts _ (iN l)
 have r4 : ∀ n m l,D.gS n m (List.map bT l)=true:=fun n m l=>mD (Nat.zero_le n) (Nat.zero_le m) _ (iN l)
 refine bt.aj6 hB [2,0,1] _ _ (by decide) (by simp) ?_ ?_ l0
 ·simp[Bm,D.e9,D.cW,D.nT,D.bL,D.gS,D.ok,Tag.cW,Tag.ok,St.cut,r1,r2,r3,r4,LU,RC,BY]
 ·simp[C3,Tm.get,D.cW,D.ok]
theorem zZ {a b:List Int} (ha:a.length<1000000000) (g:Tag) (s:St):aF Tryz.prog lA [.slice .shared 1 (a.map bT), .slice g 1 (b.map bT)] s (.bool (a==b)) s:=by
 refine bM.qu (.cons (Wk.refl _) (.cons (Wk.shared _ _ _) .nil)) (aF.pure ?_ (by simp[D.bL,D.ok,Tag.ok,iN]) rfl s)
 generalize h:(a==b)=R
 unfold S0
 by_cases hl:a.length=b.length
 ·have e1:((a.length:Int) != (b.length:Int))=false:=by simp [hl]
  refine aF.go vG rfl fun B Q hB hQ=>?_
  have⟨hD,hY,hZ,gA⟩:=bR
  repeat' (first
 |simp only[go_sem,hD,hY,hZ,gA,e1]
 |(with_reducible first|refine bo fun hc=>?_|refine bp fun hc=>?_|refine bq (fun hc=>?_) fun hc=>?_)<;>(try simp only[hc,bs,↓reduceIte]at h)<;>try simp only[hc]
 |(with_reducible refine aE hQ ?_;(try cases h);simp only[aV,aX,bH,bI,go_sem,hD,hY,hZ,gA,e1];try exact cq)
 | (cases h;done))
  refine fi 0 0 (bt.ind (ι:=List Int×List Int×Nat) (fun i=>a.drop i.2.2=i.1∧b.drop i.2.2=i.2.1∧(i.1==i.2.1)=R) (fun i=>i.1.length)
   (fun i=> [(0, .slice .shared 1 (a.map bT)),(1, .slice .shared 1 (b.map bT)),(12, .int .i64 (a.length:Int)),(13, .int .i64 (i.2.2:Int))]) (fun i=>⟨[],[]⟩) ?_ (a,b,0) ⟨rfl,rfl,h⟩)
  rintro⟨ra,rb,k⟩ ⟨h1,h2,h⟩ IH
  dsimp only at h1 h2 h
  cases ra with
  |nil=>
   have hD:=drop_nil h1
   have:b.drop k = []:=by rw[List.drop_eq_nil_iff]at h1 ⊢;omega
   rw[h2]at this
   subst this
   have h':true=R:=h
   subst h'
   repeat' (first
 |simp only[go_sem,hD,hY,hZ,gA]
 |(with_reducible first|refine bo fun hc=>?_|refine bp fun hc=>?_|refine bq (fun hc=>?_) fun hc=>?_)<;>(try simp only[hc,bs,↓reduceIte]at h)<;>try simp only[hc]
 |(with_reducible refine aE hQ ?_;exact fV)
 | (cases h;done))
  | cons x ra=>
   obtain⟨hY,g2,hD,g4⟩:=drop_cons h1
   have bU:k<4611686018427387904:=by omega
   cases rb with
   |nil=>rw[List.drop_eq_nil_iff]at h2;omega
   | cons y rb=>
    obtain⟨ml,g2',VL,g4'⟩:=drop_cons h2
    have e2:(x != y) = !(x==y):=rfl
    simp only[List.cons_beq_cons]at h
    rcases Bool.eq_false_or_eq_true (x==y)with c|c
    ·simp only [c,Bool.true_and]at h
     repeat' (first
 |simp only[go_sem,hD,hY,hZ,gA,e2,c,ml]
 |(with_reducible first|refine bo fun hc=>?_|refine bp fun hc=>?_|refine bq (fun hc=>?_) fun hc=>?_)<;>(try simp only[hc,bs,↓reduceIte]at h)<;>try simp only[hc]
 |(with_reducible refine aE hQ ?_;(try cases h);simp only[aV,aX,bH,bI,go_sem,hD,hY,hZ,gA,e2,c,ml];try exact cq)
 | (cases h;done))
     refine eY 0 0 ?_ ?_ (IH (ra,rb,k+1) ⟨g2,g2',h⟩ (Nat.lt_succ_self _))
     ·(simp only[go_sem,hD,hY,hZ,gA,aI bU];try exact cj)
     ·(simp only[go_sem,hD,hY,hZ,gA,aI bU];try exact cj)
    ·simp only [c,Bool.false_and]at h
     repeat' (first
 |simp only[go_sem,hD,hY,hZ,gA,e2,c,ml]
 |(with_reducible first|refine bo fun hc=>?_|refine bp fun hc=>?_|refine bq (fun hc=>?_) fun hc=>?_)<;>(try simp only[hc,bs,↓reduceIte]at h)<;>try simp only[hc]
 |(with_reducible refine aE hQ ?_;(try cases h);simp only[aV,aX,bH,bI,go_sem,hD,hY,hZ,gA,e2,c,ml];try exact cq)
 |(cases h;done))
 ·have e1:((a.length:Int) != (b.length:Int))=true:=by simp;omega
  have:(a==b)=false:=by
   rw[beq_eq_false_iff_ne];intro e;rw[e]at hl;exact hl rfl
  rw[this]at h
  subst h
  refine aF.go vG rfl fun B Q hB hQ=>?_
  have⟨hD,hY,hZ,gA⟩:=bR
  repeat' (first
 |simp only[go_sem,hD,hY,hZ,gA,e1]
 |(with_reducible first|refine bo fun hc=>?_|refine bp fun hc=>?_|refine bq (fun hc=>?_) fun hc=>?_)<;>(try simp only[hc,bs,↓reduceIte]at h)<;>try simp only[hc]
 |(with_reducible refine aE hQ ?_;(try cases h);simp only[aV,aX,bH,bI,go_sem,hD,hY,hZ,gA,e1];try exact cq)
 |(cases h;done))
theorem S6 {a b:List (Int×List Int)} (ha:a.length<1000000000) (hv : ∀ e∈a,e.2.length<1000000000) (s:St):aF Tryz.prog rm [.slice .shared 2 (a.map gC), .slice .shared 2 (b.map gC)] s (.bool (a==b)) s:=by
 refine aF.pure ?_ (by simp[D.bL,D.ok,Tag.ok,Yj]) rfl s
 generalize h:(a==b)=R
 unfold S0
 by_cases hl:a.length=b.length
 ·have e1:((a.length:Int) != (b.length:Int))=false:=by simp [hl]
  refine aF.go uE rfl fun B Q hB hQ=>?_
  have⟨hD,hY,hZ,gA⟩:=bR
  repeat' (first
 |simp only[go_sem,hD,hY,hZ,gA,e1]
 |(with_reducible first|refine bo fun hc=>?_|refine bp fun hc=>?_|refine bq (fun hc=>?_) fun hc=>?_)<;>(try simp only[hc,bs,↓reduceIte]at h)<;>try simp only[hc]
 |(with_reducible refine aE hQ ?_;(try cases h);simp only[aV,aX,bH,bI,go_sem,hD,hY,hZ,gA,e1];try exact cq)
 | (cases h;done))
  refine fi 0 0 (bt.ind (ι:=List (Int×List Int)×List (Int×List Int)×Nat) (fun i=>a.drop i.2.2=i.1∧b.drop i.2.2=i.2.1∧(i.1==i.2.1)=R) (fun i=>i.1.length)
   (fun i=> [(0, .slice .shared 2 (a.map gC)),(1, .slice .shared 2 (b.map gC)),(12, .int .i64 (a.length:Int)),(13, .int .i64 (i.2.2:Int))]) (fun i=>⟨[],[]⟩) ?_ (a,b,0) ⟨rfl,rfl,h⟩)
  rintro⟨ra,rb,k⟩ ⟨h1,h2,h⟩ IH
  dsimp only at h1 h2 h
  cases ra with
  |nil=>
   have hD:=drop_nil h1
   have:b.drop k = []:=by rw[List.drop_eq_nil_iff]at h1 ⊢;omega
   rw[h2]at this
   subst this
   have h':true=R:=h
   subst h'
   repeat' (first
 |simp only[go_sem,hD,hY,hZ,gA]
 |(with_reducible first|refine bo fun hc=>?_|refine bp fun hc=>?_|refine bq (fun hc=>?_) fun hc=>?_)<;>(try simp only[hc,bs,↓reduceIte]at h)<;>try simp only[hc]
 |(with_reducible refine aE hQ ?_;exact fV)
 | (cases h;done))
  | cons x ra=>
   obtain⟨hY,g2,hD,g4⟩:=drop_cons h1
   have bU:k<4611686018427387904:=by omega
   cases rb with
   |nil=>rw[List.drop_eq_nil_iff]at h2;omega
   |cons y rb=>
    obtain⟨ml,g2',VL,g4'⟩:=drop_cons h2
    obtain⟨x1,x2⟩:=x
    obtain⟨y1,y2⟩:=y
    have e2:(x1 != y1) = !(x1==y1):=rfl
    have hb:((x1,x2)==(y1,y2))=(x1==y1 && x2==y2):=rfl
    have cE:=fun g s=>zZ (a:=x2) (b:=y2) (hv _ (List.mem_of_getElem? hY)) g s
    simp only[List.cons_beq_cons,hb]at h
    rcases Bool.eq_false_or_eq_true (x1==y1)with c|c<;>rcases Bool.eq_false_or_eq_true (x2==y2)with c2|c2<;>simp only[c,c2,Bool.true_and,Bool.false_and]at h
    ·repeat' (first
 |simp only[go_sem,hD,hY,hZ,gA,e2,c,c2,ml,gC]
 |(with_reducible refine CU (cE _ _) ?_)
 |(with_reducible first|refine bo fun hc=>?_|refine bp fun hc=>?_|refine bq (fun hc=>?_) fun hc=>?_)<;>(try simp only[hc,bs,↓reduceIte]at h)<;>try simp only[hc]
 |(with_reducible refine aE hQ ?_;(try cases h);simp only[aV,aX,bH,bI,go_sem,hD,hY,hZ,gA,e2,c,c2,ml,gC];try exact cq)
 | (cases h;done))
     refine eY 0 0 ?_ ?_ (IH (ra,rb,k+1) ⟨g2,g2',h⟩ (Nat.lt_succ_self _))
     ·(simp only[go_sem,hD,hY,hZ,gA,aI bU,gC];try exact cj)
     ·(simp only[go_sem,hD,hY,hZ,gA,aI bU,gC];try exact cj)
    ·repeat' (first
 |simp only[go_sem,hD,hY,hZ,gA,e2,c,c2,ml,gC]
 |(with_reducible refine CU (cE _ _) ?_)
 |(with_reducible first|refine bo fun hc=>?_|refine bp fun hc=>?_|refine bq (fun hc=>?_) fun hc=>?_)<;>(try simp only[hc,bs,↓reduceIte]at h)<;>try simp only[hc]
 |(with_reducible refine aE hQ ?_;(try cases h);simp only[aV,aX,bH,bI,go_sem,hD,hY,hZ,gA,e2,c,c2,ml,gC];try exact cq)
 | (cases h;done))
    ·repeat' (first
 |simp only[go_sem,hD,hY,hZ,gA,e2,c,c2,ml,gC]
 |(with_reducible refine CU (cE _ _) ?_)
 |(with_reducible first|refine bo fun hc=>?_|refine bp fun hc=>?_|refine bq (fun hc=>?_) fun hc=>?_)<;>(try simp only[hc,bs,↓reduceIte]at h)<;>try simp only[hc]
 |(with_reducible refine aE hQ ?_;(try cases h);simp only[aV,aX,bH,bI,go_sem,hD,hY,hZ,gA,e2,c,c2,ml,gC];try exact cq)
 | (cases h;done))
    ·repeat' (first
 |simp only[go_sem,hD,hY,hZ,gA,e2,c,c2,ml,gC]
 |(with_reducible refine CU (cE _ _) ?_)
 |(with_reducible first|refine bo fun hc=>?_|refine bp fun hc=>?_|refine bq (fun hc=>?_) fun hc=>?_)<;>(try simp only[hc,bs,↓reduceIte]at h)<;>try simp only[hc]
 |(with_reducible refine aE hQ ?_;(try cases h);simp only[aV,aX,bH,bI,go_sem,hD,hY,hZ,gA,e2,c,c2,ml,gC];try exact cq)
 |(cases h;done))
 ·have e1:((a.length:Int) != (b.length:Int))=true:=by simp;omega
  have:(a==b)=false:=by
   rw[beq_eq_false_iff_ne];intro e;rw[e]at hl;exact hl rfl
  rw[this]at h
  subst h
  refine aF.go uE rfl fun B Q hB hQ=>?_
  have⟨hD,hY,hZ,gA⟩:=bR
  repeat' (first
 |simp only[go_sem,hD,hY,hZ,gA,e1]
 |(with_reducible first|refine bo fun hc=>?_|refine bp fun hc=>?_|refine bq (fun hc=>?_) fun hc=>?_)<;>(try simp only[hc,bs,↓reduceIte]at h)<;>try simp only[hc]
 |(with_reducible refine aE hQ ?_;(try cases h);simp only[aV,aX,bH,bI,go_sem,hD,hY,hZ,gA,e1];try exact cq)
 |(cases h;done))
structure Mc.Len (m:Mc):Prop where
 out:m.out.length<1000000000
 trace:m.trace.length<1000000000
 bK : ∀ e∈m.trace,e.2.length<1000000000
def Cw (a b:Mc):Bool:=a.fin==b.fin && (a.steps==b.steps && (a.reads==b.reads && a.out==b.out))
def Fk (a b:Mc):Bool:=Cw a b && a.trace==b.trace
theorem aan {a b:Mc} (ha:a.Len) (s:St):aF Tryz.prog tV [.agg (eZ a), .agg (eZ b)] s (.bool (Cw a b)) s:=by
 refine aF.pure ?_ (by simp[D.bL,D.ok,Cv]) rfl s
 have cE:=fun g s=>zZ (a:=a.out) (b:=b.out) ha.out g s
 generalize h:Cw a b=R
 simp only[Cw]at h
 unfold S0
 simp only[eZ]
 rcases Bool.eq_false_or_eq_true (a.fin==b.fin)with c1|c1
 all_goals rcases Bool.eq_false_or_eq_true (a.steps==b.steps)with c2|c2
 all_goals rcases Bool.eq_false_or_eq_true (a.reads==b.reads)with c3|c3
 all_goals
  simp only[c1,c2,c3,Bool.true_and,Bool.false_and]at h
  subst h
  refine aF.go Ey rfl fun B Q hB hQ=>?_
  have⟨hD,hY,hZ,gA⟩:=bR
  repeat' (first
 |simp only[go_sem,hD,hY,hZ,gA,c1,c2,c3]
 |(with_reducible refine CU (cE _ _) ?_)
 |(with_reducible first|refine bo fun hc=>?_|refine bp fun hc=>?_|refine bq (fun hc=>?_) fun hc=>?_)<;>(try simp only[hc,bs,↓reduceIte]at h)<;>try simp only[hc]
 |(with_reducible refine aE hQ ?_;(try cases h);simp only[aV,aX,bH,bI,go_sem,hD,hY,hZ,gA,c1,c2,c3];try exact cq)
 |(cases h;done))
theorem aao {a b:Mc} (ha:a.Len) (s:St):aF Tryz.prog qj [.agg (eZ a), .agg (eZ b)] s (.bool (Fk a b)) s:=by
 refine aF.pure ?_ (by simp[D.bL,D.ok,Cv]) rfl s
 have c1:=fun s=>aan (b:=b) ha s
 have c2:=fun s=>S6 (a:=a.trace) (b:=b.trace) ha.trace ha.bK s
 have e : ∀ m:Mc,(eZ m).length=5:=fun m=>rfl
 have e0 : ∀ m:Mc,List.take 5 (eZ m)=eZ m:=fun m=>rfl
 have e4 : ∀ m:Mc,(eZ m)[4]? = some (.slice .shared 2 (m.trace.map gC)):=fun m=>rfl
 generalize h:Fk a b=R
 simp only[Fk]at h
 unfold S0
 rcases Bool.eq_false_or_eq_true (Cw a b)with b1|b1
 all_goals
  simp only[b1,Bool.true_and,Bool.false_and]at h
  subst h
  refine aF.go Eu rfl fun B Q hB hQ=>?_
  have⟨hD,hY,hZ,gA⟩:=bR
  repeat' (first
 |simp only[go_sem,hD,hY,hZ,gA,b1,e,e0,e4]
 |(with_reducible refine CU (c1 _) ?_)
 |(with_reducible refine CU (c2 _) ?_)
 |(with_reducible first|refine bo fun hc=>?_|refine bp fun hc=>?_|refine bq (fun hc=>?_) fun hc=>?_)<;>(try simp only[hc,bs,↓reduceIte]at h)<;>try simp only[hc]
 |(with_reducible refine aE hQ ?_;(try cases h);simp only[aV,aX,bH,bI,go_sem,hD,hY,hZ,gA,b1,e,e0,e4];try exact cq)
 |(cases h;done))
theorem Gd:eZ (ofM rP [] [5,2] 50).1 = [.int .i64 1, .int .i64 7, .int .i64 0, .slice .shared 1 ([5,5].map bT), .slice .shared 2 ([(2,[]),(5,[5])].map gC)]:=by kernel_rfl
theorem ahX:(ofM rP [] [5,2] 50).2=0:=by kernel_rfl
theorem aap:Nat.ble (rP.size+1) 1000=true:=by kernel_rfl
theorem S7 (n:Int):qp (.ofInt .f64) (.int .i64 n) (.int .i64 n)=some (.val (.float .f64 (FloatKind.nearest .f64 n))):=nd rfl
theorem KA (a b:Nat):qp .Ii (.val (.float .f64 a)) (.val (.float .f64 b))=some (.val (.complex .f64 a b)):=nd rfl
theorem KB (a b:Nat) (d:D):qp .real (.val (.complex .f64 a b)) d=some (.val (.float .f64 a)):=nd rfl
theorem Ym:qp .eq (.val (.float .f64 (FloatKind.nearest .f64 7))) (.val (.float .f64 4619567317775286272))=some (.bool true):=by
 have:FloatKind.nearest .f64 7=4619567317775286272:=by decide +kernel
 rw[this]
 have h:(FloatKind.f64.format.order 4619567317775286272 4619567317775286272==some .eq)=true:=by decide +kernel
 show(if FloatKind.f64=FloatKind.f64 then some (D.bool (FloatKind.f64.format.order 4619567317775286272 4619567317775286272==some .eq))else none)=_
 rw[if_pos rfl,h]
theorem aez:rP.iJ:=by
 have vh:rP.size<100000:=by have:=Nat.le_of_ble_eq_true aap;omega
 exact⟨R9 (by decide +kernel) (by omega),by omega⟩
theorem aeA (n k:Nat) (m:Mc):D.gv n k (eZ m)=eZ m:=ig n k _ (Cv m)
theorem aaq (m:Mc):(eZ m).length=5:=nd rfl
theorem Wi (m:Mc):List.take 5 (eZ m)=eZ m:=nd rfl
theorem ahY (m:Mc):(eZ m)[0]? = some (.int .i64 m.fin):=nd rfl
theorem ahZ (m:Mc):(eZ m)[1]? = some (.int .i64 m.steps):=nd rfl
theorem ah0 (m:Mc):(eZ m)[2]? = some (.int .i64 m.reads):=nd rfl
theorem ah1 (m:Mc):(eZ m)[3]? = some (.slice .shared 1 (m.out.map bT)):=nd rfl
theorem ah2 (m:Mc):(eZ m)[4]? = some (.slice .shared 2 (m.trace.map gC)):=nd rfl
attribute [go_sem] aeA aaq Wi ahY ahZ ah0 ah1 ah2
theorem aar (m:Mc) (s:St):aF Tryz.prog xu [.agg (eZ m)] s (.val (.complex .f64 (FloatKind.nearest .f64 m.steps) (FloatKind.nearest .f64 m.reads))) s:=by
 refine aF.pure ?_ (by simp[D.bL,D.ok,Cv]) rfl s
 unfold S0
 refine aF.go HJ rfl fun B Q hB hQ=>?_
 have⟨hD,hY,hZ,gA⟩:=bR
 repeat' (first
 |simp only[go_sem,hD,hY,hZ,gA,eZ,S7,KA]
 |(with_reducible first|refine bo fun hc=>?_|refine bp fun hc=>?_|refine bq (fun hc=>?_) fun hc=>?_)<;>(try simp only[hc,bs,↓reduceIte]at h)<;>try simp only[hc]
 |(with_reducible refine aE hQ ?_;(try cases h);simp only[aV,aX,bH,bI,go_sem,hD,hY,hZ,gA,eZ,S7,KA];try exact cq)
 |(cases h;done))
theorem ah3 (s:St):aF Tryz.prog xq [] s (.bool true) s:=by
 refine aF.pure ?_ rfl rfl s
 have h1:=fun s=>ad3 s
 have h2:=fun s=>aet (T:= []) (W:= [5,2]) aez (by simp) (by simp) 50 s
 have h4:=fun s=>aar (ofM rP [] [5,2] 50).1 s
 have m1:(ofM rP [] [5,2] 50).1.steps=7:=by have:=congrArg (fun l=>l[1]?) Gd;simpa[eZ]using this
 have m2:(ofM rP [] [5,2] 50).1.reads=0:=by have:=congrArg (fun l=>l[2]?) Gd;simpa[eZ]using this
 rw[m1,m2]at h4
 rw[Gd]at h2 h4
 rw[ahX]at h2
 simp only[List.map_cons,List.map_nil,bT,gC]at h2 h4
 have h3:=fun g s=>zZ (a:= [5,5]) (b:= [5,5]) (by simp) g s
 have h5:=fun g s=>zZ (a:= [5]) (b:= [5]) (by simp) g s
 have e5:(([5,5] : List Int) == [5,5])=true:=rfl
 have e6:(([5] : List Int) == [5])=true:=rfl
 rw[e5]at h3
 rw[e6]at h5
 simp only[List.map_cons,List.map_nil,bT]at h3 h5
 have uA:=fun s=>bM.qu (.cons (Wk.refl _) (.cons (Wk.nil .full 0 1) (.cons (Wk.refl _) (.cons (Wk.shared .full _ _) .nil)))) (h2 s)
 have h2 : ∀ s,aF Tryz.prog vw [.agg (cD rP), .slice .full 0 [], .int .i64 50, .slice .full 1 [[.int .i64 5],[.int .i64 2]]] s _ s:=uA
 clear uA
 have z0 : ∀ x:Int,(x==x)=true:=fun x=>beq_self_eq_true x
 have z2:(((2:Nat):Int)==2)=true:=rfl
 unfold S0
 refine aF.go HG rfl fun B Q hB hQ=>?_
 have⟨hD,hY,hZ,gA⟩:=bR
 repeat' (first
 |simp only[go_sem,hD,hY,hZ,gA,z0,z2,KB,Ym,Int.toNat_one,List.getElem?_cons_succ,List.getElem?_cons_zero]
 |(with_reducible refine CU (h1 _) ?_)
 |(with_reducible refine CU (h2 _) ?_)
 |(with_reducible refine CU (h3 _ _) ?_)
 |(with_reducible refine CU (h5 _ _) ?_)
 |(with_reducible refine CU (h4 _) ?_)
 |(with_reducible first|refine bo fun hc=>?_|refine bp fun hc=>?_|refine bq (fun hc=>?_) fun hc=>?_)<;>(try simp only[hc,bs,↓reduceIte]at h)<;>try simp only[hc]
 |(with_reducible refine aE hQ ?_;(try cases h);simp only[aV,aX,bH,bI,go_sem,hD,hY,hZ,gA,z0,z2,KB,Ym,Int.toNat_one,List.getElem?_cons_succ,List.getElem?_cons_zero];try exact cq)
 |(cases h;done))
theorem aas {p:Pg} (hO:p.iJ) (T:List Int) (fuel:Int) (s:St):aF Tryz.prog tU [.agg (cD p), .slice .shared 1 (T.map bT), .int .i64 fuel] s (.bool (p.check.1==0 && (decide (0≤fuel) && (decide (fuel≤400) && decide ((T.length:Int)≤100))))) s:=by
 refine aF.pure ?_ (by simp[D.bL,D.ok,Tag.ok,jv,iN]) rfl s
 have h1:=fun s=>S3 hO s
 have g1:decide (fuel≥0)=decide (0≤fuel):=rfl
 unfold S0
 rcases Bool.eq_false_or_eq_true (p.check.1==0)with b1|b1
 all_goals rcases Bool.eq_false_or_eq_true (decide (0≤fuel))with b2|b2
 all_goals rcases Bool.eq_false_or_eq_true (decide (fuel≤400))with b3|b3
 all_goals rcases Bool.eq_false_or_eq_true (decide ((T.length:Int)≤100))with b4|b4
 all_goals simp only[b1,b2,b3,b4,Bool.true_and,Bool.false_and]
 all_goals rw[b1]at h1
 all_goals rw[b2]at g1
 all_goals
  refine aF.go Ev rfl fun B Q hB hQ=>?_
  have⟨hD,hY,hZ,gA⟩:=bR
  repeat' (first
 |simp only[go_sem,hD,hY,hZ,gA,g1,b3,b4]
 |(with_reducible refine CU (h1 _) ?_)
 |(with_reducible first|refine bo fun hc=>?_|refine bp fun hc=>?_|refine bq (fun hc=>?_) fun hc=>?_)<;>(try simp only[hc,bs,↓reduceIte]at h)<;>try simp only[hc]
 |(with_reducible refine aE hQ ?_;(try cases h);simp only[aV,aX,bH,bI,go_sem,hD,hY,hZ,gA,g1,b3,b4];try exact cq)
 |(cases h;done))
def Pg.whole (p:Pg) (T:List Int) (fuel:Int):Mc:=(ofM p T (oI 0 p.all) fuel).1
theorem PV {p:Pg} (hO:p.iJ) (sa:p.all.length≤1000) {T:List Int} (hT:T.length<1000000) (fuel:Int) (s:St):aF Tryz.prog lX [.agg (cD p), .slice .shared 1 (T.map bT), .int .i64 fuel] s (.agg (eZ (p.whole T fuel))) s:=by
 refine aF.pure ?_ (by simp[D.bL,D.ok,Tag.ok,jv,iN]) (by simp only[D.ok,Cv]) s
 have wT:=hO.procs
 have h1:=fun s=>ahF (p:=p) (by omega) sa 0 s
 have hW:(oI 0 p.all).length<1000000:=by have:=DP 0 p.all;omega
 have h2:=fun s=>aet hO hT hW fuel s
 unfold Pg.whole
 unfold S0
 refine aF.go Ew rfl fun B Q hB hQ=>?_
 have⟨hD,hY,hZ,gA⟩:=bR
 repeat' (first
 |simp only[go_sem,hD,hY,hZ,gA]
 |(with_reducible refine CU (h1 _) ?_)
 |(with_reducible refine CU (h2 _) ?_)
 |(with_reducible first|refine bo fun hc=>?_|refine bp fun hc=>?_|refine bq (fun hc=>?_) fun hc=>?_)<;>(try simp only[hc,bs,↓reduceIte]at h)<;>try simp only[hc]
 |(with_reducible refine aE hQ ?_;exact fV)
 |(cases h;done))
end Go.Abs
namespace Go.Abs
theorem aat (p:Pg) (L:List Im) (T T' W:List Int) (m:Mc) (it:Im):m.do p L T W it=m.do p L T' W it∨(m.do p L T W it).2.reads=m.reads+1∨(m.do p L T W it).2.fin=3:=by
 rcases Bool.eq_false_or_eq_true (it.s.kind==2)with c|c
 ·have k7:(it.s.kind==7)=false:=by simp only [beq_iff_eq]at c;rw [c];rfl
  have k8:(it.s.kind==8)=false:=by simp only[beq_iff_eq]at c;rw[c];rfl
  have k10:(it.s.kind==10)=false:=by simp only[beq_iff_eq]at c;rw[c];rfl
  right
  unfold Mc.do
  simp only[k7,k8,k10,c,Bool.false_eq_true,if_false,if_true]
  cases T[m.reads.toNat]? with
  |none=>exact .inr rfl
  |some n=>exact .inl (dT ..).2.2.2.2.1
 ·left
  unfold Mc.do
  simp only[c,Bool.false_eq_true,if_false]
theorem S8 (p:Pg) (L:List Im) (T T' W:List Int) (fuel a:Int) (m:Mc):m.next p L T W fuel a=m.next p L T' W fuel a∨(m.next p L T W fuel a).2.reads=m.reads+1∨((m.next p L T W fuel a).2.fin=3∧(m.next p L T W fuel a).1=none):=by
 unfold Mc.next
 dsimp only
 split
 ·exact .inl rfl
 split
 ·exact .inl rfl
 split
 ·exact .inl rfl
 split
 ·exact .inl rfl
 ·rcases aat p L T T' W {m with steps:=m.steps+1} (fj L a)with h | h | h
  ·rw[h];exact .inl rfl
  ·exact .inr (.inl h)
  ·refine .inr (.inr ⟨h, ?_⟩)
   rw[if_neg (by simp[h])]
theorem S9 {p:Pg} {L:List Im} {T T' W:List Int} {fuel a:Int} {m:Mc} (h:T[m.reads.toNat]? = T'[m.reads.toNat]?):m.next p L T W fuel a=m.next p L T' W fuel a:=by
 unfold Mc.next Mc.do
 simp only[h]
theorem My (p:Pg) (L:List Im) (T T' W:List Int) (fuel:Int) : ∀ (N:Nat) (a:Int) (m m':Mc),0≤m.reads→Mc.go p L T W fuel N a m=some m'→m'.fin≠3→(∀ i:Nat,(i:Int)<m'.reads→T[i]? = T'[i]?)→
 Mc.go p L T' W fuel N a m=some m'
 | 0,_,_,_,_,h,_,_=>by simp[Mc.go]at h
 | N+1,a,m,m',h0,h,hf,ht=>by
  have hs:m.next p L T W fuel a=m.next p L T' W fuel a:=by
   by_cases e:T[m.reads.toNat]? = T'[m.reads.toNat]?
   ·exact S9 e
   ·rcases S8 p L T T' W fuel a m with k | k | ⟨k,k2⟩
    ·exact k
    ·refine absurd (ht m.reads.toNat ?_) e
     simp only[Mc.go]at h
     split at h
     ·rename_i m1 e1;rw[e1]at k;cases h;dsimp only at k;omega
     ·rename_i a1 m1 e1
      rw[e1]at k
      have:=(Mi p L T W fuel N a1 m1 m' h).reads
      dsimp only at k;omega
    ·simp only [Mc.go]at h
     split at h
     ·rename_i m1 e1;rw[e1]at k;cases h;exact absurd k hf
     ·rename_i a1 m1 e1;rw[e1]at k2;cases k2
  have hg:=Hk p L T W fuel a m
  simp only[Mc.go]at h ⊢
  rw[← hs]
  split at h
  ·exact h
  ·rename_i a1 m1 e1
   rw[e1]at hg
   exact My p L T T' W fuel N a1 m1 m' (Int.le_trans h0 hg.reads) h hf ht
theorem Ta {p:Pg} {T T' W:List Int} {fuel:Int} {m:Mc} (h:runM p T W fuel=some m) (hf:m.fin≠3) (ht : ∀ i:Nat,(i:Int)<m.reads→T[i]? = T'[i]?):runM p T' W fuel=some m:=by
 unfold runM at h ⊢
 dsimp only at h ⊢
 refine My p _ T T' W fuel _ _ _ m ?_ h hf ht
 have:=(Hi p (jK p) (p.at iI) [] 0).reads
 exact this
def Reads (n:Nat) (m:Mc):Prop:=0≤m.reads∧m.reads≤(n:Int)∧(m.fin=3→m.reads=(n:Int))
theorem Reads.of {n:Nat} {m m':Mc} (h:Reads n m) (e:m'.reads=m.reads) (hf:m'.fin≠3):Reads n m':=⟨by rw[e];exact h.1,by rw[e];exact h.2.1,fun k=>absurd k hf⟩
theorem z6 : ∀ (l:List Ar) (m:Mc) (out:List Nat),(Mc.args l m out).2.reads=m.reads
 | [],m,out=>rfl
 | a::l,m,out=>by
  simp only[Mc.args]
  split
  ·exact z6 l m _
  ·split
   ·exact(z6 l _ _).trans (fB m a.x).2.2.2.1
   ·exact(fB m a.x).2.2.2.1
theorem Fl (m:Mc) (x:Ex) (h:m.fin=0):(m.bA x).2.fin≠3:=by
 unfold Mc.bA;dsimp only;split
 ·rw[h];decide
 ·exact fun e=>absurd (show(4:Int)=3 from e) (by decide)
theorem PW {p:Pg} {W:List Int} {m:Mc} {s:Sm} (h:m.fin=0):(m.call p W s).2.reads=m.reads∧(m.call p W s).2.fin≠3:=by
 have h1:=z6 s.args m []
 have h2:=(vT s.args m [] h).2
 unfold Mc.call
 generalize Mc.args s.args m [] = r at *
 obtain⟨o,m1⟩:=r
 cases o with
 |none=>exact⟨h1,by dsimp only at h2 ⊢;rw[h2];decide⟩
 | some l=>
  dsimp only at h1 h2 ⊢
  by_cases c:m1.st.length > 100
  ·rw[if_pos c];exact⟨h1,fun e=>absurd (show(5:Int)=3 from e) (by decide)⟩
  ·rw [if_neg c]
   have e:=dT W m1 s.id []
   unfold Mc.open
   split
   ·exact⟨e.2.2.2.2.1.trans h1,by dsimp only;rw[e.2.2.1,h2];decide⟩
   ·exact⟨e.2.2.2.2.1.trans h1,by dsimp only;rw[e.2.2.1,h2];decide⟩
theorem PX {L:List Im} {m:Mc} {g:Int} (h:m.fin=0):(m.back L g).2.reads=m.reads∧(m.back L g).2.fin≠3:=by
 unfold Mc.back Mc.close
 dsimp only
 split
 ·exact⟨rfl,fun e=>absurd (show(1:Int)=3 from e) (by decide)⟩
 ·split
  ·exact⟨rfl,by dsimp only;rw[h];decide⟩
  ·exact⟨rfl,by simp only[Mc.set];rw[h];decide⟩
theorem Ly {W:List Int} {m:Mc} {s:Sm} (h:m.fin=0):(m.fa W s).2.reads=m.reads∧(m.fa W s).2.fin≠3:=by
 have hw:=Fl m s.x h
 have he:=(fB m s.x).2.2.2.1
 have e:=fun(m:Mc) bK=>dT W m s.id bK
 unfold Mc.fa
 dsimp only
 split
 ·split
  ·exact⟨(e ..).2.2.2.2.1.trans he,by dsimp only;rw[(e ..).2.2.1];exact hw⟩
  ·exact⟨he,hw⟩
 ·exact⟨(e ..).2.2.2.2.1,by dsimp only;rw[(e ..).2.2.1,h];decide⟩
theorem Wj {p:Pg} {L:List Im} {T W:List Int} {m:Mc} {it:Im} (h:m.fin=0) (hr:Reads T.length m):Reads T.length (m.do p L T W it).2:=by
 obtain⟨h1,h2,_⟩:=hr
 rcases Bool.eq_false_or_eq_true (it.s.kind==2)with c|c
 ·have k7:(it.s.kind==7)=false:=by simp only [beq_iff_eq]at c;rw [c];rfl
  have k8:(it.s.kind==8)=false:=by simp only[beq_iff_eq]at c;rw[c];rfl
  have k10:(it.s.kind==10)=false:=by simp only[beq_iff_eq]at c;rw[c];rfl
  unfold Mc.do
  simp only[k7,k8,k10,c,Bool.false_eq_true,if_false,if_true]
  cases e:T[m.reads.toNat]? with
  |none=>
   have:=List.getElem?_eq_none_iff.1 e
   exact⟨h1,h2,fun _=>by dsimp only;omega⟩
  |some n=>
   have hD:=(List.getElem?_eq_some_iff.1 e).1
   have e1:=dT W (({m with reads:=m.reads+1} : Mc).set it.s.name n) it.s.id [n]
   dsimp only
   unfold Reads
   rw[e1.2.2.2.2.1,e1.2.2.1]
   exact⟨by simp only[Mc.set];omega,by simp only[Mc.set];omega,fun k=>by simp only[Mc.set]at k;omega⟩
 ·have he:=fB m it.s.x
  have hw:=Fl m it.s.x h
  have e:=fun(m:Mc) bK=>dT W m it.s.id bK
  have key:(m.do p L T W it).2.reads=m.reads∧(m.do p L T W it).2.fin≠3:=by
   unfold Mc.do
   simp only[c,Bool.false_eq_true,if_false]
   have a1 : ∀ bK,(m.event W it.s.id bK).reads=m.reads∧(m.event W it.s.id bK).fin≠3:=fun bK=>⟨(e ..).2.2.2.2.1,by rw[(e ..).2.2.1,h];decide⟩
   have a2 : ∀ bK,((m.bA it.s.x).2.event W it.s.id bK).reads=m.reads∧((m.bA it.s.x).2.event W it.s.id bK).fin≠3:=fun bK=>⟨(e ..).2.2.2.2.1.trans he.2.2.2.1,by rw[(e ..).2.2.1];exact hw⟩
   split
   ·exact a1 _
   split
   ·exact a1 _
   split
   ·exact a1 _
   split
   ·split
    ·exact a2 _
    split
    ·exact a2 _
    split
    ·exact a2 _
    split
    ·exact a2 _
    ·exact a2 _
   ·exact⟨he.2.2.2.1,hw⟩
  exact⟨by omega,by omega,fun k=>absurd k key.2⟩
theorem PY {p:Pg} {L:List Im} {T W:List Int} {fuel a:Int} {m:Mc} (h:m.fin=0) (hr:Reads T.length m) :
 Reads T.length (m.next p L T W fuel a).2∧((m.next p L T W fuel a).1≠none→(m.next p L T W fuel a).2.fin=0):=by
 have hb : ∀ {m:Mc} {g:Int},m.fin=0→Reads T.length m→Reads T.length (m.back L g).2∧((m.back L g).1≠none→(m.back L g).2.fin=0):=fun {m g} h hr=>by
  have k:=PX (L:=L) (g:=g) h
  refine⟨hr.of k.1 k.2,fun hn=>?_⟩
  unfold Mc.back at hn ⊢
  dsimp only at hn ⊢
  split at hn
  ·rename_i c;simpa using c
  ·exact absurd rfl hn
 have hs:Reads T.length {m with steps:=m.steps+1}:=hr
 have fin : ∀ {r:Int×Mc},(if r.2.fin==0 then some r.1 else none)≠none→r.2.fin=0:=fun {r} hn=>by
  split at hn
  ·rename_i c;simpa using c
  ·exact absurd rfl hn
 unfold Mc.next
 dsimp only
 split
 ·exact hb h hr
 split
 ·exact⟨hr.of rfl (fun e=>absurd (show(2:Int)=3 from e) (by decide)),fun hn=>absurd rfl hn⟩
 split
 ·have k:=PW (p:=p) (W:=W) (m:= {m with steps:=m.steps+1}) (s:=(fj L a).s) h
  exact⟨hs.of k.1 k.2,fin⟩
 split
 ·have k:=Ly (W:=W) (m:= {m with steps:=m.steps+1}) (s:=(fj L a).s) h
  split
  ·rename_i c
   exact hb (by simpa using c) (hs.of k.1 k.2)
  ·exact⟨hs.of k.1 k.2,fun hn=>absurd rfl hn⟩
 ·exact⟨Wj (m:= {m with steps:=m.steps+1}) h hs,fin⟩
theorem KD (p:Pg) (L:List Im) (T W:List Int) (fuel:Int) : ∀ (N:Nat) (a:Int) (m m':Mc),m.fin=0→Reads T.length m→Mc.go p L T W fuel N a m=some m'→Reads T.length m'
 | 0,_,_,_,_,_,h=>by simp[Mc.go]at h
 |N+1,a,m,m',hf,hr,h=>by
  obtain⟨k1,k2⟩:=PY (p:=p) (L:=L) (W:=W) (fuel:=fuel) (a:=a) hf hr
  simp only[Mc.go]at h
  split at h
  ·rename_i m1 e;rw[e]at k1;cases h;exact k1
  ·rename_i a1 m1 e;rw[e]at k1 k2;exact KD p L T W fuel N a1 m1 m' (k2 (by simp)) k1 h
theorem PZ {p:Pg} {T W:List Int} {fuel:Int} {m:Mc} (h:runM p T W fuel=some m):Reads T.length m:=by
 unfold runM at h
 dsimp only at h
 refine KD p _ T W fuel _ _ _ m ?_ ?_ h
 ·unfold Mc.open;split<;>rfl
 ·unfold Mc.open;split<;>exact⟨Int.le_refl _,by dsimp only[jK];omega,fun e=>absurd (show(0:Int)=3 from e) (by decide)⟩
def Sm.tells (s:Sm):Nat:=if s.kind==4 ||(decide (s.kind≥7) && !s.has)then 0 else 1
def Mz (m m':Mc):Prop:=m'.trace=m.trace∧m'.out=m.out∧m'.reads=m.reads
def MA (T:List Int) (x:Sm) (m m':Mc):Prop:=∃ bK:List Int,m'.trace=m.trace++ [(x.id,bK)]∧m'.out=m.out++(if x.kind==3 then bK else [])∧bK.length=x.tells∧
 (if x.kind==2 then ∃ v,T[m.reads.toNat]? = some v∧bK = [v]∧m'.reads=m.reads+1 else m'.reads=m.reads)
def z7 (T:List Int) (x:Sm) (m m':Mc):Prop:=Mz m m'∨MA T x m m'
theorem aav {s:Sm} (h:s.one=true):1≤s.kind∧s.kind≤10∧(s.kind≠9→s.has=false):=by
 unfold Sm.one at h
 split at h
 ·cases h
 ·rename_i c
  simp only[Bool.or_eq_true,not_or,Bool.not_eq_true,Bool.and_eq_false_iff,decide_eq_false_iff_not,bne_eq_false_iff_eq]at c
  obtain⟨⟨⟨⟨⟨c1,c2⟩,_⟩,_⟩,_⟩,c3⟩:=c
  refine⟨by omega,by omega,fun hk=>?_⟩
  rcases c3 with c3|c3
  ·exact c3
  ·exact absurd c3 hk
theorem sB {T W:List Int} {x:Sm} {m m1:Mc} {bK:List Int} (hW:W.contains x.id=true) (e:m1.trace=m.trace) (eo:m1.out=m.out) (er:m1.reads=m.reads) (hv:bK.length=x.tells) (h3:(x.kind==3)=false) (h2:(x.kind==2)=false):MA T x m (m1.event W x.id bK):=by
 have k:=dT W m1 x.id bK
 refine⟨bK, ?_, ?_,hv, ?_⟩
 ·unfold Mc.event;rw[if_pos hW];dsimp only;rw[e]
 ·rw[h3];simp[k.2.2.2.2.2,eo]
 ·rw[h2];simp[k.2.2.2.2.1,er]
theorem P0 {p:Pg} {T W:List Int} {m:Mc} {v:Sm} (hk:(v.kind==4)=true) (hW:W.contains v.id=true):z7 T v m (m.call p W v).2:=by
 have h1:=zW v.args m []
 have h2:=xa v.args m []
 unfold Mc.call
 generalize Mc.args v.args m [] = r at *
 obtain⟨o,m1⟩:=r
 dsimp only at h1 h2
 have k4:v.kind=4:=by simpa using hk
 cases o with
 |none=>exact .inl ⟨h1.2,h1.1,h2.1⟩
 | some l=>
  dsimp only
  by_cases c:m1.st.length > 100
  ·rw[if_pos c];exact .inl ⟨h1.2,h1.1,h2.1⟩
  ·rw [if_neg c]
   have e2:=w9 p (m1.event W v.id []) (p.at v.proc) l v.id
   obtain⟨bK,g1,g2,g3,g4⟩:=sB (T:=T) (x:=v) (m:=m) (bK:= []) hW h1.2 h1.1 h2.1 (by unfold Sm.tells;rw[hk];rfl) (by rw[k4];rfl) (by rw[k4];rfl)
   exact .inr ⟨bK,e2.1.trans g1,e2.2.1.trans g2,g3,by rw[e2.2.2.1];exact g4⟩
theorem Lz {T W:List Int} {m:Mc} {v:Sm} (hk:(v.kind==9)=true) (hW:W.contains v.id=true):z7 T v m (m.fa W v).2:=by
 have hw:=fB m v.x
 have k9:v.kind=9:=by simpa using hk
 have k4:(v.kind==4)=false:=by rw[k9];rfl
 have k7:decide (v.kind≥7)=true:=by simp[k9]
 unfold Mc.fa
 rcases Bool.eq_false_or_eq_true v.has with c|c
 ·rw [if_pos c]
  dsimp only
  split
  ·exact .inr (sB hW hw.2.2.2.2.2 hw.2.2.2.2.1 hw.2.2.2.1 (by unfold Sm.tells;rw[k4,k7,c];rfl) (by rw[k9];rfl) (by rw[k9];rfl))
  ·exact .inl ⟨hw.2.2.2.2.2,hw.2.2.2.2.1,hw.2.2.2.1⟩
 ·rw [if_neg (by rw [c];exact Bool.false_ne_true)]
  exact .inr (sB hW rfl rfl rfl (by unfold Sm.tells;rw[k4,k7,c];rfl) (by rw[k9];rfl) (by rw[k9];rfl))
theorem Wl {p:Pg} {L:List Im} {T W:List Int} {m:Mc} {it:Im} (h1:it.s.one=true) (k4:(it.s.kind==4)=false) (k9:(it.s.kind==9)=false) (hW:W.contains it.s.id=true):z7 T it.s m (m.do p L T W it).2:=by
 have hw:=fB m it.s.x
 obtain⟨o1,o2,o3⟩:=aav h1
 have hh:=o3 (by simpa using k9)
 have late:(decide (it.s.kind≥7))=true→it.s.tells=0:=fun e=>by unfold Sm.tells;rw[k4,e,hh];rfl
 have aoB:(decide (it.s.kind≥7))=false→it.s.tells=1:=fun e=>by unfold Sm.tells;rw[k4,e];rfl
 unfold Mc.do
 dsimp only
 by_cases c7:(it.s.kind==7)=true
 ·rw [if_pos c7]
  have e:it.s.kind=7:=by simpa using c7
  exact .inr (sB hW rfl rfl rfl (late (by simp[e])).symm (by rw[e];rfl) (by rw[e];rfl))
 rw[if_neg c7]
 by_cases c8:(it.s.kind==8)=true
 ·rw [if_pos c8]
  have e:it.s.kind=8:=by simpa using c8
  exact .inr (sB hW rfl rfl rfl (late (by simp[e])).symm (by rw[e];rfl) (by rw[e];rfl))
 rw[if_neg c8]
 by_cases Hs:(it.s.kind==10)=true
 ·rw [if_pos Hs]
  have e:it.s.kind=10:=by simpa using Hs
  exact .inr (sB hW rfl rfl rfl (late (by simp[e])).symm (by rw[e];rfl) (by rw[e];rfl))
 rw[if_neg Hs]
 have s7:decide (it.s.kind≥7)=false:=by
  simp only[beq_iff_eq]at c7 c8 Hs
  simp only[beq_eq_false_iff_ne,ne_eq]at k9
  simp only[decide_eq_false_iff_not]
  omega
 have one:=aoB s7
 by_cases c2:(it.s.kind==2)=true
 ·rw [if_pos c2]
  have e:it.s.kind=2:=by simpa using c2
  cases ht:T[m.reads.toNat]? with
  |none=>exact .inl ⟨rfl,rfl,rfl⟩
  |some n=>
   dsimp only
   have k:=dT W (({m with reads:=m.reads+1} : Mc).set it.s.name n) it.s.id [n]
   refine .inr ⟨[n], ?_, ?_,by rw[one];rfl, ?_⟩
   ·unfold Mc.event;rw[if_pos hW];rfl
   ·rw[k.2.2.2.2.2,e];simp[Mc.set]
   ·rw[if_pos c2];exact⟨n,ht,rfl,k.2.2.2.2.1⟩
 rw[if_neg c2]
 have c2':(it.s.kind==2)=false:=by simpa using c2
 by_cases cw:(m.bA it.s.x).1.2=true
 ·rw [if_pos cw]
  have k:=dT W (m.bA it.s.x).2 it.s.id [(m.bA it.s.x).1.1]
  have et:((m.bA it.s.x).2.event W it.s.id [(m.bA it.s.x).1.1]).trace=m.trace++ [(it.s.id,[(m.bA it.s.x).1.1])]:=by
   unfold Mc.event;rw[if_pos hW];dsimp only;rw[hw.2.2.2.2.2]
  by_cases c3:(it.s.kind==3)=true
  ·have e:it.s.kind=3:=by simpa using c3
   have n1 : ¬((it.s.kind==1)=true):=by rw[e];decide
   rw[if_neg n1,if_pos c3]
   refine .inr ⟨[(m.bA it.s.x).1.1],et, ?_,by rw[one];rfl, ?_⟩
   ·rw[if_pos c3];dsimp only;rw[k.2.2.2.2.2,hw.2.2.2.2.1]
   ·rw[if_neg c2];dsimp only;rw[k.2.2.2.2.1,hw.2.2.2.1]
  ·have key:MA T it.s m ((m.bA it.s.x).2.event W it.s.id [(m.bA it.s.x).1.1]):=
    sB hW hw.2.2.2.2.2 hw.2.2.2.2.1 hw.2.2.2.1 (by rw[one];rfl) (by simpa using c3) c2'
   rw[if_neg c3]
   split
   ·exact .inr key
   split
   ·exact .inr key
   split
   ·exact .inr key
   ·exact .inr key
 ·rw [if_neg cw]
  exact .inl ⟨hw.2.2.2.2.2,hw.2.2.2.2.1,hw.2.2.2.1⟩
theorem KE (L:List Im) (m:Mc) (g:Int):Mz m (m.back L g).2:=by
 have h:=zY L m g
 exact⟨h.1,h.2.1,h.2.2.1⟩
theorem z7.Yn {T:List Int} {x:Sm} {m m1 m2:Mc} (h:z7 T x m m1) (k:Mz m1 m2):z7 T x m m2:=by
 rcases h with h|⟨v,h1,h2,h3,h4⟩
 ·exact .inl ⟨k.1.trans h.1,k.2.1.trans h.2.1,k.2.2.trans h.2.2⟩
 ·exact .inr ⟨v,k.1.trans h1,k.2.1.trans h2,h3,by rw[k.2.2];exact h4⟩
theorem P3 {p:Pg} {L:List Im} {T W:List Int} (hW : ∀ x∈L,W.contains x.s.id=true∧x.s.one=true) {fuel a:Int} {m:Mc} (ha:nZ L a) :
 Mz m (m.next p L T W fuel a).2∨∃ x∈L,MA T x.s m (m.next p L T W fuel a).2:=by
 unfold Mc.next
 by_cases c1:(a == -1)=true
 ·rw[if_pos c1];exact .inl (KE L m 0)
 rw[if_neg c1]
 by_cases c2:(m.steps==fuel)=true
 ·rw[if_pos c2];exact .inl ⟨rfl,rfl,rfl⟩
 rw[if_neg c2]
 have hm:=pj ha (by simpa using c1)
 obtain⟨w1,w2⟩:=hW _ hm
 dsimp only
 have fin : ∀ {m':Mc},z7 T (fj L a).s {m with steps:=m.steps+1} m'→Mz m m'∨∃ x∈L,MA T x.s m m':=fun {m'} h=>by
  rcases h with h|h
  ·exact .inl h
  ·exact .inr ⟨_,hm,h⟩
 by_cases c4:((fj L a).s.kind==4)=true
 ·rw[if_pos c4];exact fin (P0 c4 w1)
 rw[if_neg c4]
 by_cases c9:((fj L a).s.kind==9)=true
 ·rw [if_pos c9]
  have:=Lz (T:=T) (m:= {m with steps:=m.steps+1}) c9 w1
  split
  ·exact fin (this.Yn (KE ..))
  ·exact fin this
 rw[if_neg c9]
 exact fin (Wl w2 (by simpa using c4) (by simpa using c9) w1)
def om (f:Int→Sm) (k:Int):List (Int×List Int)→List Int
 | []=> []
 |e::l=>(if(f e.1).kind==k then e.2 else [])++om f k l
theorem z8 (f:Int→Sm) (k:Int) : ∀ a b,om f k (a++b)=om f k a++om f k b
 | [],b=>rfl
 |e::a,b=>by simp only[List.cons_append,om,z8 f k a b,List.append_assoc]
structure uu (L:List Im) (f:Int→Sm) (T:List Int) (m:Mc):Prop where
 ev : ∀ e∈m.trace,∃ x∈L,x.s.id=e.1∧e.2.length=x.s.tells
 out:om f 3 m.trace=m.out
 ins:om f 2 m.trace=T.take m.reads.toNat
 reads:0≤m.reads∧m.reads≤(T.length:Int)
theorem uu.Yn {L:List Im} {f:Int→Sm} {T:List Int} {m m':Mc} (h:uu L f T m) (k:Mz m m'):uu L f T m':=by
 obtain⟨k1,k2,k3⟩:=k
 exact⟨by rw[k1];exact h.ev,by rw[k1,k2];exact h.out,by rw[k1,k3];exact h.ins,by rw[k3];exact h.reads⟩
theorem uu.tel {L:List Im} {f:Int→Sm} {T:List Int} {m m':Mc} {x:Im} (hx:x∈L) (hf:f x.s.id=x.s) (h:uu L f T m) (k:MA T x.s m m'):uu L f T m':=by
 obtain⟨v,k1,k2,k3,k4⟩:=k
 refine⟨fun e me=>?_, ?_, ?_, ?_⟩
 ·rw [k1]at me
  rcases List.mem_append.1 me with me|me
  ·exact h.ev e me
  ·rw[List.mem_singleton.1 me];exact⟨x,hx,rfl,k3⟩
 ·rw[k1,k2,z8,h.out];simp[om,hf]
 ·rw [k1,z8,h.ins]
  by_cases c:(x.s.kind==2)=true
  ·rw [if_pos c]at k4
   obtain⟨w,j1,j2,j3⟩:=k4
   have hr:=h.reads.1
   have e:m'.reads.toNat=m.reads.toNat+1:=by rw[j3];omega
   rw[e,List.take_add_one,j1,j2]
   simp[om,hf,c]
  ·rw [if_neg c]at k4
   rw[k4]
   have c':(x.s.kind==2)=false:=by simpa using c
   simp[om,hf,c']
 ·by_cases c:(x.s.kind==2)=true
  ·rw [if_pos c]at k4
   obtain⟨w,j1,j2,j3⟩:=k4
   have hr:=h.reads
   have:=(List.getElem?_eq_some_iff.1 j1).1
   omega
  ·rw [if_neg c]at k4
   rw[k4];exact h.reads
theorem MB {p:Pg} {L:List Im} (hL:Au p L) {f:Int→Sm} (hf : ∀ x∈L,f x.s.id=x.s) {T W:List Int} (hW : ∀ x∈L,W.contains x.s.id=true∧x.s.one=true) {fuel:Int} : ∀ (N:Nat) (a:Int) (m m':Mc),nZ L a→oH L m→m.fin=0→(m.trace.length:Int)=m.steps→uu L f T m→
 Mc.go p L T W fuel N a m=some m'→uu L f T m'
 | 0,_,_,_,_,_,_,_,_,h=>by simp[Mc.go]at h
 | N+1,a,m,m',ha,hs,hfi,ht,hl,h=>by
  have hn:=Ho (fuel:=fuel) (tape:=T) hL (fun x mx=>(hW x mx).1) ha hs hfi ht
  have he:=P3 (p:=p) (T:=T) (W:=W) (fuel:=fuel) (m:=m) hW ha
  have l8:uu L f T (m.next p L T W fuel a).2:=by
   rcases he with he|⟨x,mx,he⟩
   ·exact hl.Yn he
   ·exact hl.tel mx (hf x mx) he
  simp only[Mc.go]at h
  cases e:m.next p L T W fuel a with
  | mk o m1=>
   rw[e]at h hn l8
   cases o with
   |none=>simp only[Option.some.injEq]at h;subst h;exact l8
   |some a1=>
    obtain⟨h1,h2,h3,h4⟩:=hn
    exact MB hL hf hW N a1 m1 m' h1 h2 h3 h4 l8 h
theorem Tb {p:Pg} (hL:Au p p.aY.L) {f:Int→Sm} (hf : ∀ x∈p.aY.L,f x.s.id=x.s) {T W:List Int} (hW : ∀ x∈p.aY.L,W.contains x.s.id=true∧x.s.one=true) {fuel:Int} {m:Mc} (h:runM p T W fuel=some m):uu p.aY.L f T m:=by
 obtain⟨h1,h2,h3,h4⟩:=J8 hL
 have ho:=w9 p (jK p) (p.at iI) [] 0
 refine MB hL hf hW _ _ _ _ h1 h2 h3 h4 ?_ h
 have h0:uu p.aY.L f T (jK p):=⟨fun e me=>by simp[jK]at me,rfl,rfl,by simp[jK]⟩
 exact h0.Yn ⟨ho.1,ho.2.1,ho.2.2.1⟩
def awH (fuel:Int) (m:Mc):Prop:=m.fin=2→m.steps=fuel
def ah5 (W:List Int) (l:List (Int×List Int)):List (Int×List Int):=l.filter fun e=>W.contains e.1
def awI (W:List Int) (m:Mc):Mc:= {m with trace:=ah5 W m.trace}
theorem KF : ∀ l:List It,oI 0 l=l.map fun i=>i.s.id
 | []=>rfl
 |i::l=>by simp only[oI,List.map_cons,KF l];rfl
theorem KH {p:Pg} (hb:p.may=true) : ∀ x∈p.aY.L,(oI 0 p.all).contains x.s.id=true∧x.s.one=true:=fun x mx=>by
 have h1:x.s∈p.pre:=by rw[← (lh p).1];exact List.mem_map_of_mem mx
 refine⟨?_,Mk hb _ h1⟩
 rw[KF,List.contains_iff_mem]
 have e:p.all.map (fun i=>i.s.id)=(p.all.map It.s).map fun s=>s.id:=by rw[List.map_map];rfl
 rw[e,(zB hb).2]
 exact List.mem_map_of_mem h1
theorem Tc {p:Pg} (hb:p.may=true) {v:Sm} (hv:v∈p.pre):p.Co v.id=v:=by
 obtain⟨h1,h2⟩:=VS hb ⟨v,hv,rfl⟩
 obtain⟨i,hi⟩:=List.getElem?_of_mem hv
 obtain⟨j,hj⟩:=List.getElem?_of_mem h1
 have e1:=BF hb hi
 have e2:=BF hb hj
 have:i=j:=by omega
 subst this
 rw[hi]at hj
 exact(Option.some.inj hj).symm
theorem P4 {p:Pg} {T W:List Int} {fuel:Int} {m:Mc} (h0:0≤fuel) (h:runM p T W fuel=some m):m.steps≤fuel:=by
 have h1:=yI p (jK p) (p.at iI) [] 0
 have e2:(jK p).steps=0:=rfl
 exact J9 p _ T W _ _ _ m (by rw[h1.2,e2];exact h0) h
theorem Fm {f:Int→Sm} {k:Int} : ∀ {l:List (Int×List Int)},(∀ e∈l,e.2.length≤1)→(om f k l).length≤l.length
 | [],_=>Nat.le_refl _
 |e::l,h=>by
  have h1:=Fm (f:=f) (k:=k) fun e m=>h e (List.mem_cons_of_mem _ m)
  have h2:=h e (List.mem_cons_self ..)
  simp only[om,List.length_append,List.length_cons]
  split<;>simp<;>omega
theorem Wm (s:Sm):s.tells≤1:=by unfold Sm.tells;split<;>omega
structure Run (p:Pg) (T:List Int) (fuel:Int) (m:Mc):Prop where
 run:runM p T (oI 0 p.all) fuel=some m
 of:ofM p T (oI 0 p.all) fuel=(m,0)
 whole:p.whole T fuel=m
 awJ:uu p.aY.L p.Co T m
 told:VQ m
 steps:m.steps≤fuel
 len:m.Len
 small:m.trace.length≤fuel.toNat∧m.out.length≤fuel.toNat∧∀ e∈m.trace,e.2.length≤1
theorem aeD {p:Pg} (hc:(p.check.1==0)=true) {T:List Int} {fuel:Int} (h0:0≤fuel) (h1:fuel≤1000000) : ∃ m,Run p T fuel m:=by
 have hR:=DR hc
 have hb:=hR.may
 obtain⟨m,hm⟩:=Hh p T (oI 0 p.all) h0
 have wV:ofM p T (oI 0 p.all) fuel=(m,0):=by
  unfold ofM
  rw[if_neg,hm];rfl
  simp[hc];omega
 have hl:=SJ hR
 have hlg:=Tb (f:=p.Co) hl (fun x mx=>Tc hb (by rw[← (lh p).1];exact List.mem_map_of_mem mx)) (KH hb) hm
 have ht:=SA hl (fun x mx=>(KH hb x mx).1) hm
 have hs:=P4 h0 hm
 have hv : ∀ e∈m.trace,e.2.length≤1:=fun e me=>by
  obtain⟨x,_,_,h⟩:=hlg.ev e me
  rw[h];exact Wm _
 have ux:m.trace.length≤fuel.toNat:=by rcases ht with ⟨_,h⟩|⟨_,h⟩<;>omega
 have jk:m.out.length≤fuel.toNat:=by rw[← hlg.out];exact Nat.le_trans (Fm hv) ux
 exact⟨m,hm,wV,by unfold Pg.whole;rw[wV],hlg,ht,hs,⟨by omega,by omega,fun e me=>by have:=hv e me;omega⟩,ux,jk,hv⟩
theorem P5 (m:Mc):Fk m m=true:=by
 unfold Fk Cw
 simp
structure awK (fuel:Int) (r s:Mc):Prop where
 steps:r.steps=fuel
 trace:(r.trace.length:Int)=fuel
 more:r.steps≤s.steps
 reads:r.reads≤s.reads
 out:(decide ((r.out.length:Int)≤(s.out.length:Int)) && r.out==s.out.take r.out.length)=true
 told:fuel≤(s.trace.length:Int)∧s.trace.take fuel.toNat=r.trace
set_option maxRecDepth 8000
open Go.Proofs
theorem Wn {p:Pg} {T:List Int} {fuel:Int} (h:(p.check.1==0 && (decide (0≤fuel) && (decide (fuel≤400) && decide ((T.length:Int)≤100))))=true):(p.check.1==0)=true∧0≤fuel∧fuel≤400∧T.length≤100:=by
 simp only[Bool.and_eq_true,decide_eq_true_eq]at h
 exact⟨h.1,h.2.1,h.2.2.1,by omega⟩
theorem Run.tape {p:Pg} {T:List Int} {fuel:Int} {m:Mc} (hc:(p.check.1==0)=true) (h0:0≤fuel) (h1:fuel≤1000000) (h:Run p T fuel m) (hf:m.fin≠3) {T':List Int} (ht : ∀ i:Nat,(i:Int)<m.reads→T[i]? = T'[i]?):p.whole T' fuel=m:=by
 have:=Ta h.run hf ht
 unfold Pg.whole ofM
 rw[if_neg,this];rfl
 simp[hc];omega
theorem Aa {p:Pg} (hO:p.iJ) (sa:p.all.length≤1000) {T:List Int} (hT:T.length<1000000) {fuel:Int} {m:Mc} (h:p.whole T fuel=m) (g:Tag) (s:St):aF Tryz.prog lX [.agg (cD p), .slice g 1 (T.map bT), .int .i64 fuel] s (.agg (eZ m)) s:=by
 rw[← h]
 exact bM.qu (.cons (Wk.refl _) (.cons (Wk.shared g 1 _) (.cons (Wk.refl _) .nil))) (PV hO sa hT fuel s)
theorem Wo {gl ps:List (List D)} {bytes:Nat} (hb:(gl.length+ps.length)*(bytes+1)≤bC) (ts:List (Option Nat)) : ∃ (g1 g2:Tag) (t1 t2:List (Option Nat)),(∀ os,gY 1 bytes (.slice .full 1 []) (.slice .shared 1 gl) ⟨os,ts⟩=some (.slice g1 1 gl,⟨os,t1⟩))∧
 (∀ os,gY 1 bytes (.slice g1 1 gl) (.slice .shared 1 ps) ⟨os,t1⟩=some (.slice g2 1 (gl++ps),⟨os,t2⟩)):=by
 have h1:gl.length*(bytes+1)≤bC:=Nat.le_trans (Nat.mul_le_mul_right _ (Nat.le_add_right _ _)) hb
 have h2:ps.length*(bytes+1)≤bC:=Nat.le_trans (Nat.mul_le_mul_right _ (Nat.le_add_left _ _)) hb
 cases gl with
 |nil=>
  cases ps with
  |nil=>exact⟨.full, .full,ts,ts,fun os=>qE os ts,fun os=>qE os ts⟩
  |cons a ps=>exact⟨.full, .tok ts.length,ts,_,fun os=>qE os ts,fun os=>sA (by simp) h2 os ts⟩
 |cons a gl=>
  refine⟨.tok ts.length, .tok ts.length,ts++ [some (a::gl).length],ts++ [some (a::gl++ps).length],fun os=>sA (by simp) h1 os ts,fun os=>?_⟩
  rw[mH (size:=1) hb (by simp)]
  simp;omega
theorem LA (p:Pg) (T V:List Int) (fuel:Int) (s:St):aF Tryz.prog wF [.agg (cD p), .slice .shared 1 (T.map bT), .slice .shared 1 (V.map bT), .int .i64 fuel] s (.bool true) s:=by
 refine aF.pure ?_ (by simp[D.bL,D.ok,Tag.ok,jv,iN]) rfl s
 have h1:=fun s=>ah3 s
 have h2:=fun s=>adZ p s
 unfold S0
 rcases Bool.eq_false_or_eq_true (decide (p.Cp≤20000))with hw|hw
 case inr=>
  simp only[hw]at h2
  refine aF.go kM rfl fun B Q hB hQ=>?_
  have⟨hD,hY,hZ,gA⟩:=bR
  repeat' (first
 |simp only[go_sem,hD,hY,hZ,gA]
 |(with_reducible refine CU (h1 _) ?_)
 |(with_reducible refine CU (h2 _) ?_)
 |(with_reducible first|refine bo fun hc=>?_|refine bp fun hc=>?_|refine bq (fun hc=>?_) fun hc=>?_)<;>(try simp only[hc,bs,↓reduceIte]at h)<;>try simp only[hc]
 |(with_reducible refine aE hQ ?_;exact fV)
 |(cases h;replace h:=hr;clear hr;(try simp only[bs,↓reduceIte]at h))
 |(cases h;done))
 simp only[hw]at h2
 obtain⟨dO,ah6⟩:=PA (of_decide_eq_true hw)
 have ho:p.iJ:=⟨ah6,by omega⟩
 have h3:=fun s=>aas ho T fuel s
 rcases Bool.eq_false_or_eq_true (p.check.1==0 && (decide (0≤fuel) && (decide (fuel≤400) && decide ((T.length:Int)≤100))))with b1|b1
 case inr=>
  rw[b1]at h3
  refine aF.go kM rfl fun B Q hB hQ=>?_
  have⟨hD,hY,hZ,gA⟩:=bR
  repeat' (first
 |simp only[go_sem,hD,hY,hZ,gA]
 |(with_reducible refine CU (h1 _) ?_)
 |(with_reducible refine CU (h2 _) ?_)
 |(with_reducible refine CU (h3 _) ?_)
 |(with_reducible first|refine bo fun hc=>?_|refine bp fun hc=>?_|refine bq (fun hc=>?_) fun hc=>?_)<;>(try simp only[hc,bs,↓reduceIte]at h)<;>try simp only[hc]
 |(with_reducible refine aE hQ ?_;exact fV)
 |(cases h;replace h:=hr;clear hr;(try simp only[bs,↓reduceIte]at h))
 |(cases h;done))
 rw[b1]at h3
 obtain⟨hc,f0,f1,hT1⟩:=Wn b1
 rcases Bool.eq_false_or_eq_true (decide ((V.length:Int) > 50))with b2|b2
 ·refine aF.go kM rfl fun B Q hB hQ=> ?_
  have⟨hD,hY,hZ,gA⟩:=bR
  repeat' (first
 |simp only[go_sem,hD,hY,hZ,gA,b2]
 |(with_reducible refine CU (h1 _) ?_)
 |(with_reducible refine CU (h2 _) ?_)
 |(with_reducible refine CU (h3 _) ?_)
 |(with_reducible first|refine bo fun hc=>?_|refine bp fun hc=>?_|refine bq (fun hc=>?_) fun hc=>?_)<;>(try simp only[hc,bs,↓reduceIte]at h)<;>try simp only[hc]
 |(with_reducible refine aE hQ ?_;(try cases h);simp only[aV,aX,bH,bI,go_sem,hD,hY,hZ,gA,b2];try exact cq)
 |(cases h;replace h:=hr;clear hr;(try simp only[bs,↓reduceIte]at h))
 |(cases h;done))
 have hV1:V.length≤50:=by simp only[decide_eq_false_iff_not]at b2;omega
 obtain⟨r,hr⟩:=aeD (T:=T) hc f0 (by omega)
 have hR:=DR hc
 have sa:p.all.length≤1000:=by have:=(Ck hR.may).1;omega
 have h4:=fun g s=>Aa ho sa (by omega) hr.whole g s
 have ib:=PZ hr.run
 have c1:decide (r.reads<0)=false:=by have:=ib.1;simp;omega
 have c2:decide (r.reads > (T.length:Int))=false:=by have:=ib.2.1;simp;omega
 by_cases hf:r.fin=3
 ·have c3:(r.fin==3)=true:=by simp [hf]
  have c4:(r.reads==(T.length:Int))=true:=by simpa using ib.2.2 hf
  refine aF.go kM rfl fun B Q hB hQ=>?_
  have⟨hD,hY,hZ,gA⟩:=bR
  repeat' (first
 |simp only[go_sem,hD,hY,hZ,gA,b2,c1,c2,c3,c4]
 |(with_reducible refine CU (h1 _) ?_)
 |(with_reducible refine CU (h2 _) ?_)
 |(with_reducible refine CU (h3 _) ?_)
 |(with_reducible refine CU (h4 _ _) ?_)
 |(with_reducible first|refine bo fun hc=>?_|refine bp fun hc=>?_|refine bq (fun hc=>?_) fun hc=>?_)<;>(try simp only[hc,bs,↓reduceIte]at h)<;>try simp only[hc]
 |(with_reducible refine aE hQ ?_;(try cases h);simp only[aV,aX,bH,bI,go_sem,hD,hY,hZ,gA,b2,c1,c2,c3,c4];try exact cq)
 |(cases h;replace h:=hr;clear hr;(try simp only[bs,↓reduceIte]at h))
 |(cases h;done))
 have c3:(r.fin==3)=false:=by simpa using hf
 have w5:=hr.tape hc f0 (by omega) hf (T':=T++V) fun i hi=>by
  have:=ib.2.1
  rw[List.getElem?_append_left (by omega)]
 have w6:=hr.tape hc f0 (by omega) hf (T':=T.take r.reads.toNat) fun i hi=>by
  have:=ib.1
  rw[List.getElem?_take_of_lt (by omega)]
 have h5:=fun g s=>Aa ho sa (by simp;omega) w5 g s
 have h6:=fun g s=>Aa ho sa (by simp;omega) w6 g s
 rw[List.map_append]at h5
 rw[List.map_take]at h6
 have h7:=fun s=>aao (a:=r) (b:=r) hr.len s
 rw[P5]at h7
 have hn:((0:Int)≤r.reads)=True:=by simpa using ib.1
 have vL:(r.reads≤(T.length:Int))=True:=by simpa using ib.2.1
 obtain⟨g1,g2,t1,t2,a1,a2⟩:=Wo (gl:=T.map bT) (ps:=V.map bT) (bytes:=8) (by simp only[List.length_map];unfold bC;omega) []
 refine aF.go kM rfl fun B Q hB hQ=>?_
 have⟨hD,hY,hZ,gA⟩:=bR
 repeat' (first
 |simp only[go_sem,hD,hY,hZ,gA,a1,a2,b2,c1,c2,c3,hn,vL,Tag.cut,ite_self,or_true,decide_true,and_self,if_true]
 |(with_reducible refine CU (h1 _) ?_)
 |(with_reducible refine CU (h2 _) ?_)
 |(with_reducible refine CU (h3 _) ?_)
 |(with_reducible refine CU (h4 _ _) ?_)
 |(with_reducible refine CU (h5 _ _) ?_)
 |(with_reducible refine CU (h6 _ _) ?_)
 |(with_reducible refine CU (h7 _) ?_)
 |(with_reducible first|refine bo fun hc=>?_|refine bp fun hc=>?_|refine bq (fun hc=>?_) fun hc=>?_)<;>(try simp only[hc,bs,↓reduceIte]at h)<;>try simp only[hc]
 |(with_reducible refine aE hQ ?_;(try cases h);simp only[aV,aX,bH,bI,go_sem,hD,hY,hZ,gA,a1,a2,b2,c1,c2,c3,hn,vL,Tag.cut,ite_self,or_true,decide_true,and_self,if_true];try exact cq)
 |(cases h;replace h:=hr;clear hr;(try simp only[bs,↓reduceIte]at h))
 |(cases h;done))
def M0:Map:=⟨fun _ _=>none,fun _=>(0, .any),fun _=>none⟩
def Kept (w w':World):Prop:=w.keptBut w' (fun _=>False)∧∀ a:Addr,a.block<w.heap.size→w'.frozen? a=w.frozen? a
theorem Kept.frame {w w':World} (h:Kept w w') (may:MemPlace→Prop):w.keptBut w' may:=World.keptBut_mono (fun _ f=>f.elim) h.1
theorem Ext.aeF {M M':Map} {s':St} {w w':World} (e:Ext M S0 w M' s' w'):Kept w w':=by
 have hh : ∀ b,b<w.heap.size→w'.heap[b]? = w.heap[b]? :=fun b hb=>
  e.kept b hb (fun o ho=>by simp[S0]at ho) (fun t c z hl=>by obtain⟨n,hn⟩:=hl;simp[S0]at hn)
 refine⟨⟨e.os,e.output,fun i hi=>?_⟩,fun a ha=>?_⟩
 ·rw [hh i hi]
  exact(World.keptBut_refl w (fun _=>False)).2.2 i hi
 ·simp only[World.frozen?,hh _ ha]
theorem aoC (G:Nat→Nat→Option Value) (w:World) (h : ∀ b o v,G b o=some v→w.cell? ⟨b,o,none⟩=some v∧v.oneCell'=true):Rel ⟨G,fun _=>(0, .any),fun _=>none⟩ S0 w:=
 ⟨h,fun o ds e=>by simp [S0]at e,fun o ho=>by simp [S0]at ho,fun o o' ho=>by simp [S0]at ho,fun t n e=>by simp [S0]at e,
  fun t b c z o hl=>by obtain⟨n,hn⟩:=hl;simp[S0]at hn,fun t t' b c z c' z' hl=>by obtain⟨n,hn⟩:=hl;simp[S0]at hn⟩
def P6 (w:World):Prop:=∀ g cs,aaN g=some cs→∃ T fr,w.heap[g]? = some (.cells cs T fr)
theorem ah7 (G:Nat→Nat→Option Value) {w:World} (h:P6 w):Laid ⟨G,fun _=>(0, .any),fun _=>none⟩ S0 w:=
 fun g cs hg=>⟨h g cs hg,fun o ho=>by simp[S0]at ho,fun t c z hl=>by obtain⟨n,hn⟩:=hl;simp[S0]at hn⟩
theorem Td {P:Program} {f:FuncId} {args:List D} {fJ:Array Value} {w:World} {G:Nat→Nat→Option Value} (h:bM P f args S0 fun d _=>d = .bool true)
 (hG : ∀ b o v,G b o=some v→w.cell? ⟨b,o,none⟩=some v∧v.oneCell'=true) (hl:fJ.size=args.length)
 (ha : ∀ (i:Nat) (d:D) (v:Value),args[i]? = some d→fJ[i]? = some v→RD ⟨G,fun _=>(0, .any),fun _=>none⟩ S0 d v) (kx:P6 w) :
 Calls P f fJ w fun e w'=>e = .returned (.bool true)∧Kept w w':=by
 refine(h _ w fJ (aoC G w hG) (ah7 G kx) hl ha).mono fun e w' hw=>?_
 obtain⟨M',d,v,s',rfl,rfl,he,_,hv⟩:=hw
 rw[hv.nQ]
 exact⟨rfl,he.aeF⟩
section
variable {P:Program} {H:Type} {enc:TypeId×Value→H}
theorem KI {f:Func} {s:ChangeSpec} {apart fresh handsOn again:Bool} {W W':World} {args:Array Value} {v:Value} {ds gs:List (DataW H)} {before pa pv:List MemPlace}
 (hW:DataW.Whole enc P f.params.toList s.vars apart W args.toList ds gs before)
 (aeG : ∀ (b:Nat) (sp:Nat→Bool) (hd:Bool),DataW.TrodAll enc P W' b sp hd f.resultTypes.toList (v.resultList f.resultTypes.size) (s.fn H (ds++gs)).results [])
 (ze : ∀ sp:Nat→Bool,(∀ p∈before,sp p.block=true)→DataW.TrodAll enc P W' 0 sp true f.params.toList args.toList (s.fn H (ds++gs)).args pa)
 (zU : ∀ sp:Nat→Bool,(∀ p∈before,sp p.block=true)→DataW.TrodVars enc P W' sp s.vars (s.fn H (ds++gs)).vars pv)
 (rJ:before=pa++pv) (hk:Kept W W')
 (pK : ∀ (j:Nat) (t:TypeId) (r:Value),f.resultTypes[j]? = some t→(v.resultList f.resultTypes.size)[j]? = some r→Value.okWide P W' .any 0 t r) :
 s.post enc P f apart fresh handsOn again W args v W':=by
 have hD : ∀ p∈before,p.block<W.heap.size:=fun p hp=>hW.lt p hp
 have hold : ∀ p∈before,(fun b=>decide (b<W.heap.size)) p.block=true:=fun p hp=>by simpa using hD p hp
 refine⟨ds,gs,before,[],pa,pv,hW,aeG _ _ _,ze _ hold,zU _ hold,World.keptBut_mono (fun p hp=>⟨hp, ?_⟩) (hk.frame (· ∈before)),fun _=>?_⟩
 ·rw [rJ,List.mem_append]at hp
  exact Or.inr hp
 ·obtain⟨_,_,_,_,_,hz,hn⟩:=hW
  refine⟨pK,_,_,([]++pa)++pv,⟨[]++pa,pv,ChangeShapes.trodAll_append (ze _ (fun _ _=>rfl)) (aeG _ _ _),zU _ (fun _ _=>rfl),rfl, ?_, ?_⟩, ?_⟩
  ·intro b off hp
   have mU:MemPlace.cell b off∈before:=by rw[rJ];simpa using hp
   rw[hk.2 _ (hD _ mU)]
   exact hz b off mU
  ·intro ha
   have:=hn ha
   rw[rJ]at this
   simpa using this
  ·intro p hp _
   rw[rJ]
   simpa using hp
end
end Go.Abs
namespace Go.Abs
open Go.RowKit Go.ChangeShapes Go.WideShapes
def B0 (w:World) (b o:Nat):Option Value:=
 match w.cell? ⟨b,o,none⟩with
 |some v=>if v.oneCell'=true then some v else none
 |none=>none
theorem MC {w:World} (b o:Nat) (v:Value) (h:B0 w b o=some v):w.cell? ⟨b,o,none⟩=some v∧v.oneCell'=true:=by
 unfold B0 at h
 split at h
 ·split at h
  ·cases h;exact⟨‹_›, ‹_›⟩
  ·cases h
 ·cases h
def qF (w:World):Map:=⟨B0 w,fun _=>(0, .any),fun _=>none⟩
theorem Kept.sameAt {w w':World} (h:Kept w w') {p:MemPlace} (hp:p.block<w.heap.size):w.sameAt w' p:=by
 have hk:=h.1.2.2 p.block hp
 cases p with
 | cell b off=>
  simp only[MemPlace.block]at hk hp
  simp only[World.sameAt,World.cell?]
  split at hk
  ·rename_i c t fr c' t' Ms e e'
   rw[e,e']
   simp only[hk.2.2.2 off (fun f=>f)]
  ·rename_i es clock A9 aeH e e'
   rw[e,e']
  ·rw[hk]
 | map b=>
  simp only[MemPlace.block]at hk hp
  simp only[World.sameAt]
  split at hk
  ·rename_i c t fr c' t' Ms e e'
   rw[e,e']
   obtain⟨rfl,rfl,hs,hc⟩:=hk
   have:c'=c:=by
    apply Array.ext_getElem?
    intro i
    exact hc i (fun f=>f)
   rw[this]
  ·rename_i es clock A9 aeH e e'
   rcases hk with f|⟨rfl,rfl⟩
   ·exact f.elim
   ·rw[e,e']
  ·exact hk
section
variable {P:Program} {H:Type} {enc:TypeId×Value→H} {T:TypeId→Prop}
theorem Fo (K:Kids P T) (hz : ∀ {t e:TypeId},T t→P.underlying t=some (.slice e)→0<P.cellsOf e) {W W':World} (hk:Kept W W') {sp:Nat→Bool} :
 ∀ {ts:List TypeId} {vs:List Value} {ds:List (DataW H)} {ps:List MemPlace},(∀ t∈ts,T t)→(∀ p∈ps,p.block<W.heap.size)→(∀ p∈ps,sp p.block=true)→
  DataW.TrodAll enc P W 0 (fun _=>true) true ts vs ds ps→DataW.TrodAll enc P W' 0 sp true ts vs ds ps
 | [],[],[],_,_,_,_,h=>h
 |t::ts,v::vs,d::ds,ps,hT,hD,hs,⟨p,q,⟨n,h1⟩,h2,e⟩=>by
  subst e
  refine⟨p,q,⟨n,DataW.trod_stays K hz (fun f=>by cases f) (hT t (List.mem_cons_self ..)) h1 (fun x hx=>hk.sameAt (hD x (List.mem_append_left _ hx))) (fun x hx=>hs x (List.mem_append_left _ hx))⟩, ?_,rfl⟩
  exact Fo K hz hk (fun t ht=>hT t (List.mem_cons_of_mem _ ht)) (fun x hx=>hD x (List.mem_append_right _ hx)) (fun x hx=>hs x (List.mem_append_right _ hx)) h2
 | [],[],_::_,_,_,_,_,h=>h.elim
 | [],_::_,_,_,_,_,_,h=>h.elim
 |_::_,[],_,_,_,_,_,h=>h.elim
 |_::_,_::_,[],_,_,_,_,h=>h.elim
theorem Wp (K:Kids P T) (hz : ∀ {t e:TypeId},T t→P.underlying t=some (.slice e)→0<P.cellsOf e) {f:Func} {s:ChangeSpec} {apart fresh handsOn again:Bool} {tb:TypeId} {W W':World} {args:Array Value} {ds gs:List (DataW H)} {before:List MemPlace}
 (hT : ∀ t∈f.params.toList,T t) (hb:P.underlying tb=some .bool) (hr:f.resultTypes = #[tb]) (zU:s.vars = []) (hW:DataW.Whole enc P f.params.toList s.vars apart W args.toList ds gs before)
 (As:s.fn H (ds++gs) = {results:= [.lit (.bool true)],args:=ds}) (hk:Kept W W'):s.post enc P f apart fresh handsOn again W args (.bool true) W':=by
 have hW':=hW
 have hD : ∀ p∈before,p.block<W.heap.size:=fun p hp=>hW.lt p hp
 obtain⟨p,q,hA,hV,rfl,hfz,SR⟩:=hW
 rw[zU]at hV
 obtain⟨rfl,rfl⟩:=trodVars_none hV
 simp only[List.append_nil]at hD As
 refine KI (pa:=p) (pv:= []) hW' (fun b sp hd=>?_) (fun sp C0=>?_) (fun sp C0=>?_) rfl hk (ok_one hr rfl (okWide_bool_mk hb _))
 ·rw [List.append_nil,As,hr]
  exact trodAll_cons_mk (shut_bool hb _) trodAll_mk0
 ·rw [List.append_nil,As]
  simp only[List.append_nil]at C0
  exact Fo K hz hk hT hD C0 hA
 ·rw [List.append_nil,As,zU]
  rfl
theorem aax {f:FuncId} {args:List D} {fJ:Array Value} {w:World} (h:bM P f args S0 fun d _=>d = .bool true) (hl:fJ.size=args.length)
 (ha : ∀ (i:Nat) (d:D) (v:Value),args[i]? = some d→fJ[i]? = some v→RD (qF w) S0 d v) (kx:P6 w):Calls P f fJ w fun e w'=>e = .returned (.bool true)∧Kept w w':=
 Td (G:=B0 w) h MC hl ha kx
end
end Go.Abs
namespace Go.Abs
open Go.Proofs
def px (n:Int):List D:= [.int .i64 n]
theorem ah8 (n:Int):D.bL 0 0 (px n)=true:=rfl
theorem aeJ (n m:Nat) (l:List Int):D.kv n m (l.map px)=l.map px:=lW ah8 n m l
attribute [go_sem] px aeJ
def ah9 (op:Int):aG:=
 if op=5 then [42]else if op=6 then [47]else if op=7 then [37]else if op=8 then [43]else if op=9 then [45]else if op=10 then [60]else if op=11 then [60,61]
 else if op=12 then [62]else if op=13 then [62,61]else if op=14 then [61,61]else if op=15 then [33,61]else if op=16 then [38,38]else [124,124]
def avZ (op:Int):Int:=(ade (ah9 op)).1
def Te:Nat→List aG
 | 0=> []
 |n+1=>Te n++ [[UInt8.ofNat (97+n)]]
end Go.Abs
namespace Go.Abs
open Go.RowKit Go.ChangeShapes Go.WideShapes
theorem MD {W:World} {a:Addr} {len cap:Nat} {zs:List Int} (hl:len≤cap) (hz:len≤zs.length) (hc : ∀ i,i<zs.length→W.cell? (a.add i)=some (.int .i64 (zs.getD i 0))) :
 RD (qF W) S0 (.slice .shared 1 ((zs.take len).map px)) (.slice (some a) len cap):=by
 by_cases h0:len=0
 ·subst h0
  exact .lC _ _ _
 ·obtain⟨b,off,rfl,gV⟩:=Go.ints_at hc (by omega)
  have hlen:((zs.take len).map px).length=len:=by simp;omega
  have e:((zs.take len).map px).length=len:=hlen
  have key : ∀ (i:Nat) (row:List D) (j:Nat) (d:D),((zs.take len).map px)[i]? = some row→row[j]? = some d→(qF W).G b (off+(i*1+j))=some (.int .i64 (zs.getD i 0))∧d = .int .i64 (zs.getD i 0):=by
   intro i row j d h1 h2
   rw[List.getElem?_map,Option.map_eq_some_iff]at h1
   obtain⟨n,h1,rfl⟩:=h1
   rw[List.getElem?_take]at h1
   split at h1
   ·rename_i hi
    have hd:zs.getD i 0=n:=by rw[List.getD_eq_getElem?_getD,h1];rfl
    have oa:i<zs.length:=(List.getElem?_eq_some_iff.1 h1).1
    cases j with
    |zero=>
     simp[px]at h2
     subst h2
     refine⟨?_,by rw[hd]⟩
     have:=gV i oa
     show B0 W b (off+(i*1+0))=_
     unfold B0
     rw[show off+(i*1+0)=off+i by omega,this]
     rfl
    |succ j=>simp[px]at h2
   ·cases h1
  have:=RD.slice (M:=qF W) (s:=S0) .shared 1 ((zs.take len).map px) b off cap (by omega) (fun row hr=>by obtain⟨n,_,rfl⟩:=List.mem_map.1 hr;rfl)
   (fun i row j d h1 h2=>⟨_,(key i row j d h1 h2).1⟩) (fun i row j d u h1 h2 hu=>by
    obtain⟨k1,k2⟩:=key i row j d h1 h2
    rw[k1]at hu
    cases hu
    rw[k2]
    exact .int _ _) trivial
  rw[hlen]at this
  exact this
end Go.Abs
namespace Go.Abs
open Go.RowKit Go.ChangeShapes Go.WideShapes
def fm (W:World) (ds:List D) (cs:List Value):Prop:=ds.length=cs.length∧(∀ (i:Nat) (d:D) (v:Value),ds[i]? = some d→cs[i]? = some v→RD (qF W) S0 d v)∧∀ v∈cs,v.oneCell'=true
theorem fm.one {W:World} {d:D} {v:Value} (h:RD (qF W) S0 d v) (hv:v.oneCell'=true):fm W [d] [v]:=by
 refine⟨rfl,fun i d' v' h1 h2=>?_,fun u hu=>by simp at hu;subst hu;exact hv⟩
 cases i with
 |zero=>simp at h1 h2;subst h1 h2;exact h
 |succ i=>simp at h1
theorem fm.app {W:World} {ds nJ:List D} {cs jI:List Value} (h:fm W ds cs) (h':fm W nJ jI):fm W (ds++nJ) (cs++jI):=by
 obtain⟨a1,a2,a3⟩:=h
 obtain⟨b1,b2,b3⟩:=h'
 refine⟨by simp[a1,b1],fun i d v h1 h2=>?_,fun v hv=>?_⟩
 ·by_cases hi:i<ds.length
  ·rw [List.getElem?_append_left hi]at h1
   rw[List.getElem?_append_left (by omega)]at h2
   exact a2 i d v h1 h2
  ·rw [List.getElem?_append_right (by omega)]at h1
   rw[List.getElem?_append_right (by omega), ← a1]at h2
   exact b2 _ d v h1 h2
 ·rcases List.mem_append.1 hv with hv | hv
  ·exact a3 v hv
  ·exact b3 v hv
theorem fm.at {W:World} {ds nJ:List D} {cs:List Value} {o n:Nat} (h:fm W ds ((cs.drop o).take n)) (h':fm W nJ (cs.drop (o+n))):fm W (ds++nJ) (cs.drop o):=by
 have e:cs.drop o=(cs.drop o).take n++cs.drop (o+n):=by rw[← List.drop_drop,List.take_append_drop]
 rw[e]
 exact h.app h'
theorem fm.end {W:World} {cs:List Value} {o:Nat} (h:cs.length=o):fm W [] (cs.drop o):=by
 rw[← h,List.drop_length]
 exact⟨rfl,fun i d v h=>by simp at h,fun v hv=>by cases hv⟩
section
variable {H:Type} {enc:TypeId×Value→H} {P:Program} {W:World} {sp:Nat→Bool}
def structOf (P:Program) (t:TypeId):List (TypeId×Nat):=
 match P.underlying t with
 |some (.struct fs)=>fs.toList.map fun f=>(f.type,f.offset)
 |_=> []
theorem l5 {t:TypeId} {l:List (TypeId×Nat)} {fuel:Nat} {cs:List Value} {x:DataW H×List MemPlace} (h:structOf P t=l) (eO:l≠ []) (ht:DataW.trod enc P W 0 sp true fuel t cs=some x) :
 ∃ n,fuel=n+1∧cs.length=P.cellsOf t∧∀ (i:Nat) (f:TypeId×Nat),l[i]? = some f→∃ y,DataW.trod enc P W 0 sp true n f.1 ((cs.drop f.2).take (P.cellsOf f.1))=some y:=by
 unfold structOf at h
 split at h
 ·rename_i fs hu
  obtain⟨xs,n,e,_,hl,hlen,hf⟩:=DataW.trod_struct hu ht
  refine⟨n,e,hl,fun i f hi=>?_⟩
  subst h
  rw[List.getElem?_map,Option.map_eq_some_iff]at hi
  obtain⟨g,hg,rfl⟩:=hi
  have CT:fs[i]? = some g:=by simpa using hg
  have hi:i<xs.length:=by rw[hlen];exact(Array.getElem?_eq_some_iff.1 CT).1
  exact⟨xs[i],by rw[hf i g CT,List.getElem?_eq_getElem hi]⟩
 ·exact absurd h.symm eO
theorem HZ {t:TypeId} {l:List (TypeId×Nat)} (h:structOf P t=l) (eO:l≠ []) : ∃ fs,P.underlying t=some (.struct fs):=by
 unfold structOf at h
 split at h
 ·exact⟨_, ‹_›⟩
 ·exact absurd h.symm eO
theorem Dc {α:Type} {Q:Nat→α→Prop} : ∀ n,(∀ i,i<n→∃ y,Q i y)→∃ ys:List α,ys.length=n∧∀ i y,ys[i]? = some y→Q i y
 | 0,_=>⟨[],rfl,fun i y h=>by simp at h⟩
 | n+1,h=>by
  obtain⟨ys,h1,h2⟩:=Dc n fun i hi=>h i (by omega)
  obtain⟨y,hy⟩:=h n (by omega)
  refine⟨ys++ [y],by simp[h1],fun i z hz=>?_⟩
  by_cases hi:i<ys.length
  ·rw[List.getElem?_append_left hi]at hz;exact h2 i z hz
  ·rw [List.getElem?_append_right (by omega)]at hz
   have:i - ys.length=0:=by
    rcases Nat.eq_zero_or_pos (i - ys.length)with h|h
    ·exact h
    ·rw[List.getElem?_eq_none (by simp only[List.length_cons,List.length_nil];omega)]at hz;cases hz
   rw[this]at hz
   simp at hz
   subst hz
   have:i=n:=by omega
   subst this
   exact hy
theorem py {α:Type} (en:α→List D) (good:α→Prop) {z:Nat} {t e:TypeId} {fuel:Nat} {cs:List Value} {x:DataW H×List MemPlace} (ht:P.underlying t=some (.slice e)) (hz:P.cellsOf e=z) (Yi:0<z) (hen : ∀ y,(en y).length=z)
 (hel : ∀ n<fuel,∀ cs x,DataW.trod enc P W 0 sp true n e cs=some x→∃ y,fm W (en y) cs∧good y) (h:DataW.trod enc P W 0 sp true fuel t cs=some x) :
 ∃ ys:List α,fm W [.slice .shared z (ys.map en)] cs∧∀ y∈ys,good y:=by
 rcases DataW.trod_slice ht h with ⟨rfl,_⟩|⟨a,len,cap,elems,rest,n,hn,rfl,_,hb,hl,hm,hlen,gV,_,_⟩
 ·exact⟨[],fm.one (.iA _ _ _ rfl trivial) rfl,fun y hy=>by cases hy⟩
 ·by_cases h0:len=0
  ·subst h0
   exact⟨[],fm.one (.lC _ _ _) rfl,fun y hy=>by cases hy⟩
  ·obtain⟨ys,hys,vr⟩:=Dc (Q:=fun i y=>good y∧∃ jI,W.cells? 0 (a.add (i*z)) z=some jI∧fm W (en y) jI) len fun i hi=>by
    have hc:=gV i hi
    rw[List.getElem?_eq_getElem (by omega),hz,Option.bind_eq_some_iff]at hc
    obtain⟨jI,h1,h2⟩:=hc
    obtain⟨y,h3,h4⟩:=hel n (by omega) _ _ h2
    exact⟨y,h4,jI,h1,h3⟩
   have cell : ∀ i y,ys[i]? = some y→∀ (j:Nat) d,(en y)[j]? = some d→∃ v,W.cell? ((a.add (i*z)).add j)=some v∧RD (qF W) S0 d v∧v.oneCell'=true:=by
    intro i y hy j d hd
    obtain⟨_,jI,h1,h2,h3,h4⟩:=vr i y hy
    obtain⟨_,k1,k2⟩:=World.cells?_some h1
    have hj:j<z:=by rw[← hen y];exact(List.getElem?_eq_some_iff.1 hd).1
    have hv:jI[j]? = some jI[j]:=List.getElem?_eq_getElem (by omega)
    exact⟨jI[j],by rw[k2 j hj,hv],h3 j d _ hd hv,h4 _ (List.getElem_mem _)⟩
   obtain⟨b,off,spot⟩:=a
   have aia:spot=none:=by
    have hy:ys[0]? = some (ys[0]'(by omega)):=List.getElem?_eq_getElem (by omega)
    obtain⟨d,hd⟩ : ∃ d,(en (ys[0]'(by omega)))[0]? = some d:=⟨_,List.getElem?_eq_getElem (show 0<(en (ys[0]'(by omega))).length by rw[hen];exact Yi)⟩
    obtain⟨v,hv,_⟩:=cell 0 _ hy 0 _ hd
    have:=World.cell?_spot hv
    simpa[Addr.add]using this
   subst aia
   have e:(ys.map en).length=len:=by simp[hys]
   have:=RD.slice (M:=qF W) (s:=S0) .shared z (ys.map en) b off cap (by omega) (fun row hr=>by obtain⟨y,_,rfl⟩:=List.mem_map.1 hr;exact hen y)
    (fun i row j d h1 h2=>by
     rw[List.getElem?_map,Option.map_eq_some_iff]at h1
     obtain⟨y,h1,rfl⟩:=h1
     obtain⟨v,hv,_,h4⟩:=cell i y h1 j d h2
     rw[add_plain,add_plain]at hv
     refine⟨v, ?_⟩
     show B0 W b (off+(i*z+j))=_
     unfold B0
     rw[show off+(i*z+j)=off+i*z+j by omega,hv]
     simp[h4])
    (fun i row j d u h1 h2 hu=>by
     rw[List.getElem?_map,Option.map_eq_some_iff]at h1
     obtain⟨y,h1,rfl⟩:=h1
     obtain⟨v,hv,h3,h4⟩:=cell i y h1 j d h2
     rw[add_plain,add_plain]at hv
     obtain⟨hu,_⟩:=MC _ _ _ hu
     rw[show off+(i*z+j)=off+i*z+j by omega,hv]at hu
     cases hu
     exact h3) trivial
   rw[e]at this
   refine⟨ys,fm.one this rfl,fun y hy=>?_⟩
   obtain⟨i,hi⟩:=List.getElem?_of_mem hy
   exact(vr i y hi).1
theorem Fp {t:TypeId} {fuel:Nat} {cs:List Value} {x:DataW H×List MemPlace} (ht:P.underlying t=some (.int .i64)) (h:DataW.trod enc P W 0 sp true fuel t cs=some x) : ∃ n:Int,fm W [.int .i64 n] cs∧n≤9223372036854775807∧ -9223372036854775808≤n:=by
 obtain⟨n,rfl,_,hw⟩:=DataW.trod_int ht h
 simp[Lit.wf,IntKind.min,IntKind.max,IntKind.signed,IntKind.bits]at hw
 exact⟨n,fm.one (.int _ _) rfl,by omega,by omega⟩
theorem Gf {t:TypeId} {fuel:Nat} {cs:List Value} {x:DataW H×List MemPlace} (ht:P.underlying t=some .bool) (h:DataW.trod enc P W 0 sp true fuel t cs=some x) : ∃ b:Bool,fm W [.bool b] cs:=by
 obtain⟨n,rfl,_⟩:=DataW.trod_bool ht h
 exact⟨n,fm.one (.bool _) rfl⟩
theorem wb {t:TypeId} {fuel:Nat} {cs:List Value} {x:DataW H×List MemPlace} (ht:P.underlying t=some .string) (h:DataW.trod enc P W 0 sp true fuel t cs=some x) : ∃ s:aG,fm W (encStr s) cs∧s.length≤maxLen:=by
 obtain⟨s,rfl,_,hm⟩:=DataW.trod_string ht h
 obtain⟨⟨l⟩⟩:=s
 exact⟨l,fm.one (.str l) rfl,hm⟩
theorem aib {tE tI tN tS tK:TypeId} (hE:structOf P tE = [(tI,0),(tN,1),(tS,2),(tK,3)]) (hEc:P.cellsOf tE=4) (hI:P.underlying tI=some (.int .i64)) (hN:P.underlying tN=some (.int .i64)) (hS:P.underlying tS=some .string) (hK:P.underlying tK=some (.slice tE))
 (cI:P.cellsOf tI=1) (cN:P.cellsOf tN=1) (cS:P.cellsOf tS=1) (cK:P.cellsOf tK=1) :
 ∀ (fuel:Nat) (cs:List Value) (x:DataW H×List MemPlace),DataW.trod enc P W 0 sp true fuel tE cs=some x→∃ y:Ex,fm W (cd y) cs∧y.rK:=by
 intro fuel
 induction fuel using Nat.strongRecOn with
 | _ fuel ih=>
  intro cs x h
  obtain⟨n,rfl,hl,hf⟩:=l5 hE (by simp) h
  obtain⟨y0,h0⟩:=hf 0 _ rfl
  obtain⟨y1,h1⟩:=hf 1 _ rfl
  obtain⟨y2,h2⟩:=hf 2 _ rfl
  obtain⟨y3,h3⟩:=hf 3 _ rfl
  dsimp only at h0 h1 h2 h3
  rw[cI]at h0
  rw[cN]at h1
  rw[cS]at h2
  rw[cK]at h3
  obtain⟨op,r0,_⟩:=Fp hI h0
  obtain⟨m,r1,hm,_⟩:=Fp hN h1
  obtain⟨s,r2,_⟩:=wb hS h2
  obtain⟨ks,r3,hg⟩:=py (W:=W) cd Ex.rK hK hEc (by decide) WY (fun k hk cs x hx=>ih k (by omega) cs x hx) h3
  refine⟨⟨op,m,s,ks⟩, ?_,hm, ?_⟩
  ·have:=r0.at (r1.at (r2.at (r3.at (fm.end (by rw [hl,hEc])))))
   rw[jc]
   simpa[encStr]using this
  ·clear r3
   induction ks with
   |nil=>exact trivial
   |cons k ks ihk=>exact⟨hg k (by simp),ihk fun y hy=>hg y (by simp[hy])⟩
theorem fm.agg {ds:List D} {v:Value} (h:fm W ds v.cells.toList) (hv : ∃ vs,v = .agg vs):RD (qF W) S0 (.agg ds) v:=by
 obtain⟨vs,rfl⟩:=hv
 obtain⟨h1,h2,h3⟩:=h
 have e:(Value.agg vs).cells=vs:=rfl
 rw[e]at h1 h2 h3
 refine .agg ds vs (by simpa using h1) (fun v hv=>h3 v (by simpa using hv)) fun i d v hd hv=>h2 i d v hd (by simpa using hv)
end
end Go.Abs
namespace Go.Abs
open Go.Proofs Go.RowKit Go.ChangeShapes Go.WideShapes
section
variable {H:Type} {enc:TypeId×Value→H} {W:World} {sp:Nat→Bool}
theorem Tf (fuel:Nat) (cs:List Value) (x:DataW H×List MemPlace) (h:DataW.trod enc Tryz.prog W 0 sp true fuel 50 cs=some x) : ∃ y:Ex,fm W (cd y) cs∧y.rK:=
 aib (tE:=50) (tI:=3) (tN:=2) (tS:=9) (tK:=48) (by kernel_rfl) (by kernel_rfl) (by kernel_rfl) (by kernel_rfl) (by kernel_rfl) (by kernel_rfl) (by kernel_rfl) (by kernel_rfl) (by kernel_rfl) (by kernel_rfl) _ _ _ h
theorem aay:Tryz.prog.underlying 22=some (.slice 9):=by kernel_rfl
theorem yM:Tryz.prog.underlying 9=some .string:=by kernel_rfl
theorem Tg:Tryz.prog.underlying 3=some (.int .i64):=by kernel_rfl
theorem Gg:Tryz.prog.underlying 4=some .bool:=by kernel_rfl
theorem B1:Tryz.prog.cellsOf 9=1:=by kernel_rfl
theorem aeN:Tryz.prog.cellsOf 3=1:=by kernel_rfl
theorem Gh:Tryz.prog.cellsOf 4=1:=by kernel_rfl
theorem Gi:Tryz.prog.cellsOf 22=1:=by kernel_rfl
theorem Yo:Tryz.prog.cellsOf 50=4:=by kernel_rfl
theorem Ab {fuel:Nat} {cs:List Value} {x:DataW H×List MemPlace} (h:DataW.trod enc Tryz.prog W 0 sp true fuel 22 cs=some x) : ∃ l:List aG,fm W [.slice .shared 1 (l.map encStr)] cs:=by
 obtain⟨l,h,_⟩:=py (W:=W) encStr (fun _=>True) aay B1 (by decide) (fun _=>rfl) (fun k hk cs x hx=>by
  obtain⟨s,hs,_⟩:=wb yM hx
  exact⟨s,hs,trivial⟩) h
 exact⟨l,h⟩
theorem aeO {fuel:Nat} {cs:List Value} {x:DataW H×List MemPlace} (h:DataW.trod enc Tryz.prog W 0 sp true fuel 73 cs=some x) : ∃ y:Pm,fm W (iH y) cs:=by
 obtain⟨n,rfl,hl,hf⟩:=l5 (l:= [(9,0),(4,1)]) (by kernel_rfl) (by simp) h
 have hc:Tryz.prog.cellsOf 73=2:=by kernel_rfl
 obtain⟨y0,h0⟩:=hf 0 _ rfl
 obtain⟨y1,h1⟩:=hf 1 _ rfl
 dsimp only at h0 h1
 rw[B1]at h0
 rw[Gh]at h1
 obtain⟨s,r0,_⟩:=wb yM h0
 obtain⟨b,r1⟩:=Gf Gg h1
 refine⟨⟨s,b⟩, ?_⟩
 have:=r0.at (r1.at (fm.end (by rw[hl,hc])))
 simpa[encStr,iH]using this
theorem aeP {fuel:Nat} {cs:List Value} {x:DataW H×List MemPlace} (h:DataW.trod enc Tryz.prog W 0 sp true fuel 123 cs=some x) : ∃ y:Ar,fm W (eC y) cs∧y.x.rK:=by
 obtain⟨n,rfl,hl,hf⟩:=l5 (l:= [(4,0),(9,1),(50,2)]) (by kernel_rfl) (by simp) h
 have hc:Tryz.prog.cellsOf 123=6:=by kernel_rfl
 obtain⟨y0,h0⟩:=hf 0 _ rfl
 obtain⟨y1,h1⟩:=hf 1 _ rfl
 obtain⟨y2,h2⟩:=hf 2 _ rfl
 dsimp only at h0 h1 h2
 rw[Gh]at h0
 rw[B1]at h1
 rw[Yo]at h2
 obtain⟨b,r0⟩:=Gf Gg h0
 obtain⟨s,r1,_⟩:=wb yM h1
 obtain⟨e,r2,hr⟩:=Tf _ _ _ h2
 refine⟨⟨b,s,e⟩, ?_,hr⟩
 have:=r0.at (r1.at (r2.at (fm.end (by rw[hl,hc]))))
 rw[jc]at this
 simpa[encStr,eC]using this
theorem Ac : ∀ {l:List Sm},(∀ s∈l,s.rK)→Sm.xE l
 | [],_=>trivial
 |s::l,h=>⟨h s (List.mem_cons_self ..),Ac fun t m=>h t (List.mem_cons_of_mem _ m)⟩
theorem aeQ : ∀ (fuel:Nat) (cs:List Value) (x:DataW H×List MemPlace),DataW.trod enc Tryz.prog W 0 sp true fuel 54 cs=some x→∃ y:Sm,fm W (bh y) cs∧y.rK:=by
 intro fuel
 induction fuel using Nat.strongRecOn with
 |_ fuel ih=>
  intro cs x h
  obtain⟨n,rfl,hl,hf⟩:=l5 (l:= [(3,0),(3,1),(22,2),(9,3),(9,4),(50,5),(4,9),(51,10),(52,11),(52,12)]) (by kernel_rfl) (by simp) h
  have hc:Tryz.prog.cellsOf 54=13:=by kernel_rfl
  have ca:Tryz.prog.cellsOf 51=1:=by kernel_rfl
  have jI:Tryz.prog.cellsOf 52=1:=by kernel_rfl
  have ua:Tryz.prog.underlying 51=some (.slice 123):=by kernel_rfl
  have us:Tryz.prog.underlying 52=some (.slice 54):=by kernel_rfl
  have ca6:Tryz.prog.cellsOf 123=6:=by kernel_rfl
  obtain⟨y0,h0⟩:=hf 0 _ rfl
  obtain⟨y1,h1⟩:=hf 1 _ rfl
  obtain⟨y2,h2⟩:=hf 2 _ rfl
  obtain⟨y3,h3⟩:=hf 3 _ rfl
  obtain⟨y4,h4⟩:=hf 4 _ rfl
  obtain⟨y5,h5⟩:=hf 5 _ rfl
  obtain⟨y6,h6⟩:=hf 6 _ rfl
  obtain⟨y7,h7⟩:=hf 7 _ rfl
  obtain⟨y8,h8⟩:=hf 8 _ rfl
  obtain⟨y9,h9⟩:=hf 9 _ rfl
  dsimp only at h0 h1 h2 h3 h4 h5 h6 h7 h8 h9
  rw[aeN]at h0 h1
  rw[Gi]at h2
  rw[B1]at h3 h4
  rw[Yo]at h5
  rw[Gh]at h6
  rw[ca]at h7
  rw[jI]at h8 h9
  obtain⟨id,r0,_⟩:=Fp Tg h0
  obtain⟨kind,r1,_⟩:=Fp Tg h1
  obtain⟨labels,r2⟩:=Ab h2
  obtain⟨name,r3,_⟩:=wb yM h3
  obtain⟨proc,r4,_⟩:=wb yM h4
  obtain⟨e,r5,hr⟩:=Tf _ _ _ h5
  obtain⟨b,r6⟩:=Gf Gg h6
  obtain⟨args,r7,ha⟩:=py (W:=W) eC (fun a=>a.x.rK) ua ca6 (by decide) (fun _=>rfl) (fun k hk cs x hx=>aeP hx) h7
  obtain⟨a8,r8,ht⟩:=py (W:=W) bh Sm.rK us hc (by decide) H5 (fun k hk cs x hx=>ih k (by omega) cs x hx) h8
  obtain⟨aS,r9,he⟩:=py (W:=W) bh Sm.rK us hc (by decide) H5 (fun k hk cs x hx=>ih k (by omega) cs x hx) h9
  refine⟨⟨id,kind,labels,name,proc,e,b,args,a8,aS⟩, ?_,hr,ha,Ac ht,Ac he⟩
  have:=r0.at (r1.at (r2.at (r3.at (r4.at (r5.at (r6.at (r7.at (r8.at (r9.at (fm.end (by rw[hl,hc])))))))))))
  rw[jc]at this
  rw[ey]
  simpa[encStr]using this
theorem aeR {fuel:Nat} {cs:List Value} {x:DataW H×List MemPlace} (h:DataW.trod enc Tryz.prog W 0 sp true fuel 70 cs=some x) : ∃ y:Pc,fm W (cu y) cs∧Sm.xE y.body:=by
 obtain⟨n,rfl,hl,hf⟩:=l5 (l:= [(9,0),(68,1),(22,2),(52,3),(22,4)]) (by kernel_rfl) (by simp) h
 have hc:Tryz.prog.cellsOf 70=5:=by kernel_rfl
 have cp:Tryz.prog.cellsOf 68=1:=by kernel_rfl
 have jI:Tryz.prog.cellsOf 52=1:=by kernel_rfl
 have up:Tryz.prog.underlying 68=some (.slice 73):=by kernel_rfl
 have us:Tryz.prog.underlying 52=some (.slice 54):=by kernel_rfl
 have cp2:Tryz.prog.cellsOf 73=2:=by kernel_rfl
 have aoE:Tryz.prog.cellsOf 54=13:=by kernel_rfl
 obtain⟨y0,h0⟩:=hf 0 _ rfl
 obtain⟨y1,h1⟩:=hf 1 _ rfl
 obtain⟨y2,h2⟩:=hf 2 _ rfl
 obtain⟨y3,h3⟩:=hf 3 _ rfl
 obtain⟨y4,h4⟩:=hf 4 _ rfl
 dsimp only at h0 h1 h2 h3 h4
 rw[B1]at h0
 rw[cp]at h1
 rw[Gi]at h2 h4
 rw[jI]at h3
 obtain⟨name,r0,_⟩:=wb yM h0
 obtain⟨ps,r1,_⟩:=py (W:=W) iH (fun _=>True) up cp2 (by decide) (fun _=>rfl) (fun k hk cs x hx=>by
  obtain⟨y,hy⟩:=aeO hx
  exact⟨y,hy,trivial⟩) h1
 obtain⟨vars,r2⟩:=Ab h2
 obtain⟨body,r3,hb⟩:=py (W:=W) bh Sm.rK us aoE (by decide) H5 (fun k hk cs x hx=>aeQ k cs x hx) h3
 obtain⟨fin,r4⟩:=Ab h4
 refine⟨⟨name,ps,vars,body,fin⟩, ?_,Ac hb⟩
 have:=r0.at (r1.at (r2.at (r3.at (r4.at (fm.end (by rw[hl,hc]))))))
 simpa[encStr,cu]using this
theorem aeS {fuel:Nat} {cs:List Value} {x:DataW H×List MemPlace} (h:DataW.trod enc Tryz.prog W 0 sp true fuel 25 cs=some x) : ∃ y:Pg,fm W (cD y) cs∧y.rK:=by
 obtain⟨n,rfl,hl,hf⟩:=l5 (l:= [(22,0),(23,1)]) (by kernel_rfl) (by simp) h
 have hc:Tryz.prog.cellsOf 25=2:=by kernel_rfl
 have cp:Tryz.prog.cellsOf 23=1:=by kernel_rfl
 have up:Tryz.prog.underlying 23=some (.slice 70):=by kernel_rfl
 have cp5:Tryz.prog.cellsOf 70=5:=by kernel_rfl
 obtain⟨y0,h0⟩:=hf 0 _ rfl
 obtain⟨y1,h1⟩:=hf 1 _ rfl
 dsimp only at h0 h1
 rw[Gi]at h0
 rw[cp]at h1
 obtain⟨globals,r0⟩:=Ab h0
 obtain⟨procs,r1,hp⟩:=py (W:=W) cu (fun f=>Sm.xE f.body) up cp5 (by decide) (fun _=>rfl) (fun k hk cs x hx=>aeR hx) h1
 refine⟨⟨globals,procs⟩, ?_,hp⟩
 have:=r0.at (r1.at (fm.end (by rw[hl,hc])))
 simpa[cD]using this
end
end Go.Abs
namespace Go.Abs
open Go.Proofs Go.ChangeShapes Go.WideShapes Go.ChangeAt Go.RowKit
theorem xc {H:Type} {enc:TypeId×Value→H} {P:Program} {W:World} {sp:Nat→Bool} {t:TypeId} {ts:List TypeId} {ps:List MemPlace} : ∀ {l:List Value} {ds:List (DataW H)},DataW.TrodAll enc P W 0 sp true (t::ts) l ds ps→
 ∃ v l' d nJ p q,l=v::l'∧ds=d::nJ∧DataW.Trod enc P W 0 sp true t v d p∧DataW.TrodAll enc P W 0 sp true ts l' nJ q
 |v::l,d::ds,⟨p,q,h1,h2,e⟩=>⟨v,l,d,ds,p,q,rfl,rfl,h1,h2⟩
 | [],[],h=>h.elim
 | [],_::_,h=>h.elim
 |_::_,[],h=>h.elim
theorem Wq {H:Type} {enc:TypeId×Value→H} {P:Program} {W:World} {sp:Nat→Bool} {ps:List MemPlace} : ∀ {l:List Value} {ds:List (DataW H)},DataW.TrodAll enc P W 0 sp true [] l ds ps→l = []∧ds = []
 | [],[],_=>⟨rfl,rfl⟩
 | [],_::_,h=>h.elim
 |_::_,ds,h=>by cases ds<;>exact h.elim
end Go.Abs
