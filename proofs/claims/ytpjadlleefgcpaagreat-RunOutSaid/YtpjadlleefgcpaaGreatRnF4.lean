/-
  What is proved here: part 4 of the road to the claim (RunC0, RunC1, RunC2, RunC3, RunC4, RunC5, RunC6, RunC7, RunSt, RunSz, Jm3, Rj1, Ck1, RunC8, RunC9, RunL0, RunL1, RunTp, RunEv, RunWa, RunL2, LawRu2, LawRu7, Glue2, Join, Binds1, Join2, Join3, Join4, Join5).
  No conditions.
-/
import Derived.Test.YtpjadlleefgcpaaGreatRnF3
import Derived.RowKit3
import Derived.WalkKit
import Derived.ProofKit
import Derived.OpenShut
import Derived.ShutString
import Derived.ChangeMaps5
import Derived.ChangeStays
import Derived.KernelRfl

set_option linter.unusedSimpArgs false
set_option linter.unusedVariables false
namespace Go.Abs
set_option maxRecDepth 8000
open Go.Proofs
theorem aF.ahl {P:Program} {f:FuncId} {args:List D} {z k:Nat} {rows:List (List D)} (h:aF P f args S0 (.slice (.tok 0) z rows) ⟨[],[some k]⟩) (ha:D.bL 0 0 args=true) (hr:D.gS 0 0 rows=true) (s:St) :
 aF P f args s (.slice (.tok s.aw.length) z rows) ⟨s.ah,s.aw++ [some k]⟩:=by
 refine bM.frame [] [] h List.nodup_nil List.nodup_nil (by simp) (by simp) rfl (by simp) rfl (by simp) (by rw[fB _ _ _ ha]) ha ?_
 rintro _ _ ⟨rfl,rfl⟩
 refine⟨by simp[D.back,D.cU,Tag.cU,kB,jk _ _ _ hr], ?_⟩
 simp[St.back,kF]
theorem Pt (g:Tag) (z:Nat) (s:St):aF Tryz.prog kC [.slice g z []] s (.slice .full 1 []) s:=by
 refine bM.pR (.cons (Wk.nil _ _ 1) .nil) (aF.pure ?_ rfl rfl s)
 unfold S0
 refine aF.go pM rfl fun B Q hB hQ=>?_
 have⟨hD,hY,hZ,gA⟩:=bP
 repeat' (first
 |simp only[go_sem,hD,hY,hZ,gA]
 |(with_reducible first|refine bo fun hc=>?_|refine bp fun hc=>?_|refine bq (fun hc=>?_) fun hc=>?_)<;>(try simp only[hc,bs,↓reduceIte]at h)<;>try simp only[hc]
 |(with_reducible refine aD hQ ?_;exact ga)
 |(cases h;done))
 refine T6 (fun _=>?_) ?_
 ·repeat' (first
 |simp only[go_sem,hD,hY,hZ,gA,ix,true_or,Nat.zero_le]
 |(with_reducible first|refine bo fun hc=>?_|refine bp fun hc=>?_|refine bq (fun hc=>?_) fun hc=>?_)<;>(try simp only[hc,bs,↓reduceIte]at h)<;>try simp only[hc]
 |(with_reducible refine aD hQ ?_;(try cases h);simp only[aU,aV,bH,bI,go_sem,hD,hY,hZ,gA,ix,true_or,Nat.zero_le];try exact cv)
 |(cases h;done))
 ·repeat' (first
 |simp only[go_sem,hD,hY,hZ,gA,ix,true_or,Nat.zero_le]
 |(with_reducible first|refine bo fun hc=>?_|refine bp fun hc=>?_|refine bq (fun hc=>?_) fun hc=>?_)<;>(try simp only[hc,bs,↓reduceIte]at h)<;>try simp only[hc]
 |(with_reducible refine aD hQ ?_;(try cases h);simp only[aU,aV,bH,bI,go_sem,hD,hY,hZ,gA,ix,true_or,Nat.zero_le];try exact cv)
 |(cases h;done))
theorem Pu {l:List aG} (hl:l.length<1073741824) (h0:l≠ []) (s:St):aF Tryz.prog kC [.slice .shared 1 (l.map encStr)] s (.slice (.tok s.aw.length) 1 (l.map encStr)) ⟨s.ah,s.aw++ [some l.length]⟩:=by
 refine aF.ahl ?_ (by simp[D.bL,D.ok,Tag.ok,fb]) (fb l) s
 unfold S0
 refine aF.goK 0 1 (Nat.zero_le _) (Nat.zero_le _) pM rfl fun B Q hB hQ=>?_
 have⟨hD,hY,hZ,gA⟩:=bP
 have ha:=fun o T=>zO (size:=1) (bytes:=16) (rows:=l.map encStr) (by simpa using h0) (by simp only[List.length_map];unfold bA;omega) (z:=1) (g:= .shared) o T
 cases l with
 |nil=>exact absurd rfl h0
 |cons x l=>
  simp only[List.map_cons,encStr]at ha
  repeat' (first
 |simp only[go_sem,hD,hY,hZ,gA,ha]
 |(with_reducible first|refine bo fun hc=>?_|refine bp fun hc=>?_|refine bq (fun hc=>?_) fun hc=>?_)<;>(try simp only[hc,bs,↓reduceIte]at h)<;>try simp only[hc]
 |(with_reducible refine aD hQ ?_;(try cases h);simp only[aU,aV,bH,bI,go_sem,hD,hY,hZ,gA,ha];try exact cv)
 |(cases h;done))
theorem Me {a b:List aG} {n:Nat} (hn:n=a.length) (h:a.length+b.length≤1000000000) {g:Tag} {t:Nat} {s:St} (ht:s.aw[t]? = some (some n)) :
 ix 1 16 (.slice (.tok t) 1 (a.map encStr)) (.slice g 1 (b.map encStr)) s=some (.slice (.tok t) 1 ((a++b).map encStr),⟨s.ah,s.aw.set t (some (a++b).length)⟩):=by
 subst hn
 rw[nV (size:=1) (bytes:=16) (by simp only[List.length_map];unfold bA;omega) (by simpa using ht)]
 simp
theorem adQ {p:Pg} (h:p.iM) (hb:p.may=true) {name:aG} {f:Pc} (hf:p.find name=some f) (s:St):aF Tryz.prog vB [.agg (cu p), .str name] s (.slice .shared 1 ((p.globals++f.own).map encStr)) s:=by
 refine aF.pure ?_ (by simp[D.bL,D.ok,jc]) (by simp only[D.ok,Tag.ok,fb];rfl) s
 have hm:=fun s=>JD h.O3 s
 simp only[Cj,hb]at hm
 obtain⟨rj,qU,qT⟩:=h.procs
 simp only[Pg.find]at hf
 unfold S0
 refine aF.go FE rfl fun B Q hB hQ=>?_
 have⟨hD,hY,hZ,gA⟩:=bP
 repeat' (first
 |simp only[go_sem,hD,hY,hZ,gA]
 |(with_reducible refine CU (hm _) ?_)
 |(with_reducible first|refine bo fun hc=>?_|refine bp fun hc=>?_|refine bq (fun hc=>?_) fun hc=>?_)<;>(try simp only[hc,bs,↓reduceIte]at h)<;>try simp only[hc]
 |(with_reducible refine aD hQ ?_;exact ga)
 |(cases h;done))
 refine fa 1 0 (bl.ind (ι:=List Pc×Nat) (fun i=>p.procs.drop i.2=i.1∧iT name i.1=some f) (fun i=>i.1.length)
  (fun i=> [(1, .str name),(2, .ptr 0 0),(11, .slice .shared 5 (p.procs.map cq)),(12, .int .i64 (p.procs.length:Int)),(13, .int .i64 (i.2:Int))]) (fun i=>⟨[cu p],[]⟩) ?_ (p.procs,0) ⟨rfl,hf⟩)
 rintro⟨rest,k⟩ ⟨h1,h2⟩ IH
 dsimp only at h1 h2
 cases rest with
 |nil=>cases h2
 | cons a rest=>
  obtain⟨hY,g2,hD,g4⟩:=drop_cons h1
  have bO:k<4611686018427387904:=by omega
  have vQ:=h.small (List.mem_of_getElem? hY)
  simp only[iT]at h2
  rcases Bool.eq_false_or_eq_true (a.name==name)with b1|b1
  ·simp only [b1,if_true]at h2
   cases h2
   have ho:=fun s=>XL (f:=f) vQ.par vQ.vars s
   have iX:f.own.length<2000000:=by have:=vQ.par;have:=vQ.vars;simp[Pc.own,Pc.tD];omega
   cases e:p.globals with
   | nil=>
    simp only[List.nil_append]at *
    have c1:=fun g z s=>Pt g z s
    cases e2:f.own with
    |nil=>
     rw[e2]at ho hQ
     have ha:=fun o T=>zP (size:=1) (bytes:=16) (z:=1) (z':=1) (g:= .shared) o T
     repeat' (first
 |simp only[go_sem,hD,hY,hZ,gA,b1,ha,e]
 |(with_reducible refine CU (c1 _ _ _) ?_)
 |(with_reducible refine CU (ho _) ?_)
 |(with_reducible first|refine bo fun hc=>?_|refine bp fun hc=>?_|refine bq (fun hc=>?_) fun hc=>?_)<;>(try simp only[hc,bs,↓reduceIte]at h)<;>try simp only[hc]
 |(with_reducible refine aD hQ ?_;(try cases h);simp only[aU,aV,bH,bI,go_sem,hD,hY,hZ,gA,b1,ha,e];try exact cv)
 | (cases h;done))
    |cons x l=>
     have ha:=fun o T=>zO (size:=1) (bytes:=16) (rows:=f.own.map encStr) (by simp[e2]) (by simp only[List.length_map];unfold bA;omega) (z:=1) (g:= .shared) o T
     repeat' (first
 |simp only[go_sem,hD,hY,hZ,gA,b1,ha,e]
 |(with_reducible refine CU (c1 _ _ _) ?_)
 |(with_reducible refine CU (ho _) ?_)
 |(with_reducible first|refine bo fun hc=>?_|refine bp fun hc=>?_|refine bq (fun hc=>?_) fun hc=>?_)<;>(try simp only[hc,bs,↓reduceIte]at h)<;>try simp only[hc]
 |(with_reducible refine aD hQ ?_;(try cases h);simp only[aU,aV,bH,bI,go_sem,hD,hY,hZ,gA,b1,ha,e];try exact cv)
 | (cases h;done))
   |cons x l=>
    have c1:=fun s=>Pu (l:=p.globals) (by omega) (by simp[e]) s
    have ha:=fun {s:St} {t:Nat} (ht:s.aw[t]? = some (some p.globals.length))=>Me (a:=p.globals) (b:=f.own) (g:= .shared) rfl (by omega) ht
    have wu:=fun o=>Me (a:=p.globals) (b:=f.own) (g:= .shared) (t:=0) (s:=⟨o,[some p.globals.length]⟩) rfl (by omega) rfl
    repeat' (first
 |simp only[go_sem,hD,hY,hZ,gA,b1,wu]
 |(with_reducible refine CU (c1 _) ?_)
 |(with_reducible refine CU (ho _) ?_)
 |(with_reducible first|refine bo fun hc=>?_|refine bp fun hc=>?_|refine bq (fun hc=>?_) fun hc=>?_)<;>(try simp only[hc,bs,↓reduceIte]at h)<;>try simp only[hc]
 |(with_reducible refine aD hQ ?_;(try cases h);simp only[aU,aV,bH,bI,go_sem,hD,hY,hZ,gA,b1,wu];try exact cv)
 | (cases h;done))
  ·simp only [b1,Bool.false_eq_true,if_false]at h2
   repeat' (first
 |simp only[go_sem,hD,hY,hZ,gA,b1]
 |(with_reducible first|refine bo fun hc=>?_|refine bp fun hc=>?_|refine bq (fun hc=>?_) fun hc=>?_)<;>(try simp only[hc,bs,↓reduceIte]at h)<;>try simp only[hc]
 |(with_reducible refine aD hQ ?_;(try cases h);simp only[aU,aV,bH,bI,go_sem,hD,hY,hZ,gA,b1];try exact cv)
 | (cases h;done))
   refine eO 1 0 ?_ ?_ (IH (rest,k+1) ⟨g2,h2⟩ (Nat.lt_succ_self _))
   ·(simp only[go_sem,hD,hY,hZ,gA,aI bO];try exact bW)
   ·(simp only[go_sem,hD,hY,hZ,gA,aI bO];try exact bW)
theorem Lp {p:Pg} (hb:p.may=true) {i:Nat} {f:Pc} (hf:p.procs[i]? = some f) : ∃ a b:Int,p.aX.lo[i]? = some a∧p.aX.hi[i]? = some b∧(if decide (a<b)=true then a else -1)=fZ f.body (-1):=by
 obtain⟨a,b,e,h1,h2,h3,h4⟩:=(kx p).2 i f hf
 refine⟨_,_,h1,h2, ?_⟩
 cases B7:f.body with
 |nil=>
  rw[B7]at h3
  have:b = []:=by simpa[Sm.dc]using h3
  subst this
  simp[fZ]
 | cons s l=>
  rw[B7,Sm.dc,Sm.qf]at h3
  cases b with
  |nil=>simp at h3
  | cons x b=>
   simp only[List.map_cons,List.cons_append,List.cons.injEq]at h3
   have hx:p.pre[a.length]? = some s:=by
    rw[← (kx p).1,h4]
    simp[h3.1]
   have:=BE hb hx
   rw[if_pos (by simp;omega)]
   simp only[fZ]
   rw[this];omega
theorem ZS {p:Pg} (hb:p.may=true) {i:Nat} {f:Pc} (hf:p.procs[i]? = some f) (s:St):aF Tryz.prog o7 [.dv (fx p) 0, .int .i64 (i:Int)] s (.int .i64 (fZ f.body (-1))) s:=by
 refine aF.pure ?_ (by simp[D.bL,D.ok,uu]) rfl s
 obtain⟨a,b,h1,h2,h⟩:=Lp hb hf
 generalize fZ f.body (-1)=R at h
 unfold S0
 rw[nZ]
 refine aF.go zn rfl fun B Q hB hQ=>?_
 have⟨hD,hY,hZ,gA⟩:=bP
 repeat' (first
 |simp only[go_sem,hD,hY,hZ,gA,h1,h2]
 |(with_reducible first|refine bo fun hc=>?_|refine bp fun hc=>?_|refine bq (fun hc=>?_) fun hc=>?_)<;>(try simp only[hc,bs,↓reduceIte]at h)<;>try simp only[hc]
 |(with_reducible refine aD hQ ?_;(try cases h);simp only[aU,aV,bH,bI,go_sem,hD,hY,hZ,gA,h1,h2];try exact cv)
 |(cases h;done))
set_option maxRecDepth 8000
open Go.Proofs
section
variable {p:Pg} {T W:List Int} {y:Lay} {m:Mc} {loc:List (Nat×List D)} {s:St}
theorem jE.row {s:St} {d:D} {cs:List D} (h:jE s d cs) (hn:cs≠ []) : ∃ o g more,d = .ep 1 o g cs.length∧s.ah[o]? = some (.int .i64 ((g:Nat):Int)::(cs++more)):=by
 rcases h with ⟨_,h⟩|h
 ·exact absurd h hn
 ·exact h
theorem Inv.VH (h:Inv p T W y m loc s) {fr:Fr} {r:List Fr} (ji:m.st=fr::r) : ∃ so g cells o,y.sd = .ep 1 so g (r.length+1)∧s.ah[so]? = some (.int .i64 ((g:Nat):Int)::cells)∧cells[r.length]? = some (.ptr o 0)∧s.ah[o]? = some (po y.κ fr)∧y.φ[0]? = some o:=by
 have gR:=h.sA
 rw[ji]at gR
 cases hφ:y.φ with
 |nil=>rw[hφ]at gR;simp at gR
 | cons o φ=>
  rw[hφ]at gR
  simp only[List.length_cons]at gR
  obtain⟨so,g,more,h1,h2⟩:=h.stack.row (by simp[hφ])
  refine⟨so,g,_,o, ?_,h2, ?_,(h.frame 0 o fr (by rw[hφ];rfl) (by rw[ji];rfl)).1,rfl⟩
  ·rw[h1];simp[hφ];omega
  ·rw [hφ,List.reverse_cons,List.map_append,List.append_assoc,List.getElem?_append_right (by simp;omega)]
   simp[xI,show r.length - φ.length=0 by omega]
theorem Pv (h:Inv p T W y m loc s) {fr:Fr} {r:List Fr} (ji:m.st=fr::r) (hs:r.length<1000000) : ∃ o,y.φ[0]? = some o∧s.ah[o]? = some (po y.κ fr)∧aF Tryz.prog kP [.ptr 0 0] s (.ptr o 0) s:=by
 obtain⟨so,g,cells,o,h1,h2,h3,h4,h5⟩:=h.VH ji
 refine⟨o,h5,h4, ?_⟩
 have hm:=h.jF
 rw[fv,h1]at hm
 have hw:IntKind.wrap .i64 (((r.length+1:Nat):Int) - 1)=((r.length:Nat):Int):=by rw[show((r.length+1:Nat):Int) - 1=(r.length:Int) by omega];exact eg (by omega) (by omega)
 have hl:(r.length<r.length+1)=True:=by simp
 refine bM.uH Aw rfl fun B Q hB hQ=>?_
 have⟨hD,hY,hZ,gA⟩:=bP
 repeat' (first
 |simp only[go_sem,hD,hY,hZ,gA,hm,hw,h2,h3,hl,Nat.mul_one]
 |(with_reducible first|refine bo fun hc=>?_|refine bp fun hc=>?_|refine bq (fun hc=>?_) fun hc=>?_)<;>(try simp only[hc,bs,↓reduceIte]at h)<;>try simp only[hc]
 |(with_reducible refine aD hQ ?_;(try cases h);simp only[aU,aV,bH,bI,go_sem,hD,hY,hZ,gA,hm,hw,h2,h3,hl,Nat.mul_one];try exact cv)
 |(cases h;done))
 (refine gL hQ ?_;simp only[aU,aV,bH,bI,go_sem])
theorem Cs (h:Inv p T W y m loc s) {fr:Fr} {r:List Fr} (ji:m.st=fr::r) (hs:r.length<1000000) (hn:fr.names.length<1000000) {name:aG} {j c:Nat} (hj:jf name 0 fr.names=(j:Int)) (hc:fr.vars[j]? = some c) :
 aF Tryz.prog iI [.ptr 0 0, .str name] s (.ptr (y.κ.getD c 0) 0) s:=by
 obtain⟨o,_,h1,c1⟩:=Pv h ji hs
 have c2:=fun s=>Cg (l:=fr.names) (by omega) name s
 rw[hj]at c2
 rw[po]at h1
 refine bM.uH yl rfl fun B Q hB hQ=>?_
 have⟨hD,hY,hZ,gA⟩:=bP
 repeat' (first
 |simp only[go_sem,hD,hY,hZ,gA,h1,hc,fj,Option.map_some]
 |(with_reducible refine CU (c1) ?_)
 |(with_reducible refine CU (c2 _) ?_)
 |(with_reducible first|refine bo fun hc=>?_|refine bp fun hc=>?_|refine bq (fun hc=>?_) fun hc=>?_)<;>(try simp only[hc,bs,↓reduceIte]at h)<;>try simp only[hc]
 |(with_reducible refine aD hQ ?_;(try cases h);simp only[aU,aV,bH,bI,go_sem,hD,hY,hZ,gA,h1,hc,fj,Option.map_some];try exact cv)
 |(cases h;done))
 (refine gL hQ ?_;simp only[aU,aV,bH,bI,go_sem])
abbrev Rl (p:Pg) (T W:List Int) (d:D) (m':Mc) (X:Lay→Prop) (loc:List (Nat×List D)):D→St→Prop:=fun d' s'=>d'=d∧∃ y',X y'∧Inv p T W y' m' loc s'
theorem Mf (h:Inv p T W y m loc s) (hW:W.length<1000000) (ht:m.trace.length<2000000) (id:Int) (bV:List Int) :
 bM Tryz.prog ek [.ptr 0 0, .int .i64 id, .slice .shared 1 (bV.map bE)] s (Rl p T W (.tuple []) (m.event W id bV) (· = y) loc):=by
 have hm:=h.jF
 rw[fv]at hm
 have hl:=h.uN
 have c1:=fun s=>Lo (l:=W) (by omega) id s
 have eK:ix 2 32 (.slice (.tok 1) 2 (m.trace.map jD)) (.slice .full 2 [[.int .i64 id, .slice .shared 1 (bV.map bE)]]) s=some (.slice (.tok 1) 2 ((m.trace++ [(id,bV)]).map jD),⟨s.ah,s.aw.set 1 (some (m.trace.length+1))⟩):=by
  rw[nV (size:=2) (bytes:=32) (by simp only[List.length_map,List.length_singleton];unfold bA;omega) (by simpa using h.t1)]
  simp[jD]
 refine bM.uH yn rfl fun B Q hB hQ=>?_
 have⟨hD,hY,hZ,gA⟩:=bP
 cases hb:W.contains id
 ·repeat' (first
 |simp only[go_sem,hD,hY,hZ,gA,hm,hb]
 |(with_reducible refine CU (c1 _) ?_)
 |(with_reducible first|refine bo fun hc=>?_|refine bp fun hc=>?_|refine bq (fun hc=>?_) fun hc=>?_)<;>(try simp only[hc,bs,↓reduceIte]at h)<;>try simp only[hc]
 |(with_reducible refine aD hQ ?_;(try cases h);simp only[aU,aV,bH,bI,go_sem,hD,hY,hZ,gA,hm,hb];try exact cv)
 |(cases h;done))
  (refine gL hQ ?_;simp only[aU,aV,bH,bI,go_sem])
  refine⟨rfl,y,rfl, ?_⟩
  unfold Mc.event
  rw[hb]
  exact h
 ·repeat' (first
 |simp only[go_sem,hD,hY,hZ,gA,hm,hb,eK,hl]
 |(with_reducible refine CU (c1 _) ?_)
 |(with_reducible first|refine bo fun hc=>?_|refine bp fun hc=>?_|refine bq (fun hc=>?_) fun hc=>?_)<;>(try simp only[hc,bs,↓reduceIte]at h)<;>try simp only[hc]
 |(with_reducible refine aD hQ ?_;(try cases h);simp only[aU,aV,bH,bI,go_sem,hD,hY,hZ,gA,hm,hb,eK,hl];try exact cv)
 | (cases h;done))
  (refine gL hQ ?_;simp only[aU,aV,bH,bI,go_sem])
  refine⟨rfl,y,rfl, ?_⟩
  have:=h.tY (m':=m.event W id bV) (ts:=s.aw.set 1 (some (m.trace.length+1))) (eW W m id bV).1 (eW W m id bV).2.1 (by rw[(eW W m id bV).2.2.2.2.2,List.getElem?_set_ne (by omega)];exact h.t0) (by
   unfold Mc.event
   rw[hb]
   simp[(List.getElem?_eq_some_iff.1 h.t1).1])
  unfold Mc.event at this ⊢
  rw[hb,if_pos rfl]at this ⊢
  simp only[fv,List.map_append,List.map_cons,List.map_nil]at this
  exact this
theorem Mg (l:List Sm) (hl:l.length<4611686018427387904) (o:Int) (s:St):aF Tryz.prog qd [.slice .shared 13 (l.map bd), .int .i64 o] s (.int .i64 (firstM l o)) s:=by
 refine aF.pure ?_ (by simp[D.bL,D.ok,Tag.ok,pC]) rfl s
 unfold S0
 cases l with
 |nil=>
  have e:decide ((0:Int) > 0)=false:=rfl
  simp only[firstM,fZ,List.map_nil]
  refine aF.go Ak rfl fun B Q hB hQ=>?_
  have⟨hD,hY,hZ,gA⟩:=bP
  repeat' (first
 |simp only[go_sem,hD,hY,hZ,gA,e]
 |(with_reducible first|refine bo fun hc=>?_|refine bp fun hc=>?_|refine bq (fun hc=>?_) fun hc=>?_)<;>(try simp only[hc,bs,↓reduceIte]at h)<;>try simp only[hc]
 |(with_reducible refine aD hQ ?_;(try cases h);simp only[aU,aV,bH,bI,go_sem,hD,hY,hZ,gA,e];try exact cv)
 |(cases h;done))
 |cons a l=>
  have e:decide (((l.length+1:Nat):Int) > 0)=true:=by simp
  simp only[firstM,fZ,List.map_cons]
  refine aF.go Ak rfl fun B Q hB hQ=>?_
  have⟨hD,hY,hZ,gA⟩:=bP
  repeat' (first
 |simp only[go_sem,hD,hY,hZ,gA,e]
 |(with_reducible first|refine bo fun hc=>?_|refine bp fun hc=>?_|refine bq (fun hc=>?_) fun hc=>?_)<;>(try simp only[hc,bs,↓reduceIte]at h)<;>try simp only[hc]
 |(with_reducible refine aD hQ ?_;(try cases h);simp only[aU,aV,bH,bI,go_sem,hD,hY,hZ,gA,e];try exact cv)
 |(cases h;done))
end
end Go.Abs
namespace Go.Abs
set_option maxRecDepth 8000
open Go.Proofs
section
variable {p:Pg} {T W:List Int} {y:Lay} {m:Mc} {loc:List (Nat×List D)} {s:St}
theorem Kk {s:St} {o g z bytes:Nat} {t:Tag} {cs more r:List D} {len:Nat} (hs:s.ah[o]? = some (.int .i64 (g:Int)::(cs++more))) (hl:cs.length=len*z) (hm:(len+1)*(bytes+1)≤bA) :
 AU z bytes (.ep z o g len) (.slice t z [r]) s=some (.ep z o (g+1) (len+1),⟨s.ah.set o (.int .i64 ((g+1:Nat):Int)::(cs++r)),s.aw⟩):=by
 have ha:nO s o g=some (cs++more):=by unfold nO;rw[hs];simp
 simp only[AU,ha,List.length_singleton,hm,or_true,and_self,if_true,List.flatten_cons,List.flatten_nil,List.append_nil]
 rw[if_pos (by simp;omega), ← hl,List.take_append_of_le_length (Nat.le_refl _),List.take_length]
theorem Wk.ahm (z z':Nat):Wk (.ei z) (.slice .shared z' []):=fun M s v h=>by
 cases h with
 |ei _ a=>cases a with
  |none=>exact .iK _ _ _ rfl trivial
  |some a=>exact .lB _ _ _
theorem aF.ahn {P:Program} {f:FuncId} {a b:D} {d:D} {s:St} {v:D} {l:List Int} (hv:jE s v (l.map qM)) (h : ∀ s,aF P f [a,b, .slice .shared 1 (l.map bE)] s d s) (ha:D.ok 0 0 a=true) (hb:D.ok 0 0 b=true) (hd:d.flat=true) :
 aF P f [a,b,v] s d s:=by
 rcases hv with ⟨rfl,e⟩|⟨o,g,more,rfl,e⟩
 ·have:l = []:=by simpa using e
  subst this
  exact bM.pR (.cons (Wk.refl _) (.cons (Wk.refl _) (.cons (Wk.ahm 1 1) .nil))) (h s)
 ·have dY : ∀ l:List Int,(l.map bE).flatten=l.map qM:=fun l=>by
   induction l with
   |nil=>rfl
   |cons x l ih=>simp only[List.map_cons,List.flatten_cons,ih];rfl
  have hlen:(l.map qM).length=(l.map bE).length:=by simp
  rw[hlen]
  have e0:D.jx o g (l.map bE) [a,b, .ep 1 o g (l.map bE).length] = [a,b, .slice .shared 1 (l.map bE)]:=by
   simp only[D.jx,Jf _ _ _ a ha,Jf _ _ _ b hb,D.fJ,and_self,if_true]
  refine aF.ajG (k:=2) (rows:=l.map bE) rfl (by rw[dY];exact e) (by intro r hr;obtain⟨x,_,rfl⟩:=List.mem_map.1 hr;rfl) ?_ ?_ hd
  ·rw[e0];exact h S0
  ·rw[e0];simp[D.bL,D.ok,Tag.ok,ha,hb,iw]
structure mS (m:Mc) (fr:Fr) (r:List Fr):Prop where
 st:m.st=fr::r
 len:r.length<1000000
 names:fr.names.length<1000000
 vars:fr.vars.length<1000000
theorem mS.top {fr:Fr} {r:List Fr} (h:mS m fr r):m.top=fr:=by simp[Mc.top,h.st]
theorem SD {fr:Fr} {k c:Nat} {rest:List Nat} (h:fr.vars.drop k=c::rest) (m:Mc):(fr.vars.take (k+1)).map (fun c=>m.mem.getD c 0)=(fr.vars.take k).map (fun c=>m.mem.getD c 0)++ [m.mem.getD c 0]:=by
 have:=(drop_cons h).1
 rw[List.take_add_one,this]
 simp
theorem DO (h:Inv p T W y m loc s) {fr:Fr} {r:List Fr} (ht:mS m fr r) {x:Ex} (hx:x.size<1000000) (htx:x.texts) :
 bM Tryz.prog jS [.ptr 0 0, .agg (cj x)] s (fun d s'=>Rl p T W (zN (m.bC x).1) (m.bC x).2 (fun y'=>y' = {y with vd:=y'.vd}) loc d s'∧s'.aw=s.aw):=by
 have h1:=h.new (cj x)
 generalize XX:(s.ah.length,cj x)::loc=VI at h1
 obtain⟨o,ho,SE,c1⟩:=Pv h1 ht.st ht.len
 have hm:=h1.jF
 rw[fv]at hm
 have hl:=h1.uN
 simp only at hm hl
 rw[po]at SE
 have hvl:=ht.vars
 have Qj:=ht.names
 refine bM.uH ym rfl fun B Q hB hQ=>?_
 have⟨hD,hY,hZ,gA⟩:=bP
 -- the rounds
 have loop : ∀ (n k:Nat) (rest:List Nat) (vd:D) (s2:St),s2.aw=s.aw→rest.length=n→fr.vars.drop k=rest→Inv p T W {y with vd:=vd} m VI s2→jE s2 vd (((fr.vars.take k).map fun c=>m.mem.getD c 0).map qM)→
  bl Tryz.prog B 64 QRB (kE 0 (nR (kb Tryz.prog B 64 QRN Q) Q)) [(0, .ptr 0 0),(3, .ptr s.ah.length 0),(6, .ptr o 0),(24, .slice .shared 1 (fr.vars.map fun c=>fj (y.κ.getD c 0))),(25, .int .i64 (fr.vars.length:Int)),(26, .int .i64 (k:Int))] s2:=by
  intro n
  induction n with
  | zero=>
   intro k rest vd s2 vw A2 hd h2 ha
   have:rest = []:=List.eq_nil_of_length_eq_zero A2
   subst this
   have hD:=drop_nil hd
   have hk:fr.vars.take k=fr.vars:=List.take_of_length_le (List.drop_eq_nil_iff.1 hd)
   rw[hk]at ha
   have XY:(fr.vars.map fun c=>m.mem.getD c 0)=m.bV:=by unfold Mc.bV;rw[ht.top]
   rw[XY]at ha
   have jC:=h2.jF
   rw[fv]at jC
   have iL:=h2.uN
   have Hg:=(h2.frame 0 o fr ho (by rw[ht.st];rfl)).1
   rw[po]at Hg
   have tO:=(h2.loc (s.ah.length,cj x) (by rw[← XX];exact List.mem_cons_self ..)).1
   simp only at jC Hg tO
   have c2:aF Tryz.prog wF [.agg (cj x), .slice .shared 1 (fr.names.map encStr),vd] s2 (zN (x.bC fr.names m.bV)) s2:=
    aF.ahn ha (fun s=>VG (by omega) htx (by omega) (by rw[← XY,List.length_map];omega) s) (by simp[D.ok,lR]) (by simp[D.ok,Tag.ok,fb]) (by simp[D.flat,D.Ei])
   have hw:(m.bC x).1=x.bC fr.names m.bV:=by unfold Mc.bC;rw[ht.top]
   generalize hr:x.bC fr.names m.bV=q at *
   have tx:(m.bC x).2=if q.2 then m else {m with fin:=4}:=by unfold Mc.bC;rw[ht.top,hr]
   obtain⟨q1,q2⟩:=q
   have vT:Inv p T W {y with vd:=vd} {m with fin:=4} VI ⟨s2.ah.set 0 (fv p T W {y with vd:=vd} {m with fin:=4}),s2.aw⟩:=h2.tY (m':= {m with fin:=4}) rfl rfl h2.t0 h2.t1
   rw[fv]at vT
   have nE : ∀ q∈loc,q∈VI:=fun q mq=>by rw[← XX];exact List.mem_cons_of_mem _ mq
   refine bl.kT ?_
   cases q2
   ·repeat' (first
 |simp only[go_sem,hD,hY,hZ,gA,jC,iL,Hg,tO]
 |(with_reducible refine CU (c2) ?_)
 |(with_reducible first|refine bo fun hc=>?_|refine bp fun hc=>?_|refine bq (fun hc=>?_) fun hc=>?_)<;>(try simp only[hc,bs,↓reduceIte]at h)<;>try simp only[hc]
 |(with_reducible refine aD hQ ?_;(try cases h);simp only[aU,aV,bH,bI,go_sem,hD,hY,hZ,gA,jC,iL,Hg,tO];try exact cv)
 |(cases h;replace h:=hr;clear hr;(try simp only[bs,↓reduceIte]at h))
 | (cases h;done))
    (refine gL hQ ?_;simp only[aU,aV,bH,bI,go_sem])
    refine⟨⟨by rw[hw],{y with vd:=vd},rfl, ?_⟩,vw⟩
    rw[tx]
    exact vT.sub nE
   ·repeat' (first
 |simp only[go_sem,hD,hY,hZ,gA,jC,iL,Hg,tO]
 |(with_reducible refine CU (c2) ?_)
 |(with_reducible first|refine bo fun hc=>?_|refine bp fun hc=>?_|refine bq (fun hc=>?_) fun hc=>?_)<;>(try simp only[hc,bs,↓reduceIte]at h)<;>try simp only[hc]
 |(with_reducible refine aD hQ ?_;(try cases h);simp only[aU,aV,bH,bI,go_sem,hD,hY,hZ,gA,jC,iL,Hg,tO];try exact cv)
 |(cases h;replace h:=hr;clear hr;(try simp only[bs,↓reduceIte]at h))
 | (cases h;done))
    (refine gL hQ ?_;simp only[aU,aV,bH,bI,go_sem])
    refine⟨⟨by rw[hw],{y with vd:=vd},rfl, ?_⟩,vw⟩
    rw[tx]
    exact h2.sub nE
  | succ n ih=>
   intro k rest vd s2 vw A2 hd h2 ha
   cases rest with
   |nil=>cases A2
   | cons c rest=>
    obtain⟨hY,g2,hD,g4⟩:=drop_cons hd
    have bO:k<4611686018427387904:=by omega
    have SF:c<m.mem.length:=(h2.frame 0 o fr ho (by rw[ht.st];rfl)).2.2 c (List.mem_of_getElem? hY)
    have hκ:y.κ[c]? = some (y.κ.getD c 0):=by
     rw[List.getD_eq_getElem?_getD,List.getElem?_eq_getElem (by have:=h2.len;simp only at this;omega)];rfl
    have iE:=h2.cell c _ _ hκ (by rw[List.getElem?_eq_getElem SF])
    have pQ:m.mem[c] = m.mem.getD c 0:=by rw[List.getD_eq_getElem?_getD,List.getElem?_eq_getElem SF];rfl
    rw[pQ]at iE
    generalize aho:m.mem.getD c 0=v at iE
    have jC:=h2.jF
    rw[fv]at jC
    have iL:=h2.uN
    simp only at jC
    have hlen:k<1000000:=by have:=ht.vars;omega
    have hvt:((fr.vars.take (k+1)).map fun c=>m.mem.getD c 0).map qM=((fr.vars.take k).map fun c=>m.mem.getD c 0).map qM++ [.int .i64 v]:=by
     rw[SD hd m,aho,List.map_append];rfl
    rcases ha with ⟨rfl,e⟩|⟨vo,g,more,rfl,e⟩
    ·have eK:=Jd (z:=1) (bytes:=8) .full [.int .i64 v] s2 (by unfold bA;omega)
     have h3:=h2.Pr (vd:= .ep 1 s2.ah.length 0 1) (s1:=⟨s2.ah++ [[.int .i64 ((0:Nat):Int), .int .i64 v]],s2.aw⟩) (fun o r e _=>by rw[List.getElem?_append_left (fV e)];exact e)
      ⟨[v], .inr ⟨_,0,[],rfl,by simp[qM]⟩⟩ (.inr (.inr rfl)) rfl
     rw[fv]at h3
     simp only at h3
     refine bl.kT ?_
     have hA : ∀ e:List (List D),(s2.ah++e)[0]? = s2.ah[0]? :=fun e=>List.getElem?_append_left iL
     repeat' (first
 |simp only[go_sem,hD,hY,hZ,gA,jC,iL,iE,hY,fj,eK,Option.map_some,hA]
 |(with_reducible first|refine bo fun hc=>?_|refine bp fun hc=>?_|refine bq (fun hc=>?_) fun hc=>?_)<;>(try simp only[hc,bs,↓reduceIte]at h)<;>try simp only[hc]
 |(with_reducible refine aD hQ ?_;(try cases h);simp only[aU,aV,bH,bI,go_sem,hD,hY,hZ,gA,jC,iL,iE,hY,fj,eK,Option.map_some,hA];try exact cv)
 |(cases h;replace h:=hr;clear hr;(try simp only[bs,↓reduceIte]at h))
 | (cases h;done))
     refine bl.pL ?_ (ih (k+1) rest _ _ vw (by simpa using A2) g2 h3 ?_)
     ·simp only [go_sem,aI bO,fj]
      repeat' (first|exact Ok.out|with_reducible refine iZ ?_ ?_)
     ·rw [hvt,e]
      refine .inr ⟨_,0,[],rfl, ?_⟩
      show((s2.ah++ [_]).set 0 _)[s2.ah.length]? = _
      rw[List.getElem?_set_ne (by omega)]
      simp
    ·have oK:(((fr.vars.take k).map fun c=>m.mem.getD c 0).map qM).length=k:=by simp;omega
     have eK:=Kk (t:= .full) (bytes:=8) (r:= [.int .i64 v]) e (len:=k) (z:=1) (by rw[oK,Nat.mul_one]) (by unfold bA;omega)
     rw[oK]at jC h2
     have Hh:0≠vo:=fun e'=>(h2.vW (o:=vo) (by simp[D.arr])) e'.symm
     have dh:jE ⟨s2.ah.set vo (.int .i64 ((g+1:Nat):Int)::(((fr.vars.take k).map fun c=>m.mem.getD c 0).map qM++ [.int .i64 v])),s2.aw⟩ (.ep 1 vo (g+1) (k+1)) (((fr.vars.take k).map fun c=>m.mem.getD c 0).map qM++ [.int .i64 v]):=
      .inr ⟨vo,g+1,[],by simp;omega,by simp[fV e]⟩
     have h3:=h2.Pr (vd:= .ep 1 vo (g+1) (k+1)) (s1:=⟨s2.ah.set vo (.int .i64 ((g+1:Nat):Int)::(((fr.vars.take k).map fun c=>m.mem.getD c 0).map qM++ [.int .i64 v])),s2.aw⟩) (fun o r e hn=>by rw[List.getElem?_set_ne (fun e'=>hn (by rw[← e'];simp[D.arr]))];exact e)
      ⟨(fr.vars.take (k+1)).map fun c=>m.mem.getD c 0,by rw[hvt];exact dh⟩ (.inl rfl) rfl
     rw[fv]at h3
     simp only at h3
     refine bl.kT ?_
     have hA : ∀ e:List D,(s2.ah.set vo e)[0]? = s2.ah[0]? :=fun e=>List.getElem?_set_ne (Ne.symm Hh)
     repeat' (first
 |simp only[go_sem,hD,hY,hZ,gA,jC,iL,iE,hY,fj,eK,Option.map_some,hA]
 |(with_reducible first|refine bo fun hc=>?_|refine bp fun hc=>?_|refine bq (fun hc=>?_) fun hc=>?_)<;>(try simp only[hc,bs,↓reduceIte]at h)<;>try simp only[hc]
 |(with_reducible refine aD hQ ?_;(try cases h);simp only[aU,aV,bH,bI,go_sem,hD,hY,hZ,gA,jC,iL,iE,hY,fj,eK,Option.map_some,hA];try exact cv)
 |(cases h;replace h:=hr;clear hr;(try simp only[bs,↓reduceIte]at h))
 |(cases h;done))
     refine bl.pL ?_ (ih (k+1) rest _ _ vw (by simpa using A2) g2 h3 ?_)
     ·simp only [go_sem,aI bO,fj]
      repeat' (first|exact Ok.out|with_reducible refine iZ ?_ ?_)
     ·rw [hvt]
      exact dh.keep fun o mo=>by
       have:o=vo:=by simpa[D.arr]using mo
       subst this
       show(List.set _ 0 _)[o]? = _
       rw[List.getElem?_set_ne Hh]
 -- the values' slice is emptied
 obtain⟨l,hv⟩:=h1.bV
 have h0:((s.ah++ [cj x])[0]?).isSome=true:=by rw[hm];rfl
 rcases hv with ⟨e,_⟩|⟨vo,g,more,e,e2⟩
 ·rw [e]at hm
  have uy:xc (.ei 1) none (some (.int .i64 0))=some (.ei 1):=by simp[xc,sY,sZ]
  have h3:=h1.Pr (vd:= .ei 1) (s1:=⟨s.ah++ [cj x],s.aw⟩) (fun _ _ e _=>e) ⟨[], .inl ⟨rfl,rfl⟩⟩ (.inl (by rw[e])) rfl
  have BS:=(h3.frame 0 o fr ho (by rw[ht.st];rfl)).1
  rw[fv]at h3 BS
  rw[po]at BS
  simp only at h3 BS
  repeat' (first
 |simp only[go_sem,hD,hY,hZ,gA,hm,hl,SE,uy,BS]
 |(with_reducible refine CU (c1) ?_)
 |(with_reducible first|refine bo fun hc=>?_|refine bp fun hc=>?_|refine bq (fun hc=>?_) fun hc=>?_)<;>(try simp only[hc,bs,↓reduceIte]at h)<;>try simp only[hc]
 |(with_reducible refine aD hQ ?_;(try cases h);simp only[aU,aV,bH,bI,go_sem,hD,hY,hZ,gA,hm,hl,SE,uy,BS];try exact cv)
 |(cases h;replace h:=hr;clear hr;(try simp only[bs,↓reduceIte]at h))
 |(cases h;done))
  refine bl.pL ?_ (loop _ 0 fr.vars _ _ rfl rfl rfl h3 (.inl ⟨rfl,rfl⟩))
  simp only[go_sem,fj]
  repeat' (first|exact Ok.out|with_reducible refine iZ ?_ ?_)
 ·rw [List.length_map]at e
  rw[e]at hm
  have Hh:0≠vo:=fun e'=>(h1.vW (o:=vo) (by rw[e];simp[D.arr])) e'.symm
  have uy:xc (.ep 1 vo g l.length) none (some (.int .i64 0))=some (.ep 1 vo g 0):=by simp[xc,sY,sZ]
  have h3:=h1.Pr (vd:= .ep 1 vo g 0) (s1:=⟨s.ah++ [cj x],s.aw⟩) (fun _ _ e _=>e) ⟨[], .inr ⟨vo,g,l.map qM++more,rfl,e2⟩⟩ (.inl (by rw[e];rfl)) rfl
  have BS:=(h3.frame 0 o fr ho (by rw[ht.st];rfl)).1
  rw[fv]at h3 BS
  rw[po]at BS
  simp only at h3 BS
  repeat' (first
 |simp only[go_sem,hD,hY,hZ,gA,hm,hl,SE,uy,BS]
 |(with_reducible refine CU (c1) ?_)
 |(with_reducible first|refine bo fun hc=>?_|refine bp fun hc=>?_|refine bq (fun hc=>?_) fun hc=>?_)<;>(try simp only[hc,bs,↓reduceIte]at h)<;>try simp only[hc]
 |(with_reducible refine aD hQ ?_;(try cases h);simp only[aU,aV,bH,bI,go_sem,hD,hY,hZ,gA,hm,hl,SE,uy,BS];try exact cv)
 |(cases h;replace h:=hr;clear hr;(try simp only[bs,↓reduceIte]at h))
 | (cases h;done))
  refine bl.pL ?_ (loop _ 0 fr.vars _ _ rfl rfl rfl h3 (.inr ⟨vo,g,l.map qM++more,rfl, ?_⟩))
  ·simp only [go_sem,fj]
   repeat' (first|exact Ok.out|with_reducible refine iZ ?_ ?_)
  ·show(List.set _ 0 _)[vo]? = _
   rw[List.getElem?_set_ne Hh];exact e2
end
end Go.Abs
namespace Go.Abs
set_option maxRecDepth 8000
open Go.Proofs
section
variable {p:Pg} {T W:List Int} {y:Lay} {m:Mc} {loc:List (Nat×List D)} {s:St}
theorem Di:Wk (.slice .full 0 []) (.slice .shared 1 (([] : List Int).map bE)):=Wk.nil _ _ _
theorem vY (h:Inv p T W y m loc s) (hW:W.length<1000000) (ht:m.trace.length<2000000) (id:Int) :
 bM Tryz.prog ek [.ptr 0 0, .int .i64 id, .slice .full 0 []] s (Rl p T W (.tuple []) (m.event W id []) (· = y) loc):=
 bM.pR (.cons (Wk.refl _) (.cons (Wk.refl _) (.cons Di .nil))) (Mf h hW ht id [])
theorem DP (h:Inv p T W y m loc s) (hW:W.length<1000000) (ht:m.trace.length<2000000) (id n:Int) :
 bM Tryz.prog ek [.ptr 0 0, .int .i64 id, .slice .full 1 [[.int .i64 n]]] s (Rl p T W (.tuple []) (m.event W id [n]) (· = y) loc):=
 bM.pR (.cons (Wk.refl _) (.cons (Wk.refl _) (.cons (Wk.shared _ _ _) .nil))) (Mf h hW ht id [n])
theorem ZT (h:Inv p T W y m loc s) {fr:Fr} {r:List Fr} (ht:mS m fr r) {v:Sm} (hv:v.nw) (hW:W.length<1000000) (htr:m.trace.length<2000000) :
 bM Tryz.prog oB [.ptr 0 0, .agg (bd v)] s (Rl p T W (.int .i64 (m.fz W v).1) (m.fz W v).2 (fun y'=>y' = {y with vd:=y'.vd}) loc):=by
 have h1:=h.new (bd v)
 have hx:(s.ah++ [bd v])[s.ah.length]? = some (bd v):=by simp
 have nE : ∀ q∈loc,q∈(s.ah.length,bd v)::loc:=fun q mq=>List.mem_cons_of_mem _ mq
 refine bM.uH yj rfl fun B Q hB hQ=>?_
 have⟨hD,hY,hZ,gA⟩:=bP
 rcases Bool.eq_false_or_eq_true v.has with b|b
 ·have c1:=DO h1 ht (x:=v.x) (by have:=hv.2.2;omega) hv.1
  repeat' (first
 |simp only[go_sem,hD,hY,hZ,gA,hx,b]
 |(with_reducible first|refine bo fun hc=>?_|refine bp fun hc=>?_|refine bq (fun hc=>?_) fun hc=>?_)<;>(try simp only[hc,bs,↓reduceIte]at h)<;>try simp only[hc]
 |(with_reducible refine aD hQ ?_;(try cases h);simp only[aU,aV,bH,bI,go_sem,hD,hY,hZ,gA,hx,b];try exact cv)
 | (cases h;done))
  refine CR c1 fun d s2 h2=>?_
  obtain⟨⟨rfl,y2,vZ,h2⟩,_⟩:=h2
  have tO:=(h2.loc (s.ah.length,bd v) (List.mem_cons_self ..)).1
  have hw:=gG m v.x
  simp only at tO
  rcases Bool.eq_false_or_eq_true (m.bC v.x).1.2 with b2|b2
  ·have c2:=DP h2 hW (by rw [hw.2.2.2.2.2];exact htr) v.id (m.bC v.x).1.1
   repeat' (first
 |simp only[go_sem,hD,hY,hZ,gA,tO,b2]
 |(with_reducible first|refine bo fun hc=>?_|refine bp fun hc=>?_|refine bq (fun hc=>?_) fun hc=>?_)<;>(try simp only[hc,bs,↓reduceIte]at h)<;>try simp only[hc]
 |(with_reducible refine aD hQ ?_;(try cases h);simp only[aU,aV,bH,bI,go_sem,hD,hY,hZ,gA,tO,b2];try exact cv)
 | (cases h;done))
   refine CR c2 fun d s3 h3=>?_
   obtain⟨rfl,y3,rfl,h3⟩:=h3
   repeat' (first
 |simp only[go_sem,hD,hY,hZ,gA]
 |(with_reducible first|refine bo fun hc=>?_|refine bp fun hc=>?_|refine bq (fun hc=>?_) fun hc=>?_)<;>(try simp only[hc,bs,↓reduceIte]at h)<;>try simp only[hc]
 |(with_reducible refine aD hQ ?_;exact ga)
 | (cases h;done))
   (refine gL hQ ?_;simp only[aU,aV,bH,bI,go_sem])
   refine⟨by simp only[Mc.fz,b,if_true],y3,vZ, ?_⟩
   simp only[Mc.fz,b,b2,if_true]
   exact h3.sub nE
  ·repeat' (first
 |simp only[go_sem,hD,hY,hZ,gA,tO,b2]
 |(with_reducible first|refine bo fun hc=>?_|refine bp fun hc=>?_|refine bq (fun hc=>?_) fun hc=>?_)<;>(try simp only[hc,bs,↓reduceIte]at h)<;>try simp only[hc]
 |(with_reducible refine aD hQ ?_;(try cases h);simp only[aU,aV,bH,bI,go_sem,hD,hY,hZ,gA,tO,b2];try exact cv)
 | (cases h;done))
   (refine gL hQ ?_;simp only[aU,aV,bH,bI,go_sem])
   refine⟨by simp only[Mc.fz,b,if_true],y2,vZ, ?_⟩
   simp only[Mc.fz,b,b2,if_true,Bool.false_eq_true,if_false]
   exact h2.sub nE
 ·have c1:=vY h1 hW htr v.id
  repeat' (first
 |simp only[go_sem,hD,hY,hZ,gA,hx,b]
 |(with_reducible first|refine bo fun hc=>?_|refine bp fun hc=>?_|refine bq (fun hc=>?_) fun hc=>?_)<;>(try simp only[hc,bs,↓reduceIte]at h)<;>try simp only[hc]
 |(with_reducible refine aD hQ ?_;(try cases h);simp only[aU,aV,bH,bI,go_sem,hD,hY,hZ,gA,hx,b];try exact cv)
 |(cases h;done))
  refine CR c1 fun d s2 h2=>?_
  obtain⟨rfl,y2,rfl,h2⟩:=h2
  repeat' (first
 |simp only[go_sem,hD,hY,hZ,gA]
 |(with_reducible first|refine bo fun hc=>?_|refine bp fun hc=>?_|refine bq (fun hc=>?_) fun hc=>?_)<;>(try simp only[hc,bs,↓reduceIte]at h)<;>try simp only[hc]
 |(with_reducible refine aD hQ ?_;exact ga)
 |(cases h;done))
  (refine gL hQ ?_;simp only[aU,aV,bH,bI,go_sem])
  refine⟨by simp only[Mc.fz,b,Bool.false_eq_true,if_false],y2,rfl, ?_⟩
  simp only[Mc.fz,b,Bool.false_eq_true,if_false]
  exact h2.sub nE
end
end Go.Abs
namespace Go.Abs
set_option maxRecDepth 8000
open Go.Proofs
section
variable {p:Pg} {T W:List Int} {y:Lay} {m:Mc} {loc:List (Nat×List D)} {s:St}
theorem gy.setAt : ∀ {l:List (List D)} {i:Nat} {r r':List D},l[i]? = some r→ju r r'→gy l (l.set i r')
 |a::l,0,r,r',h,w=>by simp at h;subst h;exact .cons w (gy.refl l)
 |a::l,i+1,r,r',h,w=> .cons (ju.refl a) (gy.setAt (l:=l) (by simpa using h) w)
def Lay.push (y:Lay) (n K:Nat) (sd:D):Lay:= {y with κ:=y.κ++(List.range K).map (n+2 + ·),φ:=(n+1)::y.φ,sd:=sd}
theorem VJ {κ:List Nat} {n K j:Nat} (hj:j<K):(κ++(List.range K).map (n+2 + ·)).getD (κ.length+j) 0=n+2+j:=by
 rw[List.getD_eq_getElem?_getD,List.getElem?_append_right (by omega),show κ.length+j - κ.length=j by omega]
 simp[hj]
theorem DQ {κ e:List Nat} {c:Nat} (hc:c<κ.length):(κ++e).getD c 0=κ.getD c 0:=by
 rw[List.getD_eq_getElem?_getD,List.getD_eq_getElem?_getD,List.getElem?_append_left hc]
theorem Pw {κ:List Nat} {n:Nat} (h:n≤κ.length):(List.range n).map (fun c=>κ.getD c 0)=κ.take n:=by
 apply List.ext_getElem?
 intro i
 simp only[List.getElem?_map]
 by_cases hi:i<n
 ·rw [List.getElem?_range hi,List.getElem?_take_of_lt hi,List.getElem?_eq_getElem (show i<κ.length by omega)]
  simp[List.getD_eq_getElem?_getD,List.getElem?_eq_getElem (show i<κ.length by omega)]
 ·rw[List.getElem?_eq_none (by simp;omega),List.getElem?_eq_none (by simp;omega)];rfl
theorem Inv.push (h:Inv p T W y m loc s) {K:Nat} {sd:D} {fr:Fr} {s':St} (hg:p.globals.length≤m.mem.length) (hfv : ∀ c∈fr.vars,c<m.mem.length+K)
 (k : ∀ (o:Nat) (r:List D),s.ah[o]? = some r→o≠0→o∉y.sd.arr→s'.ah[o]? = some r)
 (k0:s'.ah[0]? = some (fv p T W (y.push s.ah.length K sd) m)) (kc : ∀ j,j<K→s'.ah[s.ah.length+2+j]? = some [.int .i64 0])
 (kf:s'.ah[s.ah.length+1]? = some (po (y.push s.ah.length K sd).κ fr)) (ks:jE s' sd ((y.push s.ah.length K sd).φ.reverse.map xI)) (rZ:sd.arr=y.sd.arr∨sd.arr = [s.ah.length+2+K])
 (t0:s'.aw[0]? = s.aw[0]?) (t1:s'.aw[1]? = s.aw[1]?) :
 Inv p T W (y.push s.ah.length K sd) {m with st:=fr::m.st,mem:=m.mem++List.replicate K 0} loc s':=by
 have Ah:=h.own
 rw[Lay.own,List.nodup_cons,List.nodup_append,List.nodup_append]at Ah
 obtain⟨n0,nκ,⟨ns,nv,XV⟩,Ki⟩:=Ah
 have lt:=h.tM
 have ltκ : ∀ c∈y.κ,c<s.ah.length:=fun c mc=>lt c (by simp[Lay.own,mc])
 have lts : ∀ c∈y.sd.arr,c<s.ah.length:=fun c mc=>lt c (by simp[Lay.own,mc])
 have ltv : ∀ c∈y.vd.arr,c<s.ah.length:=fun c mc=>lt c (by simp[Lay.own,mc])
 have uN:=h.uN
 have Kj : ∀ o,o∈(y.push s.ah.length K sd).own→o∈y.own∨(s.ah.length+2≤o∧o≤s.ah.length+2+K):=fun o mo=>by
  simp only[Lay.own,Lay.push,List.mem_cons,List.mem_append,List.mem_map,List.mem_range]at mo ⊢
  rcases mo with rfl|(mo|⟨j,hj,rfl⟩)|mo|mo
  ·exact .inl (.inl rfl)
  ·exact .inl (.inr (.inl mo))
  ·exact .inr ⟨by omega,by omega⟩
  ·rcases rZ with e | e
   ·rw[e]at mo;exact .inl (.inr (.inr (.inl mo)))
   ·rw[e]at mo;have:=List.mem_singleton.1 mo;exact .inr ⟨by omega,by omega⟩
  ·exact .inl (.inr (.inr (.inr mo)))
 have g : ∀ {o:Nat} {r:List D},s.ah[o]? = some r→o∉y.own→s'.ah[o]? = some r∧o∉(y.push s.ah.length K sd).own:=fun {o r} e hn=>by
  refine⟨k o r e (fun e0=>hn (by rw[e0];simp[Lay.own])) (fun ms=>hn (by simp[Lay.own,ms])),fun mo=>?_⟩
  rcases Kj o mo with mo|mo
  ·exact hn mo
  ·have:=fV e;omega
 have hlen:=h.len
 refine⟨k0,by rw[t0];exact h.t0,by rw[t1];exact h.t1,by simp[Lay.push,hlen],fun i c v e1 e2=>?_,by simp[Lay.push,h.sA],fun i o Mh e1 e2=>?_,ks, ?_, ?_,fun q mq=>g (h.loc q mq).1 (h.loc q mq).2⟩
 ·simp only [Lay.push]at e1
  dsimp only at e2
  rcases Nat.lt_or_ge i y.κ.length with hi|hi
  ·rw [List.getElem?_append_left hi]at e1
   rw[List.getElem?_append_left (by omega)]at e2
   have hc:=List.mem_of_getElem? e1
   exact k c _ (h.cell i c v e1 e2) (h.vW (by simp[hc])) (fun ms=>Ki c hc c (List.mem_append_left _ ms) rfl)
  ·rw [List.getElem?_append_right hi]at e1
   rw[List.getElem?_append_right (by omega)]at e2
   have hD:=(List.getElem?_eq_some_iff.1 e1).1
   simp only[List.length_map,List.length_range]at hD
   rw[List.getElem?_map,List.getElem?_range hD]at e1
   rw[List.getElem?_replicate_of_lt (by omega)]at e2
   simp only[Option.map_some,Option.some.injEq]at e1 e2
   subst e1 e2
   exact kc _ hD
 ·cases i with
  |zero=>
   simp only[Lay.push,List.getElem?_cons_zero,Option.some.injEq]at e1 e2
   subst e1 e2
   refine⟨kf,fun mo=>?_,fun c mc=>by simp only[List.length_append,List.length_replicate];exact hfv c mc⟩
   rcases Kj _ mo with mo|mo
   ·have:=lt _ mo;omega
   ·omega
  |succ i=>
   simp only[Lay.push,List.getElem?_cons_succ]at e1 e2
   obtain⟨f1,f2,f3⟩:=h.frame i o Mh e1 e2
   obtain⟨f4,f5⟩:=g f1 f2
   exact⟨by simp only[Lay.push];rw[Hf (by rw[hlen];exact f3)];exact f4,f5,fun c mc=>by have:=f3 c mc;simp only[List.length_append];omega⟩
 ·obtain⟨l,hl⟩:=h.bV
  refine⟨l,hl.keep fun o mo=>?_⟩
  rw[List.getElem?_eq_getElem (ltv o mo)]
  exact k o _ (List.getElem?_eq_getElem _) (h.vW (by simp[mo])) (fun ms=>XV o ms o mo rfl)
 ·have SG:((List.range K).map (s.ah.length+2 + ·)).Nodup:=by
   rw[List.nodup_iff_pairwise_ne,List.pairwise_map]
   exact List.Pairwise.imp (fun h=>by omega) (List.nodup_iff_pairwise_ne.1 List.nodup_range)
  have Fp : ∀ o∈(List.range K).map (s.ah.length+2 + ·),s.ah.length+2≤o∧o<s.ah.length+2+K:=fun o mo=>by
   obtain⟨j,hj,rfl⟩:=List.mem_map.1 mo
   have:=List.mem_range.1 hj;exact⟨by omega,by omega⟩
  have Px : ∀ o∈sd.arr,(o∈y.sd.arr)∨o=s.ah.length+2+K:=fun o mo=>by
   rcases rZ with e|e
   ·rw[e]at mo;exact .inl mo
   ·rw[e]at mo;exact .inr (List.mem_singleton.1 mo)
  simp only[Lay.own,Lay.push]
  rw[List.nodup_cons,List.nodup_append,List.nodup_append,List.nodup_append]
  refine⟨fun mo=>?_,⟨nκ,SG,fun a ma b mb e=>?_⟩,⟨?_,nv,fun a ma b mb e=>?_⟩,fun a ma b mb e=>?_⟩
  ·simp only [List.mem_append]at mo
   rcases mo with (mo|mo)|mo|mo
   ·exact n0 (by simp[mo])
   ·have:=Fp _ mo;omega
   ·rcases Px _ mo with mo | mo
    ·exact n0 (by simp[mo])
    ·omega
   ·exact n0 (by simp[mo])
  ·have:=ltκ a ma;have:=Fp b mb;omega
  ·rcases rZ with e | e <;> rw [e]
   ·exact ns
   ·simp
  ·rcases Px a ma with ma | ma
   ·exact XV a ma b mb e
   ·have:=ltv b mb;omega
  ·rcases List.mem_append.1 ma with ma | ma
   ·rcases List.mem_append.1 mb with mb | mb
    ·rcases Px b mb with mb | mb
     ·exact Ki a ma b (List.mem_append_left _ mb) e
     ·have:=ltκ a ma;omega
    ·exact Ki a ma b (List.mem_append_right _ mb) e
   ·have:=Fp a ma
    rcases List.mem_append.1 mb with mb|mb
    ·rcases Px b mb with mb | mb
     ·have:=lts b mb;omega
     ·omega
    ·have:=ltv b mb;omega
theorem ZU {gl ps:List (List D)} {bytes:Nat} (hb:(gl.length+ps.length)*(bytes+1)≤bA) (ts:List (Option Nat)) : ∃ (g1 g2:Tag) (z1 z2:Nat) (t1 t2:List (Option Nat)),(∀ os,ix 1 bytes (.slice .full 0 []) (.slice .shared 1 gl) ⟨os,ts⟩=some (.slice g1 z1 gl,⟨os,t1⟩))∧
 (∀ os,ix 1 bytes (.slice g1 z1 gl) (.slice .shared 1 ps) ⟨os,t1⟩=some (.slice g2 z2 (gl++ps),⟨os,t2⟩))∧
 ((g2 = .full∧t2=ts∧gl++ps = [])∨(g2 = .tok ts.length∧z2=1∧t2=ts++ [some (gl++ps).length])):=by
 have h1:gl.length*(bytes+1)≤bA:=Nat.le_trans (Nat.mul_le_mul_right _ (Nat.le_add_right _ _)) hb
 have h2:ps.length*(bytes+1)≤bA:=Nat.le_trans (Nat.mul_le_mul_right _ (Nat.le_add_left _ _)) hb
 cases gl with
 |nil=>
  cases ps with
  |nil=>exact⟨.full, .full,0,0,ts,ts,fun os=>zP os ts,fun os=>zP os ts, .inl ⟨rfl,rfl,rfl⟩⟩
  |cons a ps=>exact⟨.full, .tok ts.length,0,1,ts,_,fun os=>zP os ts,fun os=>zO (by simp) h2 os ts, .inr ⟨rfl,rfl,rfl⟩⟩
 |cons a gl=>
  refine⟨.tok ts.length, .tok ts.length,1,1,ts++ [some (a::gl).length],ts++ [some (a::gl++ps).length],fun os=>zO (by simp) h1 os ts,fun os=>?_, .inr ⟨rfl,rfl,rfl⟩⟩
  rw[nV (size:=1) hb (by simp)]
  simp;omega
theorem Mi (h:Inv p T W y m loc s) (hp:p.iM) (hb:p.may=true) {i:Nat} {f:Pc} (hf:p.procs[i]? = some f) (ahp:p.find f.name=some f) (ji:m.st.length<1000000) {l:List Nat} (hl : ∀ c∈l,c<m.mem.length) (wW:l.length<1000000)
 (hg:p.globals.length≤m.mem.length) (call:Int) :
 ∃ y' s',aF Tryz.prog jl [.ptr 0 0, .int .i64 (i:Int), .slice .shared 1 (l.map fun c=>fj (y.κ.getD c 0)), .int .i64 call] s (.int .i64 (m.open p (i:Int) l call).1) s'∧Inv p T W y' (m.open p (i:Int) l call).2 loc s':=by
 have hm:=h.jF
 rw[fv]at hm
 have qO:=h.uN
 obtain⟨rj,qU,qT⟩:=hp.procs
 have vQ:=hp.small (List.mem_of_getElem? hf)
 have cV:=fun s=>adQ hp hb ahp s
 have cF:=fun s=>ZS hb hf s
 have hi:i<p.procs.length:=(List.getElem?_eq_some_iff.1 hf).1
 obtain⟨g1,g2,z1,z2,t1,t2,a1,a2,a3⟩:=ZU (gl:=(y.κ.take p.globals.length).map fj) (ps:=l.map fun c=>fj (y.κ.getD c 0)) (bytes:=8) (by simp only[List.length_map,List.length_take];unfold bA;omega) s.aw
 have hA : ∀ e:List (List D),(s.ah++e)[0]? = s.ah[0]? :=fun e=>List.getElem?_append_left qO
 have n0 : ∀ e1 e2:List (List D),(s.ah++e1++e2)[0]? = s.ah[0]? :=fun e1 e2=>by rw[List.append_assoc];exact hA _
 have n1 : ∀ a b:List D,(s.ah++ [a]++ [b])[s.ah.length+1]? = some b:=fun a b=>by simp
 have n2 : ∀ a b:List D,(s.ah++ [a]++ [b])[s.ah.length]? = some a:=fun a b=>by simp
 have n3 : ∀ a b c:List D,(s.ah++ [a]++ [b]).set (s.ah.length+1) c=s.ah++ [a]++ [c]:=fun a b c=>by simp[List.append_assoc,List.set_append_right]
 have n4 : ∀ a:List D,(s.ah++ [a])[s.ah.length]? = some a:=fun a=>by simp
 have n5 : ∀ a b:List D,(s.ah++ [a]).set s.ah.length b=s.ah++ [b]:=fun a b=>by simp
 have hpc:cq f = [.str f.name, .slice .shared 2 (f.params.map iG), .slice .shared 1 (f.vars.map encStr), .slice .shared 13 (f.body.map bd), .slice .shared 1 (f.fin.map encStr)]:=rfl
 generalize hn:s.ah.length=n at *
 have Lx:(m.open p (i:Int) l call).1=fZ f.body (-1)∧(m.open p (i:Int) l call).2 = {m with st:=⟨(i:Int),p.globals++f.own,List.range p.globals.length++l++(List.range f.vars.length).map (m.mem.length + ·),call⟩::m.st,mem:=m.mem++List.replicate f.vars.length 0}:=by
  unfold Mc.open
  rw[Int.toNat_natCast,hf]
  exact⟨rfl,rfl⟩
 rw[Lx.1,Lx.2]
 generalize ki:(y.κ.take p.globals.length).map fj++l.map (fun c=>fj (y.κ.getD c 0))=kl at *
 have hgr:kl.length<2000000:=by rw[← ki];simp only[List.length_append,List.length_map,List.length_take];omega
 have hvl:=vQ.vars
 -- the states of the rounds
 let fr:Nat→List D:=fun k=> [.int .i64 (i:Int), .slice .shared 1 ((p.globals++f.own).map encStr), .slice (.tok s.aw.length) 1 (kl++(List.range k).map (fun j=>fj (n+2+j))), .int .i64 call]
 obtain⟨O,hO⟩ : ∃ O:Nat→List (List D),∀ k,O k=s.ah++ [cq f]++ [fr k]++List.replicate k [.int .i64 0]:=⟨_,fun _=>rfl⟩
 have oL : ∀ k,(O k).length=n+2+k:=fun k=>by rw[hO];simp[hn];omega
 have VL : ∀ k o,o<n→(O k)[o]? = s.ah[o]? :=fun k o ho=>by rw[hO,List.append_assoc,List.append_assoc,List.getElem?_append_left (by omega)]
 have oF : ∀ k,(O k)[n+1]? = some (fr k):=fun k=>by rw[hO,List.getElem?_append_left (by simp[hn])];simp[hn]
 have oC : ∀ k j,j<k→(O k)[n+2+j]? = some [.int .i64 0]:=fun k j hj=>by
  rw[hO,List.getElem?_append_right (by simp only[List.length_append,List.length_singleton,hn];omega)]
  simp only[List.length_append,List.length_singleton,hn]
  rw[show n+2+j - (n+1+1)=j by omega,List.getElem?_replicate_of_lt hj]
 have oF' : ∀ k e,(O k++e)[n+1]? = some (fr k):=fun k e=>by rw[List.getElem?_append_left (by rw[oL];omega)];exact oF k
 have o0 : ∀ k,(O k)[0]? = s.ah[0]? :=fun k=>VL k 0 qO
 have o0' : ∀ k e,(O k++e)[0]? = s.ah[0]? :=fun k e=>by rw[List.getElem?_append_left (by rw[oL];omega)];exact o0 k
 have oS : ∀ k,(O k++ [[D.int .i64 0]]).set (n+1) (fr (k+1))=O (k+1):=fun k=>by
  rw[hO,hO,List.replicate_succ']
  simp only[List.append_assoc]
  rw[List.set_append_right _ _ (by omega),hn,show n+1 - n=1 by omega]
  rfl
 have zR:(List.range p.globals.length++l++(List.range f.vars.length).map (m.mem.length + ·)).map (fun c=>fj ((y.push n f.vars.length .dR).κ.getD c 0))=kl++(List.range f.vars.length).map (fun j=>fj (n+2+j)):=by
  simp only[List.map_append,List.map_map,Lay.push, ← ki]
  congr 1
  ·congr 1
   ·rw [← Pw (by rw [h.len];exact hg),List.map_map]
    exact List.map_congr_left fun c mc=>by simp only[Function.comp];rw[DQ (by rw[h.len];have:=List.mem_range.1 mc;omega)]
   ·exact List.map_congr_left fun c mc=>by rw[DQ (by rw[h.len];exact hl c mc)]
  ·exact List.map_congr_left fun j mj=>by simp only[Function.comp];rw[← h.len,VJ (List.mem_range.1 mj)]
 have an0:ju (fr f.vars.length) (po (y.push n f.vars.length .dR).κ ⟨(i:Int),p.globals++f.own,List.range p.globals.length++l++(List.range f.vars.length).map (m.mem.length + ·),call⟩):=by
  unfold po
  dsimp only
  rw[zR]
  exact .cons (Wk.refl _) (.cons (Wk.refl _) (.cons (Wk.shared _ _ _) (.cons (Wk.refl _) .nil)))
 -- the stack
 generalize hK:f.vars.length=K at *
 obtain⟨sd,O',e1,e3,e4,e5,e6⟩ : ∃ (sd:D) (O':List (List D)),(∀ tm:Tm,tm.get 70=y.sd→tm.get 72 = .slice .full 1 [[.ptr (n+1) 0]]→aJ (.app 1 8 (.s 70) (.s 72)) tm ⟨O K,s.aw++ [some (kl.length+K)]⟩=some (sd,⟨O',s.aw++ [some (kl.length+K)]⟩))∧
  (∀ (o:Nat) (r:List D),(O K)[o]? = some r→o∉y.sd.arr→O'[o]? = some r)∧jE ⟨O',s.aw⟩ sd (((n+1)::y.φ).reverse.map xI)∧(sd.arr=y.sd.arr∨sd.arr = [n+2+K])∧sd.row=some [sd]:=by
  rcases h.stack with ⟨e,e2⟩|⟨so,g,more,e,e2⟩
  ·have hφ:y.φ = []:=by simpa using e2
   refine⟨.ep 1 (n+2+K) 0 1,O K++ [[.int .i64 ((0:Nat):Int), .ptr (n+1) 0]],fun tm h1 h2=>?_,fun o r e _=>by rw[List.getElem?_append_left (fV (s:=⟨O K,[]⟩) e)];exact e, .inr ⟨n+2+K,0,[],by simp[hφ], ?_⟩, .inr rfl,rfl⟩
   ·simp only [aJ,X.ev,h1,h2,e]
    rw[Jd _ _ _ (by unfold bA;omega)]
    simp only[oL]
   ·rw [hφ]
    show(O K++ [_])[n+2+K]? = _
    rw[← oL K]
    simp[xI]
  ·have an1:so<n:=by have:=fV e2;omega
   have hlen:(y.φ.reverse.map xI).length=m.st.length:=by simp[h.sA]
   have e2':(O K)[so]? = some (.int .i64 ((g:Nat):Int)::(y.φ.reverse.map xI++more)):=by rw[VL K so an1];exact e2
   rw[hlen]at e
   refine⟨.ep 1 so (g+1) (m.st.length+1),(O K).set so (.int .i64 ((g+1:Nat):Int)::(y.φ.reverse.map xI++ [.ptr (n+1) 0])),fun tm h1 h2=>?_,fun o r e hn=>?_, .inr ⟨so,g+1,[],by simp[h.sA], ?_⟩, .inl (by rw[e];rfl),rfl⟩
   ·simp only [aJ,X.ev,h1,h2,e]
    rw[Kk (s:=⟨O K,_⟩) e2' (by rw[hlen,Nat.mul_one]) (by unfold bA;omega)]
   ·rw[List.getElem?_set_ne (fun e'=>hn (by rw[‹y.sd=_›, ← e'];simp[D.arr]))];exact e
   ·simp[oL,show so<n+2+K by omega,xI]
 have o'0:O'[0]? = s.ah[0]? :=by
  rw[hm]
  exact e3 0 _ (by rw[o0];exact hm) (fun mo=>(h.vW (by simp[mo])) rfl)
 have XZ:0<O'.length:=fV (s:=⟨O',[]⟩) (o'0.trans hm)
 have o'f:O'[n+1]? = some (fr K):=e3 _ _ (oF K) (fun mo=>by have:=h.tM (n+1) (by simp[Lay.own,mo]);omega)
 let row:=fv p T W (y.push n K sd) {m with st:=⟨(i:Int),p.globals++f.own,List.range p.globals.length++l++(List.range K).map (m.mem.length + ·),call⟩::m.st,mem:=m.mem++List.replicate K 0}
 refine⟨y.push n K sd,⟨(O'.set 0 row).set (n+1) (po (y.push n K sd).κ ⟨(i:Int),p.globals++f.own,List.range p.globals.length++l++(List.range K).map (m.mem.length + ·),call⟩),s.aw++ [some (kl.length+K)]⟩, ?_, ?_⟩
 case refine_2=>
  subst hn
  have gO : ∀ (o:Nat) (r:List D),O'[o]? = some r→o≠0→o≠s.ah.length+1→((O'.set 0 row).set (s.ah.length+1) (po (y.push s.ah.length K sd).κ ⟨(i:Int),p.globals++f.own,List.range p.globals.length++l++(List.range K).map (m.mem.length + ·),call⟩))[o]? = some r:=fun o r e h1 h2=>by
   rw[List.getElem?_set_ne (Ne.symm h2),List.getElem?_set_ne (Ne.symm h1)];exact e
  refine h.push (K:=K) (sd:=sd) hg (fun c mc=>?_) (fun o r e h1 h2=>?_) ?_ (fun j hj=>?_) ?_ (e4.keep fun o mo=>?_) e5 ?_ ?_
  ·simp only [List.mem_append,List.mem_range,List.mem_map]at mc
   rcases mc with (mc|mc)|⟨x,mc,rfl⟩
   ·omega
   ·have:=hl c mc;omega
   ·omega
  ·have:=fV e
   exact gO o r (e3 o r (by rw[VL K o this];exact e) h2) h1 (by omega)
  ·rw [List.getElem?_set_ne (by omega)]
   simp[XZ,row]
  ·refine gO _ _ (e3 _ _ (oC K j hj) fun mo=> ?_) (by omega) (by omega)
   have:=h.tM _ (show s.ah.length+2+j∈y.own by simp[Lay.own,mo]);omega
  ·have:=fV (s:=⟨O',[]⟩) o'f
   rw[List.getElem?_set_self (by rw[List.length_set];exact this)]
  ·have:o≠0∧o≠s.ah.length+1:=by
    rcases e5 with e|e
    ·rw [e]at mo
     have h1:=h.tM o (by simp[Lay.own,mo])
     exact⟨h.vW (by simp[mo]),by omega⟩
    ·rw [e]at mo
     have:=List.mem_singleton.1 mo
     exact⟨by omega,by omega⟩
   show(List.set _ _ _)[o]? = _
   rw[List.getElem?_set_ne (Ne.symm this.2),List.getElem?_set_ne (Ne.symm this.1)]
  ·exact List.getElem?_append_left (List.getElem?_eq_some_iff.1 h.t0).1
  ·exact List.getElem?_append_left (List.getElem?_eq_some_iff.1 h.t1).1
 refine bM.up ?_
 refine bM.uH zl rfl fun B Q hB hQ=>?_
 have⟨hD,hY,hZ,gA⟩:=bP
 have loop : ∀ d k:Nat,k+d=K→bl Tryz.prog B 82 QBN (kE 0 (nR (kb Tryz.prog B 82 QBU Q) Q))
  [(0, .ptr 0 0),(1, .int .i64 (i:Int)),(10, .ptr (n+1) 0),(52, .int .i64 (K:Int)),(53, .int .i64 (k:Int))] ⟨O k,s.aw++ [some (kl.length+k)]⟩:=by
  intro d
  induction d with
  |zero=>
   intro k hk
   have uA:k=K:=by omega
   subst uA
   have hD:decide ((k:Int)<(k:Int))=false:=by simp
   have jC:=o'0.trans hm
   have Hg:=o'f
   have vm : ∀ r,(O'.set 0 r)[0]? = some r:=fun r=>List.getElem?_set_self XZ
   refine bl.kT ?_
   repeat' (first
 |simp only[go_sem,hD,hY,hZ,gA,hm,o0,e1,e6,jC,XZ,vm]
 |(with_reducible refine CU (cF _) ?_)
 |(with_reducible first|refine bo fun hc=>?_|refine bp fun hc=>?_|refine bq (fun hc=>?_) fun hc=>?_)<;>(try simp only[hc,bs,↓reduceIte]at h)<;>try simp only[hc]
 |(with_reducible refine aD hQ ?_;(try cases h);simp only[aU,aV,bH,bI,go_sem,hD,hY,hZ,gA,hm,o0,e1,e6,jC,XZ,vm];try exact cv)
 | (cases h;done))
   (refine gL hQ ?_;simp only[aU,aV,bH,bI,go_sem])
   have dY:row = [.dv (fx p) 0, .slice .shared 1 ((y.κ.take p.globals.length).map fj), .slice .shared 1 (T.map bE), .slice .shared 1 (W.map bE),sd,y.vd,
    .int .i64 m.fin, .int .i64 m.steps, .int .i64 m.reads, .slice (.tok 0) 1 (m.out.map bE), .slice (.tok 1) 2 (m.trace.map jD)]:=by
    simp only[row,fv,Lay.push]
    rw[List.take_append_of_le_length (by rw[h.len];exact hg)]
   refine⟨_,⟨(O'.set 0 row).set (n+1) _,_⟩,Wk.refl _, ?_,rfl,rfl,rfl⟩
   rw[dY]
   exact gy.setAt (by rw[List.getElem?_set_ne (by omega)];exact Hg) an0
  | succ d ih=>
   intro k hk
   have hD:decide ((k:Int)<(K:Int))=true:=by simp;omega
   have bO:k<4611686018427387904:=by omega
   have hfk:=oF k
   have VM:=oF' k [[.int .i64 0]]
   have eK:ix 1 8 (.slice (.tok s.aw.length) 1 (kl++(List.range k).map (fun j=>fj (n+2+j)))) (.slice .full 1 [[.ptr (n+2+k) 0]]) ⟨O k++ [[.int .i64 0]],s.aw++ [some (kl.length+k)]⟩ =
    some (.slice (.tok s.aw.length) 1 (kl++(List.range (k+1)).map (fun j=>fj (n+2+j))),⟨O k++ [[.int .i64 0]],s.aw++ [some (kl.length+(k+1))]⟩):=by
    rw[nV (size:=1) (by simp only[List.length_append,List.length_map,List.length_range,List.length_singleton];unfold bA;omega) (by simp)]
    simp[List.range_succ,fj,Nat.add_assoc]
   have oSk:=oS k
   simp only[fr,List.map_append,List.range_succ,List.map_cons,List.map_nil]at hfk VM oSk
   refine bl.kT ?_
   repeat' (first
 |simp only[go_sem,hD,hY,hZ,gA,hfk,VM,oL,eK,oSk]
 |(with_reducible first|refine bo fun hc=>?_|refine bp fun hc=>?_|refine bq (fun hc=>?_) fun hc=>?_)<;>(try simp only[hc,bs,↓reduceIte]at h)<;>try simp only[hc]
 |(with_reducible refine aD hQ ?_;(try cases h);simp only[aU,aV,bH,bI,go_sem,hD,hY,hZ,gA,hfk,VM,oL,eK,oSk];try exact cv)
 | (cases h;done))
   refine bl.pL ?_ (ih (k+1) (by omega))
   simp only[go_sem,aI bO]
   repeat' (first|exact Ok.out|with_reducible refine iZ ?_ ?_)
 have l0:=loop K 0 (by omega)
 have hO0:O 0=s.ah++ [cq f]++ [fr 0]:=by rw[hO];simp
 rw[hO0]at l0
 repeat' (first
 |simp only[go_sem,hD,hY,hZ,gA,hm,hA,n0,n1,n2,n3,n4,n5,hf,a1,a2,nZ, ← Ey,hn]
 |(with_reducible refine CU (cV _) ?_)
 |(with_reducible first|refine bo fun hc=>?_|refine bp fun hc=>?_|refine bq (fun hc=>?_) fun hc=>?_)<;>(try simp only[hc,bs,↓reduceIte]at h)<;>try simp only[hc]
 |(with_reducible refine aD hQ ?_;(try cases h);simp only[aU,aV,bH,bI,go_sem,hD,hY,hZ,gA,hm,hA,n0,n1,n2,n3,n4,n5,hf,a1,a2,nZ, ← Ey,hn];try exact cv)
 |(cases h;done))
 simp only[fr,List.range_zero,List.map_nil,List.append_nil,List.map_append]at l0
 rcases a3 with ⟨rfl,rfl,rfl⟩|⟨rfl,rfl,rfl⟩
 ·refine bl.Dn (n+1) 2 1 (n1 _ _) rfl ?_
  simp only[n3,List.set_cons_succ,List.set_cons_zero]
  refine bl.pL ?_ l0
  simp only[go_sem,hK]
  repeat' (first|exact Ok.out|with_reducible refine iZ ?_ ?_)
 ·refine bl.pL ?_ l0
  simp only[go_sem,hK]
  repeat' (first|exact Ok.out|with_reducible refine iZ ?_ ?_)
end
end Go.Abs
namespace Go.Abs
set_option maxRecDepth 8000
open Go.Proofs
section
variable {p:Pg} {T W:List Int} {y:Lay} {m:Mc} {loc:List (Nat×List D)} {s:St}
def v7 (fr:Fr) (name:aG) (c:Nat):Prop:=∃ j:Nat,jf name 0 fr.names=(j:Int)∧fr.vars[j]? = some c
theorem v7.cell {fr:Fr} {name:aG} {c:Nat} (h:v7 fr name c) (ht:m.top=fr):m.cell name=c:=by
 obtain⟨j,h1,h2⟩:=h
 unfold Mc.cell
 rw[ht,h1,Int.toNat_natCast,List.getD_eq_getElem?_getD,h2];rfl
theorem Inv.pop (h:Inv p T W y m loc s) {fr:Fr} {r:List Fr} (ji:m.st=fr::r) {so g:Nat} (rZ:y.sd = .ep 1 so g (r.length+1)) :
 Inv p T W {y with φ:=y.φ.tail,sd:= .ep 1 so g r.length} {m with st:=r} loc ⟨s.ah.set 0 (fv p T W {y with φ:=y.φ.tail,sd:= .ep 1 so g r.length} {m with st:=r}),s.aw⟩:=by
 have gZ:(D.ep 1 so g r.length).arr=y.sd.arr:=by rw[rZ];rfl
 have Py:Lay.own {y with φ:=y.φ.tail,sd:= .ep 1 so g r.length} = y.own:=by simp only[Lay.own,gZ]
 have gR:=h.sA
 rw[ji]at gR
 have ne : ∀ {q:Nat} {r':List D},s.ah[q]? = some r'→q≠0→(s.ah.set 0 (fv p T W {y with φ:=y.φ.tail,sd:= .ep 1 so g r.length} {m with st:=r}))[q]? = some r':=fun e hn=>by
  rw[List.getElem?_set_ne (Ne.symm hn)];exact e
 have nf : ∀ {q:Nat},q∉y.own→q≠0:=fun hq e=>hq (by rw[e];simp[Lay.own])
 obtain⟨l,hl⟩:=h.bV
 refine⟨by simp[h.uN],h.t0,h.t1,h.len,fun i c v e1 e2=>ne (h.cell i c v e1 e2) (h.vW (by simp[List.mem_of_getElem? e1])),by simp[gR],fun i o Mh e1 e2=>?_, ?_,⟨l,hl.keep fun o mo=>?_⟩,by rw[Py];exact h.own,fun q mq=>?_⟩
 ·obtain⟨f1,f2,f3⟩:=h.frame (i+1) o Mh (by simpa [List.getElem?_tail]using e1) (by rw [ji];simpa using e2)
  exact⟨ne f1 (nf f2),by rw[Py];exact f2,f3⟩
 ·cases hφ:y.φ with
  |nil=>rw[hφ]at gR;simp at gR
  | cons o φ=>
   rw[hφ]at gR
   rcases h.stack with ⟨e,_⟩|⟨so',g',more,e,e2⟩
   ·rw[e]at rZ;cases rZ
   ·have e':=e
    rw[rZ,D.ep.injEq]at e'
    obtain⟨_,rfl,rfl,_⟩:=e'
    refine .inr ⟨so,g,[.ptr o 0]++more,by simp at gR ⊢;omega,ne ?_ (h.vW (by rw[rZ];simp[D.arr]))⟩
    rw[e2,hφ]
    simp[xI]
 ·show(s.ah.set 0 _)[o]? = _
  rw[List.getElem?_set_ne (Ne.symm (h.vW (by simp[mo])))]
 ·obtain⟨f1,f2⟩:=h.loc q mq
  exact⟨ne f1 (nf f2),by rw[Py];exact f2⟩
theorem Kl {L:List Im} {c:Nat} {it:Im} (h:L[c]? = some it) {a:Int} (ha:a=(c:Int)+1):fy L a=it:=by
 unfold fy
 rw[ha,show((c:Int)+1 - 1).toNat=c by omega,List.getD_eq_getElem?_getD,h];rfl
theorem ZV (h:Inv p T W y m loc s) {fr:Fr} {r:List Fr} (ht:mS m fr r) (hL:p.aX.L.length<1000000)
 (hc:fr.call=0∨∃ (c:Nat) (it:Im) (uM:Fr) (r2:List Fr),fr.call=(c:Int)+1∧p.aX.L[c]? = some it∧mS {m with st:=r} uM r2∧(it.s.name≠ []→∃ k,v7 uM it.s.name k)) (xH:Int) :
 bM Tryz.prog oD [.ptr 0 0, .int .i64 xH] s (Rl p T W (.int .i64 (m.close p.aX.L xH).1) (m.close p.aX.L xH).2 (fun y'=>∃ sd,y' = {y with φ:=y.φ.tail,sd:=sd}) loc):=by
 obtain⟨so,g,cells,o,h1,h2,h3,h4,h5⟩:=h.VH ht.st
 obtain⟨o',_,E4,c1⟩:=Pv h ht.st ht.len
 have ho:o'=o:=by rw[h5]at *;cases ‹some o=some o'›;rfl
 subst ho
 have hm:=h.jF
 rw[fv,h1]at hm
 have hl:=h.uN
 have hp:=h.pop ht.st h1
 have hpf:=hp.jF
 have hlen:=ht.len
 have hw:IntKind.wrap .i64 (((r.length+1:Nat):Int) - 1)=((r.length:Nat):Int):=by rw[show((r.length+1:Nat):Int) - 1=(r.length:Int) by omega];exact eg (by omega) (by omega)
 have uy:xc (.ep 1 so g (r.length+1)) none (some (.int .i64 (r.length:Int)))=some (.ep 1 so g r.length):=by simp[xc,sY,sZ];omega
 have vm : ∀ r,(s.ah.set 0 r)[0]? = some r:=fun r=>List.getElem?_set_self hl
 rw[po]at E4
 have oK:m.close p.aX.L xH=if fr.call==0 then(-1,{{m with st:=r}with fin:=1})else((fy p.aX.L fr.call).next,if(fy p.aX.L fr.call).s.name == []then {m with st:=r}else({m with st:=r} : Mc).set (fy p.aX.L fr.call).s.name xH):=by
  unfold Mc.close
  rw[ht.top,ht.st];rfl
 rw[oK]
 rcases hc with hc|⟨c,it,uM,r2,hc,pN,tA,hn⟩
 ·rw [hc]at E4
  have e0:((0:Int)==0)=true:=rfl
  have h5:=hp.tY (m':= {{m with st:=r}with fin:=1}) rfl rfl hp.t0 hp.t1
  rw[fv]at h5
  simp only[List.set_set]at h5
  rw[hc,if_pos e0]
  refine bM.uH qS rfl fun B Q hB hQ=>?_
  have⟨hD,hY,hZ,gA⟩:=bP
  repeat' (first
 |simp only[go_sem,hD,hY,hZ,gA,hm,hl,hw,uy,vm,E4,e0,List.set_set]
 |(with_reducible refine CU (c1) ?_)
 |(with_reducible first|refine bo fun hc=>?_|refine bp fun hc=>?_|refine bq (fun hc=>?_) fun hc=>?_)<;>(try simp only[hc,bs,↓reduceIte]at h)<;>try simp only[hc]
 |(with_reducible refine aD hQ ?_;(try cases h);simp only[aU,aV,bH,bI,go_sem,hD,hY,hZ,gA,hm,hl,hw,uy,vm,E4,e0,List.set_set];try exact cv)
 |(cases h;done))
  (refine gL hQ ?_;simp only[aU,aV,bH,bI,go_sem])
  exact⟨rfl,_,⟨_,rfl⟩,h5⟩
 ·rw [hc]at E4
  have BT:IntKind.wrap .i64 ((c:Int)+1 - 1)=(c:Int):=by
   have:=(List.getElem?_eq_some_iff.1 pN).1
   rw[show(c:Int)+1 - 1=(c:Int) by omega];exact eg (by omega) (by omega)
  have e0:((c:Int)+1==0)=false:=by simp;omega
  have an2:=Kl pN hc
  have hz : ∀ (z:List D) (e:List D),(s.ah.set 0 e++ [z]).set s.ah.length (dt it)=s.ah.set 0 e++ [dt it]:=fun z e=>by simp
  have hg : ∀ z e:List D,(s.ah.set 0 e++ [z])[s.ah.length]? = some z:=fun z e=>by simp
  have cS:(fx p)[2]? = some (.slice .shared 17 (p.aX.L.map dt)):=rfl
  have wW : ∀ e:List D,(s.ah.set 0 e).length=s.ah.length:=fun e=>List.length_set
  have dh:=hp.new (dt it)
  rw[fv]at dh
  simp only[wW]at dh
  have EJ:dt it = [.int .i64 it.s.id, .int .i64 it.s.kind, .slice .shared 1 (it.s.labels.map encStr), .str it.s.name, .str it.s.proc, .int .i64 it.s.x.op, .int .i64 it.s.x.n, .str it.s.x.name, .slice .shared 4 (it.s.x.kids.map cj), .bool it.s.has, .slice .shared 6 (it.s.args.map ew), .slice .shared 13 (it.s.aZ.map bd), .slice .shared 13 (it.s.aR.map bd), .int .i64 it.proc, .int .i64 it.up, .int .i64 it.next, .int .i64 it.loop]:=rfl
  have c3:(dt it)[3]? = some (.str it.s.name):=rfl
  rw[hc,if_neg (by rw[e0];simp),show fy p.aX.L ((c:Int)+1)=it from hc ▸ an2]
  refine bM.uH qS rfl fun B Q hB hQ=>?_
  have⟨hD,hY,hZ,gA⟩:=bP
  rcases Bool.eq_false_or_eq_true (it.s.name == [])with b|b
  ·repeat' (first
 |simp only[go_sem,hD,hY,hZ,gA,hm,hl,hw,uy,vm,E4,e0,BT,pN,hz,hg,wW,c3,b,cS]
 |(with_reducible refine CU (c1) ?_)
 |(with_reducible first|refine bo fun hc=>?_|refine bp fun hc=>?_|refine bq (fun hc=>?_) fun hc=>?_)<;>(try simp only[hc,bs,↓reduceIte]at h)<;>try simp only[hc]
 |(with_reducible refine aD hQ ?_;(try cases h);simp only[aU,aV,bH,bI,go_sem,hD,hY,hZ,gA,hm,hl,hw,uy,vm,E4,e0,BT,pN,hz,hg,wW,c3,b,cS];try exact cv)
 | (cases h;done))
   (refine gL hQ ?_;simp only[aU,aV,bH,bI,go_sem])
   refine⟨rfl,{y with φ:=y.φ.tail,sd:= .ep 1 so g r.length},⟨_,rfl⟩, ?_⟩
   simp only[b,if_true]
   exact dh.sub fun q mq=>List.mem_cons_of_mem _ mq
  ·obtain⟨k,hk⟩:=hn (by intro e;rw [e]at b;cases b)
   have Km:=hk.cell tA.top
   obtain⟨j,hj,BU⟩:=hk
   have c2:=Cs dh tA.st tA.len tA.names hj BU
   have hkm:k<m.mem.length:=by
    have hlp:=hp.sA
    rw[tA.st]at hlp
    cases hφ:y.φ.tail with
    |nil=>simp[hφ]at hlp
    |cons o2 φ2=>exact(hp.frame 0 o2 uM (by simp[hφ]) (by rw[tA.st];rfl)).2.2 k (List.mem_of_getElem? BU)
   have hκ:y.κ[k]? = some (y.κ.getD k 0):=by
    rw[List.getD_eq_getElem?_getD,List.getElem?_eq_getElem (by have:=h.len;omega)];rfl
   have iE:=dh.cell k _ _ hκ (List.getElem?_eq_getElem hkm)
   have vT:=dh.VD hκ xH
   have jn:=(vT.loc (s.ah.length,dt it) (List.mem_cons_self ..)).1
   simp only at iE vT jn c2
   have hb:(it.s.name != [])=true:=by simp[bne,b]
   repeat' (first
 |simp only[go_sem,hD,hY,hZ,gA,hm,hl,hw,uy,vm,E4,e0,BT,pN,hz,hg,wW,c3,b,cS,iE,jn]
 |(with_reducible refine CU (c1) ?_)
 |(with_reducible refine CU (c2) ?_)
 |(with_reducible first|refine bo fun hc=>?_|refine bp fun hc=>?_|refine bq (fun hc=>?_) fun hc=>?_)<;>(try simp only[hc,bs,↓reduceIte]at h)<;>try simp only[hc]
 |(with_reducible refine aD hQ ?_;(try cases h);simp only[aU,aV,bH,bI,go_sem,hD,hY,hZ,gA,hm,hl,hw,uy,vm,E4,e0,BT,pN,hz,hg,wW,c3,b,cS,iE,jn];try exact cv)
 | (cases h;done))
   (refine gL hQ ?_;simp only[aU,aV,bH,bI,go_sem])
   refine⟨rfl,{y with φ:=y.φ.tail,sd:= .ep 1 so g r.length},⟨_,rfl⟩, ?_⟩
   simp only[b,Bool.false_eq_true,if_false,Mc.set,Km]
   exact vT.sub fun q mq=>List.mem_cons_of_mem _ mq
end
end Go.Abs
namespace Go.Abs
set_option maxRecDepth 8000
open Go.Proofs
section
variable {p:Pg} {T W:List Int} {y:Lay} {m:Mc} {loc:List (Nat×List D)} {s:St}
structure adV (p:Pg) (fr:Fr) (it:Im):Prop where
 said:it.s.nw
 brk:it.s.kind=7→∃ (c:Nat) (it2:Im),it.loop=(c:Int)+1∧p.aX.L[c]? = some it2
 FT:it.s.kind=10→∃ (i:Nat) (f:Pc),it.proc=(i:Int)∧p.procs[i]? = some f
 name:it.s.kind=1∨it.s.kind=2→∃ k,v7 fr it.s.name k
 aZ:it.s.aZ.length<1000000
 aR:it.s.aR.length<1000000
structure H4 (p:Pg) (T W:List Int) (m:Mc):Prop where
 W:W.length<1000000
 T:T.length<1000000
 trace:m.trace.length<2000000
 out:m.out.length<2000000
 L:p.aX.L.length<1000000
 P:Pc.aY p.procs<1000000000
 reads:0≤m.reads∧m.reads<2000000
theorem cell_of (h:Inv p T W y m loc s) {fr:Fr} {r:List Fr} (ji:m.st=fr::r) {c j:Nat} (hc:fr.vars[j]? = some c):y.κ[c]? = some (y.κ.getD c 0)∧∃ v,m.mem[c]? = some v∧s.ah[y.κ.getD c 0]? = some [.int .i64 v]:=by
 have gR:=h.sA
 rw[ji]at gR
 cases hφ:y.φ with
 |nil=>simp[hφ]at gR
 | cons o φ=>
  have SF:=(h.frame 0 o fr (by simp[hφ]) (by rw[ji];rfl)).2.2 c (List.mem_of_getElem? hc)
  have hκ:y.κ[c]? = some (y.κ.getD c 0):=by
   rw[List.getD_eq_getElem?_getD,List.getElem?_eq_getElem (by have:=h.len;omega)];rfl
  exact⟨hκ,_,List.getElem?_eq_getElem SF,h.cell c _ _ hκ (List.getElem?_eq_getElem SF)⟩
theorem an3 (hp:p.iM) (VN:p.may=true) (h:Inv p T W y m loc s) {fr:Fr} {r:List Fr} (ht:mS m fr r) (hz:H4 p T W m) {it:Im} (hd:adV p fr it) :
 bM Tryz.prog qE [.ptr 0 0, .agg (dt it)] s (Rl p T W (.int .i64 (m.do p p.aX.L T W it).1) (m.do p p.aX.L T W it).2 (fun y'=>∃ vd,y' = {y with vd:=vd}) loc):=by
 have h1:=(h.new (dt it)).new (bd it.s)
 simp only[List.length_append,List.length_singleton]at h1
 have z0 : ∀ z:List D,(s.ah++ [z])[s.ah.length]? = some z:=fun z=>by simp
 have z1 : ∀ z:List D,(s.ah++ [dt it]++ [z]).set (s.ah.length+1) (bd it.s)=s.ah++ [dt it]++ [bd it.s]:=fun z=>by simp[List.append_assoc,List.set_append_right]
 have z2 : ∀ a z:List D,(s.ah++ [a]++ [z])[s.ah.length+1]? = some z:=fun a z=>by simp
 have z3 : ∀ a z:List D,(s.ah++ [a]++ [z])[s.ah.length]? = some a:=fun a z=>by simp
 have z4:=h1.jF
 rw[fv]at z4
 have uK:=h1.uN
 simp only at z4 uK
 have cS:(fx p)[2]? = some (.slice .shared 17 (p.aX.L.map dt)):=rfl
 have nE : ∀ q∈loc,q∈(s.ah.length+1,bd it.s)::(s.ah.length,dt it)::loc:=fun q mq=>List.mem_cons_of_mem _ (List.mem_cons_of_mem _ mq)
 generalize hn:s.ah.length=n at *
 have jn : ∀ {y2:Lay} {m2:Mc} {s2:St},Inv p T W y2 m2 ((n+1,bd it.s)::(n,dt it)::loc) s2→s2.ah[n]? = some (dt it)∧s2.ah[n+1]? = some (bd it.s)∧0<s2.ah.length:=fun h2=>
  ⟨(h2.loc (n,dt it) (by simp)).1,(h2.loc (n+1,bd it.s) (by simp)).1,h2.uN⟩
 rcases Bool.eq_false_or_eq_true (it.s.kind==7)with b7|b7
 ·have c1:=vY h1 hz.W hz.trace it.s.id
  obtain⟨c,it2,e1,e2⟩:=hd.brk (by simpa using b7)
  have hw:IntKind.wrap .i64 ((c:Int)+1 - 1)=(c:Int):=by
   have:=(List.getElem?_eq_some_iff.1 e2).1
   have:=hz.L
   rw[show(c:Int)+1 - 1=(c:Int) by omega];exact eg (by omega) (by omega)
  have yH:m.do p p.aX.L T W it=(it2.next,m.event W it.s.id []):=by
   unfold Mc.do
   dsimp only
   rw[if_pos b7,Kl e2 e1]
  rw[yH]
  refine bM.uH ic rfl fun B Q hB hQ=>?_
  have⟨hD,hY,hZ,gA⟩:=bP
  repeat' (first
 |simp only[go_sem,hD,hY,hZ,gA,z0,z1,z2,z3,hn,b7]
 |(with_reducible first|refine bo fun hc=>?_|refine bp fun hc=>?_|refine bq (fun hc=>?_) fun hc=>?_)<;>(try simp only[hc,bs,↓reduceIte]at h)<;>try simp only[hc]
 |(with_reducible refine aD hQ ?_;(try cases h);simp only[aU,aV,bH,bI,go_sem,hD,hY,hZ,gA,z0,z1,z2,z3,hn,b7];try exact cv)
 |(cases h;done))
  refine CR c1 fun d s2 h2=>?_
  obtain⟨rfl,y2,rfl,h2⟩:=h2
  obtain⟨x1,x2,x3⟩:=jn h2
  have jC:=h2.jF
  rw[fv]at jC
  repeat' (first
 |simp only[go_sem,hD,hY,hZ,gA,x1,x2,jC,cS,e1,hw,e2]
 |(with_reducible first|refine bo fun hc=>?_|refine bp fun hc=>?_|refine bq (fun hc=>?_) fun hc=>?_)<;>(try simp only[hc,bs,↓reduceIte]at h)<;>try simp only[hc]
 |(with_reducible refine aD hQ ?_;(try cases h);simp only[aU,aV,bH,bI,go_sem,hD,hY,hZ,gA,x1,x2,jC,cS,e1,hw,e2];try exact cv)
 |(cases h;done))
  (refine gL hQ ?_;simp only[aU,aV,bH,bI,go_sem])
  exact⟨rfl,_,⟨_,rfl⟩,h2.sub nE⟩
 rcases Bool.eq_false_or_eq_true (it.s.kind==8)with b8|b8
 ·have c1:=vY h1 hz.W hz.trace it.s.id
  have yH:m.do p p.aX.L T W it=(it.loop,m.event W it.s.id []):=by
   unfold Mc.do
   dsimp only
   rw[if_neg (by simp[b7]),if_pos b8]
  rw[yH]
  refine bM.uH ic rfl fun B Q hB hQ=>?_
  have⟨hD,hY,hZ,gA⟩:=bP
  repeat' (first
 |simp only[go_sem,hD,hY,hZ,gA,z0,z1,z2,z3,hn,b7,b8]
 |(with_reducible first|refine bo fun hc=>?_|refine bp fun hc=>?_|refine bq (fun hc=>?_) fun hc=>?_)<;>(try simp only[hc,bs,↓reduceIte]at h)<;>try simp only[hc]
 |(with_reducible refine aD hQ ?_;(try cases h);simp only[aU,aV,bH,bI,go_sem,hD,hY,hZ,gA,z0,z1,z2,z3,hn,b7,b8];try exact cv)
 |(cases h;done))
  refine CR c1 fun d s2 h2=>?_
  obtain⟨rfl,y2,rfl,h2⟩:=h2
  obtain⟨x1,x2,x3⟩:=jn h2
  repeat' (first
 |simp only[go_sem,hD,hY,hZ,gA,x1,x2]
 |(with_reducible first|refine bo fun hc=>?_|refine bp fun hc=>?_|refine bq (fun hc=>?_) fun hc=>?_)<;>(try simp only[hc,bs,↓reduceIte]at h)<;>try simp only[hc]
 |(with_reducible refine aD hQ ?_;(try cases h);simp only[aU,aV,bH,bI,go_sem,hD,hY,hZ,gA,x1,x2];try exact cv)
 |(cases h;done))
  (refine gL hQ ?_;simp only[aU,aV,bH,bI,go_sem])
  exact⟨rfl,_,⟨_,rfl⟩,h2.sub nE⟩
 rcases Bool.eq_false_or_eq_true (it.s.kind==10)with tP|tP
 ·have c1:=vY h1 hz.W hz.trace it.s.id
  obtain⟨i,f,e1,e2⟩:=hd.FT (by simpa using tP)
  have cA:=fun s=>adr hp VN e2 it.s.name s
  have yH:m.do p p.aX.L T W it=((la f.fin it.s.name (Sm.dc f.body)).1,m.event W it.s.id []):=by
   unfold Mc.do
   dsimp only
   rw[if_neg (by simp[b7]),if_neg (by simp[b8]),if_pos tP,e1,Int.toNat_natCast,e2]
  rw[yH]
  refine bM.uH ic rfl fun B Q hB hQ=>?_
  have⟨hD,hY,hZ,gA⟩:=bP
  repeat' (first
 |simp only[go_sem,hD,hY,hZ,gA,z0,z1,z2,z3,hn,b7,b8,tP]
 |(with_reducible first|refine bo fun hc=>?_|refine bp fun hc=>?_|refine bq (fun hc=>?_) fun hc=>?_)<;>(try simp only[hc,bs,↓reduceIte]at h)<;>try simp only[hc]
 |(with_reducible refine aD hQ ?_;(try cases h);simp only[aU,aV,bH,bI,go_sem,hD,hY,hZ,gA,z0,z1,z2,z3,hn,b7,b8,tP];try exact cv)
 |(cases h;done))
  refine CR c1 fun d s2 h2=>?_
  obtain⟨rfl,y2,rfl,h2⟩:=h2
  obtain⟨x1,x2,x3⟩:=jn h2
  have jC:=h2.jF
  rw[fv]at jC
  repeat' (first
 |simp only[go_sem,hD,hY,hZ,gA,x1,x2,jC,e1]
 |(with_reducible refine CU (cA _) ?_)
 |(with_reducible first|refine bo fun hc=>?_|refine bp fun hc=>?_|refine bq (fun hc=>?_) fun hc=>?_)<;>(try simp only[hc,bs,↓reduceIte]at h)<;>try simp only[hc]
 |(with_reducible refine aD hQ ?_;(try cases h);simp only[aU,aV,bH,bI,go_sem,hD,hY,hZ,gA,x1,x2,jC,e1];try exact cv)
 |(cases h;done))
  (refine gL hQ ?_;simp only[aU,aV,bH,bI,go_sem])
  exact⟨rfl,_,⟨_,rfl⟩,h2.sub nE⟩
 rcases Bool.eq_false_or_eq_true (it.s.kind==2)with b2|b2
 ·obtain⟨k,hk⟩:=hd.name (.inr (by simpa using b2))
  have jt:=hz.reads
  have hTl:=hz.T
  have Gh:=jt.1
  have awc : ∀ r,((s.ah++ [dt it]++ [bd it.s]).set 0 r)[0]? = some r:=fun r=>List.getElem?_set_self uK
  cases e:T[m.reads.toNat]? with
  | none=>
   have uC:decide (m.reads≥(T.length:Int))=true:=by have:=List.getElem?_eq_none_iff.1 e;simp;omega
   have yH:m.do p p.aX.L T W it=(-1,{m with fin:=3}):=by
    unfold Mc.do
    dsimp only
    rw[if_neg (by simp[b7]),if_neg (by simp[b8]),if_neg (by simp[tP]),if_pos b2,e]
   rw[yH]
   have h2:=h1.tY (m':= {m with fin:=3}) rfl rfl h1.t0 h1.t1
   rw[fv]at h2
   simp only at h2
   refine bM.uH ic rfl fun B Q hB hQ=>?_
   have⟨hD,hY,hZ,gA⟩:=bP
   repeat' (first
 |simp only[go_sem,hD,hY,hZ,gA,z0,z1,z2,z3,z4,hn,b7,b8,tP,b2,uC,uK]
 |(with_reducible first|refine bo fun hc=>?_|refine bp fun hc=>?_|refine bq (fun hc=>?_) fun hc=>?_)<;>(try simp only[hc,bs,↓reduceIte]at h)<;>try simp only[hc]
 |(with_reducible refine aD hQ ?_;(try cases h);simp only[aU,aV,bH,bI,go_sem,hD,hY,hZ,gA,z0,z1,z2,z3,z4,hn,b7,b8,tP,b2,uC,uK];try exact cv)
 | (cases h;done))
   (refine gL hQ ?_;simp only[aU,aV,bH,bI,go_sem])
   exact⟨rfl,_,⟨_,rfl⟩,h2.sub nE⟩
  | some v=>
   have uC:decide (m.reads≥(T.length:Int))=false:=by have:=(List.getElem?_eq_some_iff.1 e).1;simp;omega
   have E5:IntKind.wrap .i64 (m.reads+1)=m.reads+1:=eg (by omega) (by omega)
   have Km:=hk.cell ht.top
   obtain⟨j,hj,BU⟩:=hk
   have yH:m.do p p.aX.L T W it=(it.next,(({m with reads:=m.reads+1,mem:=m.mem.set k v} : Mc).event W it.s.id [v])):=by
    unfold Mc.do
    dsimp only
    rw[if_neg (by simp[b7]),if_neg (by simp[b8]),if_neg (by simp[tP]),if_pos b2,e]
    have:({m with reads:=m.reads+1} : Mc).cell it.s.name=k:=Km
    simp only[Mc.set,this]
   rw[yH]
   have h2:=h1.tY (m':= {m with reads:=m.reads+1}) rfl rfl h1.t0 h1.t1
   have tA:mS ({m with reads:=m.reads+1} : Mc) fr r:=⟨ht.st,ht.len,ht.names,ht.vars⟩
   have c2:=Cs h2 tA.st tA.len tA.names hj BU
   obtain⟨hκ,v0,g1,g2⟩:=cell_of h2 tA.st BU
   have h3:=h2.VD hκ v
   have c3:=DP h3 hz.W hz.trace it.s.id v
   obtain⟨x1,x2,x3⟩:=jn h3
   obtain⟨x4,x5,x6⟩:=jn h2
   rw[fv]at c2 g2 c3 x1 x2 x4 x5
   simp only at c2 g2 c3 x1 x2 x4 x5
   refine bM.uH ic rfl fun B Q hB hQ=>?_
   have⟨hD,hY,hZ,gA⟩:=bP
   repeat' (first
 |simp only[go_sem,hD,hY,hZ,gA,z0,z1,z2,z3,z4,hn,b7,b8,tP,b2,uC,uK,e,E5,Gh,x1,x2,x4,x5,g2]
 |(with_reducible refine CU (c2) ?_)
 |(with_reducible first|refine bo fun hc=>?_|refine bp fun hc=>?_|refine bq (fun hc=>?_) fun hc=>?_)<;>(try simp only[hc,bs,↓reduceIte]at h)<;>try simp only[hc]
 |(with_reducible refine aD hQ ?_;(try cases h);simp only[aU,aV,bH,bI,go_sem,hD,hY,hZ,gA,z0,z1,z2,z3,z4,hn,b7,b8,tP,b2,uC,uK,e,E5,Gh,x1,x2,x4,x5,g2];try exact cv)
 | (cases h;done))
   refine CR c3 fun d s2 h4=>?_
   obtain⟨rfl,y2,rfl,h4⟩:=h4
   obtain⟨x1,x2,x3⟩:=jn h4
   repeat' (first
 |simp only[go_sem,hD,hY,hZ,gA,x1,x2]
 |(with_reducible first|refine bo fun hc=>?_|refine bp fun hc=>?_|refine bq (fun hc=>?_) fun hc=>?_)<;>(try simp only[hc,bs,↓reduceIte]at h)<;>try simp only[hc]
 |(with_reducible refine aD hQ ?_;(try cases h);simp only[aU,aV,bH,bI,go_sem,hD,hY,hZ,gA,x1,x2];try exact cv)
 | (cases h;done))
   (refine gL hQ ?_;simp only[aU,aV,bH,bI,go_sem])
   exact⟨rfl,_,⟨_,rfl⟩,h4.sub nE⟩
 -- an expression is reckoned
 have hx:it.s.x.size<1000000:=by have:=hd.said.2.2;omega
 have c1:=DO h1 ht hx hd.said.1
 rcases Bool.eq_false_or_eq_true (m.bC it.s.x).1.2 with bw|bw
 case inr=>
  have yH:m.do p p.aX.L T W it=(-1,(m.bC it.s.x).2):=by
   unfold Mc.do
   dsimp only
   rw[if_neg (by simp[b7]),if_neg (by simp[b8]),if_neg (by simp[tP]),if_neg (by simp[b2]),if_neg (by simp[bw])]
  rw[yH]
  refine bM.uH ic rfl fun B Q hB hQ=>?_
  have⟨hD,hY,hZ,gA⟩:=bP
  repeat' (first
 |simp only[go_sem,hD,hY,hZ,gA,z0,z1,z2,z3,hn,b7,b8,tP,b2]
 |(with_reducible first|refine bo fun hc=>?_|refine bp fun hc=>?_|refine bq (fun hc=>?_) fun hc=>?_)<;>(try simp only[hc,bs,↓reduceIte]at h)<;>try simp only[hc]
 |(with_reducible refine aD hQ ?_;(try cases h);simp only[aU,aV,bH,bI,go_sem,hD,hY,hZ,gA,z0,z1,z2,z3,hn,b7,b8,tP,b2];try exact cv)
 |(cases h;done))
  refine CR c1 fun d s2 h2=>?_
  obtain⟨⟨rfl,y2,vZ,h2⟩,_⟩:=h2
  repeat' (first
 |simp only[go_sem,hD,hY,hZ,gA,bw]
 |(with_reducible first|refine bo fun hc=>?_|refine bp fun hc=>?_|refine bq (fun hc=>?_) fun hc=>?_)<;>(try simp only[hc,bs,↓reduceIte]at h)<;>try simp only[hc]
 |(with_reducible refine aD hQ ?_;(try cases h);simp only[aU,aV,bH,bI,go_sem,hD,hY,hZ,gA,bw];try exact cv)
 |(cases h;done))
  (refine gL hQ ?_;simp only[aU,aV,bH,bI,go_sem])
  exact⟨rfl,y2,⟨_,vZ⟩,h2.sub nE⟩
 have SI:(m.bC it.s.x).2=m:=by
  unfold Mc.bC
  dsimp only
  rw[if_pos (show(it.s.x.bC m.top.names m.bV).2=true from bw)]
 have yH:m.do p p.aX.L T W it=(let m1:=m.event W it.s.id [(m.bC it.s.x).1.1];let n:=(m.bC it.s.x).1.1
  if it.s.kind==1 then(it.next,m1.set it.s.name n)else if it.s.kind==3 then(it.next,{m1 with out:=m1.out++ [n]})
  else if it.s.kind==5 then(if n==0 then firstM it.s.aR it.next else firstM it.s.aZ it.next,m1)else if it.s.kind==6 then(if n==0 then it.next else firstM it.s.aZ it.s.id,m1)else(it.next,m1)):=by
  unfold Mc.do
  dsimp only
  rw[if_neg (by simp[b7]),if_neg (by simp[b8]),if_neg (by simp[tP]),if_neg (by simp[b2]),if_pos bw,SI]
 rw[yH]
 rw[SI]at c1
 generalize hR:(m.bC it.s.x).1=R at *
 obtain⟨v,ok⟩:=R
 subst bw
 dsimp only
 have he:=eW W m it.s.id [v]
 have SJ:mS (m.event W it.s.id [v]) fr r:=⟨by rw[he.1];exact ht.st,ht.len,ht.names,ht.vars⟩
 have nb:(v != 0) = !(v==0):=rfl
 have fT:=fun o s=>Mg it.s.aZ (by have:=hd.aZ;omega) o s
 have fE:=fun o s=>Mg it.s.aR (by have:=hd.aR;omega) o s
 refine bM.uH ic rfl fun B Q hB hQ=>?_
 have⟨hD,hY,hZ,gA⟩:=bP
 repeat' (first
 |simp only[go_sem,hD,hY,hZ,gA,z0,z1,z2,z3,hn,b7,b8,tP,b2]
 |(with_reducible first|refine bo fun hc=>?_|refine bp fun hc=>?_|refine bq (fun hc=>?_) fun hc=>?_)<;>(try simp only[hc,bs,↓reduceIte]at h)<;>try simp only[hc]
 |(with_reducible refine aD hQ ?_;(try cases h);simp only[aU,aV,bH,bI,go_sem,hD,hY,hZ,gA,z0,z1,z2,z3,hn,b7,b8,tP,b2];try exact cv)
 |(cases h;done))
 refine CR c1 fun d s2 h2=>?_
 obtain⟨⟨rfl,y2,vZ,h2⟩,_⟩:=h2
 obtain⟨x1,x2,x3⟩:=jn h2
 have c2:=DP h2 hz.W hz.trace it.s.id v
 repeat' (first
 |simp only[go_sem,hD,hY,hZ,gA,x1,x2]
 |(with_reducible first|refine bo fun hc=>?_|refine bp fun hc=>?_|refine bq (fun hc=>?_) fun hc=>?_)<;>(try simp only[hc,bs,↓reduceIte]at h)<;>try simp only[hc]
 |(with_reducible refine aD hQ ?_;(try cases h);simp only[aU,aV,bH,bI,go_sem,hD,hY,hZ,gA,x1,x2];try exact cv)
 |(cases h;done))
 refine CR c2 fun d s3 h3=>?_
 obtain⟨rfl,y3,rfl,h3⟩:=h3
 obtain⟨x1,x2,x3⟩:=jn h3
 have om:=h3.jF
 rw[fv]at om
 rcases Bool.eq_false_or_eq_true (it.s.kind==1)with b1|b1
 ·obtain⟨k,hk⟩:=hd.name (.inl (by simpa using b1))
  have Km:=hk.cell SJ.top
  obtain⟨j,hj,BU⟩:=hk
  have c3:=Cs h3 SJ.st SJ.len SJ.names hj BU
  obtain⟨hκ,v0,g1,g2⟩:=cell_of h3 SJ.st BU
  have h4:=h3.VD hκ v
  obtain⟨x4,x5,x6⟩:=jn h4
  simp only at x4 x5
  repeat' (first
 |simp only[go_sem,hD,hY,hZ,gA,x1,x2,b1,g2,x4,x5]
 |(with_reducible refine CU (c3) ?_)
 |(with_reducible first|refine bo fun hc=>?_|refine bp fun hc=>?_|refine bq (fun hc=>?_) fun hc=>?_)<;>(try simp only[hc,bs,↓reduceIte]at h)<;>try simp only[hc]
 |(with_reducible refine aD hQ ?_;(try cases h);simp only[aU,aV,bH,bI,go_sem,hD,hY,hZ,gA,x1,x2,b1,g2,x4,x5];try exact cv)
 |(cases h;done))
  (refine gL hQ ?_;simp only[aU,aV,bH,bI,go_sem])
  rw[if_pos b1]
  refine⟨rfl,y3,⟨_,vZ⟩, ?_⟩
  simp only[Mc.set,Km]
  exact h4.sub nE
 rw[if_neg (by simp[b1])]at hQ
 rcases Bool.eq_false_or_eq_true (it.s.kind==3)with b3|b3
 ·rw [if_pos b3]at hQ
  have eK:ix 1 8 (.slice (.tok 0) 1 ((m.event W it.s.id [v]).out.map bE)) (.slice .full 1 [[.int .i64 v]]) s3=some (.slice (.tok 0) 1 (((m.event W it.s.id [v]).out++ [v]).map bE),⟨s3.ah,s3.aw.set 0 (some ((m.event W it.s.id [v]).out.length+1))⟩):=by
   rw[nV (size:=1) (by simp only[List.length_map,List.length_singleton,he.2.2.2.2.2];have:=hz.out;unfold bA;omega) (by simpa using h3.t0)]
   simp[bE]
  have h4:=h3.tY (m':= {m.event W it.s.id [v]with out:=(m.event W it.s.id [v]).out++ [v]}) (ts:=s3.aw.set 0 (some ((m.event W it.s.id [v]).out.length+1))) rfl rfl (by simp[(List.getElem?_eq_some_iff.1 h3.t0).1]) (by rw[List.getElem?_set_ne (by omega)];exact h3.t1)
  obtain⟨x4,x5,x6⟩:=jn h4
  rw[fv]at h4 x4 x5
  simp only[List.map_append,List.map_cons,List.map_nil,bE]at h4 x4 x5 eK
  repeat' (first
 |simp only[go_sem,hD,hY,hZ,gA,x1,x2,b1,b3,om,eK,x3,x4,x5]
 |(with_reducible first|refine bo fun hc=>?_|refine bp fun hc=>?_|refine bq (fun hc=>?_) fun hc=>?_)<;>(try simp only[hc,bs,↓reduceIte]at h)<;>try simp only[hc]
 |(with_reducible refine aD hQ ?_;(try cases h);simp only[aU,aV,bH,bI,go_sem,hD,hY,hZ,gA,x1,x2,b1,b3,om,eK,x3,x4,x5];try exact cv)
 |(cases h;done))
  (refine gL hQ ?_;simp only[aU,aV,bH,bI,go_sem])
  exact⟨rfl,y3,⟨_,vZ⟩,h4.sub nE⟩
 rw[if_neg (by simp[b3])]at hQ
 rcases Bool.eq_false_or_eq_true (it.s.kind==5)with b5|b5
 ·rw [if_pos b5]at hQ
  rcases Bool.eq_false_or_eq_true (v==0)with bv|bv
  ·rw [if_pos bv]at hQ
   repeat' (first
 |simp only[go_sem,hD,hY,hZ,gA,x1,x2,b1,b3,b5,nb,bv]
 |(with_reducible refine CU (fT _ _) ?_)
 |(with_reducible refine CU (fE _ _) ?_)
 |(with_reducible first|refine bo fun hc=>?_|refine bp fun hc=>?_|refine bq (fun hc=>?_) fun hc=>?_)<;>(try simp only[hc,bs,↓reduceIte]at h)<;>try simp only[hc]
 |(with_reducible refine aD hQ ?_;(try cases h);simp only[aU,aV,bH,bI,go_sem,hD,hY,hZ,gA,x1,x2,b1,b3,b5,nb,bv];try exact cv)
 | (cases h;done))
   (refine gL hQ ?_;simp only[aU,aV,bH,bI,go_sem])
   exact⟨rfl,y3,⟨_,vZ⟩,h3.sub nE⟩
  ·rw [if_neg (by simp [bv])]at hQ
   repeat' (first
 |simp only[go_sem,hD,hY,hZ,gA,x1,x2,b1,b3,b5,nb,bv]
 |(with_reducible refine CU (fT _ _) ?_)
 |(with_reducible refine CU (fE _ _) ?_)
 |(with_reducible first|refine bo fun hc=>?_|refine bp fun hc=>?_|refine bq (fun hc=>?_) fun hc=>?_)<;>(try simp only[hc,bs,↓reduceIte]at h)<;>try simp only[hc]
 |(with_reducible refine aD hQ ?_;(try cases h);simp only[aU,aV,bH,bI,go_sem,hD,hY,hZ,gA,x1,x2,b1,b3,b5,nb,bv];try exact cv)
 | (cases h;done))
   (refine gL hQ ?_;simp only[aU,aV,bH,bI,go_sem])
   exact⟨rfl,y3,⟨_,vZ⟩,h3.sub nE⟩
 rw[if_neg (by simp[b5])]at hQ
 rcases Bool.eq_false_or_eq_true (it.s.kind==6)with b6|b6
 ·rw [if_pos b6]at hQ
  rcases Bool.eq_false_or_eq_true (v==0)with bv|bv
  ·rw [if_pos bv]at hQ
   repeat' (first
 |simp only[go_sem,hD,hY,hZ,gA,x1,x2,b1,b3,b5,b6,nb,bv]
 |(with_reducible refine CU (fT _ _) ?_)
 |(with_reducible refine CU (fE _ _) ?_)
 |(with_reducible first|refine bo fun hc=>?_|refine bp fun hc=>?_|refine bq (fun hc=>?_) fun hc=>?_)<;>(try simp only[hc,bs,↓reduceIte]at h)<;>try simp only[hc]
 |(with_reducible refine aD hQ ?_;(try cases h);simp only[aU,aV,bH,bI,go_sem,hD,hY,hZ,gA,x1,x2,b1,b3,b5,b6,nb,bv];try exact cv)
 | (cases h;done))
   (refine gL hQ ?_;simp only[aU,aV,bH,bI,go_sem])
   exact⟨rfl,y3,⟨_,vZ⟩,h3.sub nE⟩
  ·rw [if_neg (by simp [bv])]at hQ
   repeat' (first
 |simp only[go_sem,hD,hY,hZ,gA,x1,x2,b1,b3,b5,b6,nb,bv]
 |(with_reducible refine CU (fT _ _) ?_)
 |(with_reducible refine CU (fE _ _) ?_)
 |(with_reducible first|refine bo fun hc=>?_|refine bp fun hc=>?_|refine bq (fun hc=>?_) fun hc=>?_)<;>(try simp only[hc,bs,↓reduceIte]at h)<;>try simp only[hc]
 |(with_reducible refine aD hQ ?_;(try cases h);simp only[aU,aV,bH,bI,go_sem,hD,hY,hZ,gA,x1,x2,b1,b3,b5,b6,nb,bv];try exact cv)
 | (cases h;done))
   (refine gL hQ ?_;simp only[aU,aV,bH,bI,go_sem])
   exact⟨rfl,y3,⟨_,vZ⟩,h3.sub nE⟩
 rw[if_neg (by simp[b6])]at hQ
 repeat' (first
 |simp only[go_sem,hD,hY,hZ,gA,x1,x2,b1,b3,b5,b6]
 |(with_reducible first|refine bo fun hc=>?_|refine bp fun hc=>?_|refine bq (fun hc=>?_) fun hc=>?_)<;>(try simp only[hc,bs,↓reduceIte]at h)<;>try simp only[hc]
 |(with_reducible refine aD hQ ?_;(try cases h);simp only[aU,aV,bH,bI,go_sem,hD,hY,hZ,gA,x1,x2,b1,b3,b5,b6];try exact cv)
 |(cases h;done))
 (refine gL hQ ?_;simp only[aU,aV,bH,bI,go_sem])
 exact⟨rfl,y3,⟨_,vZ⟩,h3.sub nE⟩
end
end Go.Abs
namespace Go.Abs
set_option maxRecDepth 8000
open Go.Proofs
section
variable {p:Pg} {T W:List Int} {y:Lay} {m:Mc} {loc:List (Nat×List D)} {s:St}
theorem zT : ∀ (l:List Ar) (m:Mc) (out:List Nat),(Mc.args l m out).2.out=m.out∧(Mc.args l m out).2.trace=m.trace
 | [],m,out=>⟨rfl,rfl⟩
 | a::l,m,out=>by
  have hw:=gG m a.x
  simp only[Mc.args]
  by_cases c:a.ref=true
  ·rw[if_pos c];exact zT l m _
  ·rw [if_neg c]
   by_cases c2:(m.bC a.x).1.2=true
   ·rw [if_pos c2]
    obtain⟨h1,h2⟩:=zT l {(m.bC a.x).2 with mem:=(m.bC a.x).2.mem++ [(m.bC a.x).1.1]} (out++ [(m.bC a.x).2.mem.length])
    exact⟨h1.trans hw.2.2.2.2.1,h2.trans hw.2.2.2.2.2⟩
   ·rw[if_neg c2];exact⟨hw.2.2.2.2.1,hw.2.2.2.2.2⟩
structure SK (p:Pg) (fr:Fr) (v:Sm):Prop where
 said:v.nw
 args : ∀ a∈v.args,a.x.texts∧a.x.size<1000000∧(a.ref=true→∃ k,v7 fr a.name k)
 proc : ∃ (j:Nat) (q:Pc),p.at v.proc=(j:Int)∧p.procs[j]? = some q∧p.find q.name=some q
theorem SL (hp:p.iM) (VN:p.may=true) (h:Inv p T W y m loc s) {fr:Fr} {r:List Fr} (ht:mS m fr r) (hz:H4 p T W m) (hg:p.globals.length≤m.mem.length) {v:Sm} (hd:SK p fr v) :
 bM Tryz.prog o6 [.ptr 0 0, .agg (bd v)] s (Rl p T W (.int .i64 (m.call p W v).1) (m.call p W v).2 (fun _=>True) loc):=by
 have h1:=h.new (bd v)
 have Iw:2≤s.aw.length:=by have:=(List.getElem?_eq_some_iff.1 h.t1).1;omega
 generalize hn:s.ah.length=n at h1
 generalize LB:s.aw.length=tk at Iw
 have yf:v.args.length<1000000:=by have:=hd.said.2.2;have:=Ar.eB v.args;omega
 have awd:=ht.st
 refine bM.uH zm rfl fun B Q hB hQ=>?_
 have⟨hD,hY,hZ,gA⟩:=bP
 have loop : ∀ (rest:List Ar) (k:Nat) (m1:Mc) (out:List Nat) (y1:Lay) (s1:St),v.args.drop k=rest→Mc.args v.args m [] = Mc.args rest m1 out→m1.st=m.st→m1.trace=m.trace∧m1.out=m.out→m.mem.length≤m1.mem.length→out.length=k∧k≤v.args.length→(∀ c∈out,c<m1.mem.length)→
  Inv p T W y1 m1 ((n,bd v)::loc) s1→s1.aw[tk]? = some (some out.length)→
  bl Tryz.prog B 67 QCW (kE 0 (nR (kb Tryz.prog B 67 QDB Q) Q))
   [(0, .ptr 0 0),(3, .ptr n 0),(5, .slice (.tok tk) 1 (out.map fun c=>fj (y1.κ.getD c 0))),(12, .slice .shared 6 (v.args.map ew)),(13, .int .i64 (v.args.length:Int)),(14, .int .i64 (k:Int))] s1:=by
  intro rest
  induction rest with
  | nil=>
   intro k m1 out y1 s1 GQ ny vl A4 uK wj pI h2 VO
   have hD:=drop_nil GQ
   have wO:mS m1 fr r:=⟨by rw[vl];exact ht.st,ht.len,ht.names,ht.vars⟩
   obtain⟨so,g,cells,o,e1,e2,e3,e4,e5⟩:=h2.VH wO.st
   have jC:=h2.jF
   rw[fv,e1]at jC
   have tO:=(h2.loc (n,bd v) (by simp)).1
   have iL:=h2.uN
   have Gk:m.call p W v=if m1.st.length > 100 then(-1,{m1 with fin:=5})else(m1.event W v.id []).open p (p.at v.proc) out v.id:=by
    unfold Mc.call
    rw[ny]
    rfl
   have hlen:m1.st.length=r.length+1:=by rw[wO.st];rfl
   rw[Gk,hlen]at hQ
   simp only at tO
   refine bl.kT ?_
   by_cases U3:r.length+1 > 100
   ·have E6:decide (((r.length+1:Nat):Int) > 100)=true:=by simp;omega
    rw[if_pos U3]at hQ
    have h3:=h2.tY (m':= {m1 with fin:=5}) rfl rfl h2.t0 h2.t1
    rw[fv,e1]at h3
    simp only at h3
    repeat' (first
 |simp only[go_sem,hD,hY,hZ,gA,jC,tO,E6,iL]
 |(with_reducible first|refine bo fun hc=>?_|refine bp fun hc=>?_|refine bq (fun hc=>?_) fun hc=>?_)<;>(try simp only[hc,bs,↓reduceIte]at h)<;>try simp only[hc]
 |(with_reducible refine aD hQ ?_;(try cases h);simp only[aU,aV,bH,bI,go_sem,hD,hY,hZ,gA,jC,tO,E6,iL];try exact cv)
 | (cases h;done))
    (refine gL hQ ?_;simp only[aU,aV,bH,bI,go_sem])
    exact⟨rfl,y1,trivial,h3.sub fun q mq=>List.mem_cons_of_mem _ mq⟩
   ·have E6:decide (((r.length+1:Nat):Int) > 100)=false:=by simp;omega
    rw[if_neg U3]at hQ
    have c1:=vY h2 hz.W (by rw[A4.1];exact hz.trace) v.id
    repeat' (first
 |simp only[go_sem,hD,hY,hZ,gA,jC,tO,E6,iL]
 |(with_reducible first|refine bo fun hc=>?_|refine bp fun hc=>?_|refine bq (fun hc=>?_) fun hc=>?_)<;>(try simp only[hc,bs,↓reduceIte]at h)<;>try simp only[hc]
 |(with_reducible refine aD hQ ?_;(try cases h);simp only[aU,aV,bH,bI,go_sem,hD,hY,hZ,gA,jC,tO,E6,iL];try exact cv)
 | (cases h;done))
    refine CR c1 fun d s3 h3=>?_
    obtain⟨rfl,y3,rfl,h3⟩:=h3
    have he:=eW W m1 v.id []
    obtain⟨j,q,j1,j2,j3⟩:=hd.proc
    obtain⟨y4,s4,hF,h4⟩:=Mi h3 hp VN j2 j3 (by rw[he.1,hlen];have:=ht.len;omega) (l:=out) (by rw[he.2.1];exact pI) (by omega) (by rw[he.2.1];omega) v.id
    have hF':=fun g:Tag=>bM.pR (.cons (Wk.refl _) (.cons (Wk.refl _) (.cons (Wk.shared g 1 _) (ju.refl _)))) hF
    have hF2:aF Tryz.prog jl [.ptr 0 0, .int .i64 (j:Int), .slice (.tok tk) 1 (out.map fun c=>fj (y3.κ.getD c 0)), .int .i64 v.id] s3 _ s4:=hF' _
    have cP:=fun s=>Ez (p:=p) (by have:=hp.procs.1;omega) v.proc s
    have om:=h3.jF
    rw[fv]at om
    have hx3:=(h3.loc (n,bd v) (by simp)).1
    simp only at hx3
    rw[j1]at hQ cP
    repeat' (first
 |simp only[go_sem,hD,hY,hZ,gA,om,hx3]
 |(with_reducible refine CU (cP _) ?_)
 |(with_reducible refine CU (hF2) ?_)
 |(with_reducible first|refine bo fun hc=>?_|refine bp fun hc=>?_|refine bq (fun hc=>?_) fun hc=>?_)<;>(try simp only[hc,bs,↓reduceIte]at h)<;>try simp only[hc]
 |(with_reducible refine aD hQ ?_;(try cases h);simp only[aU,aV,bH,bI,go_sem,hD,hY,hZ,gA,om,hx3];try exact cv)
 | (cases h;done))
    (refine gL hQ ?_;simp only[aU,aV,bH,bI,go_sem])
    exact⟨rfl,y4,trivial,h4.sub fun q mq=>List.mem_cons_of_mem _ mq⟩
  | cons a rest ih=>
   intro k m1 out y1 s1 GQ ny vl A4 uK wj pI h2 VO
   obtain⟨hY,g2,hD,g4⟩:=drop_cons GQ
   have bO:k<4611686018427387904:=by omega
   obtain⟨a1,a2,a3⟩:=hd.args a (List.mem_of_getElem? hY)
   have wO:mS m1 fr r:=⟨by rw[vl];exact ht.st,ht.len,ht.names,ht.vars⟩
   have h3:=h2.new (ew a)
   have zq : ∀ z:List D,(s1.ah++ [z]).set s1.ah.length (ew a)=s1.ah++ [ew a]:=fun z=>by simp
   have zg : ∀ z:List D,(s1.ah++ [z])[s1.ah.length]? = some z:=fun z=>by simp
   have eK : ∀ (x:Nat) (os:List (List D)),ix 1 8 (.slice (.tok tk) 1 (out.map fun c=>fj (y1.κ.getD c 0))) (.slice .full 1 [[.ptr x 0]]) ⟨os,s1.aw⟩=some (.slice (.tok tk) 1 ((out.map fun c=>fj (y1.κ.getD c 0))++ [fj x]),⟨os,s1.aw.set tk (some (out.length+1))⟩):=fun x os=>by
    rw[nV (size:=1) (by simp only[List.length_map,List.length_singleton];unfold bA;omega) (by simpa using VO)]
    simp[fj]
   have DR : ∀ k':Nat,(s1.aw.set tk (some k'))[0]? = s1.aw[0]? ∧(s1.aw.set tk (some k'))[1]? = s1.aw[1]? ∧(s1.aw.set tk (some k'))[tk]? = some (some k'):=fun k'=>
    ⟨List.getElem?_set_ne (by omega),List.getElem?_set_ne (by omega),by simp[(List.getElem?_eq_some_iff.1 VO).1]⟩
   refine bl.kT ?_
   rcases Bool.eq_false_or_eq_true a.ref with b|b
   ·obtain⟨c,hc⟩:=a3 b
    have Km:=hc.cell wO.top
    obtain⟨j,hj,BU⟩:=hc
    have c1:=Cs h3 wO.st wO.len wO.names hj BU
    obtain⟨hκ,v0,gm,_⟩:=cell_of h2 wO.st BU
    have Ac:=(List.getElem?_eq_some_iff.1 gm).1
    repeat' (first
 |simp only[go_sem,hD,hY,hZ,gA,hY,zq,zg,b,eK]
 |(with_reducible refine CU (c1) ?_)
 |(with_reducible first|refine bo fun hc=>?_|refine bp fun hc=>?_|refine bq (fun hc=>?_) fun hc=>?_)<;>(try simp only[hc,bs,↓reduceIte]at h)<;>try simp only[hc]
 |(with_reducible refine aD hQ ?_;(try cases h);simp only[aU,aV,bH,bI,go_sem,hD,hY,hZ,gA,hY,zq,zg,b,eK];try exact cv)
 | (cases h;done))
    have:=ih (k+1) m1 (out++ [c]) y1 ⟨s1.ah++ [ew a],s1.aw.set tk (some (out.length+1))⟩ g2 (by rw[ny];simp only[Mc.args,b,if_true,Km]) vl A4 uK ⟨by simp[wj.1],g4⟩ (fun x mx=>by
     rcases List.mem_append.1 mx with mx|mx
     ·exact pI x mx
     ·rw[List.mem_singleton.1 mx];exact Ac) ((h3.sub fun q mq=>List.mem_cons_of_mem _ mq).keep (fun _ _ e=>e) (DR _).1 (DR _).2.1) (by simpa using (DR _).2.2)
    refine bl.pL ?_ this
    simp only[go_sem,aI bO,List.map_append,List.map_cons,List.map_nil]
    repeat' (first|exact Ok.out|with_reducible refine iZ ?_ ?_)
   ·have c1:=DO h3 wO a2 a1
    repeat' (first
 |simp only[go_sem,hD,hY,hZ,gA,hY,zq,zg,b]
 |(with_reducible first|refine bo fun hc=>?_|refine bp fun hc=>?_|refine bq (fun hc=>?_) fun hc=>?_)<;>(try simp only[hc,bs,↓reduceIte]at h)<;>try simp only[hc]
 |(with_reducible refine aD hQ ?_;(try cases h);simp only[aU,aV,bH,bI,go_sem,hD,hY,hZ,gA,hY,zq,zg,b];try exact cv)
 | (cases h;done))
    refine CR c1 fun d s2 h4=>?_
    obtain⟨⟨rfl,y2,vZ,h4⟩,vw⟩:=h4
    have hw:=gG m1 a.x
    simp only at vw
    rcases Bool.eq_false_or_eq_true (m1.bC a.x).1.2 with bw|bw
    ·have SI:(m1.bC a.x).2=m1:=by
      unfold Mc.bC
      dsimp only
      rw[if_pos (show(a.x.bC m1.top.names m1.bV).2=true from bw)]
     rw[SI]at h4
     have yq : ∀ z:List D,(s2.ah++ [z]).set s2.ah.length [.int .i64 (m1.bC a.x).1.1] = s2.ah++ [[.int .i64 (m1.bC a.x).1.1]]:=fun z=>by simp
     have yg : ∀ z:List D,(s2.ah++ [z])[s2.ah.length]? = some z:=fun z=>by simp
     rw[← vw]at eK DR
     have h5:=h4.anX (m1.bC a.x).1.1 (by omega)
     have hyκ:y2.κ=y1.κ:=by rw[vZ]
     have aht:y1.κ.length=m1.mem.length:=h2.len
     repeat' (first
 |simp only[go_sem,hD,hY,hZ,gA,bw,yq,yg,eK]
 |(with_reducible first|refine bo fun hc=>?_|refine bp fun hc=>?_|refine bq (fun hc=>?_) fun hc=>?_)<;>(try simp only[hc,bs,↓reduceIte]at h)<;>try simp only[hc]
 |(with_reducible refine aD hQ ?_;(try cases h);simp only[aU,aV,bH,bI,go_sem,hD,hY,hZ,gA,bw,yq,yg,eK];try exact cv)
 | (cases h;done))
     have:=ih (k+1) {m1 with mem:=m1.mem++ [(m1.bC a.x).1.1]} (out++ [m1.mem.length]) {y2 with κ:=y2.κ++ [s2.ah.length]} ⟨s2.ah++ [[.int .i64 (m1.bC a.x).1.1]],s2.aw.set tk (some (out.length+1))⟩ g2
      (by rw [ny];simp only [Mc.args,b,Bool.false_eq_true,if_false,bw,if_true,SI]) vl A4 (by simp;omega) ⟨by simp [wj.1],g4⟩ (fun x mx=>by
       simp only[List.length_append,List.length_singleton]
       rcases List.mem_append.1 mx with mx|mx
       ·have:=pI x mx;omega
       ·rw[List.mem_singleton.1 mx];omega) ((h5.sub fun q mq=>List.mem_cons_of_mem _ mq).keep (fun _ _ e=>e) (DR _).1 (DR _).2.1) (by simpa using (DR _).2.2)
     refine bl.pL ?_ this
     have an6:(out.map fun c=>fj ((y2.κ++ [s2.ah.length]).getD c 0))=out.map fun c=>fj (y1.κ.getD c 0):=List.map_congr_left fun c mc=>by rw[hyκ,DQ (by have:=pI c mc;omega)]
     have dh:(y2.κ++ [s2.ah.length]).getD m1.mem.length 0=s2.ah.length:=by rw[hyκ, ← aht];simp[List.getD_eq_getElem?_getD]
     simp only[go_sem,aI bO,List.map_append,List.map_cons,List.map_nil,an6,dh]
     repeat' (first|exact Ok.out|with_reducible refine iZ ?_ ?_)
    ·repeat' (first
 |simp only[go_sem,hD,hY,hZ,gA,bw]
 |(with_reducible first|refine bo fun hc=>?_|refine bp fun hc=>?_|refine bq (fun hc=>?_) fun hc=>?_)<;>(try simp only[hc,bs,↓reduceIte]at h)<;>try simp only[hc]
 |(with_reducible refine aD hQ ?_;(try cases h);simp only[aU,aV,bH,bI,go_sem,hD,hY,hZ,gA,bw];try exact cv)
 |(cases h;done))
     (refine gL hQ ?_;simp only[aU,aV,bH,bI,go_sem])
     have Gk:m.call p W v=(-1,(m1.bC a.x).2):=by
      unfold Mc.call
      rw[ny]
      simp only[Mc.args,b,Bool.false_eq_true,if_false,bw]
     rw[Gk]
     exact⟨rfl,y2,trivial,h4.sub fun q mq=>List.mem_cons_of_mem _ (List.mem_cons_of_mem _ mq)⟩
 have X0:(s.ah++ [bd v])[n]? = some (bd v):=by simp[← hn]
 have l0:=loop v.args 0 m [] y ⟨s.ah++ [bd v],s.aw++ [some 0]⟩ rfl rfl rfl ⟨rfl,rfl⟩ (Nat.le_refl _) ⟨rfl,Nat.zero_le _⟩ (by simp) (h1.aw _) (by simp[← LB])
 repeat' (first
 |simp only[go_sem,hD,hY,hZ,gA,X0,hn]
 |(with_reducible first|refine bo fun hc=>?_|refine bp fun hc=>?_|refine bq (fun hc=>?_) fun hc=>?_)<;>(try simp only[hc,bs,↓reduceIte]at h)<;>try simp only[hc]
 |(with_reducible refine aD hQ ?_;(try cases h);simp only[aU,aV,bH,bI,go_sem,hD,hY,hZ,gA,X0,hn];try exact cv)
 |(cases h;done))
 refine bl.qC 5 1 rfl ?_
 simp only[go_sem,hD,hY,hZ,gA]
 refine bl.pL ?_ l0
 simp only[go_sem,LB,List.map_nil]
 repeat' (first|exact Ok.out|with_reducible refine iZ ?_ ?_)
end
end Go.Abs
namespace Go.Abs
theorem VP {v:Sm} (h:v.one=true) (hk:v.kind=1∨v.kind=2):v.name≠ []:=by
 intro e
 have hn:v.hasName=true:=by unfold Sm.hasName;rcases hk with hk|hk<;>simp[hk]
 unfold Sm.one at h
 split at h
 ·cases h
 ·rw [e,hn]at h
  simp[isName]at h
theorem Hi {v:Sm} (hk:v.kind≠10) (hn:v.name≠ []):v.name∈v.said:=by
 unfold Sm.said Sm.sS
 refine va (.inl ?_)
 rw[if_pos (by simp[hk,hn])]
 simp
theorem zU {name:aG} {f:Pc} : ∀ {l:List Pc},iT name l=some f→f.name=name
 |g::l,h=>by
  simp only[iT]at h
  split at h
  ·rename_i e;cases h;simpa using e
  ·exact zU h
mutual
theorem ad1 : ∀ s:Sm,∀ v∈s.pre,v.size≤s.size
 | ⟨id,kind,labels,name,proc,x,has,args,aZ,aR⟩,v,m=>by
  rw[Sm.qf]at m
  rcases List.mem_cons.1 m with rfl|m
  ·exact Nat.le_refl _
  ·simp only [Sm.size]
   rcases List.mem_append.1 m with m|m
   ·have:=Ct aZ v m;omega
   ·have:=Ct aR v m;omega
theorem Ct : ∀ l:List Sm,∀ v∈Sm.dc l,v.size≤Sm.aY l
 | [],v,m=>by simp[Sm.dc]at m
 |s::l,v,m=>by
  simp only[Sm.dc,List.mem_append]at m
  simp only[Sm.aY]
  rcases m with m|m
  ·have:=ad1 s v m;omega
  ·have:=Ct l v m;omega
end
theorem FZ : ∀ l:List Sm,l.length≤Sm.aY l
 | []=>Nat.le_refl _
 |s::l=>by
  have:=FZ l
  have h1:1≤s.size:=by cases s;simp only[Sm.size];omega
  simp only[Sm.aY,List.length_cons];omega
section
variable {p:Pg} {m:Mc} {a:Int}
theorem Kn (hO:p.iM) (h:pk p p.aX.L a m) (hl:m.st.length≤1000) : ∃ fr r f,mS m fr r∧p.procs[fr.proc.toNat]? = some f∧fr.names=p.globals++f.own∧fr.vars.length=fr.names.length∧m.top=fr:=by
 obtain⟨fr,r,e⟩:=h.st.ne
 have ht:m.top=fr:=by simp[Mc.top,e]
 obtain⟨f,h1,h2,h3,h4,h5⟩:=h.fr fr (by rw[e];exact List.mem_cons_self ..)
 have hf:=List.mem_of_getElem? h1
 have s1:=Pc.dd hf
 have s2:=hO.sz
 simp only[Pg.size]at s2
 have hn:fr.names.length<1000000:=by
  rw[h3]
  have s3:=hO.small hf
  simp only[Pc.size]at s1
  simp only[List.length_append,Pc.own,Pc.tD,List.length_map]
  have:=s3.par;have:=s3.vars
  omega
 rw[e]at hl
 exact⟨fr,r,f,⟨e,by simp at hl;omega,hn,by omega⟩,h1,h3,h4,ht⟩
theorem F0 {fr:Fr} (hv:fr.vars.length=fr.names.length) {n:aG} (hn:n∈fr.names) : ∃ k,v7 fr n k:=by
 obtain⟨j,h1,h2⟩:=Kf (k:=0) hn
 exact⟨_,j,by simpa using h1,List.getElem?_eq_getElem (by omega)⟩
theorem ZW {fr:Fr} (h:pk p p.aX.L a m) (ht:m.top=fr) (hR:p.Right) (ha:a≠ -1) {f:Pc} (hf:p.procs[fr.proc.toNat]? = some f):BR p p.aX.L (fy p.aX.L a) f∧(fy p.aX.L a).proc=fr.proc∧fy p.aX.L a∈p.aX.L∧
 ∃ c:Nat,a=(c:Int)+1∧p.aX.L[c]? = some (fy p.aX.L a):=by
 have hm:=h.at_.resolve_left ha
 have gC:=ph (L:=p.aX.L) (.inr ⟨hm.1,hm.2.1⟩) ha
 obtain⟨f',o⟩:=(pj hR).im _ gC
 have hp:(fy p.aX.L a).proc=fr.proc:=by rw[← ht];exact hm.2.2
 have:f'=f:=by have:=o.proc.1;rw[hp,hf]at this;exact(Option.some.inj this).symm
 subst this
 have h1:=hm.1
 have h2:=hm.2.1
 refine⟨o,hp,gC,(a - 1).toNat,by omega, ?_⟩
 unfold fy
 rw[List.getD_eq_getElem?_getD,List.getElem?_eq_getElem (show(a - 1).toNat<p.aX.L.length by omega)];rfl
theorem Mj (hO:p.iM) (hR:p.Right) {x:Im} {f:Pc} {fr:Fr} (hx:BR p p.aX.L x f) (hn:fr.names=p.globals++f.own) (hv:fr.vars.length=fr.names.length):adV p fr x:=by
 have hf:=List.mem_of_getElem? hx.proc.1
 have pW:x.s∈p.pre:=by
  simp only[Pg.pre,List.mem_flatten,List.mem_map];exact⟨_,⟨f,hf,rfl⟩,hx.mem⟩
 have dM:=Ct f.body x.s hx.mem
 have s1:=Pc.dd hf
 have s2:=hO.sz
 simp only[Pg.size]at s2
 simp only[Pc.size]at s1
 have hs:Sm.aY x.s.aZ+Sm.aY x.s.aR≤x.s.size:=by
  cases x with
  |mk s _ _ _ _=>cases s;simp only[Sm.size];omega
 refine⟨hO.said hf _ hx.mem,fun hk=>?_,fun hk=>?_,fun hk=>?_, ?_, ?_⟩
 ·have hl:=hx.loop (.inl hk)
  have h1:=hl.1
  have h2:=hl.2.1
  exact⟨(x.loop - 1).toNat,_,by omega,List.getElem?_eq_getElem (by omega)⟩
 ·obtain⟨i,hi⟩:=Int.eq_ofNat_of_zero_le hx.proc.2
  exact⟨i,f,hi,by have:=hx.proc.1;rwa [hi,Int.toNat_natCast]at this⟩
 ·refine F0 hv ?_
  rw[hn]
  exact zL hR hx (Hi (by rcases hk with hk|hk<;>omega) (VP (L9 hR.may _ pW) hk))
 ·have:=FZ x.s.aZ;omega
 ·have:=FZ x.s.aR;omega
theorem SM (hO:p.iM) (hR:p.Right) {x:Im} {f:Pc} {fr:Fr} (hx:BR p p.aX.L x f) (hk:x.s.kind=4) (hn:fr.names=p.globals++f.own) (hv:fr.vars.length=fr.names.length):SK p fr x.s:=by
 have hf:=List.mem_of_getElem? hx.proc.1
 have rZ:=hO.said hf _ hx.mem
 have pW:x.s∈p.pre:=by
  simp only[Pg.pre,List.mem_flatten,List.mem_map];exact⟨_,⟨f,hf,rfl⟩,hx.mem⟩
 refine⟨rZ,fun b mb=>⟨rZ.2.1 b mb, ?_,fun hr=>?_⟩, ?_⟩
 ·have:=rZ.2.2
  have key : ∀ l:List Ar,b∈l→b.x.size≤Ar.aY l:=fun l=>by
   induction l with
   |nil=>intro m;cases m
   |cons c l ih=>
    intro m
    simp only[Ar.aY]
    rcases List.mem_cons.1 m with rfl|m
    ·omega
    ·have:=ih m;omega
  have:=key _ mb
  omega
 ·refine F0 hv ?_
  rw[hn]
  exact zL hR hx (va (.inr ⟨b,mb,hr,rfl⟩))
 ·have jo:=hR.fits _ pW (by simp [hk])
  obtain⟨q,hq⟩:=Hb jo
  obtain⟨j,h1,h2⟩:=H3 (k:=0) hq
  exact⟨j,q,by simpa[Pg.at]using h1,h2,by rw[zU hq];exact hq⟩
theorem PA (hO:p.iM) (hR:p.Right) (h:pk p p.aX.L a m) (hl:m.st.length≤1000) {fr:Fr} {r:List Fr} (ht:mS m fr r) :
 fr.call=0∨∃ (c:Nat) (it:Im) (uM:Fr) (r2:List Fr),fr.call=(c:Int)+1∧p.aX.L[c]? = some it∧mS {m with st:=r} uM r2∧(it.s.name≠ []→∃ k,v7 uM it.s.name k):=by
 have hs:=h.st
 have ji:=ht.st
 rw[ji]at hs
 cases r with
 |nil=>exact .inl hs
 | cons uM r2=>
  obtain⟨⟨h1,G4⟩,h2⟩:=hs
  have e1:=h1.1
  have e2:=h1.2.1
  refine .inr ⟨(fr.call - 1).toNat,fy p.aX.L fr.call,uM,r2,by omega, ?_, ?_,fun hn=>?_⟩
  ·unfold fy
   rw[List.getD_eq_getElem?_getD,List.getElem?_eq_getElem (show(fr.call - 1).toNat<p.aX.L.length by omega)];rfl
  ·have h3:pk p p.aX.L (-1) {m with st:=uM::r2}:=⟨h2,fun q hq=>h.fr q (by rw [ji];exact List.mem_cons_of_mem _ hq), .inl rfl,h.uv⟩
   obtain⟨Mh,r',f',t,_⟩:=Kn hO h3 (by rw[ji]at hl;simp at hl ⊢;omega)
   have:=t.st
   cases this
   exact t
  ·obtain⟨f,g1,g2,g3,g4,g5⟩:=h.fr uM (by rw [ji];simp)
   have gC:fy p.aX.L fr.call∈p.aX.L:=ph (.inr ⟨e1,e2⟩) (by omega)
   obtain⟨f',o⟩:=(pj hR).im _ gC
   have:f'=f:=by have:=o.proc.1;rw[h1.2.2,g1]at this;exact(Option.some.inj this).symm
   subst this
   refine F0 g4 ?_
   rw[g3]
   exact zL hR o (Hi (by omega) hn)
end
end Go.Abs
namespace Go.Abs
structure xK (m:Mc):Prop where
 steps:0≤m.steps
 trace:(m.trace.length:Int)≤m.steps
 out:(m.out.length:Int)≤m.steps
 reads:0≤m.reads∧m.reads≤m.steps
 st:m.st.length≤101
structure BW (m m':Mc):Prop where
 trace:m'.trace.length≤m.trace.length+1
 out:m'.out.length≤m.out.length+1
 reads:m'.reads=m.reads∨m'.reads=m.reads+1
 steps:m'.steps=m.steps
theorem SN (W:List Int) (m:Mc) (id:Int) (bV:List Int):(m.event W id bV).trace.length≤m.trace.length+1:=by
 unfold Mc.event
 split<;>simp
theorem mw (W:List Int) (m:Mc) (id:Int) (bV:List Int):BW m (m.event W id bV):=by
 have h:=eW W m id bV
 exact⟨SN W m id bV,by rw[h.2.2.2.2.2];omega, .inl h.2.2.2.2.1,h.2.2.2.1⟩
theorem E7 (m:Mc) (x:Ex):BW m (m.bC x).2:=by
 have h:=gG m x
 exact⟨by rw[h.2.2.2.2.2];omega,by rw[h.2.2.2.2.1];omega, .inl h.2.2.2.1,h.2.2.1⟩
theorem w7 (p:Pg) (m:Mc) (i:Int) (l:List Nat) (c:Int):(m.open p i l c).2.trace=m.trace∧(m.open p i l c).2.out=m.out∧(m.open p i l c).2.reads=m.reads∧(m.open p i l c).2.steps=m.steps:=by
 unfold Mc.open
 split<;>exact⟨rfl,rfl,rfl,rfl⟩
theorem w8 : ∀ (l:List Ar) (m:Mc) (out:List Nat),(Mc.args l m out).2.reads=m.reads∧(Mc.args l m out).2.steps=m.steps
 | [],m,out=>⟨rfl,rfl⟩
 | a::l,m,out=>by
  have hw:=gG m a.x
  simp only[Mc.args]
  by_cases c:a.ref=true
  ·rw[if_pos c];exact w8 l m _
  ·rw [if_neg c]
   by_cases c2:(m.bC a.x).1.2=true
   ·rw [if_pos c2]
    obtain⟨h1,h2⟩:=w8 l {(m.bC a.x).2 with mem:=(m.bC a.x).2.mem++ [(m.bC a.x).1.1]} (out++ [(m.bC a.x).2.mem.length])
    exact⟨h1.trans hw.2.2.2.1,h2.trans hw.2.2.1⟩
   ·rw[if_neg c2];exact⟨hw.2.2.2.1,hw.2.2.1⟩
theorem SO (p:Pg) (W:List Int) (m:Mc) (v:Sm):BW m (m.call p W v).2∧((m.call p W v).2.st.length≤m.st.length∨(m.call p W v).2.st.length≤101):=by
 have h1:=zT v.args m []
 have h2:=w8 v.args m []
 have h3:=(vf v.args m []).1
 unfold Mc.call
 generalize Mc.args v.args m [] = r at *
 obtain⟨o,m1⟩:=r
 dsimp only at h1 h2 h3
 cases o with
 |none=>exact⟨⟨by simp[h1.2],by simp[h1.1], .inl h2.1,h2.2⟩, .inl (by simp[h3])⟩
 | some l=>
  dsimp only
  by_cases c:m1.st.length > 100
  ·rw[if_pos c];exact⟨⟨by simp[h1.2],by simp[h1.1], .inl h2.1,h2.2⟩, .inl (by simp[h3])⟩
  ·rw [if_neg c]
   have e1:=mw W m1 v.id []
   have e2:=w7 p (m1.event W v.id []) (p.at v.proc) l v.id
   have e3:=(yE p (m1.event W v.id []) (p.at v.proc) l v.id).1
   have e4:=(eW W m1 v.id []).1
   refine⟨⟨by rw[e2.1, ← h1.2];exact e1.trace,by rw[e2.2.1, ← h1.1];exact e1.out, ?_,by rw[e2.2.2.2,e1.steps,h2.2]⟩, .inr (by rw[e4]at e3;omega)⟩
   rw[e2.2.2.1, ← h2.1];exact e1.reads
theorem PB (W:List Int) (m:Mc) (v:Sm):BW m (m.fz W v).2:=by
 have hw:=gG m v.x
 unfold Mc.fz
 split
 ·dsimp only
  split
  ·have e:=mw W (m.bC v.x).2 v.id [(m.bC v.x).1.1]
   exact⟨by rw[← hw.2.2.2.2.2];exact e.trace,by rw[← hw.2.2.2.2.1];exact e.out,by rw[← hw.2.2.2.1];exact e.reads,e.steps.trans hw.2.2.1⟩
  ·exact E7 m v.x
 ·exact mw W m v.id []
theorem ZX (p:Pg) (L:List Im) (T W:List Int) (m:Mc) (it:Im):BW m (m.do p L T W it).2:=by
 have hw:=gG m it.s.x
 unfold Mc.do
 dsimp only
 split
 ·exact mw W m _ _
 split
 ·exact mw W m _ _
 split
 ·exact mw W m _ _
 split
 ·split
  ·exact⟨by simp,by simp, .inl rfl,rfl⟩
  ·rename_i n _
   have e:=mw W (({m with reads:=m.reads+1} : Mc).set it.s.name n) it.s.id [n]
   have e2:=(eW W (({m with reads:=m.reads+1} : Mc).set it.s.name n) it.s.id [n])
   exact⟨e.trace,e.out, .inr e2.2.2.2.2.1,e2.2.2.2.1⟩
 split
 ·have e:=mw W (m.bC it.s.x).2 it.s.id [(m.bC it.s.x).1.1]
  have e2:=eW W (m.bC it.s.x).2 it.s.id [(m.bC it.s.x).1.1]
  have k:BW m ((m.bC it.s.x).2.event W it.s.id [(m.bC it.s.x).1.1]):=⟨by rw[← hw.2.2.2.2.2];exact e.trace,by rw[← hw.2.2.2.2.1];exact e.out,by rw[← hw.2.2.2.1];exact e.reads,e.steps.trans hw.2.2.1⟩
  split
  ·exact⟨k.trace,k.out,k.reads,k.steps⟩
  split
  ·exact⟨k.trace,by simp[e2.2.2.2.2.2,hw.2.2.2.2.1],k.reads,k.steps⟩
  split
  ·exact k
  split
  ·exact k
  ·exact k
 ·exact E7 m it.s.x
theorem zV (L:List Im) (m:Mc) (g:Int):(m.close L g).2.trace=m.trace∧(m.close L g).2.out=m.out∧(m.close L g).2.reads=m.reads∧(m.close L g).2.steps=m.steps∧(m.close L g).2.st=m.st.tail:=by
 unfold Mc.close
 dsimp only
 split
 ·exact⟨rfl,rfl,rfl,rfl,rfl⟩
 ·split<;>exact⟨rfl,rfl,rfl,rfl,rfl⟩
theorem xK.less {m m1:Mc} (h:xK m) (k:BW {m with steps:=m.steps+1} m1) (hs:m1.st.length≤101):xK m1:=by
 have h1:=h.steps;have h2:=h.trace;have h3:=h.out;have h4:=h.reads
 have k1:=k.trace;have k2:=k.out;have k3:=k.reads;have k4:=k.steps
 dsimp only at k1 k2 k3 k4
 exact⟨by omega,by omega,by omega,by omega,hs⟩
theorem xK.close {L:List Im} {m:Mc} (h:xK m) (g:Int):xK (m.close L g).2:=by
 obtain⟨h1,h2,h3,h4,h5⟩:=zV L m g
 exact⟨by rw[h4];exact h.steps,by rw[h1,h4];exact h.trace,by rw[h2,h4];exact h.out,by rw[h3,h4];exact h.reads,by rw[h5];have:=h.st;simp;omega⟩
theorem xK.run {p:Pg} {T W:List Int} {m:Mc} (h:xK m) (hs:m.steps≤1000000) (hO:p.iM) (hW:W.length<1000000) (hT:T.length<1000000):H4 p T W m:=by
 obtain⟨rj,qU,qT⟩:=hO.procs
 have:=pf p
 have h2:=h.trace;have h3:=h.out;have h4:=h.reads
 exact⟨hW,hT,by omega,by omega,by omega,by omega,by omega⟩
set_option maxRecDepth 8000
open Go.Proofs
theorem ZY {p:Pg} (h:p.iM) (nM:(p.scope.1==0)=true) (s:St):aF Tryz.prog rE [.agg (cu p)] s (.dv (fx p) 0) s:=by
 refine aF.pure ?_ (by simp[D.bL,D.ok,jc]) (by simp[D.ok,uu]) s
 obtain⟨rj,qU,qT⟩:=h.procs
 have pI:=fun s=>vP h s
 have dh:=fun s=>Cf (p:=p) (by omega) s
 have b0:(p.scope.1 != 0) = !(p.scope.1==0):=rfl
 rw[nM]at b0
 unfold S0
 refine aF.go yv rfl fun B Q hB hQ=>?_
 have⟨hD,hY,hZ,gA⟩:=bP
 repeat' (first
 |simp only[go_sem,hD,hY,hZ,gA,b0,Bool.not_true]
 |(with_reducible refine CU (pI _) ?_)
 |(with_reducible refine CU (dh _) ?_)
 |(with_reducible refine aD hQ ?_;exact bb))
theorem ZZ {p:Pg} (h:p.iM) (nM:(p.scope.1==0)=false) (s:St):aF Tryz.prog rE [.agg (cu p)] s .dR s:=by
 refine aF.pure ?_ (by simp[D.bL,D.ok,jc]) rfl s
 have pI:=fun s=>vP h s
 have b0:(p.scope.1 != 0) = !(p.scope.1==0):=rfl
 rw[nM]at b0
 unfold S0
 refine aF.go yv rfl fun B Q hB hQ=>?_
 have⟨hD,hY,hZ,gA⟩:=bP
 repeat' (first
 |simp only[go_sem,hD,hY,hZ,gA,b0,Bool.not_false]
 |(with_reducible refine CU (pI _) ?_)
 |(with_reducible refine aD hQ ?_;exact bb))
mutual
theorem VQ {pr up next loop:Int} : ∀ (s:Sm) (m:Im),m∈s.vR pr up next loop→m.proc=pr
 | ⟨id,kind,labels,name,pc,x,has,args,aZ,aR⟩,m,h=>by
  simp only[Sm.vR]at h
  rcases List.mem_cons.1 h with rfl|h
  ·rfl
  ·rcases List.mem_append.1 h with h | h
   ·exact w9 aZ m h
   ·exact w9 aR m h
theorem w9 {pr up next loop:Int} : ∀ (l:List Sm) (m:Im),m∈Sm.jO pr up next loop l→m.proc=pr
 |s::l,m,h=>by
  simp only[Sm.jO]at h
  rcases List.mem_append.1 h with h|h
  ·exact VQ s m h
  ·exact w9 l m h
end
theorem xL : ∀ a b:List Sm,il (a++b)=il a++il b
 | [],b=>rfl
 |v::a,b=>by simp only[List.cons_append,il,xL a b,List.append_assoc]
mutual
theorem Lq : ∀ s:Sm,(il s.pre).length≤s.size
 |⟨id,kind,labels,name,pc,x,has,args,aZ,aR⟩=>by
  have:=rU aZ;have:=rU aR
  simp only[Sm.pre,il,xL,List.length_append,Sm.size];omega
theorem rU : ∀ l:List Sm,(il (Sm.dc l)).length≤Sm.aY l
 | []=>Nat.le_refl _
 |s::l=>by
  have:=Lq s;have:=rU l
  simp only[Sm.dc,xL,List.length_append,Sm.aY];omega
end
theorem SP (seen l:List aG):(iV seen l).1.length≤seen.length+l.length:=(G5 l seen).2
theorem VR {p:Pg} (h:p.iM) (s:St):aF Tryz.prog vC [.agg (cu p)] s (.agg [.int .i64 p.jump.1, .int .i64 p.jump.2]) s:=by
 refine aF.pure ?_ (by simp[D.bL,D.ok,jc]) rfl s
 obtain⟨rj,qU,qT⟩:=h.procs
 obtain⟨R,hR⟩ : ∃ R,p.jump=R:=⟨_,rfl⟩
 rw[hR]
 unfold Pg.jump at hR
 unfold S0
 rcases Bool.eq_false_or_eq_true (p.scope.1==0)with nM|nM
 case inr=>
  have hs:=fun s=>ZZ h nM s
  simp only[nM,Bool.false_eq_true,if_false]at hR
  subst hR
  refine aF.go yo rfl fun B Q hB hQ=>?_
  have⟨hD,hY,hZ,gA⟩:=bP
  repeat' (first
 |simp only[go_sem,hD,hY,hZ,gA]
 |(with_reducible refine CU (hs _) ?_)
 |(with_reducible refine aD hQ ?_;exact bb))
 have hs:=fun s=>ZY h nM s
 have hb:=BG nM
 simp only[nM,if_true]at hR
 refine aF.go yo rfl fun B Q hB hQ=>?_
 have⟨hD,hY,hZ,gA⟩:=bP
 repeat' (first
 |simp only[go_sem,hD,hY,hZ,gA]
 |(with_reducible refine CU (hs _) ?_)
 |(with_reducible refine aD hQ ?_;exact bb))
 refine fa 2 0 (bl.ind (ι:=List Pc×Nat) (fun i=>p.procs.drop i.2=i.1∧yD 7 (sW i.1)=R) (fun i=>i.1.length)
  (fun i=> [(1, .ptr 0 0),(2, .ptr 1 0),(3, .dv (fx p) 0),(16, .slice .shared 5 (p.procs.map cq)),(17, .int .i64 (p.procs.length:Int)),(18, .int .i64 (i.2:Int))]) (fun i=>⟨[cu p,[.int .i64 0, .int .i64 0]],[]⟩) ?_ (p.procs,0) ⟨rfl,hR⟩)
 clear hR
 rintro⟨rest,k⟩ ⟨h1,hR⟩ IH
 dsimp only at h1 hR
 cases rest with
 |nil=>
  have hD:=drop_nil h1
  simp only[sW,yD]at hR
  subst hR
  repeat' (first
 |simp only[go_sem,hD,hY,hZ,gA]
 |(with_reducible refine aD hQ ?_;exact bb))
 | cons f rest=>
  obtain⟨hY,g2,hD,g4⟩:=drop_cons h1
  have bO:k<4611686018427387904:=by omega
  have An:=List.mem_of_getElem? hY
  have wV:=fun s=>adp hb hY (by omega) s
  have pW:=rP (k:Int) 0 (-1) 0 f.body
  have wT:=JX (k:Int) f
  have ahu:=fun m=>w9 (pr:=(k:Int)) (up:=0) (next:= -1) (loop:=0) f.body m
  have JZ:=ER h An
  have vT:=G6 h An
  have ad2:(il (Sm.dc f.body)).length≤900000:=by
   have h1:=rU f.body
   have h2:=Pc.dd An
   simp only[Pc.size]at h2
   omega
  rw[← pW]at ad2
  generalize hI:Sm.jO (k:Int) 0 (-1) 0 f.body=I at *
  have hIl:I.length≤900000:=by rw[← pW,List.length_map]at JZ;exact JZ
  simp only[sW, ← wT]at hR
  obtain⟨J,hJ⟩ : ∃ J,sV f.labels f.fin [] (I.map Im.pair)=J:=⟨_,rfl⟩
  rw[hJ]at hR
  have hld:=fun(m:Im) (hm:m∈I) s=>ZF h hb hY m (ahu m hm) s
  repeat' (first
 |simp only[go_sem,hD,hY,hZ,gA]
 |(with_reducible refine CU (wV _) ?_)
 | (with_reducible refine aD hQ ?_;exact bb))
  refine bl.qC 6 1 rfl ?_
  simp only[go_sem,hD,hY,hZ,gA]
  refine fa 3 1 (bl.ind (ι:=List Im×Nat×List aG×Nat) (fun i=>I.drop i.2.1=i.1∧sV f.labels f.fin i.2.2.1 (i.1.map Im.pair)=J∧i.2.2.2=i.2.2.1.length∧i.2.2.1.length+(il (i.1.map Im.s)).length≤900000) (fun i=>i.1.length)
   (fun i=> [(1, .ptr 0 0),(2, .ptr 1 0),(3, .dv (fx p) 0),(5, .ptr 2 0),(6, .slice (.tok 0) 1 (i.2.2.1.map encStr)),(16, .slice .shared 5 (p.procs.map cq)),(17, .int .i64 (p.procs.length:Int)),(18, .int .i64 (k:Int)),
    (25, .slice .shared 17 (I.map dt)),(26, .int .i64 (I.length:Int)),(27, .int .i64 (i.2.1:Int))]) (fun i=>⟨[cu p,[.int .i64 0, .int .i64 0],cq f],[some i.2.2.2]⟩) ?_ (I,0,[],0) ⟨rfl,hJ,rfl,by simpa using ad2⟩)
  clear hJ
  rintro⟨qs,k2,seen,n2⟩ ⟨j1,j2,j3,j4⟩ By
  dsimp only at j1 j2 j3 j4
  subst j3
  cases qs with
  | nil=>
   have Ka:=drop_nil j1
   simp only[List.map_nil,sV]at j2
   simp only[List.map_nil,il,List.length_nil,Nat.add_zero]at j4
   have Hj:=fun {s:St} {t:Nat} (ht:s.aw[t]? = some (some seen.length))=>Se (seen:=seen) (l:=f.fin) (by omega) ht
   obtain⟨P1,hP1⟩ : ∃ P1,iV seen f.fin=P1:=⟨_,rfl⟩
   rw[hP1]at j2 Hj
   rcases Bool.eq_false_or_eq_true P1.2 with c1|c1
   ·simp only [c1,if_true]at j2
    subst j2
    simp only at hR
    repeat' (first
 |simp only[go_sem,hD,hY,hZ,gA,Ka,c1,Bool.not_true]
 |(with_reducible refine CU (Hj (by with_unfolding_all rfl)) ?_)
 | (with_reducible refine aD hQ ?_;exact bb))
    refine eO 2 0 ?_ ?_ (IH (rest,k+1) ⟨g2,hR⟩ (Nat.lt_succ_self _))
    ·(simp only[go_sem,hD,hY,hZ,gA,aI bO];try exact bW)
    ·(simp only[go_sem,hD,hY,hZ,gA,aI bO];try exact bW)
   ·simp only [c1,Bool.false_eq_true,if_false]at j2
    subst j2
    simp only[yD]at hR
    subst hR
    repeat' (first
 |simp only[go_sem,hD,hY,hZ,gA,Ka,c1,Bool.not_false]
 |(with_reducible refine CU (Hj (by with_unfolding_all rfl)) ?_)
 | (with_reducible refine aD hQ ?_;exact bb))
  | cons m qs=>
   obtain⟨mH,j5,tH,j6⟩:=drop_cons j1
   have uL:k2<4611686018427387904:=by omega
   have Mk:=List.mem_of_getElem? mH
   have XO:=fun s=>hld m Mk s
   simp only[List.map_cons,Im.pair,sV]at j2
   simp only[List.map_cons,il,List.length_append]at j4
   have Hj:=fun {s:St} {t:Nat} (ht:s.aw[t]? = some (some seen.length))=>Se (seen:=seen) (l:=m.s.labels) (by omega) ht
   have Wz:=SP seen m.s.labels
   obtain⟨P1,hP1⟩ : ∃ P1,iV seen m.s.labels=P1:=⟨_,rfl⟩
   rw[hP1]at j2 Hj Wz
   rcases Bool.eq_false_or_eq_true P1.2 with c1|c1
   ·rcases Bool.eq_false_or_eq_true (qt f.labels m.s m.loop)with c2 | c2
    ·simp only [c1,c2,if_true]at j2
     repeat' (first
 |simp only[go_sem,hD,hY,hZ,gA,mH,tH,c1,c2,Bool.not_true]
 |(with_reducible refine CU (Hj (by with_unfolding_all rfl)) ?_)
 |(with_reducible refine CU (XO _) ?_)
 | (with_reducible refine aD hQ ?_;exact bb))
     refine eO 3 1 ?_ ?_ (By (qs,k2+1,P1.1,P1.1.length) ⟨j5,j2,rfl,by dsimp only;omega⟩ (Nat.lt_succ_self _))
     ·(simp only[go_sem,hD,hY,hZ,gA,aI uL];try exact bW)
     ·(simp only[go_sem,hD,hY,hZ,gA,aI uL];try exact bW)
    ·simp only [c1,c2,if_true,Bool.false_eq_true,if_false]at j2
     subst j2
     simp only[yD]at hR
     subst hR
     repeat' (first
 |simp only[go_sem,hD,hY,hZ,gA,mH,tH,c1,c2,Bool.not_true,Bool.not_false]
 |(with_reducible refine CU (Hj (by with_unfolding_all rfl)) ?_)
 |(with_reducible refine CU (XO _) ?_)
 | (with_reducible refine aD hQ ?_;exact bb))
   ·simp only [c1,Bool.false_eq_true,if_false]at j2
    subst j2
    simp only[yD]at hR
    subst hR
    repeat' (first
 |simp only[go_sem,hD,hY,hZ,gA,mH,tH,c1,Bool.not_false]
 |(with_reducible refine CU (Hj (by with_unfolding_all rfl)) ?_)
 |(with_reducible refine CU (XO _) ?_)
 |(with_reducible refine aD hQ ?_;exact bb))
theorem VS (x:It):(fA x)[2]? = some (.slice .shared 1 (x.s.labels.map encStr)):=nd rfl
theorem SQ (x:It):(fA x)[14]? = some (.int .i64 x.cf):=nd rfl
attribute [go_sem] VS SQ
end Go.Abs
namespace Go.Abs
set_option maxRecDepth 8000
open Go.Proofs
def Pc.an8:List Pc→Nat
 | []=>0
 |f::l=>Sm.jd f.body+Pc.an8 l
theorem VT {p:Pg} (h:p.may=false):p.scope=(1,0):=by unfold Pg.scope;rw[h];rfl
theorem ad4 {p:Pg} (h:p.iM) (s:St):aF Tryz.prog xu [.agg (cu p)] s (.agg [.int .i64 p.check.1, .int .i64 p.check.2]) s:=by
 refine aF.pure ?_ (by simp[D.bL,D.ok,jc]) rfl s
 have h1:=fun s=>JD h.O3 s
 rw[Cj]at h1
 have h2:=fun s=>vP h s
 have h3:=fun s=>JP h s
 have h4:=fun s=>VR h s
 have h5:=fun s=>Sp h s
 obtain⟨R,hR⟩ : ∃ R,p.check=R:=⟨_,rfl⟩
 rw[hR]
 unfold Pg.check at hR
 unfold S0
 rcases Bool.eq_false_or_eq_true p.may with b0|b0
 case inr=>
  have e:((1:Int)==0)=false:=rfl
  rw[VT b0]at hR
  simp only[e,Bool.false_eq_true,if_false]at hR
  subst hR
  refine aF.go oi rfl fun B Q hB hQ=>?_
  have⟨hD,hY,hZ,gA⟩:=bP
  repeat' (first
 |simp only[go_sem,hD,hY,hZ,gA,b0,Bool.not_false]
 |(with_reducible refine CU (h1 _) ?_)
 |(with_reducible refine aD hQ ?_;exact bb))
 rcases Bool.eq_false_or_eq_true (p.scope.1==0)with b1|b1
 case inr=>
  simp only[b1,Bool.false_eq_true,if_false]at hR
  subst hR
  refine aF.go oi rfl fun B Q hB hQ=>?_
  have⟨hD,hY,hZ,gA⟩:=bP
  repeat' (first
 |simp only[go_sem,hD,hY,hZ,gA,b0,b1,Bool.not_true]
 |(with_reducible refine CU (h1 _) ?_)
 |(with_reducible refine CU (h2 _) ?_)
 |(with_reducible refine aD hQ ?_;exact bb))
 simp only[b1,if_true]at hR
 rcases Bool.eq_false_or_eq_true (p.arity.1==0)with b2|b2
 case inr=>
  simp only[b2,Bool.false_eq_true,if_false]at hR
  subst hR
  refine aF.go oi rfl fun B Q hB hQ=>?_
  have⟨hD,hY,hZ,gA⟩:=bP
  repeat' (first
 |simp only[go_sem,hD,hY,hZ,gA,b0,b1,b2,Bool.not_true]
 |(with_reducible refine CU (h1 _) ?_)
 |(with_reducible refine CU (h2 _) ?_)
 |(with_reducible refine CU (h3 _) ?_)
 |(with_reducible refine aD hQ ?_;exact bb))
 simp only[b2,if_true]at hR
 rcases Bool.eq_false_or_eq_true (p.jump.1==0)with b3|b3
 case inr=>
  simp only[b3,Bool.false_eq_true,if_false]at hR
  subst hR
  refine aF.go oi rfl fun B Q hB hQ=>?_
  have⟨hD,hY,hZ,gA⟩:=bP
  repeat' (first
 |simp only[go_sem,hD,hY,hZ,gA,b0,b1,b2,b3,Bool.not_true]
 |(with_reducible refine CU (h1 _) ?_)
 |(with_reducible refine CU (h2 _) ?_)
 |(with_reducible refine CU (h3 _) ?_)
 |(with_reducible refine CU (h4 _) ?_)
 |(with_reducible refine aD hQ ?_;exact bb))
 simp only[b3,if_true]at hR
 subst hR
 refine aF.go oi rfl fun B Q hB hQ=>?_
 have⟨hD,hY,hZ,gA⟩:=bP
 repeat' (first
 |simp only[go_sem,hD,hY,hZ,gA,b0,b1,b2,b3,Bool.not_true]
 |(with_reducible refine CU (h1 _) ?_)
 |(with_reducible refine CU (h2 _) ?_)
 |(with_reducible refine CU (h3 _) ?_)
 |(with_reducible refine CU (h4 _) ?_)
 |(with_reducible refine CU (h5 _) ?_)
 |(with_reducible refine aD hQ ?_;exact bb))
theorem SR {p:Pg} (h:p.iM) (s:St):aF Tryz.prog sO [.agg (cu p)] s (.bool (p.check.1==0)) s:=by
 refine aF.pure ?_ (by simp[D.bL,D.ok,jc]) rfl s
 have h1:=fun s=>ad4 h s
 unfold S0
 refine aF.go Hv rfl fun B Q hB hQ=>?_
 have⟨hD,hY,hZ,gA⟩:=bP
 repeat' (first
 |simp only[go_sem,hD,hY,hZ,gA]
 |(with_reducible refine CU (h1 _) ?_)
 |(with_reducible refine aD hQ ?_;exact bb))
def fO (m:Mc):List D:= [.int .i64 m.fin, .int .i64 m.steps, .int .i64 m.reads, .slice .shared 1 (m.out.map bE), .slice .shared 2 (m.trace.map jD)]
theorem ad5 (e:Int×List Int):D.bL 0 0 (jD e)=true:=by simp[jD,D.bL,D.ok,Tag.ok,iw]
theorem ahv (l:List (Int×List Int)):D.gS 0 0 (l.map jD)=true:=gT ad5 l
theorem ahw (n m:Nat) (l:List (Int×List Int)):D.kz n m (l.map jD)=l.map jD:=lV ad5 n m l
attribute [go_sem] ahw
abbrev runT (m:Mc):List D:= [.int .i64 m.fin, .int .i64 m.steps, .int .i64 m.reads, .slice (.tok 0) 1 (m.out.map bE), .slice (.tok 1) 2 (m.trace.map jD)]
section
variable {p:Pg} {T W:List Int} {fuel:Int} {B:fU} {Q:Exit→Tm→St→Prop} {mf:Mc}
theorem Inv.rk {y:Lay} {m:Mc} {s:St} {q:Nat} {r r':List D} {loc:List (Nat×List D)} (h:Inv p T W y m ((q,r)::loc) s) (hq : ∀ x∈loc,x.1≠q) (hr:r.length≠4):Inv p T W y m ((q,r')::loc) ⟨s.ah.set q r',s.aw⟩:=by
 obtain⟨h1,h2⟩:=h.loc (q,r) (List.mem_cons_self ..)
 simp only at h1 h2
 have ne : ∀ {o:Nat} {x:List D},s.ah[o]? = some x→o≠q→(s.ah.set q r')[o]? = some x:=fun e hn=>by rw[List.getElem?_set_ne (Ne.symm hn)];exact e
 have no : ∀ o∈y.own,o≠q:=fun o mo e=>h2 (e ▸ mo)
 have ka : ∀ {d:D} {cs:List D},(∀ o∈d.arr,o∈y.own)→jE s d cs→jE ⟨s.ah.set q r',s.aw⟩ d cs:=fun hd ha=>ha.keep fun o mo=>by
  show(s.ah.set q r')[o]? = _
  rw[List.getElem?_set_ne (Ne.symm (no o (hd o mo)))]
 obtain⟨l,hl⟩:=h.bV
 refine⟨ne h.jF (no 0 (by simp[Lay.own])),h.t0,h.t1,h.len,fun i c v e1 e2=>ne (h.cell i c v e1 e2) (no c (by simp[Lay.own,List.mem_of_getElem? e1])),h.sA,fun i o fr e1 e2=>?_,ka (fun o m=>by simp[Lay.own,m]) h.stack,⟨l,ka (fun o m=>by simp[Lay.own,m]) hl⟩,h.own,fun x mx=>?_⟩
 ·obtain⟨f1,f2,f3⟩:=h.frame i o fr e1 e2
  exact⟨ne f1 (LJ f1 h1 fun e=>hr (by rw[← e];rfl)),f2,f3⟩
 ·rcases List.mem_cons.1 mx with rfl | mx
  ·exact⟨by simp[fV h1],h2⟩
  ·obtain⟨f1,f2⟩:=h.loc x (List.mem_cons_of_mem _ mx)
   exact⟨ne f1 (hq x mx),f2⟩
abbrev BX:List D:= [.int .i64 0, .int .i64 0, .int .i64 0, .slice .full 0 [], .slice .full 0 []]
structure F1 (p:Pg) (T W:List Int) (fuel:Int):Prop where
 ok:p.iM
 right:p.Right
 W:W.length<1000000
 T:T.length<1000000
 fuel:0≤fuel∧fuel≤1000000
structure At (p:Pg) (T W:List Int) (fuel:Int) (a:Int) (m:Mc) (y:Lay) (q:Nat) (s:St):Prop where
 inv : ∃ r:List D,r.length=17∧Inv p T W y m [(q,r),(2,BX)] s
 ok:pk p p.aX.L a m
 sz:xK m
 fin:m.fin=0
 fuel:m.steps≤fuel
abbrev TMr (fuel:Int) (q:Nat) (a:Int):Tm:= [(2, .int .i64 fuel),(8, .ptr 2 0),(10, .ptr 0 0),(11, .ptr q 0),(13, .int .i64 a)]
abbrev JJ (B:fU) (Q:Exit→Tm→St→Prop):=yX Tryz.prog B 131 Q4P Q
theorem E8 (hQ:pS 0 0 [(8,some (true,5)),(9,none)] (.tuple [.agg (fO mf), .int .i64 0]) ⟨[],[]⟩=Q) {y:Lay} {q:Nat} {r:List D} {s:St} (h:Inv p T W y mf [(q,r),(2,BX)] s) {tm:Tm} (ht:vy tm [(8, .ptr 2 0),(10, .ptr 0 0)]):JJ B Q (.goto 2) tm s:=by
 refine Dp (r:= .seq .skip Q47) rfl (lG.pL ht (lG.kT ?_))
 have hm:=h.jF
 rw[fv]at hm
 have h2:=(h.loc (2,BX) (by simp)).1
 have hl:=fV h2
 have⟨hD,hY,hZ,gA⟩:=bP
 have z8 : ∀ r,(s.ah.set 2 r)[2]? = some r:=fun r=>List.getElem?_set_self hl
 simp only[fO]at hQ
 repeat' (first
 |simp only[go_sem,hD,hY,hZ,gA,hm,h2,z8]
 |(with_reducible first|refine bo fun hc=>?_|refine bp fun hc=>?_|refine bq (fun hc=>?_) fun hc=>?_)<;>(try simp only[hc,bs,↓reduceIte]at h)<;>try simp only[hc]
 |(with_reducible refine aD hQ ?_;(try cases h);simp only[aU,aV,bH,bI,go_sem,hD,hY,hZ,gA,hm,h2,z8];try exact cv)
 |(cases h;done))
theorem Ko (hS:F1 p T W fuel) (hQ:pS 0 0 [(8,some (true,5)),(9,none)] (.tuple [.agg (fO mf), .int .i64 0]) ⟨[],[]⟩=Q) {a:Int} {m:Mc} {y:Lay} {q:Nat} {s:St} {g:Int} (h:At p T W fuel a m y q s)
 (ad7:m.back p.aX.L g=(none,mf)∨∃ a' m',m.back p.aX.L g=(some a',m')∧∀ y' s' tm,At p T W fuel a' m' y' q s'→vy tm (TMr fuel q a')→JJ B Q (.goto 1) tm s')
 {tm:Tm} (ht:vy tm [(2, .int .i64 fuel),(8, .ptr 2 0),(10, .ptr 0 0),(11, .ptr q 0),(12, .int .i64 g)]):JJ B Q (.goto 0) tm s:=by
 obtain⟨⟨r,hr,hi⟩,pJ,dM,vT,hfu⟩:=h
 obtain⟨fr,rs,f,zM,h1,h2,h3,h4⟩:=Kn hS.ok pJ (by have:=dM.st;omega)
 have C7:=dM.run (by have:=hS.fuel;omega) hS.ok hS.W hS.T
 have hc:=PA hS.ok hS.right pJ (by have:=dM.st;omega) zM
 have c1:=ZV hi zM C7.L hc g
 have oK:=zV p.aX.L m g
 refine Dp (r:= .seq .skip Q4A) rfl (lG.pL ht (lG.kT ?_))
 have⟨hD,hY,hZ,gA⟩:=bP
 repeat' (first
 |simp only[go_sem,hD,hY,hZ,gA]
 |(with_reducible first|refine bo fun hc=>?_|refine bp fun hc=>?_|refine bq (fun hc=>?_) fun hc=>?_)<;>(try simp only[hc,bs,↓reduceIte]at h)<;>try simp only[hc]
 |(with_reducible refine aD hQ ?_;exact ga)
 |(cases h;replace h:=hr;clear hr;(try simp only[bs,↓reduceIte]at h))
 |(cases h;done))
 refine CR c1 fun d s2 Kp=>?_
 obtain⟨rfl,y2,vZ,nK⟩:=Kp
 have jC:=nK.jF
 rw[fv]at jC
 have X1:=(nK.loc (2,BX) (by simp)).1
 have iL:=fV X1
 have z8 : ∀ r,(s2.ah.set 2 r)[2]? = some r:=fun r=>List.getElem?_set_self iL
 simp only at X1
 have hb:m.back p.aX.L g=(if(m.close p.aX.L g).2.fin==0 then some (m.close p.aX.L g).1 else none,(m.close p.aX.L g).2):=rfl
 rcases Bool.eq_false_or_eq_true ((m.close p.aX.L g).2.fin==0)with b|b
 ·rw [b,if_pos rfl]at hb
  rcases ad7 with he|⟨a',m',he,hIH⟩
  ·rw[hb]at he;cases he
  ·have hk:=ZN (pj hS.right) pJ he
   rw[hb]at he
   cases he
   repeat' (first
 |simp only[go_sem,hD,hY,hZ,gA,jC,b]
 |(with_reducible first|refine bo fun hc=>?_|refine bp fun hc=>?_|refine bq (fun hc=>?_) fun hc=>?_)<;>(try simp only[hc,bs,↓reduceIte]at h)<;>try simp only[hc]
 |(with_reducible refine aD hQ ?_;(try cases h);simp only[aU,aV,bH,bI,go_sem,hD,hY,hZ,gA,jC,b];try exact cv)
 |(cases h;replace h:=hr;clear hr;(try simp only[bs,↓reduceIte]at h))
 | (cases h;done))
   refine hIH y2 s2 _ ⟨⟨r,hr,nK⟩,hk,dM.close g,by simpa using b,by rw[oK.2.2.2.1];exact hfu⟩ ?_
   simp only[go_sem]
   repeat' (first|exact Ok.out|with_reducible refine iZ ?_ ?_)
 ·rw [b,if_neg (by simp)]at hb
  rcases ad7 with he|⟨a',m',he,hIH⟩
  ·rw [hb]at he
   cases he
   simp only[fO]at hQ
   repeat' (first
 |simp only[go_sem,hD,hY,hZ,gA,jC,b,X1,z8]
 |(with_reducible first|refine bo fun hc=>?_|refine bp fun hc=>?_|refine bq (fun hc=>?_) fun hc=>?_)<;>(try simp only[hc,bs,↓reduceIte]at h)<;>try simp only[hc]
 |(with_reducible refine aD hQ ?_;(try cases h);simp only[aU,aV,bH,bI,go_sem,hD,hY,hZ,gA,jC,b,X1,z8];try exact cv)
 |(cases h;replace h:=hr;clear hr;(try simp only[bs,↓reduceIte]at h))
 |(cases h;done))
  ·rw[hb]at he;cases he
theorem VU (hS:F1 p T W fuel) (hQ:pS 0 0 [(8,some (true,5)),(9,none)] (.tuple [.agg (fO mf), .int .i64 0]) ⟨[],[]⟩=Q) : ∀ (N:Nat) (a:Int) (m:Mc) (y:Lay) (q:Nat) (s:St),At p T W fuel a m y q s→Mc.go p p.aX.L T W fuel N a m=some mf→
 Sem Tryz.prog B 131 Q4I (JJ B Q) (TMr fuel q a) s:=by
 intro N
 induction N with
 |zero=>intro a m y q s _ h;cases h
 | succ N ih=>
  intro a m y q s rm kQ
  have IH : ∀ (a':Int) (m':Mc) (y':Lay) (s':St) (tm:Tm),Mc.go p p.aX.L T W fuel N a' m'=some mf→At p T W fuel a' m' y' q s'→vy tm (TMr fuel q a')→JJ B Q (.goto 1) tm s':=fun a' m' y' s' tm hg hA ht=>
   Dp (r:= .seq .skip Q4I) rfl (lG.pL ht (lG.once (Sem.ni (ih a' m' y' q s' hA hg))))
  have an9:=rm
  obtain⟨⟨r,hr,hi⟩,pJ,dM,vT,hfu⟩:=rm
  simp only[Mc.go]at kQ
  refine iF ?_
  have⟨hD,hY,hZ,gA⟩:=bP
  have hm:=hi.jF
  rw[fv]at hm
  have qO:=hi.uN
  rcases Bool.eq_false_or_eq_true (a == -1)with ba|ba
  ·have hn:m.next p p.aX.L T W fuel a=m.back p.aX.L 0:=by unfold Mc.next;rw [if_pos ba]
   rw[hn]at kQ
   repeat' (first
 |simp only[go_sem,hD,hY,hZ,gA,ba]
 |(with_reducible first|refine bo fun hc=>?_|refine bp fun hc=>?_|refine bq (fun hc=>?_) fun hc=>?_)<;>(try simp only[hc,bs,↓reduceIte]at h)<;>try simp only[hc]
 |(with_reducible refine aD hQ ?_;(try cases h);simp only[aU,aV,bH,bI,go_sem,hD,hY,hZ,gA,ba];try exact cv)
 |(cases h;replace h:=hr;clear hr;(try simp only[bs,↓reduceIte]at h))
 | (cases h;done))
   refine Ko hS hQ an9 (g:=0) ?_ ?_
   ·rcases e:m.back p.aX.L 0 with ⟨_ | a',m'⟩
    ·rw[e]at kQ;cases kQ;exact .inl rfl
    ·rw[e]at kQ;exact .inr ⟨a',m',rfl,fun y' s' tm h1 h2=>IH a' m' y' s' tm kQ h1 h2⟩
   ·simp only [go_sem]
    repeat' (first|exact Ok.out|with_reducible refine iZ ?_ ?_)
  rcases Bool.eq_false_or_eq_true (m.steps==fuel)with bf|bf
  ·have hn:m.next p p.aX.L T W fuel a=(none,{m with fin:=2}):=by unfold Mc.next;rw [if_neg (by simp [ba]),if_pos bf]
   rw[hn]at kQ
   cases kQ
   have h2:=hi.tY (m':= {m with fin:=2}) rfl rfl hi.t0 hi.t1
   rw[fv]at h2
   simp only at h2
   repeat' (first
 |simp only[go_sem,hD,hY,hZ,gA,ba,bf,hm,qO]
 |(with_reducible first|refine bo fun hc=>?_|refine bp fun hc=>?_|refine bq (fun hc=>?_) fun hc=>?_)<;>(try simp only[hc,bs,↓reduceIte]at h)<;>try simp only[hc]
 |(with_reducible refine aD hQ ?_;(try cases h);simp only[aU,aV,bH,bI,go_sem,hD,hY,hZ,gA,ba,bf,hm,qO];try exact cv)
 |(cases h;replace h:=hr;clear hr;(try simp only[bs,↓reduceIte]at h))
 | (cases h;done))
   refine E8 hQ h2 ?_
   simp only[go_sem]
   repeat' (first|exact Ok.out|with_reducible refine iZ ?_ ?_)
  -- a statement
  obtain⟨fr,rs,f,zM,h1,h2,h3,h4⟩:=Kn hS.ok pJ (by have:=dM.st;omega)
  have aoa:a≠ -1:=by simpa using ba
  obtain⟨hx,wT,gC,c,hac,Kq⟩:=ZW pJ h4 hS.right aoa h1
  have hfb:=hS.fuel
  have C7:=dM.run (by omega) hS.ok hS.W hS.T
  have awh:m.steps<fuel:=by
   have h:m.steps≠fuel:=by simpa using bf
   omega
  have vm:=dM.steps
  have E5:IntKind.wrap .i64 (m.steps+1)=m.steps+1:=eg (by omega) (by omega)
  have BT:IntKind.wrap .i64 (a - 1)=(c:Int):=by
   have:=(List.getElem?_eq_some_iff.1 Kq).1
   have:=C7.L
   rw[show a - 1=(c:Int) by omega];exact eg (by omega) (by omega)
  have cS:(fx p)[2]? = some (.slice .shared 17 (p.aX.L.map dt)):=rfl
  have Ml:=hi.tY (m':= {m with steps:=m.steps+1}) rfl rfl hi.t0 hi.t1
  generalize pN:fy p.aX.L a=it at *
  have aob:2≠q:=by
   have e1:=(hi.loc (q,r) (by simp)).1
   have e2:=(hi.loc (2,BX) (by simp)).1
   exact LJ e2 e1 fun e=>by have e':BX=r:=e;rw[← e']at hr;cases hr
  have F2:17≤r.length:=by omega
  have Mm:List.drop 17 r = []:=List.drop_of_length_le (by omega)
  have nK:=Ml.rk (r':=dt it) (by simpa using aob) (by omega)
  have ny:=Ml.jF
  have Hk:=(Ml.loc (q,r) (by simp)).1
  have Bd:=(nK.loc (q,dt it) (by simp)).1
  rw[fv]at ny nK Hk Bd
  simp only at ny nK Hk Bd
  have hle:q<s.ah.length:=fV (hi.loc (q,r) (by simp)).1
  have PD:mS ({m with steps:=m.steps+1} : Mc) fr rs:=⟨zM.st,zM.len,zM.names,zM.vars⟩
  have PE:H4 p T W ({m with steps:=m.steps+1} : Mc):=⟨C7.W,C7.T,C7.trace,C7.out,C7.L,C7.P,C7.reads⟩
  have Kr:pk p p.aX.L a ({m with steps:=m.steps+1} : Mc):=pJ.of rfl (Nat.le_refl _) pJ.at_
  have hn:m.next p p.aX.L T W fuel a=(if it.s.kind==4 then(if(({m with steps:=m.steps+1} : Mc).call p W it.s).2.fin==0 then some (({m with steps:=m.steps+1} : Mc).call p W it.s).1 else none,(({m with steps:=m.steps+1} : Mc).call p W it.s).2)
   else if it.s.kind==9 then(if(({m with steps:=m.steps+1} : Mc).fz W it.s).2.fin==0 then(({m with steps:=m.steps+1} : Mc).fz W it.s).2.back p.aX.L (({m with steps:=m.steps+1} : Mc).fz W it.s).1 else(none,(({m with steps:=m.steps+1} : Mc).fz W it.s).2))
   else(if(({m with steps:=m.steps+1} : Mc).do p p.aX.L T W it).2.fin==0 then some (({m with steps:=m.steps+1} : Mc).do p p.aX.L T W it).1 else none,(({m with steps:=m.steps+1} : Mc).do p p.aX.L T W it).2)):=by
   unfold Mc.next
   rw[if_neg (by simp[ba]),if_neg (by simp[bf])]
   dsimp only
   rw[pN]
  rw[hn]at kQ
  generalize Mk:({m with steps:=m.steps+1} : Mc)=m1 at *
  have aoc:m1.fin=0:=by rw[← Mk];exact vT
  have VV:m1.steps=m.steps+1:=by rw[← Mk]
  have PF : ∀ m2:Mc,BW m1 m2→m2.st.length≤101→xK m2:=fun m2 hl hs=>dM.less (by rw[Mk];exact hl) hs
  have Ks:m1.st=m.st:=by rw[← Mk]
  rcases Bool.eq_false_or_eq_true (it.s.kind==4)with b4|b4
  ·rw [if_pos b4]at kQ
   have G4:it.s.kind=4:=by simpa using b4
   have c1:=SL hS.ok hS.right.may nK PD PE Kr.uv (SM hS.ok hS.right hx G4 h2 h3)
   repeat' (first
 |simp only[go_sem,hD,hY,hZ,gA,ba,bf,hm,qO,E5,ny,BT,Kq,cS,Hk,Bd,hle,b4,F2,Mm,List.append_nil]
 |(with_reducible first|refine bo fun hc=>?_|refine bp fun hc=>?_|refine bq (fun hc=>?_) fun hc=>?_)<;>(try simp only[hc,bs,↓reduceIte]at h)<;>try simp only[hc]
 |(with_reducible refine aD hQ ?_;(try cases h);simp only[aU,aV,bH,bI,go_sem,hD,hY,hZ,gA,ba,bf,hm,qO,E5,ny,BT,Kq,cS,Hk,Bd,hle,b4,F2,Mm,List.append_nil];try exact cv)
 |(cases h;replace h:=hr;clear hr;(try simp only[bs,↓reduceIte]at h))
 | (cases h;done))
   refine CR c1 fun d s2 Kp=>?_
   obtain⟨rfl,y2,_,BY⟩:=Kp
   have om:=BY.jF
   rw[fv]at om
   have oK:=SO p W m1 it.s
   have nJ:(m1.call p W it.s).2.st.length≤101:=by
    rcases oK.2 with h|h
    ·rw[Ks]at h;have:=dM.st;omega
    ·exact h
   rcases Bool.eq_false_or_eq_true ((m1.call p W it.s).2.fin==0)with b|b
   ·rw [b,if_pos rfl]at kQ
    repeat' (first
 |simp only[go_sem,hD,hY,hZ,gA,om,b]
 |(with_reducible first|refine bo fun hc=>?_|refine bp fun hc=>?_|refine bq (fun hc=>?_) fun hc=>?_)<;>(try simp only[hc,bs,↓reduceIte]at h)<;>try simp only[hc]
 |(with_reducible refine aD hQ ?_;(try cases h);simp only[aU,aV,bH,bI,go_sem,hD,hY,hZ,gA,om,b];try exact cv)
 |(cases h;replace h:=hr;clear hr;(try simp only[bs,↓reduceIte]at h))
 | (cases h;done))
    refine IH _ _ y2 s2 _ kQ ⟨⟨dt it,rfl,BY⟩,ZP hS.right Kr hx G4 (by rw[wT, ← h4];unfold Mc.top;rw[Ks]) (by simpa using b) rfl aoc,PF _ oK.1 nJ,by simpa using b,by rw[oK.1.steps,VV];omega⟩ ?_
    simp only[go_sem]
    repeat' (first|exact Ok.out|with_reducible refine iZ ?_ ?_)
   ·rw [b,if_neg (by simp)]at kQ
    cases kQ
    repeat' (first
 |simp only[go_sem,hD,hY,hZ,gA,om,b]
 |(with_reducible first|refine bo fun hc=>?_|refine bp fun hc=>?_|refine bq (fun hc=>?_) fun hc=>?_)<;>(try simp only[hc,bs,↓reduceIte]at h)<;>try simp only[hc]
 |(with_reducible refine aD hQ ?_;(try cases h);simp only[aU,aV,bH,bI,go_sem,hD,hY,hZ,gA,om,b];try exact cv)
 |(cases h;replace h:=hr;clear hr;(try simp only[bs,↓reduceIte]at h))
 | (cases h;done))
    refine E8 hQ BY ?_
    simp only[go_sem]
    repeat' (first|exact Ok.out|with_reducible refine iZ ?_ ?_)
  rw[if_neg (by simp[b4])]at kQ
  rcases Bool.eq_false_or_eq_true (it.s.kind==9)with b9|b9
  ·rw [if_pos b9]at kQ
   have c1:=ZT nK PD (Mj hS.ok hS.right hx h2 h3).said PE.W PE.trace
   repeat' (first
 |simp only[go_sem,hD,hY,hZ,gA,ba,bf,hm,qO,E5,ny,BT,Kq,cS,Hk,Bd,hle,b4,b9,F2,Mm,List.append_nil]
 |(with_reducible first|refine bo fun hc=>?_|refine bp fun hc=>?_|refine bq (fun hc=>?_) fun hc=>?_)<;>(try simp only[hc,bs,↓reduceIte]at h)<;>try simp only[hc]
 |(with_reducible refine aD hQ ?_;(try cases h);simp only[aU,aV,bH,bI,go_sem,hD,hY,hZ,gA,ba,bf,hm,qO,E5,ny,BT,Kq,cS,Hk,Bd,hle,b4,b9,F2,Mm,List.append_nil];try exact cv)
 |(cases h;replace h:=hr;clear hr;(try simp only[bs,↓reduceIte]at h))
 | (cases h;done))
   refine CR c1 fun d s2 Kp=>?_
   obtain⟨rfl,y2,_,BY⟩:=Kp
   have om:=BY.jF
   rw[fv]at om
   have qT:=PB W m1 it.s
   have hgs:=(zG W m1 it.s).1
   rcases Bool.eq_false_or_eq_true ((m1.fz W it.s).2.fin==0)with b|b
   ·rw [b,if_pos rfl]at kQ
    repeat' (first
 |simp only[go_sem,hD,hY,hZ,gA,om,b]
 |(with_reducible first|refine bo fun hc=>?_|refine bp fun hc=>?_|refine bq (fun hc=>?_) fun hc=>?_)<;>(try simp only[hc,bs,↓reduceIte]at h)<;>try simp only[hc]
 |(with_reducible refine aD hQ ?_;(try cases h);simp only[aU,aV,bH,bI,go_sem,hD,hY,hZ,gA,om,b];try exact cv)
 |(cases h;replace h:=hr;clear hr;(try simp only[bs,↓reduceIte]at h))
 | (cases h;done))
    have R4:m1.mem.length≤(m1.fz W it.s).2.mem.length:=by
     have hw:=gG m1 it.s.x
     unfold Mc.fz
     split
     ·dsimp only
      split
      ·rw[(eW _ _ _ _).2.1,hw.2.1];exact Nat.le_refl _
      ·rw[hw.2.1];exact Nat.le_refl _
     ·rw[(eW _ _ _ _).2.1];exact Nat.le_refl _
    refine Ko (a:=a) (g:=(m1.fz W it.s).1) hS hQ (y:=y2) ⟨⟨dt it,rfl,BY⟩,Kr.of hgs R4 Kr.at_,PF _ qT (by rw[hgs,Ks];exact dM.st),by simpa using b,by rw[qT.steps,VV];omega⟩ ?_ ?_
    ·rcases e:(m1.fz W it.s).2.back p.aX.L (m1.fz W it.s).1 with ⟨_ | a',m'⟩
     ·rw[e]at kQ;cases kQ;exact .inl rfl
     ·rw[e]at kQ;exact .inr ⟨a',m',rfl,fun y' s' tm h1 h2=>IH a' m' y' s' tm kQ h1 h2⟩
    ·simp only [go_sem]
     repeat' (first|exact Ok.out|with_reducible refine iZ ?_ ?_)
   ·rw [b,if_neg (by simp)]at kQ
    cases kQ
    repeat' (first
 |simp only[go_sem,hD,hY,hZ,gA,om,b]
 |(with_reducible first|refine bo fun hc=>?_|refine bp fun hc=>?_|refine bq (fun hc=>?_) fun hc=>?_)<;>(try simp only[hc,bs,↓reduceIte]at h)<;>try simp only[hc]
 |(with_reducible refine aD hQ ?_;(try cases h);simp only[aU,aV,bH,bI,go_sem,hD,hY,hZ,gA,om,b];try exact cv)
 |(cases h;replace h:=hr;clear hr;(try simp only[bs,↓reduceIte]at h))
 | (cases h;done))
    refine E8 hQ BY ?_
    simp only[go_sem]
    repeat' (first|exact Ok.out|with_reducible refine iZ ?_ ?_)
  rw[if_neg (by simp[b9])]at kQ
  have c1:=an3 hS.ok hS.right.may nK PD PE (Mj hS.ok hS.right hx h2 h3)
  repeat' (first
 |simp only[go_sem,hD,hY,hZ,gA,ba,bf,hm,qO,E5,ny,BT,Kq,cS,Hk,Bd,hle,b4,b9,F2,Mm,List.append_nil]
 |(with_reducible first|refine bo fun hc=>?_|refine bp fun hc=>?_|refine bq (fun hc=>?_) fun hc=>?_)<;>(try simp only[hc,bs,↓reduceIte]at h)<;>try simp only[hc]
 |(with_reducible refine aD hQ ?_;(try cases h);simp only[aU,aV,bH,bI,go_sem,hD,hY,hZ,gA,ba,bf,hm,qO,E5,ny,BT,Kq,cS,Hk,Bd,hle,b4,b9,F2,Mm,List.append_nil];try exact cv)
 |(cases h;replace h:=hr;clear hr;(try simp only[bs,↓reduceIte]at h))
 | (cases h;done))
  refine CR c1 fun d s2 Kp=>?_
  obtain⟨rfl,y2,_,BY⟩:=Kp
  have om:=BY.jF
  rw[fv]at om
  have hdl:=ZX p p.aX.L T W m1 it
  have A7:=(Pl p p.aX.L T W m1 it).1
  rcases Bool.eq_false_or_eq_true ((m1.do p p.aX.L T W it).2.fin==0)with b|b
  ·rw [b,if_pos rfl]at kQ
   repeat' (first
 |simp only[go_sem,hD,hY,hZ,gA,om,b]
 |(with_reducible first|refine bo fun hc=>?_|refine bp fun hc=>?_|refine bq (fun hc=>?_) fun hc=>?_)<;>(try simp only[hc,bs,↓reduceIte]at h)<;>try simp only[hc]
 |(with_reducible refine aD hQ ?_;(try cases h);simp only[aU,aV,bH,bI,go_sem,hD,hY,hZ,gA,om,b];try exact cv)
 |(cases h;replace h:=hr;clear hr;(try simp only[bs,↓reduceIte]at h))
 | (cases h;done))
   refine IH _ _ y2 s2 _ kQ ⟨⟨dt it,rfl,BY⟩,ahh hS.right Kr hx (by rw[wT, ← h4];unfold Mc.top;rw[Ks]) (by simpa using b),PF _ hdl (by rw[A7,Ks];exact dM.st),by simpa using b,by rw[hdl.steps,VV];omega⟩ ?_
   simp only[go_sem]
   repeat' (first|exact Ok.out|with_reducible refine iZ ?_ ?_)
  ·rw [b,if_neg (by simp)]at kQ
   cases kQ
   repeat' (first
 |simp only[go_sem,hD,hY,hZ,gA,om,b]
 |(with_reducible first|refine bo fun hc=>?_|refine bp fun hc=>?_|refine bq (fun hc=>?_) fun hc=>?_)<;>(try simp only[hc,bs,↓reduceIte]at h)<;>try simp only[hc]
 |(with_reducible refine aD hQ ?_;(try cases h);simp only[aU,aV,bH,bI,go_sem,hD,hY,hZ,gA,om,b];try exact cv)
 |(cases h;replace h:=hr;clear hr;(try simp only[bs,↓reduceIte]at h))
 | (cases h;done))
   refine E8 hQ BY ?_
   simp only[go_sem]
   repeat' (first|exact Ok.out|with_reducible refine iZ ?_ ?_)
end
end Go.Abs
namespace Go.Abs
set_option maxRecDepth 8000
open Go.Proofs
def ofM (p:Pg) (T W:List Int) (fuel:Int):Mc×Int:=
 if decide (fuel<0) ||(decide (fuel > 1000000) || !(p.check.1==0))then(⟨[],[],0,0,0,[],[]⟩,1)else((runM p T W fuel).getD ⟨[],[],0,0,0,[],[]⟩,0)
theorem H5 (m:Mc):D.bL 0 0 (fO m)=true:=by simp[fO,D.bL,D.ok,Tag.ok,iw,ahv]
theorem Z0 {p:Pg} (hR:p.Right) : ∃ (j:Nat) (q:Pc),p.at iU=(j:Int)∧p.procs[j]? = some q∧p.find q.name=some q∧q.params.length=0:=by
 have h:=hR.main
 unfold Pg.tG at h
 cases e:p.find iU with
 |none=>rw[e]at h;cases h
 |some q=>
  rw[e]at h
  obtain⟨j,h1,h2⟩:=H3 (k:=0) e
  refine⟨j,q,by simpa[Pg.at]using h1,h2,by rw[zU e];exact e, ?_⟩
  simp only[decide_eq_false_iff_not]at h
  omega
theorem ad8 {p:Pg} (hO:p.iM) {T W:List Int} (hT:T.length<1000000) (hW:W.length<1000000) (fuel:Int) (s:St) :
 aF Tryz.prog vA [.agg (cu p), .slice .shared 1 (T.map bE), .int .i64 fuel, .slice .shared 1 (W.map bE)] s (.tuple [.agg (fO (ofM p T W fuel).1), .int .i64 (ofM p T W fuel).2]) s:=by
 refine aF.pure ?_ (by simp[D.bL,D.ok,Tag.ok,jc,iw]) (by simp only[D.ok,D.bL,H5];rfl) s
 have cM:=fun s=>SR hO s
 have cN:=fun s=>Cf (p:=p) (by have:=hO.procs;omega) s
 generalize hR:ofM p T W fuel=R
 unfold ofM at hR
 obtain⟨R1,R2⟩:=R
 dsimp only
 unfold S0
 by_cases Kt:(decide (fuel<0) ||(decide (fuel > 1000000) || !(p.check.1==0)))=true
 ·rw [if_pos Kt]at hR
  cases hR
  simp only[fO,List.map_nil]
  rcases Bool.eq_false_or_eq_true (decide (fuel<0))with b1|b1
  ·refine aF.go uV rfl fun B Q hB hQ=> ?_
   have⟨hD,hY,hZ,gA⟩:=bP
   repeat' (first
 |simp only[go_sem,hD,hY,hZ,gA,b1]
 |(with_reducible first|refine bo fun hc=>?_|refine bp fun hc=>?_|refine bq (fun hc=>?_) fun hc=>?_)<;>(try simp only[hc,bs,↓reduceIte]at h)<;>try simp only[hc]
 |(with_reducible refine aD hQ ?_;(try cases h);simp only[aU,aV,bH,bI,go_sem,hD,hY,hZ,gA,b1];try exact cv)
 | (cases h;done))
   refine lG.kT ?_
   repeat' (first
 |simp only[go_sem,hD,hY,hZ,gA,b1]
 |(with_reducible first|refine bo fun hc=>?_|refine bp fun hc=>?_|refine bq (fun hc=>?_) fun hc=>?_)<;>(try simp only[hc,bs,↓reduceIte]at h)<;>try simp only[hc]
 |(with_reducible refine aD hQ ?_;(try cases h);simp only[aU,aV,bH,bI,go_sem,hD,hY,hZ,gA,b1];try exact cv)
 | (cases h;done))
  rcases Bool.eq_false_or_eq_true (decide (fuel > 1000000))with b2|b2
  ·refine aF.go uV rfl fun B Q hB hQ=> ?_
   have⟨hD,hY,hZ,gA⟩:=bP
   repeat' (first
 |simp only[go_sem,hD,hY,hZ,gA,b1,b2]
 |(with_reducible first|refine bo fun hc=>?_|refine bp fun hc=>?_|refine bq (fun hc=>?_) fun hc=>?_)<;>(try simp only[hc,bs,↓reduceIte]at h)<;>try simp only[hc]
 |(with_reducible refine aD hQ ?_;(try cases h);simp only[aU,aV,bH,bI,go_sem,hD,hY,hZ,gA,b1,b2];try exact cv)
 | (cases h;done))
   refine lG.kT ?_
   repeat' (first
 |simp only[go_sem,hD,hY,hZ,gA,b1,b2]
 |(with_reducible first|refine bo fun hc=>?_|refine bp fun hc=>?_|refine bq (fun hc=>?_) fun hc=>?_)<;>(try simp only[hc,bs,↓reduceIte]at h)<;>try simp only[hc]
 |(with_reducible refine aD hQ ?_;(try cases h);simp only[aU,aV,bH,bI,go_sem,hD,hY,hZ,gA,b1,b2];try exact cv)
 | (cases h;done))
  ·have b3:(p.check.1==0)=false:=by simpa [b1,b2]using Kt
   rw[b3]at cM
   refine aF.go uV rfl fun B Q hB hQ=>?_
   have⟨hD,hY,hZ,gA⟩:=bP
   repeat' (first
 |simp only[go_sem,hD,hY,hZ,gA,b1,b2]
 |(with_reducible refine CU (cM _) ?_)
 |(with_reducible first|refine bo fun hc=>?_|refine bp fun hc=>?_|refine bq (fun hc=>?_) fun hc=>?_)<;>(try simp only[hc,bs,↓reduceIte]at h)<;>try simp only[hc]
 |(with_reducible refine aD hQ ?_;(try cases h);simp only[aU,aV,bH,bI,go_sem,hD,hY,hZ,gA,b1,b2];try exact cv)
 | (cases h;done))
   refine lG.kT ?_
   repeat' (first
 |simp only[go_sem,hD,hY,hZ,gA,b1,b2]
 |(with_reducible refine CU (cM _) ?_)
 |(with_reducible first|refine bo fun hc=>?_|refine bp fun hc=>?_|refine bq (fun hc=>?_) fun hc=>?_)<;>(try simp only[hc,bs,↓reduceIte]at h)<;>try simp only[hc]
 |(with_reducible refine aD hQ ?_;(try cases h);simp only[aU,aV,bH,bI,go_sem,hD,hY,hZ,gA,b1,b2];try exact cv)
 |(cases h;done))
 rw[if_neg Kt]at hR
 simp only[Bool.or_eq_true,not_or,Bool.not_eq_true,Bool.not_eq_false']at Kt
 obtain⟨b1,b2,b3⟩:=Kt
 rw[b3]at cM
 have PG:0≤fuel∧fuel≤1000000:=by simp at b1 b2;omega
 obtain⟨mf,hmf⟩:=G7 p T W PG.1
 rw[hmf]at hR
 simp only[Option.getD_some]at hR
 cases hR
 have X2:=DM b3
 have hS:F1 p T W fuel:=⟨hO,X2,hW,hT,PG⟩
 obtain⟨j,q,j1,j2,j3,j4⟩:=Z0 X2
 have cP:=fun s=>(show aF Tryz.prog iz [.dv (fx p) 0, .str [109,97,105,110]] s (.int .i64 (p.at iU)) s from Ez (p:=p) (by have:=hO.procs;omega) iU s)
 rw[j1]at cP
 have qT:=hO.procs.2.2
 refine aF.go uV rfl fun B Q hB hQ=>?_
 have⟨hD,hY,hZ,gA⟩:=bP
 -- from the globals on
 have start : ∀ (y:Lay) (s:St),Inv p T W y (ke p) [(2,BX)] s→Sem Tryz.prog B 131 Q4M (JJ B Q) [(2, .int .i64 fuel),(8, .ptr 2 0),(10, .ptr 0 0)] s:=by
  intro y s hi
  have Ml:=hi.new [.int .i64 0, .int .i64 0, .slice .full 0 [], .str [], .str [], .int .i64 0, .int .i64 0, .str [], .slice .full 0 [], .bool false, .slice .full 0 [], .slice .full 0 [], .slice .full 0 [], .int .i64 0, .int .i64 0, .int .i64 0, .int .i64 0]
  have ny:=Ml.jF
  rw[fv]at ny
  simp only at ny
  obtain⟨y2,s2,hF,nK⟩:=Mi Ml hO X2.may j2 j3 (by simp[ke]) (l:= []) (by simp) (by simp) (by simp[ke]) 0
  have hF':=bM.pR (.cons (Wk.refl _) (.cons (Wk.refl _) (.cons (Wk.nil .full 0 1) (ju.refl _)))) hF
  have hF2:aF Tryz.prog jl [.ptr 0 0, .int .i64 (j:Int), .slice .full 0 [], .int .i64 0] _ _ s2:=hF'
  have pJ:=Mb (m:=ke p) (pj X2) j2 (l:= []) (call:=0) (by simp[j4]) (by simp) (by simp[ke]) (by simp[ke]) (.inl ⟨rfl,rfl⟩)
  have kQ:=hmf
  unfold runM at kQ
  rw[j1]at kQ
  dsimp only at kQ
  have iX:=w7 p (ke p) (j:Int) [] 0
  have uD:=(yE p (ke p) (j:Int) [] 0).1
  have wV:((ke p).open p (j:Int) [] 0).2.fin=0:=by
   unfold Mc.open
   split<;>rfl
  have aea:=VU (B:=B) hS hQ _ _ _ y2 s.ah.length s2 ⟨⟨_,rfl,nK⟩,pJ,⟨by rw[iX.2.2.2];simp[ke],by rw[iX.1,iX.2.2.2];simp[ke],by rw[iX.2.1,iX.2.2.2];simp[ke],by rw[iX.2.2.1,iX.2.2.2];simp[ke],Nat.le_trans uD (by simp[ke])⟩,wV,by rw[iX.2.2.2];simp[ke];exact PG.1⟩ kQ
  refine Sem.ni ?_
  repeat' (first
 |simp only[go_sem,hD,hY,hZ,gA]
 |(with_reducible first|refine bo fun hc=>?_|refine bp fun hc=>?_|refine bq (fun hc=>?_) fun hc=>?_)<;>(try simp only[hc,bs,↓reduceIte]at h)<;>try simp only[hc]
 |(with_reducible refine aD hQ ?_;exact ga)
 |(cases h;done))
  refine Sem.ni ?_
  repeat' (first
 |simp only[go_sem,hD,hY,hZ,gA]
 |(with_reducible first|refine bo fun hc=>?_|refine bp fun hc=>?_|refine bq (fun hc=>?_) fun hc=>?_)<;>(try simp only[hc,bs,↓reduceIte]at h)<;>try simp only[hc]
 |(with_reducible refine aD hQ ?_;exact ga)
 |(cases h;done))
  refine Sem.ni ?_
  repeat' (first
 |simp only[go_sem,hD,hY,hZ,gA,ny]
 |(with_reducible refine CU (cP _) ?_)
 |(with_reducible refine CU (hF2) ?_)
 |(with_reducible first|refine bo fun hc=>?_|refine bp fun hc=>?_|refine bq (fun hc=>?_) fun hc=>?_)<;>(try simp only[hc,bs,↓reduceIte]at h)<;>try simp only[hc]
 |(with_reducible refine aD hQ ?_;(try cases h);simp only[aU,aV,bH,bI,go_sem,hD,hY,hZ,gA,ny];try exact cv)
 |(cases h;done))
  refine Sem.ni ?_
  repeat' (first
 |simp only[go_sem,hD,hY,hZ,gA]
 |(with_reducible first|refine bo fun hc=>?_|refine bp fun hc=>?_|refine bq (fun hc=>?_) fun hc=>?_)<;>(try simp only[hc,bs,↓reduceIte]at h)<;>try simp only[hc]
 |(with_reducible refine aD hQ ?_;exact ga)
 |(cases h;done))
  refine Sem.pL ?_ aea
  simp only[go_sem]
  repeat' (first|exact Ok.out|with_reducible refine iZ ?_ ?_)
 generalize hG:p.globals.length=G at *
 have hGb:G≤900000:=by rw[← hG];exact hO.procs.2.2
 let row:Nat→List D:=fun k=> [.dv (fx p) 0, .slice (.tok 2) 1 ((List.range k).map fun i=>fj (3+i)), .slice .shared 1 (T.map bE), .slice .shared 1 (W.map bE), .ei 1, .ei 1, .int .i64 0, .int .i64 0, .int .i64 0, .slice (.tok 0) 1 [], .slice (.tok 1) 2 []]
 have loop : ∀ d k:Nat,k+d=G→bl Tryz.prog B 131 Q30 (kE 0 (nR (Sem Tryz.prog B 131 Q4M (JJ B Q)) (JJ B Q))) [(2, .int .i64 fuel),(8, .ptr 2 0),(10, .ptr 0 0),(34, .int .i64 (G:Int)),(35, .int .i64 (k:Int))]
  ⟨row k::cu p::BX::List.replicate k [.int .i64 0],[some 0,some 0,some k]⟩:=by
  intro d
  induction d with
  |zero=>
   intro k hk
   have uA:k=G:=by omega
   subst uA
   have hD:decide ((k:Int)<(k:Int))=false:=by simp
   refine bl.kT ?_
   repeat' (first
 |simp only[go_sem,hD,hY,hZ,gA]
 |(with_reducible first|refine bo fun hc=>?_|refine bp fun hc=>?_|refine bq (fun hc=>?_) fun hc=>?_)<;>(try simp only[hc,bs,↓reduceIte]at h)<;>try simp only[hc]
 |(with_reducible refine aD hQ ?_;exact ga)
 | (cases h;done))
   refine Sem.pL (bu:= [(2, .int .i64 fuel),(8, .ptr 2 0),(10, .ptr 0 0)]) (by simp only[go_sem];repeat' (first|exact Ok.out|with_reducible refine iZ ?_ ?_)) ?_
   have hκ:((List.range k).map (3 + ·)).length=k:=by simp
   have hmp:((List.range k).map fun i=>fj (3+i))=(((List.range k).map (3 + ·)).take k).map fj:=by rw[List.take_of_length_le (by simp),List.map_map];rfl
   refine Sem.wkO (fv p T W ⟨(List.range k).map (3 + ·),[], .ei 1, .ei 1⟩ (ke p)::cu p::BX::List.replicate k [.int .i64 0]) ?_ (start ⟨(List.range k).map (3 + ·),[], .ei 1, .ei 1⟩ _ ?_)
   ·refine .cons ?_ (gy.refl _)
    simp only[row,fv,hG, ← hmp,ke,List.map_nil]
    exact Ok.out
   ·have SG:((List.range k).map (3 + ·)).Nodup:=by
     rw[List.nodup_iff_pairwise_ne,List.pairwise_map]
     exact List.Pairwise.imp (fun h=>by omega) (List.nodup_iff_pairwise_ne.1 List.nodup_range)
    refine⟨rfl,rfl,rfl,by simp[ke,hG],fun i c v e1 e2=>?_,rfl,fun i o fr e1 e2=>by simp at e1, .inl ⟨rfl,rfl⟩,⟨[], .inl ⟨rfl,rfl⟩⟩, ?_,fun x mx=>?_⟩
    ·have hD:=(List.getElem?_eq_some_iff.1 e1).1
     simp only[hκ]at hD
     rw[List.getElem?_map,List.getElem?_range hD]at e1
     simp only[ke]at e2
     rw[List.getElem?_replicate_of_lt (by omega)]at e2
     simp only[Option.map_some,Option.some.injEq]at e1 e2
     subst e1 e2
     show(_::_::_::List.replicate k [D.int .i64 0])[3+i]? = _
     rw[show 3+i=i+1+1+1 by omega]
     simp only[List.getElem?_cons_succ]
     exact List.getElem?_replicate_of_lt hD
    ·simp only [Lay.own,D.arr,List.append_nil]
     rw[List.nodup_cons]
     exact⟨by simp,SG⟩
    ·rw [List.mem_singleton.1 mx]
     refine⟨rfl, ?_⟩
     simp only[Lay.own,D.arr,List.append_nil,List.mem_cons,List.mem_map,List.mem_range,not_or]
     exact⟨by omega,by rintro⟨i,_,h⟩;omega⟩
  | succ d ih=>
   intro k hk
   have hD:decide ((k:Int)<(G:Int))=true:=by simp;omega
   have bO:k<4611686018427387904:=by omega
   have eK : ∀ os,ix 1 8 (.slice (.tok 2) 1 ((List.range k).map fun i=>fj (3+i))) (.slice .full 1 [[.ptr (3+k) 0]]) ⟨os,[some 0,some 0,some k]⟩ =
    some (.slice (.tok 2) 1 ((List.range (k+1)).map fun i=>fj (3+i)),⟨os,[some 0,some 0,some (k+1)]⟩):=fun os=>by
    rw[nV (size:=1) (by simp only[List.length_map,List.length_range,List.length_singleton];unfold bA;omega) (by simp)]
    simp[List.range_succ,fj]
   have hln : ∀ a b c:List D,(a::b::c::List.replicate k [D.int .i64 0]).length=3+k:=fun a b c=>by simp;omega
   have aeb : ∀ a b c:List D,a::b::c::List.replicate k [D.int .i64 0]++ [[D.int .i64 0]] = a::b::c::List.replicate (k+1) [D.int .i64 0]:=fun a b c=>by rw[List.replicate_succ'];rfl
   refine bl.kT ?_
   simp only[row]
   repeat' (first
 |simp only[go_sem,hD,hY,hZ,gA,eK,hln,aeb]
 |(with_reducible first|refine bo fun hc=>?_|refine bp fun hc=>?_|refine bq (fun hc=>?_) fun hc=>?_)<;>(try simp only[hc,bs,↓reduceIte]at h)<;>try simp only[hc]
 |(with_reducible refine aD hQ ?_;(try cases h);simp only[aU,aV,bH,bI,go_sem,hD,hY,hZ,gA,eK,hln,aeb];try exact cv)
 | (cases h;done))
   have:=ih (k+1) (by omega)
   simp only[row,List.range_succ,List.map_append,List.map_cons,List.map_nil]at this
   refine bl.pL ?_ this
   simp only[go_sem,aI bO]
   repeat' (first|exact Ok.out|with_reducible refine iZ ?_ ?_)
 repeat' (first
 |simp only[go_sem,hD,hY,hZ,gA,b1,b2]
 |(with_reducible first|refine bo fun hc=>?_|refine bp fun hc=>?_|refine bq (fun hc=>?_) fun hc=>?_)<;>(try simp only[hc,bs,↓reduceIte]at h)<;>try simp only[hc]
 |(with_reducible refine aD hQ ?_;(try cases h);simp only[aU,aV,bH,bI,go_sem,hD,hY,hZ,gA,b1,b2];try exact cv)
 |(cases h;done))
 refine lG.once (Sem.ni ?_)
 repeat' (first
 |simp only[go_sem,hD,hY,hZ,gA,b1,b2]
 |(with_reducible refine CU (cM _) ?_)
 |(with_reducible first|refine bo fun hc=>?_|refine bp fun hc=>?_|refine bq (fun hc=>?_) fun hc=>?_)<;>(try simp only[hc,bs,↓reduceIte]at h)<;>try simp only[hc]
 |(with_reducible refine aD hQ ?_;(try cases h);simp only[aU,aV,bH,bI,go_sem,hD,hY,hZ,gA,b1,b2];try exact cv)
 |(cases h;done))
 refine Sem.ni ?_
 repeat' (first
 |simp only[go_sem,hD,hY,hZ,gA]
 |(with_reducible refine CU (cN _) ?_)
 |(with_reducible first|refine bo fun hc=>?_|refine bp fun hc=>?_|refine bq (fun hc=>?_) fun hc=>?_)<;>(try simp only[hc,bs,↓reduceIte]at h)<;>try simp only[hc]
 |(with_reducible refine aD hQ ?_;exact ga)
 |(cases h;done))
 refine Sem.ni ?_
 repeat' (first
 |simp only[go_sem,hD,hY,hZ,gA]
 |(with_reducible first|refine bo fun hc=>?_|refine bp fun hc=>?_|refine bq (fun hc=>?_) fun hc=>?_)<;>(try simp only[hc,bs,↓reduceIte]at h)<;>try simp only[hc]
 |(with_reducible refine aD hQ ?_;exact ga)
 |(cases h;done))
 refine bl.Dn 2 9 1 rfl rfl ?_
 refine bl.Dn 2 10 2 rfl rfl ?_
 refine bl.Dn 2 1 1 rfl rfl ?_
 simp only[List.set_cons_succ,List.set_cons_zero,List.length_nil,List.nil_append,List.length_cons,List.cons_append]
 have l0:=loop G 0 (by omega)
 simp only[row,List.range_zero,List.map_nil,List.replicate_zero]at l0
 refine bl.re [(2, .int .i64 fuel),(8, .ptr 1 0),(10, .ptr 2 0),(34, .int .i64 (G:Int)),(35, .int .i64 ((0:Nat):Int))]
  [cu p,BX,[.dv (fx p) 0, .slice (.tok 2) 1 [], .slice .shared 1 (T.map bE), .slice .shared 1 (W.map bE), .ei 1, .ei 1, .int .i64 0, .int .i64 0, .int .i64 0, .slice (.tok 0) 1 [], .slice (.tok 1) 2 []]] 3 3 (by rw[hB];exact Nat.zero_le _) (by rw[hB];exact Nat.zero_le _) ?_ ?_ ?_
 ·simp only [go_sem,hG]
  repeat' (first|exact Ok.out|with_reducible refine iZ ?_ ?_)
 ·simp only [go_sem,XM]
  repeat' (first|exact Ok.out|with_reducible refine iZ ?_ ?_)
 have r1 : ∀ os ts,D.e9 os ts (fx p)=fx p:=fun os ts=>fB os ts _ (uu p)
 have r2 : ∀ n m,D.bL n m (fx p)=true:=fun n m=>iy (Nat.zero_le n) (Nat.zero_le m) _ (uu p)
 have r3 : ∀ os ts l,D.nT os ts (List.map bE l)=List.map bE l:=fun os ts l=>jk os ts _ (iw l)
 have r4 : ∀ n m l,D.gS n m (List.map bE l)=true:=fun n m l=>mA (Nat.zero_le n) (Nat.zero_le m) _ (iw l)
 refine bl.ajJ hB [2,0,1] _ _ (by decide) (by simp) ?_ ?_ l0
 ·simp[Bi,D.e9,D.cU,D.nT,D.bL,D.gS,D.ok,Tag.cU,Tag.ok,St.cut,r1,r2,r3,r4,LK,Ro,BX]
 ·simp[CZ,Tm.get,D.cU,D.ok]
theorem zW {a b:List Int} (ha:a.length<1000000000) (g:Tag) (s:St):aF Tryz.prog jX [.slice .shared 1 (a.map bE), .slice g 1 (b.map bE)] s (.bool (a==b)) s:=by
 refine bM.pR (.cons (Wk.refl _) (.cons (Wk.shared _ _ _) .nil)) (aF.pure ?_ (by simp[D.bL,D.ok,Tag.ok,iw]) rfl s)
 generalize h:(a==b)=R
 unfold S0
 by_cases hl:a.length=b.length
 ·have e1:((a.length:Int) != (b.length:Int))=false:=by simp [hl]
  refine aF.go vJ rfl fun B Q hB hQ=>?_
  have⟨hD,hY,hZ,gA⟩:=bP
  repeat' (first
 |simp only[go_sem,hD,hY,hZ,gA,e1]
 |(with_reducible first|refine bo fun hc=>?_|refine bp fun hc=>?_|refine bq (fun hc=>?_) fun hc=>?_)<;>(try simp only[hc,bs,↓reduceIte]at h)<;>try simp only[hc]
 |(with_reducible refine aD hQ ?_;(try cases h);simp only[aU,aV,bH,bI,go_sem,hD,hY,hZ,gA,e1];try exact cv)
 | (cases h;done))
  refine fa 0 0 (bl.ind (ι:=List Int×List Int×Nat) (fun i=>a.drop i.2.2=i.1∧b.drop i.2.2=i.2.1∧(i.1==i.2.1)=R) (fun i=>i.1.length)
   (fun i=> [(0, .slice .shared 1 (a.map bE)),(1, .slice .shared 1 (b.map bE)),(12, .int .i64 (a.length:Int)),(13, .int .i64 (i.2.2:Int))]) (fun i=>⟨[],[]⟩) ?_ (a,b,0) ⟨rfl,rfl,h⟩)
  rintro⟨ra,rb,k⟩ ⟨h1,h2,h⟩ IH
  dsimp only at h1 h2 h
  cases ra with
  |nil=>
   have hD:=drop_nil h1
   have:b.drop k = []:=by rw[List.drop_eq_nil_iff]at h1 ⊢;omega
   rw[h2]at this
   subst this
   have h':true=R:=h
   subst h'
   repeat' (first
 |simp only[go_sem,hD,hY,hZ,gA]
 |(with_reducible first|refine bo fun hc=>?_|refine bp fun hc=>?_|refine bq (fun hc=>?_) fun hc=>?_)<;>(try simp only[hc,bs,↓reduceIte]at h)<;>try simp only[hc]
 |(with_reducible refine aD hQ ?_;exact ga)
 | (cases h;done))
  | cons x ra=>
   obtain⟨hY,g2,hD,g4⟩:=drop_cons h1
   have bO:k<4611686018427387904:=by omega
   cases rb with
   |nil=>rw[List.drop_eq_nil_iff]at h2;omega
   | cons y rb=>
    obtain⟨wq,g2',adl,g4'⟩:=drop_cons h2
    have e2:(x != y) = !(x==y):=rfl
    simp only[List.cons_beq_cons]at h
    rcases Bool.eq_false_or_eq_true (x==y)with c|c
    ·simp only [c,Bool.true_and]at h
     repeat' (first
 |simp only[go_sem,hD,hY,hZ,gA,e2,c,wq]
 |(with_reducible first|refine bo fun hc=>?_|refine bp fun hc=>?_|refine bq (fun hc=>?_) fun hc=>?_)<;>(try simp only[hc,bs,↓reduceIte]at h)<;>try simp only[hc]
 |(with_reducible refine aD hQ ?_;(try cases h);simp only[aU,aV,bH,bI,go_sem,hD,hY,hZ,gA,e2,c,wq];try exact cv)
 | (cases h;done))
     refine eO 0 0 ?_ ?_ (IH (ra,rb,k+1) ⟨g2,g2',h⟩ (Nat.lt_succ_self _))
     ·(simp only[go_sem,hD,hY,hZ,gA,aI bO];try exact bW)
     ·(simp only[go_sem,hD,hY,hZ,gA,aI bO];try exact bW)
    ·simp only [c,Bool.false_and]at h
     repeat' (first
 |simp only[go_sem,hD,hY,hZ,gA,e2,c,wq]
 |(with_reducible first|refine bo fun hc=>?_|refine bp fun hc=>?_|refine bq (fun hc=>?_) fun hc=>?_)<;>(try simp only[hc,bs,↓reduceIte]at h)<;>try simp only[hc]
 |(with_reducible refine aD hQ ?_;(try cases h);simp only[aU,aV,bH,bI,go_sem,hD,hY,hZ,gA,e2,c,wq];try exact cv)
 |(cases h;done))
 ·have e1:((a.length:Int) != (b.length:Int))=true:=by simp;omega
  have:(a==b)=false:=by
   rw[beq_eq_false_iff_ne];intro e;rw[e]at hl;exact hl rfl
  rw[this]at h
  subst h
  refine aF.go vJ rfl fun B Q hB hQ=>?_
  have⟨hD,hY,hZ,gA⟩:=bP
  repeat' (first
 |simp only[go_sem,hD,hY,hZ,gA,e1]
 |(with_reducible first|refine bo fun hc=>?_|refine bp fun hc=>?_|refine bq (fun hc=>?_) fun hc=>?_)<;>(try simp only[hc,bs,↓reduceIte]at h)<;>try simp only[hc]
 |(with_reducible refine aD hQ ?_;(try cases h);simp only[aU,aV,bH,bI,go_sem,hD,hY,hZ,gA,e1];try exact cv)
 |(cases h;done))
structure Mc.Len (m:Mc):Prop where
 out:m.out.length<1000000000
 trace:m.trace.length<1000000000
 bV : ∀ e∈m.trace,e.2.length<1000000000
def ahx (a b:Mc):Bool:=a.fin==b.fin && (a.steps==b.steps && (a.reads==b.reads && a.out==b.out))
def avC (a b:Mc):Bool:=ahx a b && a.trace==b.trace
theorem Z1 {a b:List Int} (ha:a.length<1000000000) (s:St):aF Tryz.prog qn [.slice .shared 1 (a.map bE), .slice .shared 1 (b.map bE)] s (.bool (decide ((a.length:Int)≤(b.length:Int)) && a==b.take a.length)) s:=by
 refine aF.pure ?_ (by simp[D.bL,D.ok,Tag.ok,iw]) rfl s
 have c1:=fun g s=>zW (a:=a) (b:=b.take a.length) ha g s
 rw[List.map_take]at c1
 unfold S0
 rcases Bool.eq_false_or_eq_true (decide ((a.length:Int)≤(b.length:Int)))with c|c
 ·have hle:(a.length:Int)≤(b.length:Int):=by simpa using c
  have hn:((0:Int)≤(a.length:Int))=True:=by simp
  rw[c,Bool.true_and]
  refine aF.go wG rfl fun B Q hB hQ=>?_
  have⟨hD,hY,hZ,gA⟩:=bP
  repeat' (first
 |simp only[go_sem,hD,hY,hZ,gA,c,hle,hn,Tag.cut,ite_self,or_true,decide_true,and_self,if_true]
 |(with_reducible refine CU (c1 _ _) ?_)
 |(with_reducible first|refine bo fun hc=>?_|refine bp fun hc=>?_|refine bq (fun hc=>?_) fun hc=>?_)<;>(try simp only[hc,bs,↓reduceIte]at h)<;>try simp only[hc]
 |(with_reducible refine aD hQ ?_;(try cases h);simp only[aU,aV,bH,bI,go_sem,hD,hY,hZ,gA,c,hle,hn,Tag.cut,ite_self,or_true,decide_true,and_self,if_true];try exact cv)
 |(cases h;done))
 ·rw [c,Bool.false_and]
  refine aF.go wG rfl fun B Q hB hQ=>?_
  have⟨hD,hY,hZ,gA⟩:=bP
  repeat' (first
 |simp only[go_sem,hD,hY,hZ,gA,c]
 |(with_reducible first|refine bo fun hc=>?_|refine bp fun hc=>?_|refine bq (fun hc=>?_) fun hc=>?_)<;>(try simp only[hc,bs,↓reduceIte]at h)<;>try simp only[hc]
 |(with_reducible refine aD hQ ?_;(try cases h);simp only[aU,aV,bH,bI,go_sem,hD,hY,hZ,gA,c];try exact cv)
 |(cases h;done))
theorem F3:fO (ofM rT [] [5,2] 50).1 = [.int .i64 1, .int .i64 7, .int .i64 0, .slice .shared 1 ([5,5].map bE), .slice .shared 2 ([(2,[]),(5,[5])].map jD)]:=by kernel_rfl
theorem ahy:(ofM rT [] [5,2] 50).2=0:=by kernel_rfl
theorem Z2:Nat.ble (rT.size+1) 1000=true:=by kernel_rfl
theorem SV (n:Int):qv (.ofInt .f64) (.int .i64 n) (.int .i64 n)=some (.val (.float .f64 (FloatKind.nearest .f64 n))):=nd rfl
theorem Ku (a b:Nat):qv .H6 (.val (.float .f64 a)) (.val (.float .f64 b))=some (.val (.complex .f64 a b)):=nd rfl
theorem Kv (a b:Nat) (d:D):qv .real (.val (.complex .f64 a b)) d=some (.val (.float .f64 a)):=nd rfl
theorem X3:qv .eq (.val (.float .f64 (FloatKind.nearest .f64 7))) (.val (.float .f64 4619567317775286272))=some (.bool true):=by
 have:FloatKind.nearest .f64 7=4619567317775286272:=by decide +kernel
 rw[this]
 have h:(FloatKind.f64.format.order 4619567317775286272 4619567317775286272==some .eq)=true:=by decide +kernel
 show(if FloatKind.f64=FloatKind.f64 then some (D.bool (FloatKind.f64.format.order 4619567317775286272 4619567317775286272==some .eq))else none)=_
 rw[if_pos rfl,h]
theorem aec:rT.iM:=by
 have vm:rT.size<100000:=by have:=Nat.le_of_ble_eq_true Z2;omega
 exact⟨RW (by decide +kernel) (by omega),by omega⟩
theorem aed (n k:Nat) (m:Mc):D.gu n k (fO m)=fO m:=ib n k _ (H5 m)
theorem Z3 (m:Mc):(fO m).length=5:=nd rfl
theorem VX (m:Mc):List.take 5 (fO m)=fO m:=nd rfl
theorem ahz (m:Mc):(fO m)[0]? = some (.int .i64 m.fin):=nd rfl
theorem ahA (m:Mc):(fO m)[1]? = some (.int .i64 m.steps):=nd rfl
theorem ahB (m:Mc):(fO m)[2]? = some (.int .i64 m.reads):=nd rfl
theorem ahC (m:Mc):(fO m)[3]? = some (.slice .shared 1 (m.out.map bE)):=nd rfl
theorem X4 (m:Mc):(fO m)[4]? = some (.slice .shared 2 (m.trace.map jD)):=nd rfl
attribute [go_sem] aed Z3 VX ahz ahA ahB ahC X4
theorem Z4 (m:Mc) (s:St):aF Tryz.prog xq [.agg (fO m)] s (.val (.complex .f64 (FloatKind.nearest .f64 m.steps) (FloatKind.nearest .f64 m.reads))) s:=by
 refine aF.pure ?_ (by simp[D.bL,D.ok,H5]) rfl s
 unfold S0
 refine aF.go Hw rfl fun B Q hB hQ=>?_
 have⟨hD,hY,hZ,gA⟩:=bP
 repeat' (first
 |simp only[go_sem,hD,hY,hZ,gA,fO,SV,Ku]
 |(with_reducible first|refine bo fun hc=>?_|refine bp fun hc=>?_|refine bq (fun hc=>?_) fun hc=>?_)<;>(try simp only[hc,bs,↓reduceIte]at h)<;>try simp only[hc]
 |(with_reducible refine aD hQ ?_;(try cases h);simp only[aU,aV,bH,bI,go_sem,hD,hY,hZ,gA,fO,SV,Ku];try exact cv)
 |(cases h;done))
theorem ahD (s:St):aF Tryz.prog xn [] s (.bool true) s:=by
 refine aF.pure ?_ rfl rfl s
 have h1:=fun s=>adJ s
 have h2:=fun s=>ad8 (T:= []) (W:= [5,2]) aec (by simp) (by simp) 50 s
 have h4:=fun s=>Z4 (ofM rT [] [5,2] 50).1 s
 have m1:(ofM rT [] [5,2] 50).1.steps=7:=by have:=congrArg (fun l=>l[1]?) F3;simpa[fO]using this
 have m2:(ofM rT [] [5,2] 50).1.reads=0:=by have:=congrArg (fun l=>l[2]?) F3;simpa[fO]using this
 rw[m1,m2]at h4
 rw[F3]at h2 h4
 rw[ahy]at h2
 simp only[List.map_cons,List.map_nil,bE,jD]at h2 h4
 have h3:=fun g s=>zW (a:= [5,5]) (b:= [5,5]) (by simp) g s
 have h5:=fun g s=>zW (a:= [5]) (b:= [5]) (by simp) g s
 have e5:(([5,5] : List Int) == [5,5])=true:=rfl
 have e6:(([5] : List Int) == [5])=true:=rfl
 rw[e5]at h3
 rw[e6]at h5
 simp only[List.map_cons,List.map_nil,bE]at h3 h5
 have uE:=fun s=>bM.pR (.cons (Wk.refl _) (.cons (Wk.nil .full 0 1) (.cons (Wk.refl _) (.cons (Wk.shared .full _ _) .nil)))) (h2 s)
 have h2 : ∀ s,aF Tryz.prog vA [.agg (cu rT), .slice .full 0 [], .int .i64 50, .slice .full 1 [[.int .i64 5],[.int .i64 2]]] s _ s:=uE
 clear uE
 have z0 : ∀ x:Int,(x==x)=true:=fun x=>beq_self_eq_true x
 have z2:(((2:Nat):Int)==2)=true:=rfl
 unfold S0
 refine aF.go Ht rfl fun B Q hB hQ=>?_
 have⟨hD,hY,hZ,gA⟩:=bP
 repeat' (first
 |simp only[go_sem,hD,hY,hZ,gA,z0,z2,Kv,X3,Int.toNat_one,List.getElem?_cons_succ,List.getElem?_cons_zero]
 |(with_reducible refine CU (h1 _) ?_)
 |(with_reducible refine CU (h2 _) ?_)
 |(with_reducible refine CU (h3 _ _) ?_)
 |(with_reducible refine CU (h5 _ _) ?_)
 |(with_reducible refine CU (h4 _) ?_)
 |(with_reducible first|refine bo fun hc=>?_|refine bp fun hc=>?_|refine bq (fun hc=>?_) fun hc=>?_)<;>(try simp only[hc,bs,↓reduceIte]at h)<;>try simp only[hc]
 |(with_reducible refine aD hQ ?_;(try cases h);simp only[aU,aV,bH,bI,go_sem,hD,hY,hZ,gA,z0,z2,Kv,X3,Int.toNat_one,List.getElem?_cons_succ,List.getElem?_cons_zero];try exact cv)
 |(cases h;done))
theorem Z5 {p:Pg} (hO:p.iM) (T:List Int) (fuel:Int) (s:St):aF Tryz.prog uc [.agg (cu p), .slice .shared 1 (T.map bE), .int .i64 fuel] s (.bool (p.check.1==0 && (decide (0≤fuel) && (decide (fuel≤400) && decide ((T.length:Int)≤100))))) s:=by
 refine aF.pure ?_ (by simp[D.bL,D.ok,Tag.ok,jc,iw]) rfl s
 have h1:=fun s=>SR hO s
 have g1:decide (fuel≥0)=decide (0≤fuel):=rfl
 unfold S0
 rcases Bool.eq_false_or_eq_true (p.check.1==0)with b1|b1
 all_goals rcases Bool.eq_false_or_eq_true (decide (0≤fuel))with b2|b2
 all_goals rcases Bool.eq_false_or_eq_true (decide (fuel≤400))with b3|b3
 all_goals rcases Bool.eq_false_or_eq_true (decide ((T.length:Int)≤100))with b4|b4
 all_goals simp only[b1,b2,b3,b4,Bool.true_and,Bool.false_and]
 all_goals rw[b1]at h1
 all_goals rw[b2]at g1
 all_goals
  refine aF.go En rfl fun B Q hB hQ=>?_
  have⟨hD,hY,hZ,gA⟩:=bP
  repeat' (first
 |simp only[go_sem,hD,hY,hZ,gA,g1,b3,b4]
 |(with_reducible refine CU (h1 _) ?_)
 |(with_reducible first|refine bo fun hc=>?_|refine bp fun hc=>?_|refine bq (fun hc=>?_) fun hc=>?_)<;>(try simp only[hc,bs,↓reduceIte]at h)<;>try simp only[hc]
 |(with_reducible refine aD hQ ?_;(try cases h);simp only[aU,aV,bH,bI,go_sem,hD,hY,hZ,gA,g1,b3,b4];try exact cv)
 |(cases h;done))
def Pg.whole (p:Pg) (T:List Int) (fuel:Int):Mc:=(ofM p T (oI 0 p.all) fuel).1
theorem PH {p:Pg} (hO:p.iM) (wW:p.all.length≤1000) {T:List Int} (hT:T.length<1000000) (fuel:Int) (s:St):aF Tryz.prog ud [.agg (cu p), .slice .shared 1 (T.map bE), .int .i64 fuel] s (.agg (fO (p.whole T fuel))) s:=by
 refine aF.pure ?_ (by simp[D.bL,D.ok,Tag.ok,jc,iw]) (by simp only[D.ok,H5]) s
 have wT:=hO.procs
 have h1:=fun s=>ahe (p:=p) (by omega) wW 0 s
 have hW:(oI 0 p.all).length<1000000:=by have:=DK 0 p.all;omega
 have h2:=fun s=>ad8 hO hT hW fuel s
 unfold Pg.whole
 unfold S0
 refine aF.go Eo rfl fun B Q hB hQ=>?_
 have⟨hD,hY,hZ,gA⟩:=bP
 repeat' (first
 |simp only[go_sem,hD,hY,hZ,gA]
 |(with_reducible refine CU (h1 _) ?_)
 |(with_reducible refine CU (h2 _) ?_)
 |(with_reducible first|refine bo fun hc=>?_|refine bp fun hc=>?_|refine bq (fun hc=>?_) fun hc=>?_)<;>(try simp only[hc,bs,↓reduceIte]at h)<;>try simp only[hc]
 |(with_reducible refine aD hQ ?_;exact ga)
 |(cases h;done))
end Go.Abs
namespace Go.Abs
def Reads (n:Nat) (m:Mc):Prop:=0≤m.reads∧m.reads≤(n:Int)∧(m.fin=3→m.reads=(n:Int))
def Sm.tells (s:Sm):Nat:=if s.kind==4 ||(decide (s.kind≥7) && !s.has)then 0 else 1
def Mn (m m':Mc):Prop:=m'.trace=m.trace∧m'.out=m.out∧m'.reads=m.reads
def Mp (T:List Int) (x:Sm) (m m':Mc):Prop:=∃ bV:List Int,m'.trace=m.trace++ [(x.id,bV)]∧m'.out=m.out++(if x.kind==3 then bV else [])∧bV.length=x.tells∧
 (if x.kind==2 then ∃ v,T[m.reads.toNat]? = some v∧bV = [v]∧m'.reads=m.reads+1 else m'.reads=m.reads)
def zX (T:List Int) (x:Sm) (m m':Mc):Prop:=Mn m m'∨Mp T x m m'
theorem Z6 {s:Sm} (h:s.one=true):1≤s.kind∧s.kind≤10∧(s.kind≠9→s.has=false):=by
 unfold Sm.one at h
 split at h
 ·cases h
 ·rename_i c
  simp only[Bool.or_eq_true,not_or,Bool.not_eq_true,Bool.and_eq_false_iff,decide_eq_false_iff_not,bne_eq_false_iff_eq]at c
  obtain⟨⟨⟨⟨⟨c1,c2⟩,_⟩,_⟩,_⟩,c3⟩:=c
  refine⟨by omega,by omega,fun hk=>?_⟩
  rcases c3 with c3|c3
  ·exact c3
  ·exact absurd c3 hk
theorem sB {T W:List Int} {x:Sm} {m m1:Mc} {bV:List Int} (hW:W.contains x.id=true) (e:m1.trace=m.trace) (eo:m1.out=m.out) (er:m1.reads=m.reads) (hv:bV.length=x.tells) (h3:(x.kind==3)=false) (h2:(x.kind==2)=false):Mp T x m (m1.event W x.id bV):=by
 have k:=eW W m1 x.id bV
 refine⟨bV, ?_, ?_,hv, ?_⟩
 ·unfold Mc.event;rw[if_pos hW];dsimp only;rw[e]
 ·rw[h3];simp[k.2.2.2.2.2,eo]
 ·rw[h2];simp[k.2.2.2.2.1,er]
theorem PI {p:Pg} {T W:List Int} {m:Mc} {v:Sm} (hk:(v.kind==4)=true) (hW:W.contains v.id=true):zX T v m (m.call p W v).2:=by
 have h1:=zT v.args m []
 have h2:=w8 v.args m []
 unfold Mc.call
 generalize Mc.args v.args m [] = r at *
 obtain⟨o,m1⟩:=r
 dsimp only at h1 h2
 have k4:v.kind=4:=by simpa using hk
 cases o with
 |none=>exact .inl ⟨h1.2,h1.1,h2.1⟩
 | some l=>
  dsimp only
  by_cases c:m1.st.length > 100
  ·rw[if_pos c];exact .inl ⟨h1.2,h1.1,h2.1⟩
  ·rw [if_neg c]
   have e2:=w7 p (m1.event W v.id []) (p.at v.proc) l v.id
   obtain⟨bV,g1,g2,g3,g4⟩:=sB (T:=T) (x:=v) (m:=m) (bV:= []) hW h1.2 h1.1 h2.1 (by unfold Sm.tells;rw[hk];rfl) (by rw[k4];rfl) (by rw[k4];rfl)
   exact .inr ⟨bV,e2.1.trans g1,e2.2.1.trans g2,g3,by rw[e2.2.2.1];exact g4⟩
theorem Lr {T W:List Int} {m:Mc} {v:Sm} (hk:(v.kind==9)=true) (hW:W.contains v.id=true):zX T v m (m.fz W v).2:=by
 have hw:=gG m v.x
 have k9:v.kind=9:=by simpa using hk
 have k4:(v.kind==4)=false:=by rw[k9];rfl
 have k7:decide (v.kind≥7)=true:=by simp[k9]
 unfold Mc.fz
 rcases Bool.eq_false_or_eq_true v.has with c|c
 ·rw [if_pos c]
  dsimp only
  split
  ·exact .inr (sB hW hw.2.2.2.2.2 hw.2.2.2.2.1 hw.2.2.2.1 (by unfold Sm.tells;rw[k4,k7,c];rfl) (by rw[k9];rfl) (by rw[k9];rfl))
  ·exact .inl ⟨hw.2.2.2.2.2,hw.2.2.2.2.1,hw.2.2.2.1⟩
 ·rw [if_neg (by rw [c];exact Bool.false_ne_true)]
  exact .inr (sB hW rfl rfl rfl (by unfold Sm.tells;rw[k4,k7,c];rfl) (by rw[k9];rfl) (by rw[k9];rfl))
theorem VY {p:Pg} {L:List Im} {T W:List Int} {m:Mc} {it:Im} (h1:it.s.one=true) (k4:(it.s.kind==4)=false) (k9:(it.s.kind==9)=false) (hW:W.contains it.s.id=true):zX T it.s m (m.do p L T W it).2:=by
 have hw:=gG m it.s.x
 obtain⟨o1,o2,o3⟩:=Z6 h1
 have hh:=o3 (by simpa using k9)
 have late:(decide (it.s.kind≥7))=true→it.s.tells=0:=fun e=>by unfold Sm.tells;rw[k4,e,hh];rfl
 have aog:(decide (it.s.kind≥7))=false→it.s.tells=1:=fun e=>by unfold Sm.tells;rw[k4,e];rfl
 unfold Mc.do
 dsimp only
 by_cases c7:(it.s.kind==7)=true
 ·rw [if_pos c7]
  have e:it.s.kind=7:=by simpa using c7
  exact .inr (sB hW rfl rfl rfl (late (by simp[e])).symm (by rw[e];rfl) (by rw[e];rfl))
 rw[if_neg c7]
 by_cases c8:(it.s.kind==8)=true
 ·rw [if_pos c8]
  have e:it.s.kind=8:=by simpa using c8
  exact .inr (sB hW rfl rfl rfl (late (by simp[e])).symm (by rw[e];rfl) (by rw[e];rfl))
 rw[if_neg c8]
 by_cases He:(it.s.kind==10)=true
 ·rw [if_pos He]
  have e:it.s.kind=10:=by simpa using He
  exact .inr (sB hW rfl rfl rfl (late (by simp[e])).symm (by rw[e];rfl) (by rw[e];rfl))
 rw[if_neg He]
 have s7:decide (it.s.kind≥7)=false:=by
  simp only[beq_iff_eq]at c7 c8 He
  simp only[beq_eq_false_iff_ne,ne_eq]at k9
  simp only[decide_eq_false_iff_not]
  omega
 have one:=aog s7
 by_cases c2:(it.s.kind==2)=true
 ·rw [if_pos c2]
  have e:it.s.kind=2:=by simpa using c2
  cases ht:T[m.reads.toNat]? with
  |none=>exact .inl ⟨rfl,rfl,rfl⟩
  |some n=>
   dsimp only
   have k:=eW W (({m with reads:=m.reads+1} : Mc).set it.s.name n) it.s.id [n]
   refine .inr ⟨[n], ?_, ?_,by rw[one];rfl, ?_⟩
   ·unfold Mc.event;rw[if_pos hW];rfl
   ·rw[k.2.2.2.2.2,e];simp[Mc.set]
   ·rw[if_pos c2];exact⟨n,ht,rfl,k.2.2.2.2.1⟩
 rw[if_neg c2]
 have c2':(it.s.kind==2)=false:=by simpa using c2
 by_cases cw:(m.bC it.s.x).1.2=true
 ·rw [if_pos cw]
  have k:=eW W (m.bC it.s.x).2 it.s.id [(m.bC it.s.x).1.1]
  have et:((m.bC it.s.x).2.event W it.s.id [(m.bC it.s.x).1.1]).trace=m.trace++ [(it.s.id,[(m.bC it.s.x).1.1])]:=by
   unfold Mc.event;rw[if_pos hW];dsimp only;rw[hw.2.2.2.2.2]
  by_cases c3:(it.s.kind==3)=true
  ·have e:it.s.kind=3:=by simpa using c3
   have n1 : ¬((it.s.kind==1)=true):=by rw[e];decide
   rw[if_neg n1,if_pos c3]
   refine .inr ⟨[(m.bC it.s.x).1.1],et, ?_,by rw[one];rfl, ?_⟩
   ·rw[if_pos c3];dsimp only;rw[k.2.2.2.2.2,hw.2.2.2.2.1]
   ·rw[if_neg c2];dsimp only;rw[k.2.2.2.2.1,hw.2.2.2.1]
  ·have key:Mp T it.s m ((m.bC it.s.x).2.event W it.s.id [(m.bC it.s.x).1.1]):=
    sB hW hw.2.2.2.2.2 hw.2.2.2.2.1 hw.2.2.2.1 (by rw[one];rfl) (by simpa using c3) c2'
   rw[if_neg c3]
   split
   ·exact .inr key
   split
   ·exact .inr key
   split
   ·exact .inr key
   ·exact .inr key
 ·rw [if_neg cw]
  exact .inl ⟨hw.2.2.2.2.2,hw.2.2.2.2.1,hw.2.2.2.1⟩
theorem Kw (L:List Im) (m:Mc) (g:Int):Mn m (m.back L g).2:=by
 have h:=zV L m g
 exact⟨h.1,h.2.1,h.2.2.1⟩
theorem zX.X5 {T:List Int} {x:Sm} {m m1 m2:Mc} (h:zX T x m m1) (k:Mn m1 m2):zX T x m m2:=by
 rcases h with h|⟨v,h1,h2,h3,h4⟩
 ·exact .inl ⟨k.1.trans h.1,k.2.1.trans h.2.1,k.2.2.trans h.2.2⟩
 ·exact .inr ⟨v,k.1.trans h1,k.2.1.trans h2,h3,by rw[k.2.2];exact h4⟩
theorem PK {p:Pg} {L:List Im} {T W:List Int} (hW : ∀ x∈L,W.contains x.s.id=true∧x.s.one=true) {fuel a:Int} {m:Mc} (ha:n6 L a) :
 Mn m (m.next p L T W fuel a).2∨∃ x∈L,Mp T x.s m (m.next p L T W fuel a).2:=by
 unfold Mc.next
 by_cases c1:(a == -1)=true
 ·rw[if_pos c1];exact .inl (Kw L m 0)
 rw[if_neg c1]
 by_cases c2:(m.steps==fuel)=true
 ·rw[if_pos c2];exact .inl ⟨rfl,rfl,rfl⟩
 rw[if_neg c2]
 have hm:=ph ha (by simpa using c1)
 obtain⟨w1,w2⟩:=hW _ hm
 dsimp only
 have fin : ∀ {m':Mc},zX T (fy L a).s {m with steps:=m.steps+1} m'→Mn m m'∨∃ x∈L,Mp T x.s m m':=fun {m'} h=>by
  rcases h with h|h
  ·exact .inl h
  ·exact .inr ⟨_,hm,h⟩
 by_cases c4:((fy L a).s.kind==4)=true
 ·rw[if_pos c4];exact fin (PI c4 w1)
 rw[if_neg c4]
 by_cases c9:((fy L a).s.kind==9)=true
 ·rw [if_pos c9]
  have:=Lr (T:=T) (m:= {m with steps:=m.steps+1}) c9 w1
  split
  ·exact fin (this.X5 (Kw ..))
  ·exact fin this
 rw[if_neg c9]
 exact fin (VY w2 (by simpa using c4) (by simpa using c9) w1)
def jm (f:Int→Sm) (k:Int):List (Int×List Int)→List Int
 | []=> []
 |e::l=>(if(f e.1).kind==k then e.2 else [])++jm f k l
theorem zY (f:Int→Sm) (k:Int) : ∀ a b,jm f k (a++b)=jm f k a++jm f k b
 | [],b=>rfl
 |e::a,b=>by simp only[List.cons_append,jm,zY f k a b,List.append_assoc]
structure uz (L:List Im) (f:Int→Sm) (T:List Int) (m:Mc):Prop where
 ev : ∀ e∈m.trace,∃ x∈L,x.s.id=e.1∧e.2.length=x.s.tells
 out:jm f 3 m.trace=m.out
 ins:jm f 2 m.trace=T.take m.reads.toNat
 reads:0≤m.reads∧m.reads≤(T.length:Int)
theorem uz.X5 {L:List Im} {f:Int→Sm} {T:List Int} {m m':Mc} (h:uz L f T m) (k:Mn m m'):uz L f T m':=by
 obtain⟨k1,k2,k3⟩:=k
 exact⟨by rw[k1];exact h.ev,by rw[k1,k2];exact h.out,by rw[k1,k3];exact h.ins,by rw[k3];exact h.reads⟩
theorem uz.tel {L:List Im} {f:Int→Sm} {T:List Int} {m m':Mc} {x:Im} (hx:x∈L) (hf:f x.s.id=x.s) (h:uz L f T m) (k:Mp T x.s m m'):uz L f T m':=by
 obtain⟨v,k1,k2,k3,k4⟩:=k
 refine⟨fun e me=>?_, ?_, ?_, ?_⟩
 ·rw [k1]at me
  rcases List.mem_append.1 me with me|me
  ·exact h.ev e me
  ·rw[List.mem_singleton.1 me];exact⟨x,hx,rfl,k3⟩
 ·rw[k1,k2,zY,h.out];simp[jm,hf]
 ·rw [k1,zY,h.ins]
  by_cases c:(x.s.kind==2)=true
  ·rw [if_pos c]at k4
   obtain⟨w,j1,j2,j3⟩:=k4
   have hr:=h.reads.1
   have e:m'.reads.toNat=m.reads.toNat+1:=by rw[j3];omega
   rw[e,List.take_add_one,j1,j2]
   simp[jm,hf,c]
  ·rw [if_neg c]at k4
   rw[k4]
   have c':(x.s.kind==2)=false:=by simpa using c
   simp[jm,hf,c']
 ·by_cases c:(x.s.kind==2)=true
  ·rw [if_pos c]at k4
   obtain⟨w,j1,j2,j3⟩:=k4
   have hr:=h.reads
   have:=(List.getElem?_eq_some_iff.1 j1).1
   omega
  ·rw [if_neg c]at k4
   rw[k4];exact h.reads
theorem Mq {p:Pg} {L:List Im} (hL:Ap p L) {f:Int→Sm} (hf : ∀ x∈L,f x.s.id=x.s) {T W:List Int} (hW : ∀ x∈L,W.contains x.s.id=true∧x.s.one=true) {fuel:Int} : ∀ (N:Nat) (a:Int) (m m':Mc),n6 L a→oH L m→m.fin=0→(m.trace.length:Int)=m.steps→uz L f T m→
 Mc.go p L T W fuel N a m=some m'→uz L f T m'
 | 0,_,_,_,_,_,_,_,_,h=>by simp[Mc.go]at h
 | N+1,a,m,m',ha,hs,hfi,ht,hl,h=>by
  have hn:=Ha (fuel:=fuel) (tape:=T) hL (fun x mx=>(hW x mx).1) ha hs hfi ht
  have he:=PK (p:=p) (T:=T) (W:=W) (fuel:=fuel) (m:=m) hW ha
  have l6:uz L f T (m.next p L T W fuel a).2:=by
   rcases he with he|⟨x,mx,he⟩
   ·exact hl.X5 he
   ·exact hl.tel mx (hf x mx) he
  simp only[Mc.go]at h
  cases e:m.next p L T W fuel a with
  | mk o m1=>
   rw[e]at h hn l6
   cases o with
   |none=>simp only[Option.some.injEq]at h;subst h;exact l6
   |some a1=>
    obtain⟨h1,h2,h3,h4⟩:=hn
    exact Mq hL hf hW N a1 m1 m' h1 h2 h3 h4 l6 h
theorem SW {p:Pg} (hL:Ap p p.aX.L) {f:Int→Sm} (hf : ∀ x∈p.aX.L,f x.s.id=x.s) {T W:List Int} (hW : ∀ x∈p.aX.L,W.contains x.s.id=true∧x.s.one=true) {fuel:Int} {m:Mc} (h:runM p T W fuel=some m):uz p.aX.L f T m:=by
 obtain⟨h1,h2,h3,h4⟩:=J1 hL
 have ho:=w7 p (ke p) (p.at iU) [] 0
 refine Mq hL hf hW _ _ _ _ h1 h2 h3 h4 ?_ h
 have h0:uz p.aX.L f T (ke p):=⟨fun e me=>by simp[ke]at me,rfl,rfl,by simp[ke]⟩
 exact h0.X5 ⟨ho.1,ho.2.1,ho.2.2.1⟩
def awl (fuel:Int) (m:Mc):Prop:=m.fin=2→m.steps=fuel
def ahG (W:List Int) (l:List (Int×List Int)):List (Int×List Int):=l.filter fun e=>W.contains e.1
def awm (W:List Int) (m:Mc):Mc:= {m with trace:=ahG W m.trace}
theorem Kx : ∀ l:List It,oI 0 l=l.map fun i=>i.s.id
 | []=>rfl
 |i::l=>by simp only[oI,List.map_cons,Kx l];rfl
theorem Ky {p:Pg} (hb:p.may=true) : ∀ x∈p.aX.L,(oI 0 p.all).contains x.s.id=true∧x.s.one=true:=fun x mx=>by
 have h1:x.s∈p.pre:=by rw[← (kx p).1];exact List.mem_map_of_mem mx
 refine⟨?_,L9 hb _ h1⟩
 rw[Kx,List.contains_iff_mem]
 have e:p.all.map (fun i=>i.s.id)=(p.all.map It.s).map fun s=>s.id:=by rw[List.map_map];rfl
 rw[e,(zv hb).2]
 exact List.mem_map_of_mem h1
theorem Hl {p:Pg} (hb:p.may=true) {v:Sm} (hv:v∈p.pre):p.n8 v.id=v:=by
 obtain⟨h1,h2⟩:=VA hb ⟨v,hv,rfl⟩
 obtain⟨i,hi⟩:=List.getElem?_of_mem hv
 obtain⟨j,hj⟩:=List.getElem?_of_mem h1
 have e1:=BE hb hi
 have e2:=BE hb hj
 have:i=j:=by omega
 subst this
 rw[hi]at hj
 exact(Option.some.inj hj).symm
theorem PN {p:Pg} {T W:List Int} {fuel:Int} {m:Mc} (h0:0≤fuel) (h:runM p T W fuel=some m):m.steps≤fuel:=by
 have h1:=yE p (ke p) (p.at iU) [] 0
 have e2:(ke p).steps=0:=rfl
 exact J2 p _ T W _ _ _ m (by rw[h1.2,e2];exact h0) h
theorem E9 {f:Int→Sm} {k:Int} : ∀ {l:List (Int×List Int)},(∀ e∈l,e.2.length≤1)→(jm f k l).length≤l.length
 | [],_=>Nat.le_refl _
 |e::l,h=>by
  have h1:=E9 (f:=f) (k:=k) fun e m=>h e (List.mem_cons_of_mem _ m)
  have h2:=h e (List.mem_cons_self ..)
  simp only[jm,List.length_append,List.length_cons]
  split<;>simp<;>omega
theorem VZ (s:Sm):s.tells≤1:=by unfold Sm.tells;split<;>omega
structure Run (p:Pg) (T:List Int) (fuel:Int) (m:Mc):Prop where
 run:runM p T (oI 0 p.all) fuel=some m
 of:ofM p T (oI 0 p.all) fuel=(m,0)
 whole:p.whole T fuel=m
 PO:uz p.aX.L p.n8 T m
 told:Vy m
 steps:m.steps≤fuel
 len:m.Len
 small:m.trace.length≤fuel.toNat∧m.out.length≤fuel.toNat∧∀ e∈m.trace,e.2.length≤1
theorem aee {p:Pg} (hc:(p.check.1==0)=true) {T:List Int} {fuel:Int} (h0:0≤fuel) (h1:fuel≤1000000) : ∃ m,Run p T fuel m:=by
 have hR:=DM hc
 have hb:=hR.may
 obtain⟨m,hm⟩:=G7 p T (oI 0 p.all) h0
 have wV:ofM p T (oI 0 p.all) fuel=(m,0):=by
  unfold ofM
  rw[if_neg,hm];rfl
  simp[hc];omega
 have hl:=Sy hR
 have hlg:=SW (f:=p.n8) hl (fun x mx=>Hl hb (by rw[← (kx p).1];exact List.mem_map_of_mem mx)) (Ky hb) hm
 have ht:=Sl hl (fun x mx=>(Ky hb x mx).1) hm
 have hs:=PN h0 hm
 have hv : ∀ e∈m.trace,e.2.length≤1:=fun e me=>by
  obtain⟨x,_,_,h⟩:=hlg.ev e me
  rw[h];exact VZ _
 have s6:m.trace.length≤fuel.toNat:=by rcases ht with ⟨_,h⟩|⟨_,h⟩<;>omega
 have iX:m.out.length≤fuel.toNat:=by rw[← hlg.out];exact Nat.le_trans (E9 hv) s6
 exact⟨m,hm,wV,by unfold Pg.whole;rw[wV],hlg,ht,hs,⟨by omega,by omega,fun e me=>by have:=hv e me;omega⟩,s6,iX,hv⟩
structure awn (fuel:Int) (r s:Mc):Prop where
 steps:r.steps=fuel
 trace:(r.trace.length:Int)=fuel
 more:r.steps≤s.steps
 reads:r.reads≤s.reads
 out:(decide ((r.out.length:Int)≤(s.out.length:Int)) && r.out==s.out.take r.out.length)=true
 told:fuel≤(s.trace.length:Int)∧s.trace.take fuel.toNat=r.trace
set_option maxRecDepth 8000
open Go.Proofs
theorem V0 {p:Pg} {T:List Int} {fuel:Int} (h:(p.check.1==0 && (decide (0≤fuel) && (decide (fuel≤400) && decide ((T.length:Int)≤100))))=true):(p.check.1==0)=true∧0≤fuel∧fuel≤400∧T.length≤100:=by
 simp only[Bool.and_eq_true,decide_eq_true_eq]at h
 exact⟨h.1,h.2.1,h.2.2.1,by omega⟩
theorem PQ (p:Pg) (T:List Int) (fuel:Int) (s:St):aF Tryz.prog yi [.agg (cu p), .slice .shared 1 (T.map bE), .int .i64 fuel] s (.bool true) s:=by
 refine aF.pure ?_ (by simp[D.bL,D.ok,Tag.ok,jc,iw]) rfl s
 have h1:=fun s=>ahD s
 have h2:=fun s=>adF p s
 unfold S0
 rcases Bool.eq_false_or_eq_true (decide (p.Co≤20000))with hw|hw
 case inr=>
  simp only[hw]at h2
  refine aF.go qI rfl fun B Q hB hQ=>?_
  have⟨hD,hY,hZ,gA⟩:=bP
  repeat' (first
 |simp only[go_sem,hD,hY,hZ,gA]
 |(with_reducible refine CU (h1 _) ?_)
 |(with_reducible refine CU (h2 _) ?_)
 |(with_reducible first|refine bo fun hc=>?_|refine bp fun hc=>?_|refine bq (fun hc=>?_) fun hc=>?_)<;>(try simp only[hc,bs,↓reduceIte]at h)<;>try simp only[hc]
 |(with_reducible refine aD hQ ?_;exact ga)
 |(cases h;done))
 simp only[hw]at h2
 obtain⟨dM,ahH⟩:=Pp (of_decide_eq_true hw)
 have ho:p.iM:=⟨ahH,by omega⟩
 have h3:=fun s=>Z5 ho T fuel s
 rcases Bool.eq_false_or_eq_true (p.check.1==0 && (decide (0≤fuel) && (decide (fuel≤400) && decide ((T.length:Int)≤100))))with b1|b1
 case inr=>
  rw[b1]at h3
  refine aF.go qI rfl fun B Q hB hQ=>?_
  have⟨hD,hY,hZ,gA⟩:=bP
  repeat' (first
 |simp only[go_sem,hD,hY,hZ,gA]
 |(with_reducible refine CU (h1 _) ?_)
 |(with_reducible refine CU (h2 _) ?_)
 |(with_reducible refine CU (h3 _) ?_)
 |(with_reducible first|refine bo fun hc=>?_|refine bp fun hc=>?_|refine bq (fun hc=>?_) fun hc=>?_)<;>(try simp only[hc,bs,↓reduceIte]at h)<;>try simp only[hc]
 |(with_reducible refine aD hQ ?_;exact ga)
 |(cases h;done))
 rw[b1]at h3
 obtain⟨hc,f0,f1,hT1⟩:=V0 b1
 obtain⟨m,hm⟩:=aee (T:=T) hc f0 (by omega)
 have hb:=(DM hc).may
 have wW:p.all.length≤1000:=by have:=(Cl hb).1;omega
 have h4:=fun s=>PH ho wW (T:=T) (by omega) fuel s
 rw[hm.whole]at h4
 obtain⟨rj,qU,qT⟩:=ho.procs
 have h5:=fun id s=>adC (p:=p) (by omega) (by omega) id s
 have aoh:=hm.PO.ev
 have Fo:=hm.PO.out
 have V1:=hm.PO.ins
 have jt:=hm.PO.reads
 have Sk : ∀ x∈p.aX.L,p.n8 x.s.id=x.s:=fun x mx=>Hl hb (by rw[← (kx p).1];exact List.mem_map_of_mem mx)
 have s6:m.trace.length≤400:=by have:=hm.small.1;omega
 have iX:m.out.length≤400:=by have:=hm.small.2.1;omega
 generalize hTr:m.trace=tr at *
 have e4:(fO m)[4]? = some (.slice .shared 2 (tr.map jD)):=by rw[X4,hTr]
 obtain⟨I,hI⟩ : ∃ I,T.take m.reads.toNat=I:=⟨_,rfl⟩
 rw[hI]at V1
 have hIl:(I.length:Int)=m.reads:=by rw[← hI,List.length_take];omega
 have h6:=fun g s=>bM.pR (.cons (Wk.shared g 1 _) (.cons (Wk.refl _) .nil)) (zW (a:=m.out) (b:=m.out) (by omega) .shared s)
 have h6 : ∀ g s,aF Tryz.prog jX [.slice g 1 (m.out.map bE), .slice .shared 1 (m.out.map bE)] s (.bool (m.out==m.out)) s:=h6
 rw[beq_self_eq_true]at h6
 have h7:=fun g s=>bM.pR (.cons (Wk.shared g 1 _) (.cons (Wk.refl _) .nil)) (Z1 (a:=I) (b:=T) (by omega) s)
 have e7:(decide ((I.length:Int)≤(T.length:Int)) && I==T.take I.length)=true:=by
  have:I.length=m.reads.toNat:=by omega
  rw[this,hI];simp;omega
 have h7 : ∀ g s,aF Tryz.prog qn [.slice g 1 (I.map bE), .slice .shared 1 (T.map bE)] s (.bool (decide ((I.length:Int)≤(T.length:Int)) && I==T.take I.length)) s:=h7
 rw[e7]at h7
 have e8:((I.length:Int)==m.reads)=true:=by simpa using hIl
 refine aF.go qI rfl fun B Q hB hQ=>?_
 have⟨hD,hY,hZ,gA⟩:=bP
 repeat' (first
 |simp only[go_sem,hD,hY,hZ,gA,e4]
 |(with_reducible refine CU (h1 _) ?_)
 |(with_reducible refine CU (h2 _) ?_)
 |(with_reducible refine CU (h3 _) ?_)
 |(with_reducible refine CU (h4 _) ?_)
 |(with_reducible first|refine bo fun hc=>?_|refine bp fun hc=>?_|refine bq (fun hc=>?_) fun hc=>?_)<;>(try simp only[hc,bs,↓reduceIte]at h)<;>try simp only[hc]
 |(with_reducible refine aD hQ ?_;(try cases h);simp only[aU,aV,bH,bI,go_sem,hD,hY,hZ,gA,e4];try exact cv)
 |(cases h;done))
 refine bl.qC 8 1 rfl ?_
 simp only[go_sem,hD,hY,hZ,gA]
 refine bl.qC 9 1 rfl ?_
 simp only[go_sem,hD,hY,hZ,gA]
 refine fa 2 2 (bl.ind (ι:=List (Int×List Int)×Nat×List Int×List Int×Nat×Nat) (fun i=>tr.drop i.2.1=i.1∧i.2.2.1++jm p.n8 3 i.1=m.out∧i.2.2.2.1++jm p.n8 2 i.1=I∧i.2.2.2.2.1=i.2.2.1.length∧i.2.2.2.2.2=i.2.2.2.1.length) (fun i=>i.1.length)
  (fun i=> [(1, .slice .shared 1 (T.map bE)),(3, .ptr 0 0),(7, .ptr 1 0),(8, .slice (.tok 0) 1 (i.2.2.1.map bE)),(9, .slice (.tok 1) 1 (i.2.2.2.1.map bE)),(27, .slice .shared 2 (tr.map jD)),(28, .int .i64 (tr.length:Int)),(29, .int .i64 (i.2.1:Int))]) (fun i=>⟨[cu p,fO m],[some i.2.2.2.2.1,some i.2.2.2.2.2]⟩) ?_ (tr,0,[],[],0,0) ⟨rfl,Fo,V1,rfl,rfl⟩)
 clear Fo V1
 rintro⟨rest,k,out,cf,na,nb⟩ ⟨g1,o1,o2,o3,o4⟩ IH
 dsimp only at g1 o1 o2 o3 o4
 subst o3 o4
 have uK:out.length≤400:=by have:=congrArg List.length o1;rw[List.length_append]at this;omega
 have iL:cf.length≤400:=by have:=congrArg List.length o2;rw[List.length_append]at this;omega
 cases rest with
 |nil=>
  have hD:=drop_nil g1
  simp only[jm,List.append_nil]at o1 o2
  subst o1
  subst o2
  repeat' (first
 |simp only[go_sem,hD,hY,hZ,gA,e8]
 |(with_reducible refine CU (h6 _ _) ?_)
 |(with_reducible refine CU (h7 _ _) ?_)
 |(with_reducible first|refine bo fun hc=>?_|refine bp fun hc=>?_|refine bq (fun hc=>?_) fun hc=>?_)<;>(try simp only[hc,bs,↓reduceIte]at h)<;>try simp only[hc]
 |(with_reducible refine aD hQ ?_;(try cases h);simp only[aU,aV,bH,bI,go_sem,hD,hY,hZ,gA,e8];try exact cv)
 |(cases h;done))
 | cons a rest=>
  obtain⟨hY,g2,hD,g4⟩:=drop_cons g1
  have bO:k<4611686018427387904:=by omega
  obtain⟨x,mx,j1,j2⟩:=aoh a (List.mem_of_getElem? hY)
  have i1:=Sk x mx
  obtain⟨a1,a2⟩:=a
  dsimp only at j1 j2
  rw[j1]at i1
  have X6:=fun s=>h5 a1 s
  simp only[jm]at o1 o2
  rw[i1]at X6 o1 o2
  generalize x.s=V at *
  obtain⟨vid,kind,labels,name,pc,x0,has,args,aZ,aR⟩:=V
  simp only[Sm.tells]at j1 j2
  dsimp only at o1 o2
  rcases Bool.eq_false_or_eq_true (kind==3)with c3|c3
  ·have k3:kind=3:=by simpa using c3
   subst k3
   have q1:a2.length=1:=j2
   obtain⟨v,rfl⟩ : ∃ v,a2 = [v]:=List.length_eq_one_iff.1 q1
   have hZ:(out.length+1)*9≤bA:=by unfold bA;omega
   have RJ:(out++ [v])++jm p.n8 3 rest=m.out:=by rw[← o1];simp
   have RK:cf++jm p.n8 2 rest=I:=by rw[← o2];rfl
   repeat' (first
 |simp only[go_sem,hD,hY,hZ,gA,hY,jD,bd,c3,bE]
 |(with_reducible refine CU (X6 _) ?_)
 |(with_reducible first|refine bo fun hc=>?_|refine bp fun hc=>?_|refine bq (fun hc=>?_) fun hc=>?_)<;>(try simp only[hc,bs,↓reduceIte]at h)<;>try simp only[hc]
 |(with_reducible refine aD hQ ?_;(try cases h);simp only[aU,aV,bH,bI,go_sem,hD,hY,hZ,gA,hY,jD,bd,c3,bE];try exact cv)
 | (cases h;done))
   refine eO 2 2 ?_ ?_ (IH (rest,k+1,out++ [v],cf,out.length+1,cf.length) ⟨g2,RJ,RK,by simp,rfl⟩ (Nat.lt_succ_self _))
   ·(simp only[go_sem,hD,hY,hZ,gA,aI bO,List.map_append,List.map_cons,List.map_nil,bE];try exact bW)
   ·(simp only[go_sem,hD,hY,hZ,gA,aI bO,List.map_append,List.map_cons,List.map_nil,bE];try exact bW)
  rcases Bool.eq_false_or_eq_true (kind==2)with c2|c2
  ·have k3:kind=2:=by simpa using c2
   subst k3
   have q1:a2.length=1:=j2
   obtain⟨v,rfl⟩ : ∃ v,a2 = [v]:=List.length_eq_one_iff.1 q1
   have hZ:(cf.length+1)*9≤bA:=by unfold bA;omega
   have RJ:out++jm p.n8 3 rest=m.out:=by rw[← o1];rfl
   have RK:(cf++ [v])++jm p.n8 2 rest=I:=by rw[← o2];simp
   repeat' (first
 |simp only[go_sem,hD,hY,hZ,gA,hY,jD,bd,c3,c2,bE]
 |(with_reducible refine CU (X6 _) ?_)
 |(with_reducible first|refine bo fun hc=>?_|refine bp fun hc=>?_|refine bq (fun hc=>?_) fun hc=>?_)<;>(try simp only[hc,bs,↓reduceIte]at h)<;>try simp only[hc]
 |(with_reducible refine aD hQ ?_;(try cases h);simp only[aU,aV,bH,bI,go_sem,hD,hY,hZ,gA,hY,jD,bd,c3,c2,bE];try exact cv)
 | (cases h;done))
   refine eO 2 2 ?_ ?_ (IH (rest,k+1,out,cf++ [v],out.length,cf.length+1) ⟨g2,RJ,RK,rfl,by simp⟩ (Nat.lt_succ_self _))
   ·(simp only[go_sem,hD,hY,hZ,gA,aI bO,List.map_append,List.map_cons,List.map_nil,bE];try exact bW)
   ·(simp only[go_sem,hD,hY,hZ,gA,aI bO,List.map_append,List.map_cons,List.map_nil,bE];try exact bW)
  ·simp only [c3,c2,Bool.false_eq_true,if_false,List.nil_append]at o1 o2
   repeat' (first
 |simp only[go_sem,hD,hY,hZ,gA,hY,jD,bd,c3,c2,bE]
 |(with_reducible refine CU (X6 _) ?_)
 |(with_reducible first|refine bo fun hc=>?_|refine bp fun hc=>?_|refine bq (fun hc=>?_) fun hc=>?_)<;>(try simp only[hc,bs,↓reduceIte]at h)<;>try simp only[hc]
 |(with_reducible refine aD hQ ?_;(try cases h);simp only[aU,aV,bH,bI,go_sem,hD,hY,hZ,gA,hY,jD,bd,c3,c2,bE];try exact cv)
 | (cases h;done))
   refine eO 2 2 ?_ ?_ (IH (rest,k+1,out,cf,out.length,cf.length) ⟨g2,o1,o2,rfl,rfl⟩ (Nat.lt_succ_self _))
   ·(simp only[go_sem,hD,hY,hZ,gA,aI bO];try exact bW)
   ·(simp only[go_sem,hD,hY,hZ,gA,aI bO];try exact bW)
def M0:Map:=⟨fun _ _=>none,fun _=>(0, .any),fun _=>none⟩
def Kept (w w':World):Prop:=w.keptBut w' (fun _=>False)∧∀ a:Addr,a.block<w.heap.size→w'.frozen? a=w.frozen? a
theorem Kept.frame {w w':World} (h:Kept w w') (may:MemPlace→Prop):w.keptBut w' may:=World.keptBut_mono (fun _ f=>f.elim) h.1
theorem Ext.aeh {M M':Map} {s':St} {w w':World} (e:Ext M S0 w M' s' w'):Kept w w':=by
 have hh : ∀ b,b<w.heap.size→w'.heap[b]? = w.heap[b]? :=fun b hb=>
  e.kept b hb (fun o ho=>by simp[S0]at ho) (fun t c z hl=>by obtain⟨n,hn⟩:=hl;simp[S0]at hn)
 refine⟨⟨e.os,e.output,fun i hi=>?_⟩,fun a ha=>?_⟩
 ·rw [hh i hi]
  exact(World.keptBut_refl w (fun _=>False)).2.2 i hi
 ·simp only[World.frozen?,hh _ ha]
theorem aoi (G:Nat→Nat→Option Value) (w:World) (h : ∀ b o v,G b o=some v→w.cell? ⟨b,o,none⟩=some v∧v.oneCell'=true):Rel ⟨G,fun _=>(0, .any),fun _=>none⟩ S0 w:=
 ⟨h,fun o ds e=>by simp [S0]at e,fun o ho=>by simp [S0]at ho,fun o o' ho=>by simp [S0]at ho,fun t n e=>by simp [S0]at e,
  fun t b c z o hl=>by obtain⟨n,hn⟩:=hl;simp[S0]at hn,fun t t' b c z c' z' hl=>by obtain⟨n,hn⟩:=hl;simp[S0]at hn⟩
def PR (w:World):Prop:=∀ g cs,aar g=some cs→∃ T fr,w.heap[g]? = some (.cells cs T fr)
theorem ahI (G:Nat→Nat→Option Value) {w:World} (h:PR w):Laid ⟨G,fun _=>(0, .any),fun _=>none⟩ S0 w:=
 fun g cs hg=>⟨h g cs hg,fun o ho=>by simp[S0]at ho,fun t c z hl=>by obtain⟨n,hn⟩:=hl;simp[S0]at hn⟩
theorem SX {P:Program} {f:FuncId} {args:List D} {fI:Array Value} {w:World} {G:Nat→Nat→Option Value} (h:bM P f args S0 fun d _=>d = .bool true)
 (hG : ∀ b o v,G b o=some v→w.cell? ⟨b,o,none⟩=some v∧v.oneCell'=true) (hl:fI.size=args.length)
 (ha : ∀ (i:Nat) (d:D) (v:Value),args[i]? = some d→fI[i]? = some v→RD ⟨G,fun _=>(0, .any),fun _=>none⟩ S0 d v) (kA:PR w) :
 Calls P f fI w fun e w'=>e = .returned (.bool true)∧Kept w w':=by
 refine(h _ w fI (aoi G w hG) (ahI G kA) hl ha).mono fun e w' hw=>?_
 obtain⟨M',d,v,s',rfl,rfl,he,_,hv⟩:=hw
 rw[hv.nQ]
 exact⟨rfl,he.aeh⟩
section
variable {P:Program} {H:Type} {enc:TypeId×Value→H}
theorem Kz {f:Func} {s:ChangeSpec} {apart fresh handsOn again:Bool} {W W':World} {args:Array Value} {v:Value} {ds gs:List (DataW H)} {before pa pv:List MemPlace}
 (hW:DataW.Whole enc P f.params.toList s.vars apart W args.toList ds gs before)
 (aei : ∀ (b:Nat) (sp:Nat→Bool) (hd:Bool),DataW.TrodAll enc P W' b sp hd f.resultTypes.toList (v.resultList f.resultTypes.size) (s.fn H (ds++gs)).results [])
 (yY : ∀ sp:Nat→Bool,(∀ p∈before,sp p.block=true)→DataW.TrodAll enc P W' 0 sp true f.params.toList args.toList (s.fn H (ds++gs)).args pa)
 (zR : ∀ sp:Nat→Bool,(∀ p∈before,sp p.block=true)→DataW.TrodVars enc P W' sp s.vars (s.fn H (ds++gs)).vars pv)
 (qU:before=pa++pv) (hk:Kept W W')
 (pJ : ∀ (j:Nat) (t:TypeId) (r:Value),f.resultTypes[j]? = some t→(v.resultList f.resultTypes.size)[j]? = some r→Value.okWide P W' .any 0 t r) :
 s.post enc P f apart fresh handsOn again W args v W':=by
 have hD : ∀ p∈before,p.block<W.heap.size:=fun p hp=>hW.lt p hp
 have hold : ∀ p∈before,(fun b=>decide (b<W.heap.size)) p.block=true:=fun p hp=>by simpa using hD p hp
 refine⟨ds,gs,before,[],pa,pv,hW,aei _ _ _,yY _ hold,zR _ hold,World.keptBut_mono (fun p hp=>⟨hp, ?_⟩) (hk.frame (· ∈before)),fun _=>?_⟩
 ·rw [qU,List.mem_append]at hp
  exact Or.inr hp
 ·obtain⟨_,_,_,_,_,hz,hn⟩:=hW
  refine⟨pJ,_,_,([]++pa)++pv,⟨[]++pa,pv,ChangeShapes.trodAll_append (yY _ (fun _ _=>rfl)) (aei _ _ _),zR _ (fun _ _=>rfl),rfl, ?_, ?_⟩, ?_⟩
  ·intro b off hp
   have mT:MemPlace.cell b off∈before:=by rw[qU];simpa using hp
   rw[hk.2 _ (hD _ mT)]
   exact hz b off mT
  ·intro ha
   have:=hn ha
   rw[qU]at this
   simpa using this
  ·intro p hp _
   rw[qU]
   simpa using hp
end
end Go.Abs
namespace Go.Abs
open Go.RowKit Go.ChangeShapes Go.WideShapes
def B0 (w:World) (b o:Nat):Option Value:=
 match w.cell? ⟨b,o,none⟩with
 |some v=>if v.oneCell'=true then some v else none
 |none=>none
theorem Mr {w:World} (b o:Nat) (v:Value) (h:B0 w b o=some v):w.cell? ⟨b,o,none⟩=some v∧v.oneCell'=true:=by
 unfold B0 at h
 split at h
 ·split at h
  ·cases h;exact⟨‹_›, ‹_›⟩
  ·cases h
 ·cases h
def sC (w:World):Map:=⟨B0 w,fun _=>(0, .any),fun _=>none⟩
theorem Kept.sameAt {w w':World} (h:Kept w w') {p:MemPlace} (hp:p.block<w.heap.size):w.sameAt w' p:=by
 have hk:=h.1.2.2 p.block hp
 cases p with
 | cell b off=>
  simp only[MemPlace.block]at hk hp
  simp only[World.sameAt,World.cell?]
  split at hk
  ·rename_i c t fr c' t' Mh e e'
   rw[e,e']
   simp only[hk.2.2.2 off (fun f=>f)]
  ·rename_i es clock A6 aej e e'
   rw[e,e']
  ·rw[hk]
 | map b=>
  simp only[MemPlace.block]at hk hp
  simp only[World.sameAt]
  split at hk
  ·rename_i c t fr c' t' Mh e e'
   rw[e,e']
   obtain⟨rfl,rfl,hs,hc⟩:=hk
   have:c'=c:=by
    apply Array.ext_getElem?
    intro i
    exact hc i (fun f=>f)
   rw[this]
  ·rename_i es clock A6 aej e e'
   rcases hk with f|⟨rfl,rfl⟩
   ·exact f.elim
   ·rw[e,e']
  ·exact hk
section
variable {P:Program} {H:Type} {enc:TypeId×Value→H} {T:TypeId→Prop}
theorem Fa (K:Kids P T) (hz : ∀ {t e:TypeId},T t→P.underlying t=some (.slice e)→0<P.cellsOf e) {W W':World} (hk:Kept W W') {sp:Nat→Bool} :
 ∀ {ts:List TypeId} {vs:List Value} {ds:List (DataW H)} {ps:List MemPlace},(∀ t∈ts,T t)→(∀ p∈ps,p.block<W.heap.size)→(∀ p∈ps,sp p.block=true)→
  DataW.TrodAll enc P W 0 (fun _=>true) true ts vs ds ps→DataW.TrodAll enc P W' 0 sp true ts vs ds ps
 | [],[],[],_,_,_,_,h=>h
 |t::ts,v::vs,d::ds,ps,hT,hD,hs,⟨p,q,⟨n,h1⟩,h2,e⟩=>by
  subst e
  refine⟨p,q,⟨n,DataW.trod_stays K hz (fun f=>by cases f) (hT t (List.mem_cons_self ..)) h1 (fun x hx=>hk.sameAt (hD x (List.mem_append_left _ hx))) (fun x hx=>hs x (List.mem_append_left _ hx))⟩, ?_,rfl⟩
  exact Fa K hz hk (fun t ht=>hT t (List.mem_cons_of_mem _ ht)) (fun x hx=>hD x (List.mem_append_right _ hx)) (fun x hx=>hs x (List.mem_append_right _ hx)) h2
 | [],[],_::_,_,_,_,_,h=>h.elim
 | [],_::_,_,_,_,_,_,h=>h.elim
 |_::_,[],_,_,_,_,_,h=>h.elim
 |_::_,_::_,[],_,_,_,_,h=>h.elim
theorem V3 (K:Kids P T) (hz : ∀ {t e:TypeId},T t→P.underlying t=some (.slice e)→0<P.cellsOf e) {f:Func} {s:ChangeSpec} {apart fresh handsOn again:Bool} {tb:TypeId} {W W':World} {args:Array Value} {ds gs:List (DataW H)} {before:List MemPlace}
 (hT : ∀ t∈f.params.toList,T t) (hb:P.underlying tb=some .bool) (hr:f.resultTypes = #[tb]) (zR:s.vars = []) (hW:DataW.Whole enc P f.params.toList s.vars apart W args.toList ds gs before)
 (Ao:s.fn H (ds++gs) = {results:= [.lit (.bool true)],args:=ds}) (hk:Kept W W'):s.post enc P f apart fresh handsOn again W args (.bool true) W':=by
 have hW':=hW
 have hD : ∀ p∈before,p.block<W.heap.size:=fun p hp=>hW.lt p hp
 obtain⟨p,q,hA,hV,rfl,hfz,SG⟩:=hW
 rw[zR]at hV
 obtain⟨rfl,rfl⟩:=trodVars_none hV
 simp only[List.append_nil]at hD Ao
 refine Kz (pa:=p) (pv:= []) hW' (fun b sp hd=>?_) (fun sp CW=>?_) (fun sp CW=>?_) rfl hk (ok_one hr rfl (okWide_bool_mk hb _))
 ·rw [List.append_nil,Ao,hr]
  exact trodAll_cons_mk (shut_bool hb _) trodAll_mk0
 ·rw [List.append_nil,Ao]
  simp only[List.append_nil]at CW
  exact Fa K hz hk hT hD CW hA
 ·rw [List.append_nil,Ao,zR]
  rfl
theorem Z8 {f:FuncId} {args:List D} {fI:Array Value} {w:World} (h:bM P f args S0 fun d _=>d = .bool true) (hl:fI.size=args.length)
 (ha : ∀ (i:Nat) (d:D) (v:Value),args[i]? = some d→fI[i]? = some v→RD (sC w) S0 d v) (kA:PR w):Calls P f fI w fun e w'=>e = .returned (.bool true)∧Kept w w':=
 SX (G:=B0 w) h Mr hl ha kA
end
end Go.Abs
namespace Go.Abs
open Go.Proofs
def pw (n:Int):List D:= [.int .i64 n]
theorem ahJ (n:Int):D.bL 0 0 (pw n)=true:=rfl
theorem ael (n m:Nat) (l:List Int):D.kz n m (l.map pw)=l.map pw:=lV ahJ n m l
attribute [go_sem] pw ael
def ahK (op:Int):aG:=
 if op=5 then [42]else if op=6 then [47]else if op=7 then [37]else if op=8 then [43]else if op=9 then [45]else if op=10 then [60]else if op=11 then [60,61]
 else if op=12 then [62]else if op=13 then [62,61]else if op=14 then [61,61]else if op=15 then [33,61]else if op=16 then [38,38]else [124,124]
def avD (op:Int):Int:=(acQ (ahK op)).1
def SY:Nat→List aG
 | 0=> []
 |n+1=>SY n++ [[UInt8.ofNat (97+n)]]
end Go.Abs
namespace Go.Abs
open Go.RowKit Go.ChangeShapes Go.WideShapes
theorem Z9 {W:World} {a:Addr} {len cap:Nat} {zs:List Int} (hl:len≤cap) (hz:len≤zs.length) (hc : ∀ i,i<zs.length→W.cell? (a.add i)=some (.int .i64 (zs.getD i 0))) :
 RD (sC W) S0 (.slice .shared 1 ((zs.take len).map pw)) (.slice (some a) len cap):=by
 by_cases h0:len=0
 ·subst h0
  exact .lB _ _ _
 ·obtain⟨b,off,rfl,iE⟩:=Go.ints_at hc (by omega)
  have hlen:((zs.take len).map pw).length=len:=by simp;omega
  have e:((zs.take len).map pw).length=len:=hlen
  have key : ∀ (i:Nat) (row:List D) (j:Nat) (d:D),((zs.take len).map pw)[i]? = some row→row[j]? = some d→(sC W).G b (off+(i*1+j))=some (.int .i64 (zs.getD i 0))∧d = .int .i64 (zs.getD i 0):=by
   intro i row j d h1 h2
   rw[List.getElem?_map,Option.map_eq_some_iff]at h1
   obtain⟨n,h1,rfl⟩:=h1
   rw[List.getElem?_take]at h1
   split at h1
   ·rename_i hi
    have hd:zs.getD i 0=n:=by rw[List.getD_eq_getElem?_getD,h1];rfl
    have nK:i<zs.length:=(List.getElem?_eq_some_iff.1 h1).1
    cases j with
    |zero=>
     simp[pw]at h2
     subst h2
     refine⟨?_,by rw[hd]⟩
     have:=iE i nK
     show B0 W b (off+(i*1+0))=_
     unfold B0
     rw[show off+(i*1+0)=off+i by omega,this]
     rfl
    |succ j=>simp[pw]at h2
   ·cases h1
  have:=RD.slice (M:=sC W) (s:=S0) .shared 1 ((zs.take len).map pw) b off cap (by omega) (fun row hr=>by obtain⟨n,_,rfl⟩:=List.mem_map.1 hr;rfl)
   (fun i row j d h1 h2=>⟨_,(key i row j d h1 h2).1⟩) (fun i row j d u h1 h2 hu=>by
    obtain⟨k1,k2⟩:=key i row j d h1 h2
    rw[k1]at hu
    cases hu
    rw[k2]
    exact .int _ _) trivial
  rw[hlen]at this
  exact this
end Go.Abs
namespace Go.Abs
open Go.RowKit Go.ChangeShapes Go.WideShapes
def fk (W:World) (ds:List D) (cs:List Value):Prop:=ds.length=cs.length∧(∀ (i:Nat) (d:D) (v:Value),ds[i]? = some d→cs[i]? = some v→RD (sC W) S0 d v)∧∀ v∈cs,v.oneCell'=true
theorem fk.one {W:World} {d:D} {v:Value} (h:RD (sC W) S0 d v) (hv:v.oneCell'=true):fk W [d] [v]:=by
 refine⟨rfl,fun i d' v' h1 h2=>?_,fun u hu=>by simp at hu;subst hu;exact hv⟩
 cases i with
 |zero=>simp at h1 h2;subst h1 h2;exact h
 |succ i=>simp at h1
theorem fk.app {W:World} {ds nH:List D} {cs jI:List Value} (h:fk W ds cs) (h':fk W nH jI):fk W (ds++nH) (cs++jI):=by
 obtain⟨a1,a2,a3⟩:=h
 obtain⟨b1,b2,b3⟩:=h'
 refine⟨by simp[a1,b1],fun i d v h1 h2=>?_,fun v hv=>?_⟩
 ·by_cases hi:i<ds.length
  ·rw [List.getElem?_append_left hi]at h1
   rw[List.getElem?_append_left (by omega)]at h2
   exact a2 i d v h1 h2
  ·rw [List.getElem?_append_right (by omega)]at h1
   rw[List.getElem?_append_right (by omega), ← a1]at h2
   exact b2 _ d v h1 h2
 ·rcases List.mem_append.1 hv with hv | hv
  ·exact a3 v hv
  ·exact b3 v hv
theorem fk.at {W:World} {ds nH:List D} {cs:List Value} {o n:Nat} (h:fk W ds ((cs.drop o).take n)) (h':fk W nH (cs.drop (o+n))):fk W (ds++nH) (cs.drop o):=by
 have e:cs.drop o=(cs.drop o).take n++cs.drop (o+n):=by rw[← List.drop_drop,List.take_append_drop]
 rw[e]
 exact h.app h'
theorem fk.end {W:World} {cs:List Value} {o:Nat} (h:cs.length=o):fk W [] (cs.drop o):=by
 rw[← h,List.drop_length]
 exact⟨rfl,fun i d v h=>by simp at h,fun v hv=>by cases hv⟩
section
variable {H:Type} {enc:TypeId×Value→H} {P:Program} {W:World} {sp:Nat→Bool}
def structOf (P:Program) (t:TypeId):List (TypeId×Nat):=
 match P.underlying t with
 |some (.struct fs)=>fs.toList.map fun f=>(f.type,f.offset)
 |_=> []
theorem lY {t:TypeId} {l:List (TypeId×Nat)} {fuel:Nat} {cs:List Value} {x:DataW H×List MemPlace} (h:structOf P t=l) (eJ:l≠ []) (ht:DataW.trod enc P W 0 sp true fuel t cs=some x) :
 ∃ n,fuel=n+1∧cs.length=P.cellsOf t∧∀ (i:Nat) (f:TypeId×Nat),l[i]? = some f→∃ y,DataW.trod enc P W 0 sp true n f.1 ((cs.drop f.2).take (P.cellsOf f.1))=some y:=by
 unfold structOf at h
 split at h
 ·rename_i fs hu
  obtain⟨xs,n,e,_,hl,hlen,hf⟩:=DataW.trod_struct hu ht
  refine⟨n,e,hl,fun i f hi=>?_⟩
  subst h
  rw[List.getElem?_map,Option.map_eq_some_iff]at hi
  obtain⟨g,hg,rfl⟩:=hi
  have CO:fs[i]? = some g:=by simpa using hg
  have hi:i<xs.length:=by rw[hlen];exact(Array.getElem?_eq_some_iff.1 CO).1
  exact⟨xs[i],by rw[hf i g CO,List.getElem?_eq_getElem hi]⟩
 ·exact absurd h.symm eJ
theorem HO {t:TypeId} {l:List (TypeId×Nat)} (h:structOf P t=l) (eJ:l≠ []) : ∃ fs,P.underlying t=some (.struct fs):=by
 unfold structOf at h
 split at h
 ·exact⟨_, ‹_›⟩
 ·exact absurd h.symm eJ
theorem C8 {α:Type} {Q:Nat→α→Prop} : ∀ n,(∀ i,i<n→∃ y,Q i y)→∃ ys:List α,ys.length=n∧∀ i y,ys[i]? = some y→Q i y
 | 0,_=>⟨[],rfl,fun i y h=>by simp at h⟩
 | n+1,h=>by
  obtain⟨ys,h1,h2⟩:=C8 n fun i hi=>h i (by omega)
  obtain⟨y,hy⟩:=h n (by omega)
  refine⟨ys++ [y],by simp[h1],fun i z hz=>?_⟩
  by_cases hi:i<ys.length
  ·rw[List.getElem?_append_left hi]at hz;exact h2 i z hz
  ·rw [List.getElem?_append_right (by omega)]at hz
   have:i - ys.length=0:=by
    rcases Nat.eq_zero_or_pos (i - ys.length)with h|h
    ·exact h
    ·rw[List.getElem?_eq_none (by simp only[List.length_cons,List.length_nil];omega)]at hz;cases hz
   rw[this]at hz
   simp at hz
   subst hz
   have:i=n:=by omega
   subst this
   exact hy
theorem px {α:Type} (en:α→List D) (good:α→Prop) {z:Nat} {t e:TypeId} {fuel:Nat} {cs:List Value} {x:DataW H×List MemPlace} (ht:P.underlying t=some (.slice e)) (hz:P.cellsOf e=z) (X0:0<z) (hen : ∀ y,(en y).length=z)
 (hel : ∀ n<fuel,∀ cs x,DataW.trod enc P W 0 sp true n e cs=some x→∃ y,fk W (en y) cs∧good y) (h:DataW.trod enc P W 0 sp true fuel t cs=some x) :
 ∃ ys:List α,fk W [.slice .shared z (ys.map en)] cs∧∀ y∈ys,good y:=by
 rcases DataW.trod_slice ht h with ⟨rfl,_⟩|⟨a,len,cap,elems,rest,n,hn,rfl,_,hb,hl,hm,hlen,iE,_,_⟩
 ·exact⟨[],fk.one (.iK _ _ _ rfl trivial) rfl,fun y hy=>by cases hy⟩
 ·by_cases h0:len=0
  ·subst h0
   exact⟨[],fk.one (.lB _ _ _) rfl,fun y hy=>by cases hy⟩
  ·obtain⟨ys,hys,za⟩:=C8 (Q:=fun i y=>good y∧∃ jI,W.cells? 0 (a.add (i*z)) z=some jI∧fk W (en y) jI) len fun i hi=>by
    have hc:=iE i hi
    rw[List.getElem?_eq_getElem (by omega),hz,Option.bind_eq_some_iff]at hc
    obtain⟨jI,h1,h2⟩:=hc
    obtain⟨y,h3,h4⟩:=hel n (by omega) _ _ h2
    exact⟨y,h4,jI,h1,h3⟩
   have cell : ∀ i y,ys[i]? = some y→∀ (j:Nat) d,(en y)[j]? = some d→∃ v,W.cell? ((a.add (i*z)).add j)=some v∧RD (sC W) S0 d v∧v.oneCell'=true:=by
    intro i y hy j d hd
    obtain⟨_,jI,h1,h2,h3,h4⟩:=za i y hy
    obtain⟨_,k1,k2⟩:=World.cells?_some h1
    have hj:j<z:=by rw[← hen y];exact(List.getElem?_eq_some_iff.1 hd).1
    have hv:jI[j]? = some jI[j]:=List.getElem?_eq_getElem (by omega)
    exact⟨jI[j],by rw[k2 j hj,hv],h3 j d _ hd hv,h4 _ (List.getElem_mem _)⟩
   obtain⟨b,off,spot⟩:=a
   have ahL:spot=none:=by
    have hy:ys[0]? = some (ys[0]'(by omega)):=List.getElem?_eq_getElem (by omega)
    obtain⟨d,hd⟩ : ∃ d,(en (ys[0]'(by omega)))[0]? = some d:=⟨_,List.getElem?_eq_getElem (show 0<(en (ys[0]'(by omega))).length by rw[hen];exact X0)⟩
    obtain⟨v,hv,_⟩:=cell 0 _ hy 0 _ hd
    have:=World.cell?_spot hv
    simpa[Addr.add]using this
   subst ahL
   have e:(ys.map en).length=len:=by simp[hys]
   have:=RD.slice (M:=sC W) (s:=S0) .shared z (ys.map en) b off cap (by omega) (fun row hr=>by obtain⟨y,_,rfl⟩:=List.mem_map.1 hr;exact hen y)
    (fun i row j d h1 h2=>by
     rw[List.getElem?_map,Option.map_eq_some_iff]at h1
     obtain⟨y,h1,rfl⟩:=h1
     obtain⟨v,hv,_,h4⟩:=cell i y h1 j d h2
     rw[add_plain,add_plain]at hv
     refine⟨v, ?_⟩
     show B0 W b (off+(i*z+j))=_
     unfold B0
     rw[show off+(i*z+j)=off+i*z+j by omega,hv]
     simp[h4])
    (fun i row j d u h1 h2 hu=>by
     rw[List.getElem?_map,Option.map_eq_some_iff]at h1
     obtain⟨y,h1,rfl⟩:=h1
     obtain⟨v,hv,h3,h4⟩:=cell i y h1 j d h2
     rw[add_plain,add_plain]at hv
     obtain⟨hu,_⟩:=Mr _ _ _ hu
     rw[show off+(i*z+j)=off+i*z+j by omega,hv]at hu
     cases hu
     exact h3) trivial
   rw[e]at this
   refine⟨ys,fk.one this rfl,fun y hy=>?_⟩
   obtain⟨i,hi⟩:=List.getElem?_of_mem hy
   exact(za i y hi).1
theorem Fb {t:TypeId} {fuel:Nat} {cs:List Value} {x:DataW H×List MemPlace} (ht:P.underlying t=some (.int .i64)) (h:DataW.trod enc P W 0 sp true fuel t cs=some x) : ∃ n:Int,fk W [.int .i64 n] cs∧n≤9223372036854775807∧ -9223372036854775808≤n:=by
 obtain⟨n,rfl,_,hw⟩:=DataW.trod_int ht h
 simp[Lit.wf,IntKind.min,IntKind.max,IntKind.signed,IntKind.bits]at hw
 exact⟨n,fk.one (.int _ _) rfl,by omega,by omega⟩
theorem F5 {t:TypeId} {fuel:Nat} {cs:List Value} {x:DataW H×List MemPlace} (ht:P.underlying t=some .bool) (h:DataW.trod enc P W 0 sp true fuel t cs=some x) : ∃ b:Bool,fk W [.bool b] cs:=by
 obtain⟨n,rfl,_⟩:=DataW.trod_bool ht h
 exact⟨n,fk.one (.bool _) rfl⟩
theorem wa {t:TypeId} {fuel:Nat} {cs:List Value} {x:DataW H×List MemPlace} (ht:P.underlying t=some .string) (h:DataW.trod enc P W 0 sp true fuel t cs=some x) : ∃ s:aG,fk W (encStr s) cs∧s.length≤maxLen:=by
 obtain⟨s,rfl,_,hm⟩:=DataW.trod_string ht h
 obtain⟨⟨l⟩⟩:=s
 exact⟨l,fk.one (.str l) rfl,hm⟩
theorem ahM {tE tI tN tS tK:TypeId} (hE:structOf P tE = [(tI,0),(tN,1),(tS,2),(tK,3)]) (hEc:P.cellsOf tE=4) (hI:P.underlying tI=some (.int .i64)) (hN:P.underlying tN=some (.int .i64)) (hS:P.underlying tS=some .string) (hK:P.underlying tK=some (.slice tE))
 (cI:P.cellsOf tI=1) (cN:P.cellsOf tN=1) (cS:P.cellsOf tS=1) (cK:P.cellsOf tK=1) :
 ∀ (fuel:Nat) (cs:List Value) (x:DataW H×List MemPlace),DataW.trod enc P W 0 sp true fuel tE cs=some x→∃ y:Ex,fk W (cj y) cs∧y.rO:=by
 intro fuel
 induction fuel using Nat.strongRecOn with
 | _ fuel ih=>
  intro cs x h
  obtain⟨n,rfl,hl,hf⟩:=lY hE (by simp) h
  obtain⟨y0,h0⟩:=hf 0 _ rfl
  obtain⟨y1,h1⟩:=hf 1 _ rfl
  obtain⟨y2,h2⟩:=hf 2 _ rfl
  obtain⟨y3,h3⟩:=hf 3 _ rfl
  dsimp only at h0 h1 h2 h3
  rw[cI]at h0
  rw[cN]at h1
  rw[cS]at h2
  rw[cK]at h3
  obtain⟨op,r0,_⟩:=Fb hI h0
  obtain⟨m,r1,hm,_⟩:=Fb hN h1
  obtain⟨s,r2,_⟩:=wa hS h2
  obtain⟨ks,r3,hg⟩:=px (W:=W) cj Ex.rO hK hEc (by decide) WC (fun k hk cs x hx=>ih k (by omega) cs x hx) h3
  refine⟨⟨op,m,s,ks⟩, ?_,hm, ?_⟩
  ·have:=r0.at (r1.at (r2.at (r3.at (fk.end (by rw [hl,hEc])))))
   rw[jb]
   simpa[encStr]using this
  ·clear r3
   induction ks with
   |nil=>exact trivial
   |cons k ks ihk=>exact⟨hg k (by simp),ihk fun y hy=>hg y (by simp[hy])⟩
theorem fk.agg {ds:List D} {v:Value} (h:fk W ds v.cells.toList) (hv : ∃ vs,v = .agg vs):RD (sC W) S0 (.agg ds) v:=by
 obtain⟨vs,rfl⟩:=hv
 obtain⟨h1,h2,h3⟩:=h
 have e:(Value.agg vs).cells=vs:=rfl
 rw[e]at h1 h2 h3
 refine .agg ds vs (by simpa using h1) (fun v hv=>h3 v (by simpa using hv)) fun i d v hd hv=>h2 i d v hd (by simpa using hv)
end
end Go.Abs
namespace Go.Abs
open Go.Proofs Go.RowKit Go.ChangeShapes Go.WideShapes
section
variable {H:Type} {enc:TypeId×Value→H} {W:World} {sp:Nat→Bool}
theorem SZ (fuel:Nat) (cs:List Value) (x:DataW H×List MemPlace) (h:DataW.trod enc Tryz.prog W 0 sp true fuel 50 cs=some x) : ∃ y:Ex,fk W (cj y) cs∧y.rO:=
 ahM (tE:=50) (tI:=3) (tN:=2) (tS:=9) (tK:=48) (by kernel_rfl) (by kernel_rfl) (by kernel_rfl) (by kernel_rfl) (by kernel_rfl) (by kernel_rfl) (by kernel_rfl) (by kernel_rfl) (by kernel_rfl) (by kernel_rfl) _ _ _ h
theorem aac:Tryz.prog.underlying 22=some (.slice 9):=by kernel_rfl
theorem yI:Tryz.prog.underlying 9=some .string:=by kernel_rfl
theorem S1:Tryz.prog.underlying 3=some (.int .i64):=by kernel_rfl
theorem F6:Tryz.prog.underlying 4=some .bool:=by kernel_rfl
theorem B1:Tryz.prog.cellsOf 9=1:=by kernel_rfl
theorem aep:Tryz.prog.cellsOf 3=1:=by kernel_rfl
theorem F7:Tryz.prog.cellsOf 4=1:=by kernel_rfl
theorem F8:Tryz.prog.cellsOf 22=1:=by kernel_rfl
theorem X7:Tryz.prog.cellsOf 50=4:=by kernel_rfl
theorem zZ {fuel:Nat} {cs:List Value} {x:DataW H×List MemPlace} (h:DataW.trod enc Tryz.prog W 0 sp true fuel 22 cs=some x) : ∃ l:List aG,fk W [.slice .shared 1 (l.map encStr)] cs:=by
 obtain⟨l,h,_⟩:=px (W:=W) encStr (fun _=>True) aac B1 (by decide) (fun _=>rfl) (fun k hk cs x hx=>by
  obtain⟨s,hs,_⟩:=wa yI hx
  exact⟨s,hs,trivial⟩) h
 exact⟨l,h⟩
theorem aeq {fuel:Nat} {cs:List Value} {x:DataW H×List MemPlace} (h:DataW.trod enc Tryz.prog W 0 sp true fuel 73 cs=some x) : ∃ y:Pm,fk W (iG y) cs:=by
 obtain⟨n,rfl,hl,hf⟩:=lY (l:= [(9,0),(4,1)]) (by kernel_rfl) (by simp) h
 have hc:Tryz.prog.cellsOf 73=2:=by kernel_rfl
 obtain⟨y0,h0⟩:=hf 0 _ rfl
 obtain⟨y1,h1⟩:=hf 1 _ rfl
 dsimp only at h0 h1
 rw[B1]at h0
 rw[F7]at h1
 obtain⟨s,r0,_⟩:=wa yI h0
 obtain⟨b,r1⟩:=F5 F6 h1
 refine⟨⟨s,b⟩, ?_⟩
 have:=r0.at (r1.at (fk.end (by rw[hl,hc])))
 simpa[encStr,iG]using this
theorem aer {fuel:Nat} {cs:List Value} {x:DataW H×List MemPlace} (h:DataW.trod enc Tryz.prog W 0 sp true fuel 123 cs=some x) : ∃ y:Ar,fk W (ew y) cs∧y.x.rO:=by
 obtain⟨n,rfl,hl,hf⟩:=lY (l:= [(4,0),(9,1),(50,2)]) (by kernel_rfl) (by simp) h
 have hc:Tryz.prog.cellsOf 123=6:=by kernel_rfl
 obtain⟨y0,h0⟩:=hf 0 _ rfl
 obtain⟨y1,h1⟩:=hf 1 _ rfl
 obtain⟨y2,h2⟩:=hf 2 _ rfl
 dsimp only at h0 h1 h2
 rw[F7]at h0
 rw[B1]at h1
 rw[X7]at h2
 obtain⟨b,r0⟩:=F5 F6 h0
 obtain⟨s,r1,_⟩:=wa yI h1
 obtain⟨e,r2,hr⟩:=SZ _ _ _ h2
 refine⟨⟨b,s,e⟩, ?_,hr⟩
 have:=r0.at (r1.at (r2.at (fk.end (by rw[hl,hc]))))
 rw[jb]at this
 simpa[encStr,ew]using this
theorem z6 : ∀ {l:List Sm},(∀ s∈l,s.rO)→Sm.xD l
 | [],_=>trivial
 |s::l,h=>⟨h s (List.mem_cons_self ..),z6 fun t m=>h t (List.mem_cons_of_mem _ m)⟩
theorem aes : ∀ (fuel:Nat) (cs:List Value) (x:DataW H×List MemPlace),DataW.trod enc Tryz.prog W 0 sp true fuel 54 cs=some x→∃ y:Sm,fk W (bd y) cs∧y.rO:=by
 intro fuel
 induction fuel using Nat.strongRecOn with
 |_ fuel ih=>
  intro cs x h
  obtain⟨n,rfl,hl,hf⟩:=lY (l:= [(3,0),(3,1),(22,2),(9,3),(9,4),(50,5),(4,9),(51,10),(52,11),(52,12)]) (by kernel_rfl) (by simp) h
  have hc:Tryz.prog.cellsOf 54=13:=by kernel_rfl
  have ca:Tryz.prog.cellsOf 51=1:=by kernel_rfl
  have jI:Tryz.prog.cellsOf 52=1:=by kernel_rfl
  have ua:Tryz.prog.underlying 51=some (.slice 123):=by kernel_rfl
  have us:Tryz.prog.underlying 52=some (.slice 54):=by kernel_rfl
  have ca6:Tryz.prog.cellsOf 123=6:=by kernel_rfl
  obtain⟨y0,h0⟩:=hf 0 _ rfl
  obtain⟨y1,h1⟩:=hf 1 _ rfl
  obtain⟨y2,h2⟩:=hf 2 _ rfl
  obtain⟨y3,h3⟩:=hf 3 _ rfl
  obtain⟨y4,h4⟩:=hf 4 _ rfl
  obtain⟨y5,h5⟩:=hf 5 _ rfl
  obtain⟨y6,h6⟩:=hf 6 _ rfl
  obtain⟨y7,h7⟩:=hf 7 _ rfl
  obtain⟨y8,h8⟩:=hf 8 _ rfl
  obtain⟨y9,h9⟩:=hf 9 _ rfl
  dsimp only at h0 h1 h2 h3 h4 h5 h6 h7 h8 h9
  rw[aep]at h0 h1
  rw[F8]at h2
  rw[B1]at h3 h4
  rw[X7]at h5
  rw[F7]at h6
  rw[ca]at h7
  rw[jI]at h8 h9
  obtain⟨id,r0,_⟩:=Fb S1 h0
  obtain⟨kind,r1,_⟩:=Fb S1 h1
  obtain⟨labels,r2⟩:=zZ h2
  obtain⟨name,r3,_⟩:=wa yI h3
  obtain⟨proc,r4,_⟩:=wa yI h4
  obtain⟨e,r5,hr⟩:=SZ _ _ _ h5
  obtain⟨b,r6⟩:=F5 F6 h6
  obtain⟨args,r7,ha⟩:=px (W:=W) ew (fun a=>a.x.rO) ua ca6 (by decide) (fun _=>rfl) (fun k hk cs x hx=>aer hx) h7
  obtain⟨aZ,r8,ht⟩:=px (W:=W) bd Sm.rO us hc (by decide) HT (fun k hk cs x hx=>ih k (by omega) cs x hx) h8
  obtain⟨aR,r9,he⟩:=px (W:=W) bd Sm.rO us hc (by decide) HT (fun k hk cs x hx=>ih k (by omega) cs x hx) h9
  refine⟨⟨id,kind,labels,name,proc,e,b,args,aZ,aR⟩, ?_,hr,ha,z6 ht,z6 he⟩
  have:=r0.at (r1.at (r2.at (r3.at (r4.at (r5.at (r6.at (r7.at (r8.at (r9.at (fk.end (by rw[hl,hc])))))))))))
  rw[jb]at this
  rw[ej]
  simpa[encStr]using this
theorem aet {fuel:Nat} {cs:List Value} {x:DataW H×List MemPlace} (h:DataW.trod enc Tryz.prog W 0 sp true fuel 70 cs=some x) : ∃ y:Pc,fk W (cq y) cs∧Sm.xD y.body:=by
 obtain⟨n,rfl,hl,hf⟩:=lY (l:= [(9,0),(68,1),(22,2),(52,3),(22,4)]) (by kernel_rfl) (by simp) h
 have hc:Tryz.prog.cellsOf 70=5:=by kernel_rfl
 have cp:Tryz.prog.cellsOf 68=1:=by kernel_rfl
 have jI:Tryz.prog.cellsOf 52=1:=by kernel_rfl
 have up:Tryz.prog.underlying 68=some (.slice 73):=by kernel_rfl
 have us:Tryz.prog.underlying 52=some (.slice 54):=by kernel_rfl
 have cp2:Tryz.prog.cellsOf 73=2:=by kernel_rfl
 have aok:Tryz.prog.cellsOf 54=13:=by kernel_rfl
 obtain⟨y0,h0⟩:=hf 0 _ rfl
 obtain⟨y1,h1⟩:=hf 1 _ rfl
 obtain⟨y2,h2⟩:=hf 2 _ rfl
 obtain⟨y3,h3⟩:=hf 3 _ rfl
 obtain⟨y4,h4⟩:=hf 4 _ rfl
 dsimp only at h0 h1 h2 h3 h4
 rw[B1]at h0
 rw[cp]at h1
 rw[F8]at h2 h4
 rw[jI]at h3
 obtain⟨name,r0,_⟩:=wa yI h0
 obtain⟨ps,r1,_⟩:=px (W:=W) iG (fun _=>True) up cp2 (by decide) (fun _=>rfl) (fun k hk cs x hx=>by
  obtain⟨y,hy⟩:=aeq hx
  exact⟨y,hy,trivial⟩) h1
 obtain⟨vars,r2⟩:=zZ h2
 obtain⟨body,r3,hb⟩:=px (W:=W) bd Sm.rO us aok (by decide) HT (fun k hk cs x hx=>aes k cs x hx) h3
 obtain⟨fin,r4⟩:=zZ h4
 refine⟨⟨name,ps,vars,body,fin⟩, ?_,z6 hb⟩
 have:=r0.at (r1.at (r2.at (r3.at (r4.at (fk.end (by rw[hl,hc]))))))
 simpa[encStr,cq]using this
theorem aeu {fuel:Nat} {cs:List Value} {x:DataW H×List MemPlace} (h:DataW.trod enc Tryz.prog W 0 sp true fuel 25 cs=some x) : ∃ y:Pg,fk W (cu y) cs∧y.rO:=by
 obtain⟨n,rfl,hl,hf⟩:=lY (l:= [(22,0),(23,1)]) (by kernel_rfl) (by simp) h
 have hc:Tryz.prog.cellsOf 25=2:=by kernel_rfl
 have cp:Tryz.prog.cellsOf 23=1:=by kernel_rfl
 have up:Tryz.prog.underlying 23=some (.slice 70):=by kernel_rfl
 have cp5:Tryz.prog.cellsOf 70=5:=by kernel_rfl
 obtain⟨y0,h0⟩:=hf 0 _ rfl
 obtain⟨y1,h1⟩:=hf 1 _ rfl
 dsimp only at h0 h1
 rw[F8]at h0
 rw[cp]at h1
 obtain⟨globals,r0⟩:=zZ h0
 obtain⟨procs,r1,hp⟩:=px (W:=W) cq (fun f=>Sm.xD f.body) up cp5 (by decide) (fun _=>rfl) (fun k hk cs x hx=>aet hx) h1
 refine⟨⟨globals,procs⟩, ?_,hp⟩
 have:=r0.at (r1.at (fk.end (by rw[hl,hc])))
 simpa[cu]using this
end
end Go.Abs
namespace Go.Abs
open Go.Proofs Go.ChangeShapes Go.WideShapes Go.ChangeAt Go.RowKit
theorem B2 {H:Type} {enc:TypeId×Value→H} {P:Program} {W:World} {sp:Nat→Bool} {t:TypeId} {ts:List TypeId} {ps:List MemPlace} : ∀ {l:List Value} {ds:List (DataW H)},DataW.TrodAll enc P W 0 sp true (t::ts) l ds ps→
 ∃ v l' d nH p q,l=v::l'∧ds=d::nH∧DataW.Trod enc P W 0 sp true t v d p∧DataW.TrodAll enc P W 0 sp true ts l' nH q
 |v::l,d::ds,⟨p,q,h1,h2,e⟩=>⟨v,l,d,ds,p,q,rfl,rfl,h1,h2⟩
 | [],[],h=>h.elim
 | [],_::_,h=>h.elim
 |_::_,[],h=>h.elim
theorem V4 {H:Type} {enc:TypeId×Value→H} {P:Program} {W:World} {sp:Nat→Bool} {ps:List MemPlace} : ∀ {l:List Value} {ds:List (DataW H)},DataW.TrodAll enc P W 0 sp true [] l ds ps→l = []∧ds = []
 | [],[],_=>⟨rfl,rfl⟩
 | [],_::_,h=>h.elim
 |_::_,ds,h=>by cases ds<;>exact h.elim
end Go.Abs
