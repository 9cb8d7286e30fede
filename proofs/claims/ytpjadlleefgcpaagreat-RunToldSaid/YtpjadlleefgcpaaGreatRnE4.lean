/-
  What is proved here: part 4 of the road to the claim (RunC0, RunC1, RunC2, RunC3, RunC4, RunC5, RunC6, RunC7, RunSt, RunSz, Jm3, Rj1, Ck1, RunC8, RunC9, RunL0, RunL1, RunTp, RunEv, RunWa, RunL2, LawRu2, LawRu6, Glue2, Join, Binds1, Join2, Join3, Join4, Join5).
  No conditions.
-/
import Derived.Test.YtpjadlleefgcpaaGreatRnE3
import Derived.RowKit3
import Derived.WalkKit
import Derived.ProofKit
import Derived.OpenShut
import Derived.ShutString
import Derived.ChangeMaps5
import Derived.ChangeStays
import Derived.KernelRfl

set_option linter.unusedSimpArgs false
set_option linter.unusedVariables false
namespace Go.Abs
set_option maxRecDepth 8000
open Go.Proofs
theorem aF.ahc {P:Program} {f:FuncId} {args:List D} {z k:Nat} {rows:List (List D)} (h:aF P f args S0 (.slice (.tok 0) z rows) ⟨[],[some k]⟩) (ha:D.bK 0 0 args=true) (hr:D.gQ 0 0 rows=true) (s:St) :
 aF P f args s (.slice (.tok s.aw.length) z rows) ⟨s.ah,s.aw++ [some k]⟩:=by
 refine bL.frame [] [] h List.nodup_nil List.nodup_nil (by simp) (by simp) rfl (by simp) rfl (by simp) (by rw[fz _ _ _ ha]) ha ?_
 rintro _ _ ⟨rfl,rfl⟩
 refine⟨by simp[D.back,D.cW,Tag.cW,kx,ji _ _ _ hr], ?_⟩
 simp[St.back,kB]
theorem Pv (g:Tag) (z:Nat) (s:St):aF Tryz.prog ky [.slice g z []] s (.slice .full 1 []) s:=by
 refine bL.q8 (.cons (Wk.nil _ _ 1) .nil) (aF.pure ?_ rfl rfl s)
 unfold S0
 refine aF.go pH rfl fun B Q hB hQ=>?_
 have⟨hD,hY,hZ,gA⟩:=bQ
 repeat' (first
 |simp only[go_sem,hD,hY,hZ,gA]
 |(with_reducible first|refine bo fun hc=>?_|refine bp fun hc=>?_|refine bq (fun hc=>?_) fun hc=>?_)<;>(try simp only[hc,bs,↓reduceIte]at h)<;>try simp only[hc]
 |(with_reducible refine aD hQ ?_;exact fS)
 |(cases h;done))
 refine T2 (fun _=>?_) ?_
 ·repeat' (first
 |simp only[go_sem,hD,hY,hZ,gA,ik,true_or,Nat.zero_le]
 |(with_reducible first|refine bo fun hc=>?_|refine bp fun hc=>?_|refine bq (fun hc=>?_) fun hc=>?_)<;>(try simp only[hc,bs,↓reduceIte]at h)<;>try simp only[hc]
 |(with_reducible refine aD hQ ?_;(try cases h);simp only[aU,aV,bI,bJ,go_sem,hD,hY,hZ,gA,ik,true_or,Nat.zero_le];try exact cv)
 |(cases h;done))
 ·repeat' (first
 |simp only[go_sem,hD,hY,hZ,gA,ik,true_or,Nat.zero_le]
 |(with_reducible first|refine bo fun hc=>?_|refine bp fun hc=>?_|refine bq (fun hc=>?_) fun hc=>?_)<;>(try simp only[hc,bs,↓reduceIte]at h)<;>try simp only[hc]
 |(with_reducible refine aD hQ ?_;(try cases h);simp only[aU,aV,bI,bJ,go_sem,hD,hY,hZ,gA,ik,true_or,Nat.zero_le];try exact cv)
 |(cases h;done))
theorem Pw {l:List aG} (hl:l.length<1073741824) (h0:l≠ []) (s:St):aF Tryz.prog ky [.slice .shared 1 (l.map encStr)] s (.slice (.tok s.aw.length) 1 (l.map encStr)) ⟨s.ah,s.aw++ [some l.length]⟩:=by
 refine aF.ahc ?_ (by simp[D.bK,D.ok,Tag.ok,e9]) (e9 l) s
 unfold S0
 refine aF.goK 0 1 (Nat.zero_le _) (Nat.zero_le _) pH rfl fun B Q hB hQ=>?_
 have⟨hD,hY,hZ,gA⟩:=bQ
 have ha:=fun o T=>zO (size:=1) (bytes:=16) (rows:=l.map encStr) (by simpa using h0) (by simp only[List.length_map];unfold bC;omega) (z:=1) (g:= .shared) o T
 cases l with
 |nil=>exact absurd rfl h0
 |cons x l=>
  simp only[List.map_cons,encStr]at ha
  repeat' (first
 |simp only[go_sem,hD,hY,hZ,gA,ha]
 |(with_reducible first|refine bo fun hc=>?_|refine bp fun hc=>?_|refine bq (fun hc=>?_) fun hc=>?_)<;>(try simp only[hc,bs,↓reduceIte]at h)<;>try simp only[hc]
 |(with_reducible refine aD hQ ?_;(try cases h);simp only[aU,aV,bI,bJ,go_sem,hD,hY,hZ,gA,ha];try exact cv)
 |(cases h;done))
theorem Me {a b:List aG} {n:Nat} (hn:n=a.length) (h:a.length+b.length≤1000000000) {g:Tag} {t:Nat} {s:St} (ht:s.aw[t]? = some (some n)) :
 ik 1 16 (.slice (.tok t) 1 (a.map encStr)) (.slice g 1 (b.map encStr)) s=some (.slice (.tok t) 1 ((a++b).map encStr),⟨s.ah,s.aw.set t (some (a++b).length)⟩):=by
 subst hn
 rw[nR (size:=1) (bytes:=16) (by simp only[List.length_map];unfold bC;omega) (by simpa using ht)]
 simp
theorem adG {p:Pg} (h:p.iJ) (hb:p.may=true) {name:aG} {f:Pc} (hf:p.find name=some f) (s:St):aF Tryz.prog vw [.agg (cr p), .str name] s (.slice .shared 1 ((p.globals++f.own).map encStr)) s:=by
 refine aF.pure ?_ (by simp[D.bK,D.ok,jb]) (by simp only[D.ok,Tag.ok,e9];rfl) s
 have hm:=fun s=>JB h.O5 s
 simp only[Cj,hb]at hm
 obtain⟨qZ,qM,qL⟩:=h.procs
 simp only[Pg.find]at hf
 unfold S0
 refine aF.go FH rfl fun B Q hB hQ=>?_
 have⟨hD,hY,hZ,gA⟩:=bQ
 repeat' (first
 |simp only[go_sem,hD,hY,hZ,gA]
 |(with_reducible refine CU (hm _) ?_)
 |(with_reducible first|refine bo fun hc=>?_|refine bp fun hc=>?_|refine bq (fun hc=>?_) fun hc=>?_)<;>(try simp only[hc,bs,↓reduceIte]at h)<;>try simp only[hc]
 |(with_reducible refine aD hQ ?_;exact fS)
 |(cases h;done))
 refine e8 1 0 (bl.ind (ι:=List Pc×Nat) (fun i=>p.procs.drop i.2=i.1∧iQ name i.1=some f) (fun i=>i.1.length)
  (fun i=> [(1, .str name),(2, .ptr 0 0),(11, .slice .shared 5 (p.procs.map cj)),(12, .int .i64 (p.procs.length:Int)),(13, .int .i64 (i.2:Int))]) (fun i=>⟨[cr p],[]⟩) ?_ (p.procs,0) ⟨rfl,hf⟩)
 rintro⟨rest,k⟩ ⟨h1,h2⟩ IH
 dsimp only at h1 h2
 cases rest with
 |nil=>cases h2
 | cons a rest=>
  obtain⟨hY,g2,hD,g4⟩:=drop_cons h1
  have bN:k<4611686018427387904:=by omega
  have vL:=h.small (List.mem_of_getElem? hY)
  simp only[iQ]at h2
  rcases Bool.eq_false_or_eq_true (a.name==name)with b1|b1
  ·simp only [b1,if_true]at h2
   cases h2
   have ho:=fun s=>XF (f:=f) vL.par vL.vars s
   have jh:f.own.length<2000000:=by have:=vL.par;have:=vL.vars;simp[Pc.own,Pc.tw];omega
   cases e:p.globals with
   | nil=>
    simp only[List.nil_append]at *
    have c1:=fun g z s=>Pv g z s
    cases e2:f.own with
    |nil=>
     rw[e2]at ho hQ
     have ha:=fun o T=>zP (size:=1) (bytes:=16) (z:=1) (z':=1) (g:= .shared) o T
     repeat' (first
 |simp only[go_sem,hD,hY,hZ,gA,b1,ha,e]
 |(with_reducible refine CU (c1 _ _ _) ?_)
 |(with_reducible refine CU (ho _) ?_)
 |(with_reducible first|refine bo fun hc=>?_|refine bp fun hc=>?_|refine bq (fun hc=>?_) fun hc=>?_)<;>(try simp only[hc,bs,↓reduceIte]at h)<;>try simp only[hc]
 |(with_reducible refine aD hQ ?_;(try cases h);simp only[aU,aV,bI,bJ,go_sem,hD,hY,hZ,gA,b1,ha,e];try exact cv)
 | (cases h;done))
    |cons x l=>
     have ha:=fun o T=>zO (size:=1) (bytes:=16) (rows:=f.own.map encStr) (by simp[e2]) (by simp only[List.length_map];unfold bC;omega) (z:=1) (g:= .shared) o T
     repeat' (first
 |simp only[go_sem,hD,hY,hZ,gA,b1,ha,e]
 |(with_reducible refine CU (c1 _ _ _) ?_)
 |(with_reducible refine CU (ho _) ?_)
 |(with_reducible first|refine bo fun hc=>?_|refine bp fun hc=>?_|refine bq (fun hc=>?_) fun hc=>?_)<;>(try simp only[hc,bs,↓reduceIte]at h)<;>try simp only[hc]
 |(with_reducible refine aD hQ ?_;(try cases h);simp only[aU,aV,bI,bJ,go_sem,hD,hY,hZ,gA,b1,ha,e];try exact cv)
 | (cases h;done))
   |cons x l=>
    have c1:=fun s=>Pw (l:=p.globals) (by omega) (by simp[e]) s
    have ha:=fun {s:St} {t:Nat} (ht:s.aw[t]? = some (some p.globals.length))=>Me (a:=p.globals) (b:=f.own) (g:= .shared) rfl (by omega) ht
    have wj:=fun o=>Me (a:=p.globals) (b:=f.own) (g:= .shared) (t:=0) (s:=⟨o,[some p.globals.length]⟩) rfl (by omega) rfl
    repeat' (first
 |simp only[go_sem,hD,hY,hZ,gA,b1,wj]
 |(with_reducible refine CU (c1 _) ?_)
 |(with_reducible refine CU (ho _) ?_)
 |(with_reducible first|refine bo fun hc=>?_|refine bp fun hc=>?_|refine bq (fun hc=>?_) fun hc=>?_)<;>(try simp only[hc,bs,↓reduceIte]at h)<;>try simp only[hc]
 |(with_reducible refine aD hQ ?_;(try cases h);simp only[aU,aV,bI,bJ,go_sem,hD,hY,hZ,gA,b1,wj];try exact cv)
 | (cases h;done))
  ·simp only [b1,Bool.false_eq_true,if_false]at h2
   repeat' (first
 |simp only[go_sem,hD,hY,hZ,gA,b1]
 |(with_reducible first|refine bo fun hc=>?_|refine bp fun hc=>?_|refine bq (fun hc=>?_) fun hc=>?_)<;>(try simp only[hc,bs,↓reduceIte]at h)<;>try simp only[hc]
 |(with_reducible refine aD hQ ?_;(try cases h);simp only[aU,aV,bI,bJ,go_sem,hD,hY,hZ,gA,b1];try exact cv)
 | (cases h;done))
   refine eJ 1 0 ?_ ?_ (IH (rest,k+1) ⟨g2,h2⟩ (Nat.lt_succ_self _))
   ·(simp only[go_sem,hD,hY,hZ,gA,aI bN];try exact bS)
   ·(simp only[go_sem,hD,hY,hZ,gA,aI bN];try exact bS)
theorem Lo {p:Pg} (hb:p.may=true) {i:Nat} {f:Pc} (hf:p.procs[i]? = some f) : ∃ a b:Int,p.aX.lo[i]? = some a∧p.aX.hi[i]? = some b∧(if decide (a<b)=true then a else -1)=fX f.body (-1):=by
 obtain⟨a,b,e,h1,h2,h3,h4⟩:=(kq p).2 i f hf
 refine⟨_,_,h1,h2, ?_⟩
 cases B7:f.body with
 |nil=>
  rw[B7]at h3
  have:b = []:=by simpa[Sm.db]using h3
  subst this
  simp[fX]
 | cons s l=>
  rw[B7,Sm.db,Sm.qa]at h3
  cases b with
  |nil=>simp at h3
  | cons x b=>
   simp only[List.map_cons,List.cons_append,List.cons.injEq]at h3
   have hx:p.pre[a.length]? = some s:=by
    rw[← (kq p).1,h4]
    simp[h3.1]
   have:=BE hb hx
   rw[if_pos (by simp;omega)]
   simp only[fX]
   rw[this];omega
theorem ZM {p:Pg} (hb:p.may=true) {i:Nat} {f:Pc} (hf:p.procs[i]? = some f) (s:St):aF Tryz.prog oY [.dv (fv p) 0, .int .i64 (i:Int)] s (.int .i64 (fX f.body (-1))) s:=by
 refine aF.pure ?_ (by simp[D.bK,D.ok,uj]) rfl s
 obtain⟨a,b,h1,h2,h⟩:=Lo hb hf
 generalize fX f.body (-1)=R at h
 unfold S0
 rw[nV]
 refine aF.go zk rfl fun B Q hB hQ=>?_
 have⟨hD,hY,hZ,gA⟩:=bQ
 repeat' (first
 |simp only[go_sem,hD,hY,hZ,gA,h1,h2]
 |(with_reducible first|refine bo fun hc=>?_|refine bp fun hc=>?_|refine bq (fun hc=>?_) fun hc=>?_)<;>(try simp only[hc,bs,↓reduceIte]at h)<;>try simp only[hc]
 |(with_reducible refine aD hQ ?_;(try cases h);simp only[aU,aV,bI,bJ,go_sem,hD,hY,hZ,gA,h1,h2];try exact cv)
 |(cases h;done))
set_option maxRecDepth 8000
open Go.Proofs
section
variable {p:Pg} {T W:List Int} {y:Lay} {m:Mc} {loc:List (Nat×List D)} {s:St}
theorem jB.row {s:St} {d:D} {cs:List D} (h:jB s d cs) (hn:cs≠ []) : ∃ o g more,d = .ew 1 o g cs.length∧s.ah[o]? = some (.int .i64 ((g:Nat):Int)::(cs++more)):=by
 rcases h with ⟨_,h⟩|h
 ·exact absurd h hn
 ·exact h
theorem Inv.VD (h:Inv p T W y m loc s) {fr:Fr} {r:List Fr} (iU:m.st=fr::r) : ∃ so g cells o,y.sd = .ew 1 so g (r.length+1)∧s.ah[so]? = some (.int .i64 ((g:Nat):Int)::cells)∧cells[r.length]? = some (.ptr o 0)∧s.ah[o]? = some (pf y.κ fr)∧y.φ[0]? = some o:=by
 have gP:=h.sq
 rw[iU]at gP
 cases hφ:y.φ with
 |nil=>rw[hφ]at gP;simp at gP
 | cons o φ=>
  rw[hφ]at gP
  simp only[List.length_cons]at gP
  obtain⟨so,g,more,h1,h2⟩:=h.stack.row (by simp[hφ])
  refine⟨so,g,_,o, ?_,h2, ?_,(h.frame 0 o fr (by rw[hφ];rfl) (by rw[iU];rfl)).1,rfl⟩
  ·rw[h1];simp[hφ];omega
  ·rw [hφ,List.reverse_cons,List.map_append,List.append_assoc,List.getElem?_append_right (by simp;omega)]
   simp[xF,show r.length - φ.length=0 by omega]
theorem Px (h:Inv p T W y m loc s) {fr:Fr} {r:List Fr} (iU:m.st=fr::r) (hs:r.length<1000000) : ∃ o,y.φ[0]? = some o∧s.ah[o]? = some (pf y.κ fr)∧aF Tryz.prog kL [.ptr 0 0] s (.ptr o 0) s:=by
 obtain⟨so,g,cells,o,h1,h2,h3,h4,h5⟩:=h.VD iU
 refine⟨o,h5,h4, ?_⟩
 have hm:=h.jC
 rw[fp,h1]at hm
 have hw:IntKind.wrap .i64 (((r.length+1:Nat):Int) - 1)=((r.length:Nat):Int):=by rw[show((r.length+1:Nat):Int) - 1=(r.length:Int) by omega];exact dU (by omega) (by omega)
 have hl:(r.length<r.length+1)=True:=by simp
 refine bL.uC Aw rfl fun B Q hB hQ=>?_
 have⟨hD,hY,hZ,gA⟩:=bQ
 repeat' (first
 |simp only[go_sem,hD,hY,hZ,gA,hm,hw,h2,h3,hl,Nat.mul_one]
 |(with_reducible first|refine bo fun hc=>?_|refine bp fun hc=>?_|refine bq (fun hc=>?_) fun hc=>?_)<;>(try simp only[hc,bs,↓reduceIte]at h)<;>try simp only[hc]
 |(with_reducible refine aD hQ ?_;(try cases h);simp only[aU,aV,bI,bJ,go_sem,hD,hY,hZ,gA,hm,hw,h2,h3,hl,Nat.mul_one];try exact cv)
 |(cases h;done))
 (refine gJ hQ ?_;simp only[aU,aV,bI,bJ,go_sem])
theorem Cs (h:Inv p T W y m loc s) {fr:Fr} {r:List Fr} (iU:m.st=fr::r) (hs:r.length<1000000) (hn:fr.names.length<1000000) {name:aG} {j c:Nat} (hj:jd name 0 fr.names=(j:Int)) (hc:fr.vars[j]? = some c) :
 aF Tryz.prog iF [.ptr 0 0, .str name] s (.ptr (y.κ.getD c 0) 0) s:=by
 obtain⟨o,_,h1,c1⟩:=Px h iU hs
 have c2:=fun s=>Cg (l:=fr.names) (by omega) name s
 rw[hj]at c2
 rw[pf]at h1
 refine bL.uC yh rfl fun B Q hB hQ=>?_
 have⟨hD,hY,hZ,gA⟩:=bQ
 repeat' (first
 |simp only[go_sem,hD,hY,hZ,gA,h1,hc,fh,Option.map_some]
 |(with_reducible refine CU (c1) ?_)
 |(with_reducible refine CU (c2 _) ?_)
 |(with_reducible first|refine bo fun hc=>?_|refine bp fun hc=>?_|refine bq (fun hc=>?_) fun hc=>?_)<;>(try simp only[hc,bs,↓reduceIte]at h)<;>try simp only[hc]
 |(with_reducible refine aD hQ ?_;(try cases h);simp only[aU,aV,bI,bJ,go_sem,hD,hY,hZ,gA,h1,hc,fh,Option.map_some];try exact cv)
 |(cases h;done))
 (refine gJ hQ ?_;simp only[aU,aV,bI,bJ,go_sem])
abbrev Rl (p:Pg) (T W:List Int) (d:D) (m':Mc) (X:Lay→Prop) (loc:List (Nat×List D)):D→St→Prop:=fun d' s'=>d'=d∧∃ y',X y'∧Inv p T W y' m' loc s'
theorem Mf (h:Inv p T W y m loc s) (hW:W.length<1000000) (ht:m.trace.length<2000000) (id:Int) (bW:List Int) :
 bL Tryz.prog ep [.ptr 0 0, .int .i64 id, .slice .shared 1 (bW.map cm)] s (Rl p T W (.tuple []) (m.event W id bW) (· = y) loc):=by
 have hm:=h.jC
 rw[fp]at hm
 have hl:=h.uH
 have c1:=fun s=>Ln (l:=W) (by omega) id s
 have eO:ik 2 32 (.slice (.tok 1) 2 (m.trace.map iT)) (.slice .full 2 [[.int .i64 id, .slice .shared 1 (bW.map cm)]]) s=some (.slice (.tok 1) 2 ((m.trace++ [(id,bW)]).map iT),⟨s.ah,s.aw.set 1 (some (m.trace.length+1))⟩):=by
  rw[nR (size:=2) (bytes:=32) (by simp only[List.length_map,List.length_singleton];unfold bC;omega) (by simpa using h.t1)]
  simp[iT]
 refine bL.uC yj rfl fun B Q hB hQ=>?_
 have⟨hD,hY,hZ,gA⟩:=bQ
 cases hb:W.contains id
 ·repeat' (first
 |simp only[go_sem,hD,hY,hZ,gA,hm,hb]
 |(with_reducible refine CU (c1 _) ?_)
 |(with_reducible first|refine bo fun hc=>?_|refine bp fun hc=>?_|refine bq (fun hc=>?_) fun hc=>?_)<;>(try simp only[hc,bs,↓reduceIte]at h)<;>try simp only[hc]
 |(with_reducible refine aD hQ ?_;(try cases h);simp only[aU,aV,bI,bJ,go_sem,hD,hY,hZ,gA,hm,hb];try exact cv)
 |(cases h;done))
  (refine gJ hQ ?_;simp only[aU,aV,bI,bJ,go_sem])
  refine⟨rfl,y,rfl, ?_⟩
  unfold Mc.event
  rw[hb]
  exact h
 ·repeat' (first
 |simp only[go_sem,hD,hY,hZ,gA,hm,hb,eO,hl]
 |(with_reducible refine CU (c1 _) ?_)
 |(with_reducible first|refine bo fun hc=>?_|refine bp fun hc=>?_|refine bq (fun hc=>?_) fun hc=>?_)<;>(try simp only[hc,bs,↓reduceIte]at h)<;>try simp only[hc]
 |(with_reducible refine aD hQ ?_;(try cases h);simp only[aU,aV,bI,bJ,go_sem,hD,hY,hZ,gA,hm,hb,eO,hl];try exact cv)
 | (cases h;done))
  (refine gJ hQ ?_;simp only[aU,aV,bI,bJ,go_sem])
  refine⟨rfl,y,rfl, ?_⟩
  have:=h.tR (m':=m.event W id bW) (ts:=s.aw.set 1 (some (m.trace.length+1))) (eU W m id bW).1 (eU W m id bW).2.1 (by rw[(eU W m id bW).2.2.2.2.2,List.getElem?_set_ne (by omega)];exact h.t0) (by
   unfold Mc.event
   rw[hb]
   simp[(List.getElem?_eq_some_iff.1 h.t1).1])
  unfold Mc.event at this ⊢
  rw[hb,if_pos rfl]at this ⊢
  simp only[fp,List.map_append,List.map_cons,List.map_nil]at this
  exact this
theorem Mg (l:List Sm) (hl:l.length<4611686018427387904) (o:Int) (s:St):aF Tryz.prog p8 [.slice .shared 13 (l.map bb), .int .i64 o] s (.int .i64 (firstM l o)) s:=by
 refine aF.pure ?_ (by simp[D.bK,D.ok,Tag.ok,px]) rfl s
 unfold S0
 cases l with
 |nil=>
  have e:decide ((0:Int) > 0)=false:=rfl
  simp only[firstM,fX,List.map_nil]
  refine aF.go Ak rfl fun B Q hB hQ=>?_
  have⟨hD,hY,hZ,gA⟩:=bQ
  repeat' (first
 |simp only[go_sem,hD,hY,hZ,gA,e]
 |(with_reducible first|refine bo fun hc=>?_|refine bp fun hc=>?_|refine bq (fun hc=>?_) fun hc=>?_)<;>(try simp only[hc,bs,↓reduceIte]at h)<;>try simp only[hc]
 |(with_reducible refine aD hQ ?_;(try cases h);simp only[aU,aV,bI,bJ,go_sem,hD,hY,hZ,gA,e];try exact cv)
 |(cases h;done))
 |cons a l=>
  have e:decide (((l.length+1:Nat):Int) > 0)=true:=by simp
  simp only[firstM,fX,List.map_cons]
  refine aF.go Ak rfl fun B Q hB hQ=>?_
  have⟨hD,hY,hZ,gA⟩:=bQ
  repeat' (first
 |simp only[go_sem,hD,hY,hZ,gA,e]
 |(with_reducible first|refine bo fun hc=>?_|refine bp fun hc=>?_|refine bq (fun hc=>?_) fun hc=>?_)<;>(try simp only[hc,bs,↓reduceIte]at h)<;>try simp only[hc]
 |(with_reducible refine aD hQ ?_;(try cases h);simp only[aU,aV,bI,bJ,go_sem,hD,hY,hZ,gA,e];try exact cv)
 |(cases h;done))
end
end Go.Abs
namespace Go.Abs
set_option maxRecDepth 8000
open Go.Proofs
section
variable {p:Pg} {T W:List Int} {y:Lay} {m:Mc} {loc:List (Nat×List D)} {s:St}
theorem Ki {s:St} {o g z bytes:Nat} {t:Tag} {cs more r:List D} {len:Nat} (hs:s.ah[o]? = some (.int .i64 (g:Int)::(cs++more))) (hl:cs.length=len*z) (hm:(len+1)*(bytes+1)≤bC) :
 AS z bytes (.ew z o g len) (.slice t z [r]) s=some (.ew z o (g+1) (len+1),⟨s.ah.set o (.int .i64 ((g+1:Nat):Int)::(cs++r)),s.aw⟩):=by
 have ha:nK s o g=some (cs++more):=by unfold nK;rw[hs];simp
 simp only[AS,ha,List.length_singleton,hm,or_true,and_self,if_true,List.flatten_cons,List.flatten_nil,List.append_nil]
 rw[if_pos (by simp;omega), ← hl,List.take_append_of_le_length (Nat.le_refl _),List.take_length]
theorem Wk.ahd (z z':Nat):Wk (.ej z) (.slice .shared z' []):=fun M s v h=>by
 cases h with
 |ej _ a=>cases a with
  |none=>exact .iH _ _ _ rfl trivial
  |some a=>exact .lx _ _ _
theorem aF.ahe {P:Program} {f:FuncId} {a b:D} {d:D} {s:St} {v:D} {l:List Int} (hv:jB s v (l.map qE)) (h : ∀ s,aF P f [a,b, .slice .shared 1 (l.map cm)] s d s) (ha:D.ok 0 0 a=true) (hb:D.ok 0 0 b=true) (hd:d.flat=true) :
 aF P f [a,b,v] s d s:=by
 rcases hv with ⟨rfl,e⟩|⟨o,g,more,rfl,e⟩
 ·have:l = []:=by simpa using e
  subst this
  exact bL.q8 (.cons (Wk.refl _) (.cons (Wk.refl _) (.cons (Wk.ahd 1 1) .nil))) (h s)
 ·have dZ : ∀ l:List Int,(l.map cm).flatten=l.map qE:=fun l=>by
   induction l with
   |nil=>rfl
   |cons x l ih=>simp only[List.map_cons,List.flatten_cons,ih];rfl
  have hlen:(l.map qE).length=(l.map cm).length:=by simp
  rw[hlen]
  have e0:D.jv o g (l.map cm) [a,b, .ew 1 o g (l.map cm).length] = [a,b, .slice .shared 1 (l.map cm)]:=by
   simp only[D.jv,Jk _ _ _ a ha,Jk _ _ _ b hb,D.fH,and_self,if_true]
  refine aF.ajv (k:=2) (rows:=l.map cm) rfl (by rw[dZ];exact e) (by intro r hr;obtain⟨x,_,rfl⟩:=List.mem_map.1 hr;rfl) ?_ ?_ hd
  ·rw[e0];exact h S0
  ·rw[e0];simp[D.bK,D.ok,Tag.ok,ha,hb,iI]
structure mO (m:Mc) (fr:Fr) (r:List Fr):Prop where
 st:m.st=fr::r
 len:r.length<1000000
 names:fr.names.length<1000000
 vars:fr.vars.length<1000000
theorem mO.top {fr:Fr} {r:List Fr} (h:mO m fr r):m.top=fr:=by simp[Mc.top,h.st]
theorem Sy {fr:Fr} {k c:Nat} {rest:List Nat} (h:fr.vars.drop k=c::rest) (m:Mc):(fr.vars.take (k+1)).map (fun c=>m.mem.getD c 0)=(fr.vars.take k).map (fun c=>m.mem.getD c 0)++ [m.mem.getD c 0]:=by
 have:=(drop_cons h).1
 rw[List.take_add_one,this]
 simp
theorem DM (h:Inv p T W y m loc s) {fr:Fr} {r:List Fr} (ht:mO m fr r) {x:Ex} (hx:x.size<1000000) (htx:x.texts) :
 bL Tryz.prog jP [.ptr 0 0, .agg (cd x)] s (fun d s'=>Rl p T W (zN (m.bB x).1) (m.bB x).2 (fun y'=>y' = {y with vd:=y'.vd}) loc d s'∧s'.aw=s.aw):=by
 have h1:=h.new (cd x)
 generalize XR:(s.ah.length,cd x)::loc=VE at h1
 obtain⟨o,ho,Sz,c1⟩:=Px h1 ht.st ht.len
 have hm:=h1.jC
 rw[fp]at hm
 have hl:=h1.uH
 simp only at hm hl
 rw[pf]at Sz
 have hvl:=ht.vars
 have Qj:=ht.names
 refine bL.uC yi rfl fun B Q hB hQ=>?_
 have⟨hD,hY,hZ,gA⟩:=bQ
 -- the rounds
 have loop : ∀ (n k:Nat) (rest:List Nat) (vd:D) (s2:St),s2.aw=s.aw→rest.length=n→fr.vars.drop k=rest→Inv p T W {y with vd:=vd} m VE s2→jB s2 vd (((fr.vars.take k).map fun c=>m.mem.getD c 0).map qE)→
  bl Tryz.prog B 64 QRL (kA 0 (nN (jZ Tryz.prog B 64 QRX Q) Q)) [(0, .ptr 0 0),(3, .ptr s.ah.length 0),(6, .ptr o 0),(24, .slice .shared 1 (fr.vars.map fun c=>fh (y.κ.getD c 0))),(25, .int .i64 (fr.vars.length:Int)),(26, .int .i64 (k:Int))] s2:=by
  intro n
  induction n with
  | zero=>
   intro k rest vd s2 vq A0 hd h2 ha
   have:rest = []:=List.eq_nil_of_length_eq_zero A0
   subst this
   have hD:=drop_nil hd
   have hk:fr.vars.take k=fr.vars:=List.take_of_length_le (List.drop_eq_nil_iff.1 hd)
   rw[hk]at ha
   have XS:(fr.vars.map fun c=>m.mem.getD c 0)=m.bW:=by unfold Mc.bW;rw[ht.top]
   rw[XS]at ha
   have jA:=h2.jC
   rw[fp]at jA
   have iW:=h2.uH
   have Hk:=(h2.frame 0 o fr ho (by rw[ht.st];rfl)).1
   rw[pf]at Hk
   have tF:=(h2.loc (s.ah.length,cd x) (by rw[← XR];exact List.mem_cons_self ..)).1
   simp only at jA Hk tF
   have c2:aF Tryz.prog wB [.agg (cd x), .slice .shared 1 (fr.names.map encStr),vd] s2 (zN (x.bB fr.names m.bW)) s2:=
    aF.ahe ha (fun s=>VC (by omega) htx (by omega) (by rw[← XS,List.length_map];omega) s) (by simp[D.ok,lN]) (by simp[D.ok,Tag.ok,e9]) (by simp[D.flat,D.Eh])
   have hw:(m.bB x).1=x.bB fr.names m.bW:=by unfold Mc.bB;rw[ht.top]
   generalize hr:x.bB fr.names m.bW=q at *
   have tn:(m.bB x).2=if q.2 then m else {m with fin:=4}:=by unfold Mc.bB;rw[ht.top,hr]
   obtain⟨q1,q2⟩:=q
   have vO:Inv p T W {y with vd:=vd} {m with fin:=4} VE ⟨s2.ah.set 0 (fp p T W {y with vd:=vd} {m with fin:=4}),s2.aw⟩:=h2.tR (m':= {m with fin:=4}) rfl rfl h2.t0 h2.t1
   rw[fp]at vO
   have nz : ∀ q∈loc,q∈VE:=fun q mq=>by rw[← XR];exact List.mem_cons_of_mem _ mq
   refine bl.kQ ?_
   cases q2
   ·repeat' (first
 |simp only[go_sem,hD,hY,hZ,gA,jA,iW,Hk,tF]
 |(with_reducible refine CU (c2) ?_)
 |(with_reducible first|refine bo fun hc=>?_|refine bp fun hc=>?_|refine bq (fun hc=>?_) fun hc=>?_)<;>(try simp only[hc,bs,↓reduceIte]at h)<;>try simp only[hc]
 |(with_reducible refine aD hQ ?_;(try cases h);simp only[aU,aV,bI,bJ,go_sem,hD,hY,hZ,gA,jA,iW,Hk,tF];try exact cv)
 |(cases h;replace h:=hr;clear hr;(try simp only[bs,↓reduceIte]at h))
 | (cases h;done))
    (refine gJ hQ ?_;simp only[aU,aV,bI,bJ,go_sem])
    refine⟨⟨by rw[hw],{y with vd:=vd},rfl, ?_⟩,vq⟩
    rw[tn]
    exact vO.sub nz
   ·repeat' (first
 |simp only[go_sem,hD,hY,hZ,gA,jA,iW,Hk,tF]
 |(with_reducible refine CU (c2) ?_)
 |(with_reducible first|refine bo fun hc=>?_|refine bp fun hc=>?_|refine bq (fun hc=>?_) fun hc=>?_)<;>(try simp only[hc,bs,↓reduceIte]at h)<;>try simp only[hc]
 |(with_reducible refine aD hQ ?_;(try cases h);simp only[aU,aV,bI,bJ,go_sem,hD,hY,hZ,gA,jA,iW,Hk,tF];try exact cv)
 |(cases h;replace h:=hr;clear hr;(try simp only[bs,↓reduceIte]at h))
 | (cases h;done))
    (refine gJ hQ ?_;simp only[aU,aV,bI,bJ,go_sem])
    refine⟨⟨by rw[hw],{y with vd:=vd},rfl, ?_⟩,vq⟩
    rw[tn]
    exact h2.sub nz
  | succ n ih=>
   intro k rest vd s2 vq A0 hd h2 ha
   cases rest with
   |nil=>cases A0
   | cons c rest=>
    obtain⟨hY,g2,hD,g4⟩:=drop_cons hd
    have bN:k<4611686018427387904:=by omega
    have SA:c<m.mem.length:=(h2.frame 0 o fr ho (by rw[ht.st];rfl)).2.2 c (List.mem_of_getElem? hY)
    have hκ:y.κ[c]? = some (y.κ.getD c 0):=by
     rw[List.getD_eq_getElem?_getD,List.getElem?_eq_getElem (by have:=h2.len;simp only at this;omega)];rfl
    have iB:=h2.cell c _ _ hκ (by rw[List.getElem?_eq_getElem SA])
    have pL:m.mem[c] = m.mem.getD c 0:=by rw[List.getD_eq_getElem?_getD,List.getElem?_eq_getElem SA];rfl
    rw[pL]at iB
    generalize ahf:m.mem.getD c 0=v at iB
    have jA:=h2.jC
    rw[fp]at jA
    have iW:=h2.uH
    simp only at jA
    have hlen:k<1000000:=by have:=ht.vars;omega
    have hvt:((fr.vars.take (k+1)).map fun c=>m.mem.getD c 0).map qE=((fr.vars.take k).map fun c=>m.mem.getD c 0).map qE++ [.int .i64 v]:=by
     rw[Sy hd m,ahf,List.map_append];rfl
    rcases ha with ⟨rfl,e⟩|⟨vo,g,more,rfl,e⟩
    ·have eO:=Ji (z:=1) (bytes:=8) .full [.int .i64 v] s2 (by unfold bC;omega)
     have h3:=h2.Pt (vd:= .ew 1 s2.ah.length 0 1) (s1:=⟨s2.ah++ [[.int .i64 ((0:Nat):Int), .int .i64 v]],s2.aw⟩) (fun o r e _=>by rw[List.getElem?_append_left (fU e)];exact e)
      ⟨[v], .inr ⟨_,0,[],rfl,by simp[qE]⟩⟩ (.inr (.inr rfl)) rfl
     rw[fp]at h3
     simp only at h3
     refine bl.kQ ?_
     have hA : ∀ e:List (List D),(s2.ah++e)[0]? = s2.ah[0]? :=fun e=>List.getElem?_append_left iW
     repeat' (first
 |simp only[go_sem,hD,hY,hZ,gA,jA,iW,iB,hY,fh,eO,Option.map_some,hA]
 |(with_reducible first|refine bo fun hc=>?_|refine bp fun hc=>?_|refine bq (fun hc=>?_) fun hc=>?_)<;>(try simp only[hc,bs,↓reduceIte]at h)<;>try simp only[hc]
 |(with_reducible refine aD hQ ?_;(try cases h);simp only[aU,aV,bI,bJ,go_sem,hD,hY,hZ,gA,jA,iW,iB,hY,fh,eO,Option.map_some,hA];try exact cv)
 |(cases h;replace h:=hr;clear hr;(try simp only[bs,↓reduceIte]at h))
 | (cases h;done))
     refine bl.pG ?_ (ih (k+1) rest _ _ vq (by simpa using A0) g2 h3 ?_)
     ·simp only [go_sem,aI bN,fh]
      repeat' (first|exact Ok.out|with_reducible refine iY ?_ ?_)
     ·rw [hvt,e]
      refine .inr ⟨_,0,[],rfl, ?_⟩
      show((s2.ah++ [_]).set 0 _)[s2.ah.length]? = _
      rw[List.getElem?_set_ne (by omega)]
      simp
    ·have oG:(((fr.vars.take k).map fun c=>m.mem.getD c 0).map qE).length=k:=by simp;omega
     have eO:=Ki (t:= .full) (bytes:=8) (r:= [.int .i64 v]) e (len:=k) (z:=1) (by rw[oG,Nat.mul_one]) (by unfold bC;omega)
     rw[oG]at jA h2
     have Hl:0≠vo:=fun e'=>(h2.vR (o:=vo) (by simp[D.arr])) e'.symm
     have dg:jB ⟨s2.ah.set vo (.int .i64 ((g+1:Nat):Int)::(((fr.vars.take k).map fun c=>m.mem.getD c 0).map qE++ [.int .i64 v])),s2.aw⟩ (.ew 1 vo (g+1) (k+1)) (((fr.vars.take k).map fun c=>m.mem.getD c 0).map qE++ [.int .i64 v]):=
      .inr ⟨vo,g+1,[],by simp;omega,by simp[fU e]⟩
     have h3:=h2.Pt (vd:= .ew 1 vo (g+1) (k+1)) (s1:=⟨s2.ah.set vo (.int .i64 ((g+1:Nat):Int)::(((fr.vars.take k).map fun c=>m.mem.getD c 0).map qE++ [.int .i64 v])),s2.aw⟩) (fun o r e hn=>by rw[List.getElem?_set_ne (fun e'=>hn (by rw[← e'];simp[D.arr]))];exact e)
      ⟨(fr.vars.take (k+1)).map fun c=>m.mem.getD c 0,by rw[hvt];exact dg⟩ (.inl rfl) rfl
     rw[fp]at h3
     simp only at h3
     refine bl.kQ ?_
     have hA : ∀ e:List D,(s2.ah.set vo e)[0]? = s2.ah[0]? :=fun e=>List.getElem?_set_ne (Ne.symm Hl)
     repeat' (first
 |simp only[go_sem,hD,hY,hZ,gA,jA,iW,iB,hY,fh,eO,Option.map_some,hA]
 |(with_reducible first|refine bo fun hc=>?_|refine bp fun hc=>?_|refine bq (fun hc=>?_) fun hc=>?_)<;>(try simp only[hc,bs,↓reduceIte]at h)<;>try simp only[hc]
 |(with_reducible refine aD hQ ?_;(try cases h);simp only[aU,aV,bI,bJ,go_sem,hD,hY,hZ,gA,jA,iW,iB,hY,fh,eO,Option.map_some,hA];try exact cv)
 |(cases h;replace h:=hr;clear hr;(try simp only[bs,↓reduceIte]at h))
 |(cases h;done))
     refine bl.pG ?_ (ih (k+1) rest _ _ vq (by simpa using A0) g2 h3 ?_)
     ·simp only [go_sem,aI bN,fh]
      repeat' (first|exact Ok.out|with_reducible refine iY ?_ ?_)
     ·rw [hvt]
      exact dg.keep fun o mo=>by
       have:o=vo:=by simpa[D.arr]using mo
       subst this
       show(List.set _ 0 _)[o]? = _
       rw[List.getElem?_set_ne Hl]
 -- the values' slice is emptied
 obtain⟨l,hv⟩:=h1.bW
 have h0:((s.ah++ [cd x])[0]?).isSome=true:=by rw[hm];rfl
 rcases hv with ⟨e,_⟩|⟨vo,g,more,e,e2⟩
 ·rw [e]at hm
  have ur:w7 (.ej 1) none (some (.int .i64 0))=some (.ej 1):=by simp[w7,sR,sS]
  have h3:=h1.Pt (vd:= .ej 1) (s1:=⟨s.ah++ [cd x],s.aw⟩) (fun _ _ e _=>e) ⟨[], .inl ⟨rfl,rfl⟩⟩ (.inl (by rw[e])) rfl
  have BS:=(h3.frame 0 o fr ho (by rw[ht.st];rfl)).1
  rw[fp]at h3 BS
  rw[pf]at BS
  simp only at h3 BS
  repeat' (first
 |simp only[go_sem,hD,hY,hZ,gA,hm,hl,Sz,ur,BS]
 |(with_reducible refine CU (c1) ?_)
 |(with_reducible first|refine bo fun hc=>?_|refine bp fun hc=>?_|refine bq (fun hc=>?_) fun hc=>?_)<;>(try simp only[hc,bs,↓reduceIte]at h)<;>try simp only[hc]
 |(with_reducible refine aD hQ ?_;(try cases h);simp only[aU,aV,bI,bJ,go_sem,hD,hY,hZ,gA,hm,hl,Sz,ur,BS];try exact cv)
 |(cases h;replace h:=hr;clear hr;(try simp only[bs,↓reduceIte]at h))
 |(cases h;done))
  refine bl.pG ?_ (loop _ 0 fr.vars _ _ rfl rfl rfl h3 (.inl ⟨rfl,rfl⟩))
  simp only[go_sem,fh]
  repeat' (first|exact Ok.out|with_reducible refine iY ?_ ?_)
 ·rw [List.length_map]at e
  rw[e]at hm
  have Hl:0≠vo:=fun e'=>(h1.vR (o:=vo) (by rw[e];simp[D.arr])) e'.symm
  have ur:w7 (.ew 1 vo g l.length) none (some (.int .i64 0))=some (.ew 1 vo g 0):=by simp[w7,sR,sS]
  have h3:=h1.Pt (vd:= .ew 1 vo g 0) (s1:=⟨s.ah++ [cd x],s.aw⟩) (fun _ _ e _=>e) ⟨[], .inr ⟨vo,g,l.map qE++more,rfl,e2⟩⟩ (.inl (by rw[e];rfl)) rfl
  have BS:=(h3.frame 0 o fr ho (by rw[ht.st];rfl)).1
  rw[fp]at h3 BS
  rw[pf]at BS
  simp only at h3 BS
  repeat' (first
 |simp only[go_sem,hD,hY,hZ,gA,hm,hl,Sz,ur,BS]
 |(with_reducible refine CU (c1) ?_)
 |(with_reducible first|refine bo fun hc=>?_|refine bp fun hc=>?_|refine bq (fun hc=>?_) fun hc=>?_)<;>(try simp only[hc,bs,↓reduceIte]at h)<;>try simp only[hc]
 |(with_reducible refine aD hQ ?_;(try cases h);simp only[aU,aV,bI,bJ,go_sem,hD,hY,hZ,gA,hm,hl,Sz,ur,BS];try exact cv)
 |(cases h;replace h:=hr;clear hr;(try simp only[bs,↓reduceIte]at h))
 | (cases h;done))
  refine bl.pG ?_ (loop _ 0 fr.vars _ _ rfl rfl rfl h3 (.inr ⟨vo,g,l.map qE++more,rfl, ?_⟩))
  ·simp only [go_sem,fh]
   repeat' (first|exact Ok.out|with_reducible refine iY ?_ ?_)
  ·show(List.set _ 0 _)[vo]? = _
   rw[List.getElem?_set_ne Hl];exact e2
end
end Go.Abs
namespace Go.Abs
set_option maxRecDepth 8000
open Go.Proofs
section
variable {p:Pg} {T W:List Int} {y:Lay} {m:Mc} {loc:List (Nat×List D)} {s:St}
theorem Di:Wk (.slice .full 0 []) (.slice .shared 1 (([] : List Int).map cm)):=Wk.nil _ _ _
theorem vT (h:Inv p T W y m loc s) (hW:W.length<1000000) (ht:m.trace.length<2000000) (id:Int) :
 bL Tryz.prog ep [.ptr 0 0, .int .i64 id, .slice .full 0 []] s (Rl p T W (.tuple []) (m.event W id []) (· = y) loc):=
 bL.q8 (.cons (Wk.refl _) (.cons (Wk.refl _) (.cons Di .nil))) (Mf h hW ht id [])
theorem DN (h:Inv p T W y m loc s) (hW:W.length<1000000) (ht:m.trace.length<2000000) (id n:Int) :
 bL Tryz.prog ep [.ptr 0 0, .int .i64 id, .slice .full 1 [[.int .i64 n]]] s (Rl p T W (.tuple []) (m.event W id [n]) (· = y) loc):=
 bL.q8 (.cons (Wk.refl _) (.cons (Wk.refl _) (.cons (Wk.shared _ _ _) .nil))) (Mf h hW ht id [n])
theorem ZN (h:Inv p T W y m loc s) {fr:Fr} {r:List Fr} (ht:mO m fr r) {v:Sm} (hv:v.nn) (hW:W.length<1000000) (htr:m.trace.length<2000000) :
 bL Tryz.prog ow [.ptr 0 0, .agg (bb v)] s (Rl p T W (.int .i64 (m.fx W v).1) (m.fx W v).2 (fun y'=>y' = {y with vd:=y'.vd}) loc):=by
 have h1:=h.new (bb v)
 have hx:(s.ah++ [bb v])[s.ah.length]? = some (bb v):=by simp
 have nz : ∀ q∈loc,q∈(s.ah.length,bb v)::loc:=fun q mq=>List.mem_cons_of_mem _ mq
 refine bL.uC ye rfl fun B Q hB hQ=>?_
 have⟨hD,hY,hZ,gA⟩:=bQ
 rcases Bool.eq_false_or_eq_true v.has with b|b
 ·have c1:=DM h1 ht (x:=v.x) (by have:=hv.2.2;omega) hv.1
  repeat' (first
 |simp only[go_sem,hD,hY,hZ,gA,hx,b]
 |(with_reducible first|refine bo fun hc=>?_|refine bp fun hc=>?_|refine bq (fun hc=>?_) fun hc=>?_)<;>(try simp only[hc,bs,↓reduceIte]at h)<;>try simp only[hc]
 |(with_reducible refine aD hQ ?_;(try cases h);simp only[aU,aV,bI,bJ,go_sem,hD,hY,hZ,gA,hx,b];try exact cv)
 | (cases h;done))
  refine CR c1 fun d s2 h2=>?_
  obtain⟨⟨rfl,y2,vU,h2⟩,_⟩:=h2
  have tF:=(h2.loc (s.ah.length,bb v) (List.mem_cons_self ..)).1
  have hw:=gE m v.x
  simp only at tF
  rcases Bool.eq_false_or_eq_true (m.bB v.x).1.2 with b2|b2
  ·have c2:=DN h2 hW (by rw [hw.2.2.2.2.2];exact htr) v.id (m.bB v.x).1.1
   repeat' (first
 |simp only[go_sem,hD,hY,hZ,gA,tF,b2]
 |(with_reducible first|refine bo fun hc=>?_|refine bp fun hc=>?_|refine bq (fun hc=>?_) fun hc=>?_)<;>(try simp only[hc,bs,↓reduceIte]at h)<;>try simp only[hc]
 |(with_reducible refine aD hQ ?_;(try cases h);simp only[aU,aV,bI,bJ,go_sem,hD,hY,hZ,gA,tF,b2];try exact cv)
 | (cases h;done))
   refine CR c2 fun d s3 h3=>?_
   obtain⟨rfl,y3,rfl,h3⟩:=h3
   repeat' (first
 |simp only[go_sem,hD,hY,hZ,gA]
 |(with_reducible first|refine bo fun hc=>?_|refine bp fun hc=>?_|refine bq (fun hc=>?_) fun hc=>?_)<;>(try simp only[hc,bs,↓reduceIte]at h)<;>try simp only[hc]
 |(with_reducible refine aD hQ ?_;exact fS)
 | (cases h;done))
   (refine gJ hQ ?_;simp only[aU,aV,bI,bJ,go_sem])
   refine⟨by simp only[Mc.fx,b,if_true],y3,vU, ?_⟩
   simp only[Mc.fx,b,b2,if_true]
   exact h3.sub nz
  ·repeat' (first
 |simp only[go_sem,hD,hY,hZ,gA,tF,b2]
 |(with_reducible first|refine bo fun hc=>?_|refine bp fun hc=>?_|refine bq (fun hc=>?_) fun hc=>?_)<;>(try simp only[hc,bs,↓reduceIte]at h)<;>try simp only[hc]
 |(with_reducible refine aD hQ ?_;(try cases h);simp only[aU,aV,bI,bJ,go_sem,hD,hY,hZ,gA,tF,b2];try exact cv)
 | (cases h;done))
   (refine gJ hQ ?_;simp only[aU,aV,bI,bJ,go_sem])
   refine⟨by simp only[Mc.fx,b,if_true],y2,vU, ?_⟩
   simp only[Mc.fx,b,b2,if_true,Bool.false_eq_true,if_false]
   exact h2.sub nz
 ·have c1:=vT h1 hW htr v.id
  repeat' (first
 |simp only[go_sem,hD,hY,hZ,gA,hx,b]
 |(with_reducible first|refine bo fun hc=>?_|refine bp fun hc=>?_|refine bq (fun hc=>?_) fun hc=>?_)<;>(try simp only[hc,bs,↓reduceIte]at h)<;>try simp only[hc]
 |(with_reducible refine aD hQ ?_;(try cases h);simp only[aU,aV,bI,bJ,go_sem,hD,hY,hZ,gA,hx,b];try exact cv)
 |(cases h;done))
  refine CR c1 fun d s2 h2=>?_
  obtain⟨rfl,y2,rfl,h2⟩:=h2
  repeat' (first
 |simp only[go_sem,hD,hY,hZ,gA]
 |(with_reducible first|refine bo fun hc=>?_|refine bp fun hc=>?_|refine bq (fun hc=>?_) fun hc=>?_)<;>(try simp only[hc,bs,↓reduceIte]at h)<;>try simp only[hc]
 |(with_reducible refine aD hQ ?_;exact fS)
 |(cases h;done))
  (refine gJ hQ ?_;simp only[aU,aV,bI,bJ,go_sem])
  refine⟨by simp only[Mc.fx,b,Bool.false_eq_true,if_false],y2,rfl, ?_⟩
  simp only[Mc.fx,b,Bool.false_eq_true,if_false]
  exact h2.sub nz
end
end Go.Abs
namespace Go.Abs
set_option maxRecDepth 8000
open Go.Proofs
section
variable {p:Pg} {T W:List Int} {y:Lay} {m:Mc} {loc:List (Nat×List D)} {s:St}
theorem gx.setAt : ∀ {l:List (List D)} {i:Nat} {r r':List D},l[i]? = some r→jq r r'→gx l (l.set i r')
 |a::l,0,r,r',h,w=>by simp at h;subst h;exact .cons w (gx.refl l)
 |a::l,i+1,r,r',h,w=> .cons (jq.refl a) (gx.setAt (l:=l) (by simpa using h) w)
def Lay.push (y:Lay) (n K:Nat) (sd:D):Lay:= {y with κ:=y.κ++(List.range K).map (n+2 + ·),φ:=(n+1)::y.φ,sd:=sd}
theorem VF {κ:List Nat} {n K j:Nat} (hj:j<K):(κ++(List.range K).map (n+2 + ·)).getD (κ.length+j) 0=n+2+j:=by
 rw[List.getD_eq_getElem?_getD,List.getElem?_append_right (by omega),show κ.length+j - κ.length=j by omega]
 simp[hj]
theorem DO {κ e:List Nat} {c:Nat} (hc:c<κ.length):(κ++e).getD c 0=κ.getD c 0:=by
 rw[List.getD_eq_getElem?_getD,List.getD_eq_getElem?_getD,List.getElem?_append_left hc]
theorem Py {κ:List Nat} {n:Nat} (h:n≤κ.length):(List.range n).map (fun c=>κ.getD c 0)=κ.take n:=by
 apply List.ext_getElem?
 intro i
 simp only[List.getElem?_map]
 by_cases hi:i<n
 ·rw [List.getElem?_range hi,List.getElem?_take_of_lt hi,List.getElem?_eq_getElem (show i<κ.length by omega)]
  simp[List.getD_eq_getElem?_getD,List.getElem?_eq_getElem (show i<κ.length by omega)]
 ·rw[List.getElem?_eq_none (by simp;omega),List.getElem?_eq_none (by simp;omega)];rfl
theorem Inv.push (h:Inv p T W y m loc s) {K:Nat} {sd:D} {fr:Fr} {s':St} (hg:p.globals.length≤m.mem.length) (hfv : ∀ c∈fr.vars,c<m.mem.length+K)
 (k : ∀ (o:Nat) (r:List D),s.ah[o]? = some r→o≠0→o∉y.sd.arr→s'.ah[o]? = some r)
 (k0:s'.ah[0]? = some (fp p T W (y.push s.ah.length K sd) m)) (kc : ∀ j,j<K→s'.ah[s.ah.length+2+j]? = some [.int .i64 0])
 (kf:s'.ah[s.ah.length+1]? = some (pf (y.push s.ah.length K sd).κ fr)) (ks:jB s' sd ((y.push s.ah.length K sd).φ.reverse.map xF)) (rR:sd.arr=y.sd.arr∨sd.arr = [s.ah.length+2+K])
 (t0:s'.aw[0]? = s.aw[0]?) (t1:s'.aw[1]? = s.aw[1]?) :
 Inv p T W (y.push s.ah.length K sd) {m with st:=fr::m.st,mem:=m.mem++List.replicate K 0} loc s':=by
 have Ah:=h.own
 rw[Lay.own,List.nodup_cons,List.nodup_append,List.nodup_append]at Ah
 obtain⟨n0,nκ,⟨ns,nv,XP⟩,Kg⟩:=Ah
 have lt:=h.tD
 have ltκ : ∀ c∈y.κ,c<s.ah.length:=fun c mc=>lt c (by simp[Lay.own,mc])
 have lts : ∀ c∈y.sd.arr,c<s.ah.length:=fun c mc=>lt c (by simp[Lay.own,mc])
 have ltv : ∀ c∈y.vd.arr,c<s.ah.length:=fun c mc=>lt c (by simp[Lay.own,mc])
 have uH:=h.uH
 have Kh : ∀ o,o∈(y.push s.ah.length K sd).own→o∈y.own∨(s.ah.length+2≤o∧o≤s.ah.length+2+K):=fun o mo=>by
  simp only[Lay.own,Lay.push,List.mem_cons,List.mem_append,List.mem_map,List.mem_range]at mo ⊢
  rcases mo with rfl|(mo|⟨j,hj,rfl⟩)|mo|mo
  ·exact .inl (.inl rfl)
  ·exact .inl (.inr (.inl mo))
  ·exact .inr ⟨by omega,by omega⟩
  ·rcases rR with e | e
   ·rw[e]at mo;exact .inl (.inr (.inr (.inl mo)))
   ·rw[e]at mo;have:=List.mem_singleton.1 mo;exact .inr ⟨by omega,by omega⟩
  ·exact .inl (.inr (.inr (.inr mo)))
 have g : ∀ {o:Nat} {r:List D},s.ah[o]? = some r→o∉y.own→s'.ah[o]? = some r∧o∉(y.push s.ah.length K sd).own:=fun {o r} e hn=>by
  refine⟨k o r e (fun e0=>hn (by rw[e0];simp[Lay.own])) (fun ms=>hn (by simp[Lay.own,ms])),fun mo=>?_⟩
  rcases Kh o mo with mo|mo
  ·exact hn mo
  ·have:=fU e;omega
 have hlen:=h.len
 refine⟨k0,by rw[t0];exact h.t0,by rw[t1];exact h.t1,by simp[Lay.push,hlen],fun i c v e1 e2=>?_,by simp[Lay.push,h.sq],fun i o Mh e1 e2=>?_,ks, ?_, ?_,fun q mq=>g (h.loc q mq).1 (h.loc q mq).2⟩
 ·simp only [Lay.push]at e1
  dsimp only at e2
  rcases Nat.lt_or_ge i y.κ.length with hi|hi
  ·rw [List.getElem?_append_left hi]at e1
   rw[List.getElem?_append_left (by omega)]at e2
   have hc:=List.mem_of_getElem? e1
   exact k c _ (h.cell i c v e1 e2) (h.vR (by simp[hc])) (fun ms=>Kg c hc c (List.mem_append_left _ ms) rfl)
  ·rw [List.getElem?_append_right hi]at e1
   rw[List.getElem?_append_right (by omega)]at e2
   have hD:=(List.getElem?_eq_some_iff.1 e1).1
   simp only[List.length_map,List.length_range]at hD
   rw[List.getElem?_map,List.getElem?_range hD]at e1
   rw[List.getElem?_replicate_of_lt (by omega)]at e2
   simp only[Option.map_some,Option.some.injEq]at e1 e2
   subst e1 e2
   exact kc _ hD
 ·cases i with
  |zero=>
   simp only[Lay.push,List.getElem?_cons_zero,Option.some.injEq]at e1 e2
   subst e1 e2
   refine⟨kf,fun mo=>?_,fun c mc=>by simp only[List.length_append,List.length_replicate];exact hfv c mc⟩
   rcases Kh _ mo with mo|mo
   ·have:=lt _ mo;omega
   ·omega
  |succ i=>
   simp only[Lay.push,List.getElem?_cons_succ]at e1 e2
   obtain⟨f1,f2,f3⟩:=h.frame i o Mh e1 e2
   obtain⟨f4,f5⟩:=g f1 f2
   exact⟨by simp only[Lay.push];rw[Hj (by rw[hlen];exact f3)];exact f4,f5,fun c mc=>by have:=f3 c mc;simp only[List.length_append];omega⟩
 ·obtain⟨l,hl⟩:=h.bW
  refine⟨l,hl.keep fun o mo=>?_⟩
  rw[List.getElem?_eq_getElem (ltv o mo)]
  exact k o _ (List.getElem?_eq_getElem _) (h.vR (by simp[mo])) (fun ms=>XP o ms o mo rfl)
 ·have SB:((List.range K).map (s.ah.length+2 + ·)).Nodup:=by
   rw[List.nodup_iff_pairwise_ne,List.pairwise_map]
   exact List.Pairwise.imp (fun h=>by omega) (List.nodup_iff_pairwise_ne.1 List.nodup_range)
  have Fo : ∀ o∈(List.range K).map (s.ah.length+2 + ·),s.ah.length+2≤o∧o<s.ah.length+2+K:=fun o mo=>by
   obtain⟨j,hj,rfl⟩:=List.mem_map.1 mo
   have:=List.mem_range.1 hj;exact⟨by omega,by omega⟩
  have Pz : ∀ o∈sd.arr,(o∈y.sd.arr)∨o=s.ah.length+2+K:=fun o mo=>by
   rcases rR with e|e
   ·rw[e]at mo;exact .inl mo
   ·rw[e]at mo;exact .inr (List.mem_singleton.1 mo)
  simp only[Lay.own,Lay.push]
  rw[List.nodup_cons,List.nodup_append,List.nodup_append,List.nodup_append]
  refine⟨fun mo=>?_,⟨nκ,SB,fun a ma b mb e=>?_⟩,⟨?_,nv,fun a ma b mb e=>?_⟩,fun a ma b mb e=>?_⟩
  ·simp only [List.mem_append]at mo
   rcases mo with (mo|mo)|mo|mo
   ·exact n0 (by simp[mo])
   ·have:=Fo _ mo;omega
   ·rcases Pz _ mo with mo | mo
    ·exact n0 (by simp[mo])
    ·omega
   ·exact n0 (by simp[mo])
  ·have:=ltκ a ma;have:=Fo b mb;omega
  ·rcases rR with e | e <;> rw [e]
   ·exact ns
   ·simp
  ·rcases Pz a ma with ma | ma
   ·exact XP a ma b mb e
   ·have:=ltv b mb;omega
  ·rcases List.mem_append.1 ma with ma | ma
   ·rcases List.mem_append.1 mb with mb | mb
    ·rcases Pz b mb with mb | mb
     ·exact Kg a ma b (List.mem_append_left _ mb) e
     ·have:=ltκ a ma;omega
    ·exact Kg a ma b (List.mem_append_right _ mb) e
   ·have:=Fo a ma
    rcases List.mem_append.1 mb with mb|mb
    ·rcases Pz b mb with mb | mb
     ·have:=lts b mb;omega
     ·omega
    ·have:=ltv b mb;omega
theorem ZO {gl ps:List (List D)} {bytes:Nat} (hb:(gl.length+ps.length)*(bytes+1)≤bC) (ts:List (Option Nat)) : ∃ (g1 g2:Tag) (z1 z2:Nat) (t1 t2:List (Option Nat)),(∀ os,ik 1 bytes (.slice .full 0 []) (.slice .shared 1 gl) ⟨os,ts⟩=some (.slice g1 z1 gl,⟨os,t1⟩))∧
 (∀ os,ik 1 bytes (.slice g1 z1 gl) (.slice .shared 1 ps) ⟨os,t1⟩=some (.slice g2 z2 (gl++ps),⟨os,t2⟩))∧
 ((g2 = .full∧t2=ts∧gl++ps = [])∨(g2 = .tok ts.length∧z2=1∧t2=ts++ [some (gl++ps).length])):=by
 have h1:gl.length*(bytes+1)≤bC:=Nat.le_trans (Nat.mul_le_mul_right _ (Nat.le_add_right _ _)) hb
 have h2:ps.length*(bytes+1)≤bC:=Nat.le_trans (Nat.mul_le_mul_right _ (Nat.le_add_left _ _)) hb
 cases gl with
 |nil=>
  cases ps with
  |nil=>exact⟨.full, .full,0,0,ts,ts,fun os=>zP os ts,fun os=>zP os ts, .inl ⟨rfl,rfl,rfl⟩⟩
  |cons a ps=>exact⟨.full, .tok ts.length,0,1,ts,_,fun os=>zP os ts,fun os=>zO (by simp) h2 os ts, .inr ⟨rfl,rfl,rfl⟩⟩
 |cons a gl=>
  refine⟨.tok ts.length, .tok ts.length,1,1,ts++ [some (a::gl).length],ts++ [some (a::gl++ps).length],fun os=>zO (by simp) h1 os ts,fun os=>?_, .inr ⟨rfl,rfl,rfl⟩⟩
  rw[nR (size:=1) hb (by simp)]
  simp;omega
theorem Mi (h:Inv p T W y m loc s) (hp:p.iJ) (hb:p.may=true) {i:Nat} {f:Pc} (hf:p.procs[i]? = some f) (ahg:p.find f.name=some f) (iU:m.st.length<1000000) {l:List Nat} (hl : ∀ c∈l,c<m.mem.length) (wR:l.length<1000000)
 (hg:p.globals.length≤m.mem.length) (call:Int) :
 ∃ y' s',aF Tryz.prog jj [.ptr 0 0, .int .i64 (i:Int), .slice .shared 1 (l.map fun c=>fh (y.κ.getD c 0)), .int .i64 call] s (.int .i64 (m.open p (i:Int) l call).1) s'∧Inv p T W y' (m.open p (i:Int) l call).2 loc s':=by
 have hm:=h.jC
 rw[fp]at hm
 have qG:=h.uH
 obtain⟨qZ,qM,qL⟩:=hp.procs
 have vL:=hp.small (List.mem_of_getElem? hf)
 have cV:=fun s=>adG hp hb ahg s
 have cF:=fun s=>ZM hb hf s
 have hi:i<p.procs.length:=(List.getElem?_eq_some_iff.1 hf).1
 obtain⟨g1,g2,z1,z2,t1,t2,a1,a2,a3⟩:=ZO (gl:=(y.κ.take p.globals.length).map fh) (ps:=l.map fun c=>fh (y.κ.getD c 0)) (bytes:=8) (by simp only[List.length_map,List.length_take];unfold bC;omega) s.aw
 have hA : ∀ e:List (List D),(s.ah++e)[0]? = s.ah[0]? :=fun e=>List.getElem?_append_left qG
 have n0 : ∀ e1 e2:List (List D),(s.ah++e1++e2)[0]? = s.ah[0]? :=fun e1 e2=>by rw[List.append_assoc];exact hA _
 have n1 : ∀ a b:List D,(s.ah++ [a]++ [b])[s.ah.length+1]? = some b:=fun a b=>by simp
 have n2 : ∀ a b:List D,(s.ah++ [a]++ [b])[s.ah.length]? = some a:=fun a b=>by simp
 have n3 : ∀ a b c:List D,(s.ah++ [a]++ [b]).set (s.ah.length+1) c=s.ah++ [a]++ [c]:=fun a b c=>by simp[List.append_assoc,List.set_append_right]
 have n4 : ∀ a:List D,(s.ah++ [a])[s.ah.length]? = some a:=fun a=>by simp
 have n5 : ∀ a b:List D,(s.ah++ [a]).set s.ah.length b=s.ah++ [b]:=fun a b=>by simp
 have hpc:cj f = [.str f.name, .slice .shared 2 (f.params.map iD), .slice .shared 1 (f.vars.map encStr), .slice .shared 13 (f.body.map bb), .slice .shared 1 (f.fin.map encStr)]:=rfl
 generalize hn:s.ah.length=n at *
 have Lx:(m.open p (i:Int) l call).1=fX f.body (-1)∧(m.open p (i:Int) l call).2 = {m with st:=⟨(i:Int),p.globals++f.own,List.range p.globals.length++l++(List.range f.vars.length).map (m.mem.length + ·),call⟩::m.st,mem:=m.mem++List.replicate f.vars.length 0}:=by
  unfold Mc.open
  rw[Int.toNat_natCast,hf]
  exact⟨rfl,rfl⟩
 rw[Lx.1,Lx.2]
 generalize kb:(y.κ.take p.globals.length).map fh++l.map (fun c=>fh (y.κ.getD c 0))=kg at *
 have hgr:kg.length<2000000:=by rw[← kb];simp only[List.length_append,List.length_map,List.length_take];omega
 have hvl:=vL.vars
 -- the states of the rounds
 let fr:Nat→List D:=fun k=> [.int .i64 (i:Int), .slice .shared 1 ((p.globals++f.own).map encStr), .slice (.tok s.aw.length) 1 (kg++(List.range k).map (fun j=>fh (n+2+j))), .int .i64 call]
 obtain⟨O,hO⟩ : ∃ O:Nat→List (List D),∀ k,O k=s.ah++ [cj f]++ [fr k]++List.replicate k [.int .i64 0]:=⟨_,fun _=>rfl⟩
 have oL : ∀ k,(O k).length=n+2+k:=fun k=>by rw[hO];simp[hn];omega
 have VH : ∀ k o,o<n→(O k)[o]? = s.ah[o]? :=fun k o ho=>by rw[hO,List.append_assoc,List.append_assoc,List.getElem?_append_left (by omega)]
 have oF : ∀ k,(O k)[n+1]? = some (fr k):=fun k=>by rw[hO,List.getElem?_append_left (by simp[hn])];simp[hn]
 have oC : ∀ k j,j<k→(O k)[n+2+j]? = some [.int .i64 0]:=fun k j hj=>by
  rw[hO,List.getElem?_append_right (by simp only[List.length_append,List.length_singleton,hn];omega)]
  simp only[List.length_append,List.length_singleton,hn]
  rw[show n+2+j - (n+1+1)=j by omega,List.getElem?_replicate_of_lt hj]
 have oF' : ∀ k e,(O k++e)[n+1]? = some (fr k):=fun k e=>by rw[List.getElem?_append_left (by rw[oL];omega)];exact oF k
 have o0 : ∀ k,(O k)[0]? = s.ah[0]? :=fun k=>VH k 0 qG
 have o0' : ∀ k e,(O k++e)[0]? = s.ah[0]? :=fun k e=>by rw[List.getElem?_append_left (by rw[oL];omega)];exact o0 k
 have oS : ∀ k,(O k++ [[D.int .i64 0]]).set (n+1) (fr (k+1))=O (k+1):=fun k=>by
  rw[hO,hO,List.replicate_succ']
  simp only[List.append_assoc]
  rw[List.set_append_right _ _ (by omega),hn,show n+1 - n=1 by omega]
  rfl
 have zS:(List.range p.globals.length++l++(List.range f.vars.length).map (m.mem.length + ·)).map (fun c=>fh ((y.push n f.vars.length .dR).κ.getD c 0))=kg++(List.range f.vars.length).map (fun j=>fh (n+2+j)):=by
  simp only[List.map_append,List.map_map,Lay.push, ← kb]
  congr 1
  ·congr 1
   ·rw [← Py (by rw [h.len];exact hg),List.map_map]
    exact List.map_congr_left fun c mc=>by simp only[Function.comp];rw[DO (by rw[h.len];have:=List.mem_range.1 mc;omega)]
   ·exact List.map_congr_left fun c mc=>by rw[DO (by rw[h.len];exact hl c mc)]
  ·exact List.map_congr_left fun j mj=>by simp only[Function.comp];rw[← h.len,VF (List.mem_range.1 mj)]
 have anP:jq (fr f.vars.length) (pf (y.push n f.vars.length .dR).κ ⟨(i:Int),p.globals++f.own,List.range p.globals.length++l++(List.range f.vars.length).map (m.mem.length + ·),call⟩):=by
  unfold pf
  dsimp only
  rw[zS]
  exact .cons (Wk.refl _) (.cons (Wk.refl _) (.cons (Wk.shared _ _ _) (.cons (Wk.refl _) .nil)))
 -- the stack
 generalize hK:f.vars.length=K at *
 obtain⟨sd,O',e1,e3,e4,e5,e6⟩ : ∃ (sd:D) (O':List (List D)),(∀ tm:Tm,tm.get 70=y.sd→tm.get 72 = .slice .full 1 [[.ptr (n+1) 0]]→aJ (.app 1 8 (.s 70) (.s 72)) tm ⟨O K,s.aw++ [some (kg.length+K)]⟩=some (sd,⟨O',s.aw++ [some (kg.length+K)]⟩))∧
  (∀ (o:Nat) (r:List D),(O K)[o]? = some r→o∉y.sd.arr→O'[o]? = some r)∧jB ⟨O',s.aw⟩ sd (((n+1)::y.φ).reverse.map xF)∧(sd.arr=y.sd.arr∨sd.arr = [n+2+K])∧sd.row=some [sd]:=by
  rcases h.stack with ⟨e,e2⟩|⟨so,g,more,e,e2⟩
  ·have hφ:y.φ = []:=by simpa using e2
   refine⟨.ew 1 (n+2+K) 0 1,O K++ [[.int .i64 ((0:Nat):Int), .ptr (n+1) 0]],fun tm h1 h2=>?_,fun o r e _=>by rw[List.getElem?_append_left (fU (s:=⟨O K,[]⟩) e)];exact e, .inr ⟨n+2+K,0,[],by simp[hφ], ?_⟩, .inr rfl,rfl⟩
   ·simp only [aJ,X.ev,h1,h2,e]
    rw[Ji _ _ _ (by unfold bC;omega)]
    simp only[oL]
   ·rw [hφ]
    show(O K++ [_])[n+2+K]? = _
    rw[← oL K]
    simp[xF]
  ·have anQ:so<n:=by have:=fU e2;omega
   have hlen:(y.φ.reverse.map xF).length=m.st.length:=by simp[h.sq]
   have e2':(O K)[so]? = some (.int .i64 ((g:Nat):Int)::(y.φ.reverse.map xF++more)):=by rw[VH K so anQ];exact e2
   rw[hlen]at e
   refine⟨.ew 1 so (g+1) (m.st.length+1),(O K).set so (.int .i64 ((g+1:Nat):Int)::(y.φ.reverse.map xF++ [.ptr (n+1) 0])),fun tm h1 h2=>?_,fun o r e hn=>?_, .inr ⟨so,g+1,[],by simp[h.sq], ?_⟩, .inl (by rw[e];rfl),rfl⟩
   ·simp only [aJ,X.ev,h1,h2,e]
    rw[Ki (s:=⟨O K,_⟩) e2' (by rw[hlen,Nat.mul_one]) (by unfold bC;omega)]
   ·rw[List.getElem?_set_ne (fun e'=>hn (by rw[‹y.sd=_›, ← e'];simp[D.arr]))];exact e
   ·simp[oL,show so<n+2+K by omega,xF]
 have o'0:O'[0]? = s.ah[0]? :=by
  rw[hm]
  exact e3 0 _ (by rw[o0];exact hm) (fun mo=>(h.vR (by simp[mo])) rfl)
 have XT:0<O'.length:=fU (s:=⟨O',[]⟩) (o'0.trans hm)
 have o'f:O'[n+1]? = some (fr K):=e3 _ _ (oF K) (fun mo=>by have:=h.tD (n+1) (by simp[Lay.own,mo]);omega)
 let row:=fp p T W (y.push n K sd) {m with st:=⟨(i:Int),p.globals++f.own,List.range p.globals.length++l++(List.range K).map (m.mem.length + ·),call⟩::m.st,mem:=m.mem++List.replicate K 0}
 refine⟨y.push n K sd,⟨(O'.set 0 row).set (n+1) (pf (y.push n K sd).κ ⟨(i:Int),p.globals++f.own,List.range p.globals.length++l++(List.range K).map (m.mem.length + ·),call⟩),s.aw++ [some (kg.length+K)]⟩, ?_, ?_⟩
 case refine_2=>
  subst hn
  have gO : ∀ (o:Nat) (r:List D),O'[o]? = some r→o≠0→o≠s.ah.length+1→((O'.set 0 row).set (s.ah.length+1) (pf (y.push s.ah.length K sd).κ ⟨(i:Int),p.globals++f.own,List.range p.globals.length++l++(List.range K).map (m.mem.length + ·),call⟩))[o]? = some r:=fun o r e h1 h2=>by
   rw[List.getElem?_set_ne (Ne.symm h2),List.getElem?_set_ne (Ne.symm h1)];exact e
  refine h.push (K:=K) (sd:=sd) hg (fun c mc=>?_) (fun o r e h1 h2=>?_) ?_ (fun j hj=>?_) ?_ (e4.keep fun o mo=>?_) e5 ?_ ?_
  ·simp only [List.mem_append,List.mem_range,List.mem_map]at mc
   rcases mc with (mc|mc)|⟨x,mc,rfl⟩
   ·omega
   ·have:=hl c mc;omega
   ·omega
  ·have:=fU e
   exact gO o r (e3 o r (by rw[VH K o this];exact e) h2) h1 (by omega)
  ·rw [List.getElem?_set_ne (by omega)]
   simp[XT,row]
  ·refine gO _ _ (e3 _ _ (oC K j hj) fun mo=> ?_) (by omega) (by omega)
   have:=h.tD _ (show s.ah.length+2+j∈y.own by simp[Lay.own,mo]);omega
  ·have:=fU (s:=⟨O',[]⟩) o'f
   rw[List.getElem?_set_self (by rw[List.length_set];exact this)]
  ·have:o≠0∧o≠s.ah.length+1:=by
    rcases e5 with e|e
    ·rw [e]at mo
     have h1:=h.tD o (by simp[Lay.own,mo])
     exact⟨h.vR (by simp[mo]),by omega⟩
    ·rw [e]at mo
     have:=List.mem_singleton.1 mo
     exact⟨by omega,by omega⟩
   show(List.set _ _ _)[o]? = _
   rw[List.getElem?_set_ne (Ne.symm this.2),List.getElem?_set_ne (Ne.symm this.1)]
  ·exact List.getElem?_append_left (List.getElem?_eq_some_iff.1 h.t0).1
  ·exact List.getElem?_append_left (List.getElem?_eq_some_iff.1 h.t1).1
 refine bL.up ?_
 refine bL.uC zi rfl fun B Q hB hQ=>?_
 have⟨hD,hY,hZ,gA⟩:=bQ
 have loop : ∀ d k:Nat,k+d=K→bl Tryz.prog B 82 QBX (kA 0 (nN (jZ Tryz.prog B 82 QC4 Q) Q))
  [(0, .ptr 0 0),(1, .int .i64 (i:Int)),(10, .ptr (n+1) 0),(52, .int .i64 (K:Int)),(53, .int .i64 (k:Int))] ⟨O k,s.aw++ [some (kg.length+k)]⟩:=by
  intro d
  induction d with
  |zero=>
   intro k hk
   have uv:k=K:=by omega
   subst uv
   have hD:decide ((k:Int)<(k:Int))=false:=by simp
   have jA:=o'0.trans hm
   have Hk:=o'f
   have vh : ∀ r,(O'.set 0 r)[0]? = some r:=fun r=>List.getElem?_set_self XT
   refine bl.kQ ?_
   repeat' (first
 |simp only[go_sem,hD,hY,hZ,gA,hm,o0,e1,e6,jA,XT,vh]
 |(with_reducible refine CU (cF _) ?_)
 |(with_reducible first|refine bo fun hc=>?_|refine bp fun hc=>?_|refine bq (fun hc=>?_) fun hc=>?_)<;>(try simp only[hc,bs,↓reduceIte]at h)<;>try simp only[hc]
 |(with_reducible refine aD hQ ?_;(try cases h);simp only[aU,aV,bI,bJ,go_sem,hD,hY,hZ,gA,hm,o0,e1,e6,jA,XT,vh];try exact cv)
 | (cases h;done))
   (refine gJ hQ ?_;simp only[aU,aV,bI,bJ,go_sem])
   have dZ:row = [.dv (fv p) 0, .slice .shared 1 ((y.κ.take p.globals.length).map fh), .slice .shared 1 (T.map cm), .slice .shared 1 (W.map cm),sd,y.vd,
    .int .i64 m.fin, .int .i64 m.steps, .int .i64 m.reads, .slice (.tok 0) 1 (m.out.map cm), .slice (.tok 1) 2 (m.trace.map iT)]:=by
    simp only[row,fp,Lay.push]
    rw[List.take_append_of_le_length (by rw[h.len];exact hg)]
   refine⟨_,⟨(O'.set 0 row).set (n+1) _,_⟩,Wk.refl _, ?_,rfl,rfl,rfl⟩
   rw[dZ]
   exact gx.setAt (by rw[List.getElem?_set_ne (by omega)];exact Hk) anP
  | succ d ih=>
   intro k hk
   have hD:decide ((k:Int)<(K:Int))=true:=by simp;omega
   have bN:k<4611686018427387904:=by omega
   have hfk:=oF k
   have VI:=oF' k [[.int .i64 0]]
   have eO:ik 1 8 (.slice (.tok s.aw.length) 1 (kg++(List.range k).map (fun j=>fh (n+2+j)))) (.slice .full 1 [[.ptr (n+2+k) 0]]) ⟨O k++ [[.int .i64 0]],s.aw++ [some (kg.length+k)]⟩ =
    some (.slice (.tok s.aw.length) 1 (kg++(List.range (k+1)).map (fun j=>fh (n+2+j))),⟨O k++ [[.int .i64 0]],s.aw++ [some (kg.length+(k+1))]⟩):=by
    rw[nR (size:=1) (by simp only[List.length_append,List.length_map,List.length_range,List.length_singleton];unfold bC;omega) (by simp)]
    simp[List.range_succ,fh,Nat.add_assoc]
   have oSk:=oS k
   simp only[fr,List.map_append,List.range_succ,List.map_cons,List.map_nil]at hfk VI oSk
   refine bl.kQ ?_
   repeat' (first
 |simp only[go_sem,hD,hY,hZ,gA,hfk,VI,oL,eO,oSk]
 |(with_reducible first|refine bo fun hc=>?_|refine bp fun hc=>?_|refine bq (fun hc=>?_) fun hc=>?_)<;>(try simp only[hc,bs,↓reduceIte]at h)<;>try simp only[hc]
 |(with_reducible refine aD hQ ?_;(try cases h);simp only[aU,aV,bI,bJ,go_sem,hD,hY,hZ,gA,hfk,VI,oL,eO,oSk];try exact cv)
 | (cases h;done))
   refine bl.pG ?_ (ih (k+1) (by omega))
   simp only[go_sem,aI bN]
   repeat' (first|exact Ok.out|with_reducible refine iY ?_ ?_)
 have l0:=loop K 0 (by omega)
 have hO0:O 0=s.ah++ [cj f]++ [fr 0]:=by rw[hO];simp
 rw[hO0]at l0
 repeat' (first
 |simp only[go_sem,hD,hY,hZ,gA,hm,hA,n0,n1,n2,n3,n4,n5,hf,a1,a2,nV, ← Ew,hn]
 |(with_reducible refine CU (cV _) ?_)
 |(with_reducible first|refine bo fun hc=>?_|refine bp fun hc=>?_|refine bq (fun hc=>?_) fun hc=>?_)<;>(try simp only[hc,bs,↓reduceIte]at h)<;>try simp only[hc]
 |(with_reducible refine aD hQ ?_;(try cases h);simp only[aU,aV,bI,bJ,go_sem,hD,hY,hZ,gA,hm,hA,n0,n1,n2,n3,n4,n5,hf,a1,a2,nV, ← Ew,hn];try exact cv)
 |(cases h;done))
 simp only[fr,List.range_zero,List.map_nil,List.append_nil,List.map_append]at l0
 rcases a3 with ⟨rfl,rfl,rfl⟩|⟨rfl,rfl,rfl⟩
 ·refine bl.Dn (n+1) 2 1 (n1 _ _) rfl ?_
  simp only[n3,List.set_cons_succ,List.set_cons_zero]
  refine bl.pG ?_ l0
  simp only[go_sem,hK]
  repeat' (first|exact Ok.out|with_reducible refine iY ?_ ?_)
 ·refine bl.pG ?_ l0
  simp only[go_sem,hK]
  repeat' (first|exact Ok.out|with_reducible refine iY ?_ ?_)
end
end Go.Abs
namespace Go.Abs
set_option maxRecDepth 8000
open Go.Proofs
section
variable {p:Pg} {T W:List Int} {y:Lay} {m:Mc} {loc:List (Nat×List D)} {s:St}
def vV (fr:Fr) (name:aG) (c:Nat):Prop:=∃ j:Nat,jd name 0 fr.names=(j:Int)∧fr.vars[j]? = some c
theorem vV.cell {fr:Fr} {name:aG} {c:Nat} (h:vV fr name c) (ht:m.top=fr):m.cell name=c:=by
 obtain⟨j,h1,h2⟩:=h
 unfold Mc.cell
 rw[ht,h1,Int.toNat_natCast,List.getD_eq_getElem?_getD,h2];rfl
theorem Inv.pop (h:Inv p T W y m loc s) {fr:Fr} {r:List Fr} (iU:m.st=fr::r) {so g:Nat} (rR:y.sd = .ew 1 so g (r.length+1)) :
 Inv p T W {y with φ:=y.φ.tail,sd:= .ew 1 so g r.length} {m with st:=r} loc ⟨s.ah.set 0 (fp p T W {y with φ:=y.φ.tail,sd:= .ew 1 so g r.length} {m with st:=r}),s.aw⟩:=by
 have gX:(D.ew 1 so g r.length).arr=y.sd.arr:=by rw[rR];rfl
 have PA:Lay.own {y with φ:=y.φ.tail,sd:= .ew 1 so g r.length} = y.own:=by simp only[Lay.own,gX]
 have gP:=h.sq
 rw[iU]at gP
 have ne : ∀ {q:Nat} {r':List D},s.ah[q]? = some r'→q≠0→(s.ah.set 0 (fp p T W {y with φ:=y.φ.tail,sd:= .ew 1 so g r.length} {m with st:=r}))[q]? = some r':=fun e hn=>by
  rw[List.getElem?_set_ne (Ne.symm hn)];exact e
 have nf : ∀ {q:Nat},q∉y.own→q≠0:=fun hq e=>hq (by rw[e];simp[Lay.own])
 obtain⟨l,hl⟩:=h.bW
 refine⟨by simp[h.uH],h.t0,h.t1,h.len,fun i c v e1 e2=>ne (h.cell i c v e1 e2) (h.vR (by simp[List.mem_of_getElem? e1])),by simp[gP],fun i o Mh e1 e2=>?_, ?_,⟨l,hl.keep fun o mo=>?_⟩,by rw[PA];exact h.own,fun q mq=>?_⟩
 ·obtain⟨f1,f2,f3⟩:=h.frame (i+1) o Mh (by simpa [List.getElem?_tail]using e1) (by rw [iU];simpa using e2)
  exact⟨ne f1 (nf f2),by rw[PA];exact f2,f3⟩
 ·cases hφ:y.φ with
  |nil=>rw[hφ]at gP;simp at gP
  | cons o φ=>
   rw[hφ]at gP
   rcases h.stack with ⟨e,_⟩|⟨so',g',more,e,e2⟩
   ·rw[e]at rR;cases rR
   ·have e':=e
    rw[rR,D.ew.injEq]at e'
    obtain⟨_,rfl,rfl,_⟩:=e'
    refine .inr ⟨so,g,[.ptr o 0]++more,by simp at gP ⊢;omega,ne ?_ (h.vR (by rw[rR];simp[D.arr]))⟩
    rw[e2,hφ]
    simp[xF]
 ·show(s.ah.set 0 _)[o]? = _
  rw[List.getElem?_set_ne (Ne.symm (h.vR (by simp[mo])))]
 ·obtain⟨f1,f2⟩:=h.loc q mq
  exact⟨ne f1 (nf f2),by rw[PA];exact f2⟩
theorem Kj {L:List Im} {c:Nat} {it:Im} (h:L[c]? = some it) {a:Int} (ha:a=(c:Int)+1):fw L a=it:=by
 unfold fw
 rw[ha,show((c:Int)+1 - 1).toNat=c by omega,List.getD_eq_getElem?_getD,h];rfl
theorem ZQ (h:Inv p T W y m loc s) {fr:Fr} {r:List Fr} (ht:mO m fr r) (hL:p.aX.L.length<1000000)
 (hc:fr.call=0∨∃ (c:Nat) (it:Im) (uG:Fr) (r2:List Fr),fr.call=(c:Int)+1∧p.aX.L[c]? = some it∧mO {m with st:=r} uG r2∧(it.s.name≠ []→∃ k,vV uG it.s.name k)) (xE:Int) :
 bL Tryz.prog ox [.ptr 0 0, .int .i64 xE] s (Rl p T W (.int .i64 (m.close p.aX.L xE).1) (m.close p.aX.L xE).2 (fun y'=>∃ sd,y' = {y with φ:=y.φ.tail,sd:=sd}) loc):=by
 obtain⟨so,g,cells,o,h1,h2,h3,h4,h5⟩:=h.VD ht.st
 obtain⟨o',_,E3,c1⟩:=Px h ht.st ht.len
 have ho:o'=o:=by rw[h5]at *;cases ‹some o=some o'›;rfl
 subst ho
 have hm:=h.jC
 rw[fp,h1]at hm
 have hl:=h.uH
 have hp:=h.pop ht.st h1
 have hpf:=hp.jC
 have hlen:=ht.len
 have hw:IntKind.wrap .i64 (((r.length+1:Nat):Int) - 1)=((r.length:Nat):Int):=by rw[show((r.length+1:Nat):Int) - 1=(r.length:Int) by omega];exact dU (by omega) (by omega)
 have ur:w7 (.ew 1 so g (r.length+1)) none (some (.int .i64 (r.length:Int)))=some (.ew 1 so g r.length):=by simp[w7,sR,sS];omega
 have vh : ∀ r,(s.ah.set 0 r)[0]? = some r:=fun r=>List.getElem?_set_self hl
 rw[pf]at E3
 have oG:m.close p.aX.L xE=if fr.call==0 then(-1,{{m with st:=r}with fin:=1})else((fw p.aX.L fr.call).next,if(fw p.aX.L fr.call).s.name == []then {m with st:=r}else({m with st:=r} : Mc).set (fw p.aX.L fr.call).s.name xE):=by
  unfold Mc.close
  rw[ht.top,ht.st];rfl
 rw[oG]
 rcases hc with hc|⟨c,it,uG,r2,hc,pI,tt,hn⟩
 ·rw [hc]at E3
  have e0:((0:Int)==0)=true:=rfl
  have h5:=hp.tR (m':= {{m with st:=r}with fin:=1}) rfl rfl hp.t0 hp.t1
  rw[fp]at h5
  simp only[List.set_set]at h5
  rw[hc,if_pos e0]
  refine bL.uC qK rfl fun B Q hB hQ=>?_
  have⟨hD,hY,hZ,gA⟩:=bQ
  repeat' (first
 |simp only[go_sem,hD,hY,hZ,gA,hm,hl,hw,ur,vh,E3,e0,List.set_set]
 |(with_reducible refine CU (c1) ?_)
 |(with_reducible first|refine bo fun hc=>?_|refine bp fun hc=>?_|refine bq (fun hc=>?_) fun hc=>?_)<;>(try simp only[hc,bs,↓reduceIte]at h)<;>try simp only[hc]
 |(with_reducible refine aD hQ ?_;(try cases h);simp only[aU,aV,bI,bJ,go_sem,hD,hY,hZ,gA,hm,hl,hw,ur,vh,E3,e0,List.set_set];try exact cv)
 |(cases h;done))
  (refine gJ hQ ?_;simp only[aU,aV,bI,bJ,go_sem])
  exact⟨rfl,_,⟨_,rfl⟩,h5⟩
 ·rw [hc]at E3
  have BT:IntKind.wrap .i64 ((c:Int)+1 - 1)=(c:Int):=by
   have:=(List.getElem?_eq_some_iff.1 pI).1
   rw[show(c:Int)+1 - 1=(c:Int) by omega];exact dU (by omega) (by omega)
  have e0:((c:Int)+1==0)=false:=by simp;omega
  have anR:=Kj pI hc
  have hz : ∀ (z:List D) (e:List D),(s.ah.set 0 e++ [z]).set s.ah.length (dr it)=s.ah.set 0 e++ [dr it]:=fun z e=>by simp
  have hg : ∀ z e:List D,(s.ah.set 0 e++ [z])[s.ah.length]? = some z:=fun z e=>by simp
  have cS:(fv p)[2]? = some (.slice .shared 17 (p.aX.L.map dr)):=rfl
  have wR : ∀ e:List D,(s.ah.set 0 e).length=s.ah.length:=fun e=>List.length_set
  have dg:=hp.new (dr it)
  rw[fp]at dg
  simp only[wR]at dg
  have EI:dr it = [.int .i64 it.s.id, .int .i64 it.s.kind, .slice .shared 1 (it.s.labels.map encStr), .str it.s.name, .str it.s.proc, .int .i64 it.s.x.op, .int .i64 it.s.x.n, .str it.s.x.name, .slice .shared 4 (it.s.x.kids.map cd), .bool it.s.has, .slice .shared 6 (it.s.args.map ey), .slice .shared 13 (it.s.aZ.map bb), .slice .shared 13 (it.s.aR.map bb), .int .i64 it.proc, .int .i64 it.up, .int .i64 it.next, .int .i64 it.loop]:=rfl
  have c3:(dr it)[3]? = some (.str it.s.name):=rfl
  rw[hc,if_neg (by rw[e0];simp),show fw p.aX.L ((c:Int)+1)=it from hc ▸ anR]
  refine bL.uC qK rfl fun B Q hB hQ=>?_
  have⟨hD,hY,hZ,gA⟩:=bQ
  rcases Bool.eq_false_or_eq_true (it.s.name == [])with b|b
  ·repeat' (first
 |simp only[go_sem,hD,hY,hZ,gA,hm,hl,hw,ur,vh,E3,e0,BT,pI,hz,hg,wR,c3,b,cS]
 |(with_reducible refine CU (c1) ?_)
 |(with_reducible first|refine bo fun hc=>?_|refine bp fun hc=>?_|refine bq (fun hc=>?_) fun hc=>?_)<;>(try simp only[hc,bs,↓reduceIte]at h)<;>try simp only[hc]
 |(with_reducible refine aD hQ ?_;(try cases h);simp only[aU,aV,bI,bJ,go_sem,hD,hY,hZ,gA,hm,hl,hw,ur,vh,E3,e0,BT,pI,hz,hg,wR,c3,b,cS];try exact cv)
 | (cases h;done))
   (refine gJ hQ ?_;simp only[aU,aV,bI,bJ,go_sem])
   refine⟨rfl,{y with φ:=y.φ.tail,sd:= .ew 1 so g r.length},⟨_,rfl⟩, ?_⟩
   simp only[b,if_true]
   exact dg.sub fun q mq=>List.mem_cons_of_mem _ mq
  ·obtain⟨k,hk⟩:=hn (by intro e;rw [e]at b;cases b)
   have Kk:=hk.cell tt.top
   obtain⟨j,hj,BU⟩:=hk
   have c2:=Cs dg tt.st tt.len tt.names hj BU
   have hkm:k<m.mem.length:=by
    have hlp:=hp.sq
    rw[tt.st]at hlp
    cases hφ:y.φ.tail with
    |nil=>simp[hφ]at hlp
    |cons o2 φ2=>exact(hp.frame 0 o2 uG (by simp[hφ]) (by rw[tt.st];rfl)).2.2 k (List.mem_of_getElem? BU)
   have hκ:y.κ[k]? = some (y.κ.getD k 0):=by
    rw[List.getD_eq_getElem?_getD,List.getElem?_eq_getElem (by have:=h.len;omega)];rfl
   have iB:=dg.cell k _ _ hκ (List.getElem?_eq_getElem hkm)
   have vO:=dg.Vz hκ xE
   have jk:=(vO.loc (s.ah.length,dr it) (List.mem_cons_self ..)).1
   simp only at iB vO jk c2
   have hb:(it.s.name != [])=true:=by simp[bne,b]
   repeat' (first
 |simp only[go_sem,hD,hY,hZ,gA,hm,hl,hw,ur,vh,E3,e0,BT,pI,hz,hg,wR,c3,b,cS,iB,jk]
 |(with_reducible refine CU (c1) ?_)
 |(with_reducible refine CU (c2) ?_)
 |(with_reducible first|refine bo fun hc=>?_|refine bp fun hc=>?_|refine bq (fun hc=>?_) fun hc=>?_)<;>(try simp only[hc,bs,↓reduceIte]at h)<;>try simp only[hc]
 |(with_reducible refine aD hQ ?_;(try cases h);simp only[aU,aV,bI,bJ,go_sem,hD,hY,hZ,gA,hm,hl,hw,ur,vh,E3,e0,BT,pI,hz,hg,wR,c3,b,cS,iB,jk];try exact cv)
 | (cases h;done))
   (refine gJ hQ ?_;simp only[aU,aV,bI,bJ,go_sem])
   refine⟨rfl,{y with φ:=y.φ.tail,sd:= .ew 1 so g r.length},⟨_,rfl⟩, ?_⟩
   simp only[b,Bool.false_eq_true,if_false,Mc.set,Kk]
   exact vO.sub fun q mq=>List.mem_cons_of_mem _ mq
end
end Go.Abs
namespace Go.Abs
set_option maxRecDepth 8000
open Go.Proofs
section
variable {p:Pg} {T W:List Int} {y:Lay} {m:Mc} {loc:List (Nat×List D)} {s:St}
structure adM (p:Pg) (fr:Fr) (it:Im):Prop where
 said:it.s.nn
 brk:it.s.kind=7→∃ (c:Nat) (it2:Im),it.loop=(c:Int)+1∧p.aX.L[c]? = some it2
 FW:it.s.kind=10→∃ (i:Nat) (f:Pc),it.proc=(i:Int)∧p.procs[i]? = some f
 name:it.s.kind=1∨it.s.kind=2→∃ k,vV fr it.s.name k
 aZ:it.s.aZ.length<1000000
 aR:it.s.aR.length<1000000
structure H9 (p:Pg) (T W:List Int) (m:Mc):Prop where
 W:W.length<1000000
 T:T.length<1000000
 trace:m.trace.length<2000000
 out:m.out.length<2000000
 L:p.aX.L.length<1000000
 P:Pc.aY p.procs<1000000000
 reads:0≤m.reads∧m.reads<2000000
theorem cell_of (h:Inv p T W y m loc s) {fr:Fr} {r:List Fr} (iU:m.st=fr::r) {c j:Nat} (hc:fr.vars[j]? = some c):y.κ[c]? = some (y.κ.getD c 0)∧∃ v,m.mem[c]? = some v∧s.ah[y.κ.getD c 0]? = some [.int .i64 v]:=by
 have gP:=h.sq
 rw[iU]at gP
 cases hφ:y.φ with
 |nil=>simp[hφ]at gP
 | cons o φ=>
  have SA:=(h.frame 0 o fr (by simp[hφ]) (by rw[iU];rfl)).2.2 c (List.mem_of_getElem? hc)
  have hκ:y.κ[c]? = some (y.κ.getD c 0):=by
   rw[List.getD_eq_getElem?_getD,List.getElem?_eq_getElem (by have:=h.len;omega)];rfl
  exact⟨hκ,_,List.getElem?_eq_getElem SA,h.cell c _ _ hκ (List.getElem?_eq_getElem SA)⟩
theorem anS (hp:p.iJ) (VJ:p.may=true) (h:Inv p T W y m loc s) {fr:Fr} {r:List Fr} (ht:mO m fr r) (hz:H9 p T W m) {it:Im} (hd:adM p fr it) :
 bL Tryz.prog qw [.ptr 0 0, .agg (dr it)] s (Rl p T W (.int .i64 (m.do p p.aX.L T W it).1) (m.do p p.aX.L T W it).2 (fun y'=>∃ vd,y' = {y with vd:=vd}) loc):=by
 have h1:=(h.new (dr it)).new (bb it.s)
 simp only[List.length_append,List.length_singleton]at h1
 have z0 : ∀ z:List D,(s.ah++ [z])[s.ah.length]? = some z:=fun z=>by simp
 have z1 : ∀ z:List D,(s.ah++ [dr it]++ [z]).set (s.ah.length+1) (bb it.s)=s.ah++ [dr it]++ [bb it.s]:=fun z=>by simp[List.append_assoc,List.set_append_right]
 have z2 : ∀ a z:List D,(s.ah++ [a]++ [z])[s.ah.length+1]? = some z:=fun a z=>by simp
 have z3 : ∀ a z:List D,(s.ah++ [a]++ [z])[s.ah.length]? = some a:=fun a z=>by simp
 have z4:=h1.jC
 rw[fp]at z4
 have vG:=h1.uH
 simp only at z4 vG
 have cS:(fv p)[2]? = some (.slice .shared 17 (p.aX.L.map dr)):=rfl
 have nz : ∀ q∈loc,q∈(s.ah.length+1,bb it.s)::(s.ah.length,dr it)::loc:=fun q mq=>List.mem_cons_of_mem _ (List.mem_cons_of_mem _ mq)
 generalize hn:s.ah.length=n at *
 have jk : ∀ {y2:Lay} {m2:Mc} {s2:St},Inv p T W y2 m2 ((n+1,bb it.s)::(n,dr it)::loc) s2→s2.ah[n]? = some (dr it)∧s2.ah[n+1]? = some (bb it.s)∧0<s2.ah.length:=fun h2=>
  ⟨(h2.loc (n,dr it) (by simp)).1,(h2.loc (n+1,bb it.s) (by simp)).1,h2.uH⟩
 rcases Bool.eq_false_or_eq_true (it.s.kind==7)with b7|b7
 ·have c1:=vT h1 hz.W hz.trace it.s.id
  obtain⟨c,it2,e1,e2⟩:=hd.brk (by simpa using b7)
  have hw:IntKind.wrap .i64 ((c:Int)+1 - 1)=(c:Int):=by
   have:=(List.getElem?_eq_some_iff.1 e2).1
   have:=hz.L
   rw[show(c:Int)+1 - 1=(c:Int) by omega];exact dU (by omega) (by omega)
  have yD:m.do p p.aX.L T W it=(it2.next,m.event W it.s.id []):=by
   unfold Mc.do
   dsimp only
   rw[if_pos b7,Kj e2 e1]
  rw[yD]
  refine bL.uC gZ rfl fun B Q hB hQ=>?_
  have⟨hD,hY,hZ,gA⟩:=bQ
  repeat' (first
 |simp only[go_sem,hD,hY,hZ,gA,z0,z1,z2,z3,hn,b7]
 |(with_reducible first|refine bo fun hc=>?_|refine bp fun hc=>?_|refine bq (fun hc=>?_) fun hc=>?_)<;>(try simp only[hc,bs,↓reduceIte]at h)<;>try simp only[hc]
 |(with_reducible refine aD hQ ?_;(try cases h);simp only[aU,aV,bI,bJ,go_sem,hD,hY,hZ,gA,z0,z1,z2,z3,hn,b7];try exact cv)
 |(cases h;done))
  refine CR c1 fun d s2 h2=>?_
  obtain⟨rfl,y2,rfl,h2⟩:=h2
  obtain⟨x1,x2,x3⟩:=jk h2
  have jA:=h2.jC
  rw[fp]at jA
  repeat' (first
 |simp only[go_sem,hD,hY,hZ,gA,x1,x2,jA,cS,e1,hw,e2]
 |(with_reducible first|refine bo fun hc=>?_|refine bp fun hc=>?_|refine bq (fun hc=>?_) fun hc=>?_)<;>(try simp only[hc,bs,↓reduceIte]at h)<;>try simp only[hc]
 |(with_reducible refine aD hQ ?_;(try cases h);simp only[aU,aV,bI,bJ,go_sem,hD,hY,hZ,gA,x1,x2,jA,cS,e1,hw,e2];try exact cv)
 |(cases h;done))
  (refine gJ hQ ?_;simp only[aU,aV,bI,bJ,go_sem])
  exact⟨rfl,_,⟨_,rfl⟩,h2.sub nz⟩
 rcases Bool.eq_false_or_eq_true (it.s.kind==8)with b8|b8
 ·have c1:=vT h1 hz.W hz.trace it.s.id
  have yD:m.do p p.aX.L T W it=(it.loop,m.event W it.s.id []):=by
   unfold Mc.do
   dsimp only
   rw[if_neg (by simp[b7]),if_pos b8]
  rw[yD]
  refine bL.uC gZ rfl fun B Q hB hQ=>?_
  have⟨hD,hY,hZ,gA⟩:=bQ
  repeat' (first
 |simp only[go_sem,hD,hY,hZ,gA,z0,z1,z2,z3,hn,b7,b8]
 |(with_reducible first|refine bo fun hc=>?_|refine bp fun hc=>?_|refine bq (fun hc=>?_) fun hc=>?_)<;>(try simp only[hc,bs,↓reduceIte]at h)<;>try simp only[hc]
 |(with_reducible refine aD hQ ?_;(try cases h);simp only[aU,aV,bI,bJ,go_sem,hD,hY,hZ,gA,z0,z1,z2,z3,hn,b7,b8];try exact cv)
 |(cases h;done))
  refine CR c1 fun d s2 h2=>?_
  obtain⟨rfl,y2,rfl,h2⟩:=h2
  obtain⟨x1,x2,x3⟩:=jk h2
  repeat' (first
 |simp only[go_sem,hD,hY,hZ,gA,x1,x2]
 |(with_reducible first|refine bo fun hc=>?_|refine bp fun hc=>?_|refine bq (fun hc=>?_) fun hc=>?_)<;>(try simp only[hc,bs,↓reduceIte]at h)<;>try simp only[hc]
 |(with_reducible refine aD hQ ?_;(try cases h);simp only[aU,aV,bI,bJ,go_sem,hD,hY,hZ,gA,x1,x2];try exact cv)
 |(cases h;done))
  (refine gJ hQ ?_;simp only[aU,aV,bI,bJ,go_sem])
  exact⟨rfl,_,⟨_,rfl⟩,h2.sub nz⟩
 rcases Bool.eq_false_or_eq_true (it.s.kind==10)with tG|tG
 ·have c1:=vT h1 hz.W hz.trace it.s.id
  obtain⟨i,f,e1,e2⟩:=hd.FW (by simpa using tG)
  have cA:=fun s=>adh hp VJ e2 it.s.name s
  have yD:m.do p p.aX.L T W it=((kZ f.fin it.s.name (Sm.db f.body)).1,m.event W it.s.id []):=by
   unfold Mc.do
   dsimp only
   rw[if_neg (by simp[b7]),if_neg (by simp[b8]),if_pos tG,e1,Int.toNat_natCast,e2]
  rw[yD]
  refine bL.uC gZ rfl fun B Q hB hQ=>?_
  have⟨hD,hY,hZ,gA⟩:=bQ
  repeat' (first
 |simp only[go_sem,hD,hY,hZ,gA,z0,z1,z2,z3,hn,b7,b8,tG]
 |(with_reducible first|refine bo fun hc=>?_|refine bp fun hc=>?_|refine bq (fun hc=>?_) fun hc=>?_)<;>(try simp only[hc,bs,↓reduceIte]at h)<;>try simp only[hc]
 |(with_reducible refine aD hQ ?_;(try cases h);simp only[aU,aV,bI,bJ,go_sem,hD,hY,hZ,gA,z0,z1,z2,z3,hn,b7,b8,tG];try exact cv)
 |(cases h;done))
  refine CR c1 fun d s2 h2=>?_
  obtain⟨rfl,y2,rfl,h2⟩:=h2
  obtain⟨x1,x2,x3⟩:=jk h2
  have jA:=h2.jC
  rw[fp]at jA
  repeat' (first
 |simp only[go_sem,hD,hY,hZ,gA,x1,x2,jA,e1]
 |(with_reducible refine CU (cA _) ?_)
 |(with_reducible first|refine bo fun hc=>?_|refine bp fun hc=>?_|refine bq (fun hc=>?_) fun hc=>?_)<;>(try simp only[hc,bs,↓reduceIte]at h)<;>try simp only[hc]
 |(with_reducible refine aD hQ ?_;(try cases h);simp only[aU,aV,bI,bJ,go_sem,hD,hY,hZ,gA,x1,x2,jA,e1];try exact cv)
 |(cases h;done))
  (refine gJ hQ ?_;simp only[aU,aV,bI,bJ,go_sem])
  exact⟨rfl,_,⟨_,rfl⟩,h2.sub nz⟩
 rcases Bool.eq_false_or_eq_true (it.s.kind==2)with b2|b2
 ·obtain⟨k,hk⟩:=hd.name (.inr (by simpa using b2))
  have ju:=hz.reads
  have hTl:=hz.T
  have Gk:=ju.1
  have av5 : ∀ r,((s.ah++ [dr it]++ [bb it.s]).set 0 r)[0]? = some r:=fun r=>List.getElem?_set_self vG
  cases e:T[m.reads.toNat]? with
  | none=>
   have ux:decide (m.reads≥(T.length:Int))=true:=by have:=List.getElem?_eq_none_iff.1 e;simp;omega
   have yD:m.do p p.aX.L T W it=(-1,{m with fin:=3}):=by
    unfold Mc.do
    dsimp only
    rw[if_neg (by simp[b7]),if_neg (by simp[b8]),if_neg (by simp[tG]),if_pos b2,e]
   rw[yD]
   have h2:=h1.tR (m':= {m with fin:=3}) rfl rfl h1.t0 h1.t1
   rw[fp]at h2
   simp only at h2
   refine bL.uC gZ rfl fun B Q hB hQ=>?_
   have⟨hD,hY,hZ,gA⟩:=bQ
   repeat' (first
 |simp only[go_sem,hD,hY,hZ,gA,z0,z1,z2,z3,z4,hn,b7,b8,tG,b2,ux,vG]
 |(with_reducible first|refine bo fun hc=>?_|refine bp fun hc=>?_|refine bq (fun hc=>?_) fun hc=>?_)<;>(try simp only[hc,bs,↓reduceIte]at h)<;>try simp only[hc]
 |(with_reducible refine aD hQ ?_;(try cases h);simp only[aU,aV,bI,bJ,go_sem,hD,hY,hZ,gA,z0,z1,z2,z3,z4,hn,b7,b8,tG,b2,ux,vG];try exact cv)
 | (cases h;done))
   (refine gJ hQ ?_;simp only[aU,aV,bI,bJ,go_sem])
   exact⟨rfl,_,⟨_,rfl⟩,h2.sub nz⟩
  | some v=>
   have ux:decide (m.reads≥(T.length:Int))=false:=by have:=(List.getElem?_eq_some_iff.1 e).1;simp;omega
   have E4:IntKind.wrap .i64 (m.reads+1)=m.reads+1:=dU (by omega) (by omega)
   have Kk:=hk.cell ht.top
   obtain⟨j,hj,BU⟩:=hk
   have yD:m.do p p.aX.L T W it=(it.next,(({m with reads:=m.reads+1,mem:=m.mem.set k v} : Mc).event W it.s.id [v])):=by
    unfold Mc.do
    dsimp only
    rw[if_neg (by simp[b7]),if_neg (by simp[b8]),if_neg (by simp[tG]),if_pos b2,e]
    have:({m with reads:=m.reads+1} : Mc).cell it.s.name=k:=Kk
    simp only[Mc.set,this]
   rw[yD]
   have h2:=h1.tR (m':= {m with reads:=m.reads+1}) rfl rfl h1.t0 h1.t1
   have tt:mO ({m with reads:=m.reads+1} : Mc) fr r:=⟨ht.st,ht.len,ht.names,ht.vars⟩
   have c2:=Cs h2 tt.st tt.len tt.names hj BU
   obtain⟨hκ,v0,g1,g2⟩:=cell_of h2 tt.st BU
   have h3:=h2.Vz hκ v
   have c3:=DN h3 hz.W hz.trace it.s.id v
   obtain⟨x1,x2,x3⟩:=jk h3
   obtain⟨x4,x5,x6⟩:=jk h2
   rw[fp]at c2 g2 c3 x1 x2 x4 x5
   simp only at c2 g2 c3 x1 x2 x4 x5
   refine bL.uC gZ rfl fun B Q hB hQ=>?_
   have⟨hD,hY,hZ,gA⟩:=bQ
   repeat' (first
 |simp only[go_sem,hD,hY,hZ,gA,z0,z1,z2,z3,z4,hn,b7,b8,tG,b2,ux,vG,e,E4,Gk,x1,x2,x4,x5,g2]
 |(with_reducible refine CU (c2) ?_)
 |(with_reducible first|refine bo fun hc=>?_|refine bp fun hc=>?_|refine bq (fun hc=>?_) fun hc=>?_)<;>(try simp only[hc,bs,↓reduceIte]at h)<;>try simp only[hc]
 |(with_reducible refine aD hQ ?_;(try cases h);simp only[aU,aV,bI,bJ,go_sem,hD,hY,hZ,gA,z0,z1,z2,z3,z4,hn,b7,b8,tG,b2,ux,vG,e,E4,Gk,x1,x2,x4,x5,g2];try exact cv)
 | (cases h;done))
   refine CR c3 fun d s2 h4=>?_
   obtain⟨rfl,y2,rfl,h4⟩:=h4
   obtain⟨x1,x2,x3⟩:=jk h4
   repeat' (first
 |simp only[go_sem,hD,hY,hZ,gA,x1,x2]
 |(with_reducible first|refine bo fun hc=>?_|refine bp fun hc=>?_|refine bq (fun hc=>?_) fun hc=>?_)<;>(try simp only[hc,bs,↓reduceIte]at h)<;>try simp only[hc]
 |(with_reducible refine aD hQ ?_;(try cases h);simp only[aU,aV,bI,bJ,go_sem,hD,hY,hZ,gA,x1,x2];try exact cv)
 | (cases h;done))
   (refine gJ hQ ?_;simp only[aU,aV,bI,bJ,go_sem])
   exact⟨rfl,_,⟨_,rfl⟩,h4.sub nz⟩
 -- an expression is reckoned
 have hx:it.s.x.size<1000000:=by have:=hd.said.2.2;omega
 have c1:=DM h1 ht hx hd.said.1
 rcases Bool.eq_false_or_eq_true (m.bB it.s.x).1.2 with bw|bw
 case inr=>
  have yD:m.do p p.aX.L T W it=(-1,(m.bB it.s.x).2):=by
   unfold Mc.do
   dsimp only
   rw[if_neg (by simp[b7]),if_neg (by simp[b8]),if_neg (by simp[tG]),if_neg (by simp[b2]),if_neg (by simp[bw])]
  rw[yD]
  refine bL.uC gZ rfl fun B Q hB hQ=>?_
  have⟨hD,hY,hZ,gA⟩:=bQ
  repeat' (first
 |simp only[go_sem,hD,hY,hZ,gA,z0,z1,z2,z3,hn,b7,b8,tG,b2]
 |(with_reducible first|refine bo fun hc=>?_|refine bp fun hc=>?_|refine bq (fun hc=>?_) fun hc=>?_)<;>(try simp only[hc,bs,↓reduceIte]at h)<;>try simp only[hc]
 |(with_reducible refine aD hQ ?_;(try cases h);simp only[aU,aV,bI,bJ,go_sem,hD,hY,hZ,gA,z0,z1,z2,z3,hn,b7,b8,tG,b2];try exact cv)
 |(cases h;done))
  refine CR c1 fun d s2 h2=>?_
  obtain⟨⟨rfl,y2,vU,h2⟩,_⟩:=h2
  repeat' (first
 |simp only[go_sem,hD,hY,hZ,gA,bw]
 |(with_reducible first|refine bo fun hc=>?_|refine bp fun hc=>?_|refine bq (fun hc=>?_) fun hc=>?_)<;>(try simp only[hc,bs,↓reduceIte]at h)<;>try simp only[hc]
 |(with_reducible refine aD hQ ?_;(try cases h);simp only[aU,aV,bI,bJ,go_sem,hD,hY,hZ,gA,bw];try exact cv)
 |(cases h;done))
  (refine gJ hQ ?_;simp only[aU,aV,bI,bJ,go_sem])
  exact⟨rfl,y2,⟨_,vU⟩,h2.sub nz⟩
 have SD:(m.bB it.s.x).2=m:=by
  unfold Mc.bB
  dsimp only
  rw[if_pos (show(it.s.x.bB m.top.names m.bW).2=true from bw)]
 have yD:m.do p p.aX.L T W it=(let m1:=m.event W it.s.id [(m.bB it.s.x).1.1];let n:=(m.bB it.s.x).1.1
  if it.s.kind==1 then(it.next,m1.set it.s.name n)else if it.s.kind==3 then(it.next,{m1 with out:=m1.out++ [n]})
  else if it.s.kind==5 then(if n==0 then firstM it.s.aR it.next else firstM it.s.aZ it.next,m1)else if it.s.kind==6 then(if n==0 then it.next else firstM it.s.aZ it.s.id,m1)else(it.next,m1)):=by
  unfold Mc.do
  dsimp only
  rw[if_neg (by simp[b7]),if_neg (by simp[b8]),if_neg (by simp[tG]),if_neg (by simp[b2]),if_pos bw,SD]
 rw[yD]
 rw[SD]at c1
 generalize hR:(m.bB it.s.x).1=R at *
 obtain⟨v,ok⟩:=R
 subst bw
 dsimp only
 have he:=eU W m it.s.id [v]
 have SE:mO (m.event W it.s.id [v]) fr r:=⟨by rw[he.1];exact ht.st,ht.len,ht.names,ht.vars⟩
 have nb:(v != 0) = !(v==0):=rfl
 have fT:=fun o s=>Mg it.s.aZ (by have:=hd.aZ;omega) o s
 have fE:=fun o s=>Mg it.s.aR (by have:=hd.aR;omega) o s
 refine bL.uC gZ rfl fun B Q hB hQ=>?_
 have⟨hD,hY,hZ,gA⟩:=bQ
 repeat' (first
 |simp only[go_sem,hD,hY,hZ,gA,z0,z1,z2,z3,hn,b7,b8,tG,b2]
 |(with_reducible first|refine bo fun hc=>?_|refine bp fun hc=>?_|refine bq (fun hc=>?_) fun hc=>?_)<;>(try simp only[hc,bs,↓reduceIte]at h)<;>try simp only[hc]
 |(with_reducible refine aD hQ ?_;(try cases h);simp only[aU,aV,bI,bJ,go_sem,hD,hY,hZ,gA,z0,z1,z2,z3,hn,b7,b8,tG,b2];try exact cv)
 |(cases h;done))
 refine CR c1 fun d s2 h2=>?_
 obtain⟨⟨rfl,y2,vU,h2⟩,_⟩:=h2
 obtain⟨x1,x2,x3⟩:=jk h2
 have c2:=DN h2 hz.W hz.trace it.s.id v
 repeat' (first
 |simp only[go_sem,hD,hY,hZ,gA,x1,x2]
 |(with_reducible first|refine bo fun hc=>?_|refine bp fun hc=>?_|refine bq (fun hc=>?_) fun hc=>?_)<;>(try simp only[hc,bs,↓reduceIte]at h)<;>try simp only[hc]
 |(with_reducible refine aD hQ ?_;(try cases h);simp only[aU,aV,bI,bJ,go_sem,hD,hY,hZ,gA,x1,x2];try exact cv)
 |(cases h;done))
 refine CR c2 fun d s3 h3=>?_
 obtain⟨rfl,y3,rfl,h3⟩:=h3
 obtain⟨x1,x2,x3⟩:=jk h3
 have oe:=h3.jC
 rw[fp]at oe
 rcases Bool.eq_false_or_eq_true (it.s.kind==1)with b1|b1
 ·obtain⟨k,hk⟩:=hd.name (.inl (by simpa using b1))
  have Kk:=hk.cell SE.top
  obtain⟨j,hj,BU⟩:=hk
  have c3:=Cs h3 SE.st SE.len SE.names hj BU
  obtain⟨hκ,v0,g1,g2⟩:=cell_of h3 SE.st BU
  have h4:=h3.Vz hκ v
  obtain⟨x4,x5,x6⟩:=jk h4
  simp only at x4 x5
  repeat' (first
 |simp only[go_sem,hD,hY,hZ,gA,x1,x2,b1,g2,x4,x5]
 |(with_reducible refine CU (c3) ?_)
 |(with_reducible first|refine bo fun hc=>?_|refine bp fun hc=>?_|refine bq (fun hc=>?_) fun hc=>?_)<;>(try simp only[hc,bs,↓reduceIte]at h)<;>try simp only[hc]
 |(with_reducible refine aD hQ ?_;(try cases h);simp only[aU,aV,bI,bJ,go_sem,hD,hY,hZ,gA,x1,x2,b1,g2,x4,x5];try exact cv)
 |(cases h;done))
  (refine gJ hQ ?_;simp only[aU,aV,bI,bJ,go_sem])
  rw[if_pos b1]
  refine⟨rfl,y3,⟨_,vU⟩, ?_⟩
  simp only[Mc.set,Kk]
  exact h4.sub nz
 rw[if_neg (by simp[b1])]at hQ
 rcases Bool.eq_false_or_eq_true (it.s.kind==3)with b3|b3
 ·rw [if_pos b3]at hQ
  have eO:ik 1 8 (.slice (.tok 0) 1 ((m.event W it.s.id [v]).out.map cm)) (.slice .full 1 [[.int .i64 v]]) s3=some (.slice (.tok 0) 1 (((m.event W it.s.id [v]).out++ [v]).map cm),⟨s3.ah,s3.aw.set 0 (some ((m.event W it.s.id [v]).out.length+1))⟩):=by
   rw[nR (size:=1) (by simp only[List.length_map,List.length_singleton,he.2.2.2.2.2];have:=hz.out;unfold bC;omega) (by simpa using h3.t0)]
   simp[cm]
  have h4:=h3.tR (m':= {m.event W it.s.id [v]with out:=(m.event W it.s.id [v]).out++ [v]}) (ts:=s3.aw.set 0 (some ((m.event W it.s.id [v]).out.length+1))) rfl rfl (by simp[(List.getElem?_eq_some_iff.1 h3.t0).1]) (by rw[List.getElem?_set_ne (by omega)];exact h3.t1)
  obtain⟨x4,x5,x6⟩:=jk h4
  rw[fp]at h4 x4 x5
  simp only[List.map_append,List.map_cons,List.map_nil,cm]at h4 x4 x5 eO
  repeat' (first
 |simp only[go_sem,hD,hY,hZ,gA,x1,x2,b1,b3,oe,eO,x3,x4,x5]
 |(with_reducible first|refine bo fun hc=>?_|refine bp fun hc=>?_|refine bq (fun hc=>?_) fun hc=>?_)<;>(try simp only[hc,bs,↓reduceIte]at h)<;>try simp only[hc]
 |(with_reducible refine aD hQ ?_;(try cases h);simp only[aU,aV,bI,bJ,go_sem,hD,hY,hZ,gA,x1,x2,b1,b3,oe,eO,x3,x4,x5];try exact cv)
 |(cases h;done))
  (refine gJ hQ ?_;simp only[aU,aV,bI,bJ,go_sem])
  exact⟨rfl,y3,⟨_,vU⟩,h4.sub nz⟩
 rw[if_neg (by simp[b3])]at hQ
 rcases Bool.eq_false_or_eq_true (it.s.kind==5)with b5|b5
 ·rw [if_pos b5]at hQ
  rcases Bool.eq_false_or_eq_true (v==0)with bv|bv
  ·rw [if_pos bv]at hQ
   repeat' (first
 |simp only[go_sem,hD,hY,hZ,gA,x1,x2,b1,b3,b5,nb,bv]
 |(with_reducible refine CU (fT _ _) ?_)
 |(with_reducible refine CU (fE _ _) ?_)
 |(with_reducible first|refine bo fun hc=>?_|refine bp fun hc=>?_|refine bq (fun hc=>?_) fun hc=>?_)<;>(try simp only[hc,bs,↓reduceIte]at h)<;>try simp only[hc]
 |(with_reducible refine aD hQ ?_;(try cases h);simp only[aU,aV,bI,bJ,go_sem,hD,hY,hZ,gA,x1,x2,b1,b3,b5,nb,bv];try exact cv)
 | (cases h;done))
   (refine gJ hQ ?_;simp only[aU,aV,bI,bJ,go_sem])
   exact⟨rfl,y3,⟨_,vU⟩,h3.sub nz⟩
  ·rw [if_neg (by simp [bv])]at hQ
   repeat' (first
 |simp only[go_sem,hD,hY,hZ,gA,x1,x2,b1,b3,b5,nb,bv]
 |(with_reducible refine CU (fT _ _) ?_)
 |(with_reducible refine CU (fE _ _) ?_)
 |(with_reducible first|refine bo fun hc=>?_|refine bp fun hc=>?_|refine bq (fun hc=>?_) fun hc=>?_)<;>(try simp only[hc,bs,↓reduceIte]at h)<;>try simp only[hc]
 |(with_reducible refine aD hQ ?_;(try cases h);simp only[aU,aV,bI,bJ,go_sem,hD,hY,hZ,gA,x1,x2,b1,b3,b5,nb,bv];try exact cv)
 | (cases h;done))
   (refine gJ hQ ?_;simp only[aU,aV,bI,bJ,go_sem])
   exact⟨rfl,y3,⟨_,vU⟩,h3.sub nz⟩
 rw[if_neg (by simp[b5])]at hQ
 rcases Bool.eq_false_or_eq_true (it.s.kind==6)with b6|b6
 ·rw [if_pos b6]at hQ
  rcases Bool.eq_false_or_eq_true (v==0)with bv|bv
  ·rw [if_pos bv]at hQ
   repeat' (first
 |simp only[go_sem,hD,hY,hZ,gA,x1,x2,b1,b3,b5,b6,nb,bv]
 |(with_reducible refine CU (fT _ _) ?_)
 |(with_reducible refine CU (fE _ _) ?_)
 |(with_reducible first|refine bo fun hc=>?_|refine bp fun hc=>?_|refine bq (fun hc=>?_) fun hc=>?_)<;>(try simp only[hc,bs,↓reduceIte]at h)<;>try simp only[hc]
 |(with_reducible refine aD hQ ?_;(try cases h);simp only[aU,aV,bI,bJ,go_sem,hD,hY,hZ,gA,x1,x2,b1,b3,b5,b6,nb,bv];try exact cv)
 | (cases h;done))
   (refine gJ hQ ?_;simp only[aU,aV,bI,bJ,go_sem])
   exact⟨rfl,y3,⟨_,vU⟩,h3.sub nz⟩
  ·rw [if_neg (by simp [bv])]at hQ
   repeat' (first
 |simp only[go_sem,hD,hY,hZ,gA,x1,x2,b1,b3,b5,b6,nb,bv]
 |(with_reducible refine CU (fT _ _) ?_)
 |(with_reducible refine CU (fE _ _) ?_)
 |(with_reducible first|refine bo fun hc=>?_|refine bp fun hc=>?_|refine bq (fun hc=>?_) fun hc=>?_)<;>(try simp only[hc,bs,↓reduceIte]at h)<;>try simp only[hc]
 |(with_reducible refine aD hQ ?_;(try cases h);simp only[aU,aV,bI,bJ,go_sem,hD,hY,hZ,gA,x1,x2,b1,b3,b5,b6,nb,bv];try exact cv)
 | (cases h;done))
   (refine gJ hQ ?_;simp only[aU,aV,bI,bJ,go_sem])
   exact⟨rfl,y3,⟨_,vU⟩,h3.sub nz⟩
 rw[if_neg (by simp[b6])]at hQ
 repeat' (first
 |simp only[go_sem,hD,hY,hZ,gA,x1,x2,b1,b3,b5,b6]
 |(with_reducible first|refine bo fun hc=>?_|refine bp fun hc=>?_|refine bq (fun hc=>?_) fun hc=>?_)<;>(try simp only[hc,bs,↓reduceIte]at h)<;>try simp only[hc]
 |(with_reducible refine aD hQ ?_;(try cases h);simp only[aU,aV,bI,bJ,go_sem,hD,hY,hZ,gA,x1,x2,b1,b3,b5,b6];try exact cv)
 |(cases h;done))
 (refine gJ hQ ?_;simp only[aU,aV,bI,bJ,go_sem])
 exact⟨rfl,y3,⟨_,vU⟩,h3.sub nz⟩
end
end Go.Abs
namespace Go.Abs
set_option maxRecDepth 8000
open Go.Proofs
section
variable {p:Pg} {T W:List Int} {y:Lay} {m:Mc} {loc:List (Nat×List D)} {s:St}
theorem zU : ∀ (l:List Ar) (m:Mc) (out:List Nat),(Mc.args l m out).2.out=m.out∧(Mc.args l m out).2.trace=m.trace
 | [],m,out=>⟨rfl,rfl⟩
 | a::l,m,out=>by
  have hw:=gE m a.x
  simp only[Mc.args]
  by_cases c:a.ref=true
  ·rw[if_pos c];exact zU l m _
  ·rw [if_neg c]
   by_cases c2:(m.bB a.x).1.2=true
   ·rw [if_pos c2]
    obtain⟨h1,h2⟩:=zU l {(m.bB a.x).2 with mem:=(m.bB a.x).2.mem++ [(m.bB a.x).1.1]} (out++ [(m.bB a.x).2.mem.length])
    exact⟨h1.trans hw.2.2.2.2.1,h2.trans hw.2.2.2.2.2⟩
   ·rw[if_neg c2];exact⟨hw.2.2.2.2.1,hw.2.2.2.2.2⟩
structure SF (p:Pg) (fr:Fr) (v:Sm):Prop where
 said:v.nn
 args : ∀ a∈v.args,a.x.texts∧a.x.size<1000000∧(a.ref=true→∃ k,vV fr a.name k)
 proc : ∃ (j:Nat) (q:Pc),p.at v.proc=(j:Int)∧p.procs[j]? = some q∧p.find q.name=some q
theorem SG (hp:p.iJ) (VJ:p.may=true) (h:Inv p T W y m loc s) {fr:Fr} {r:List Fr} (ht:mO m fr r) (hz:H9 p T W m) (hg:p.globals.length≤m.mem.length) {v:Sm} (hd:SF p fr v) :
 bL Tryz.prog oX [.ptr 0 0, .agg (bb v)] s (Rl p T W (.int .i64 (m.call p W v).1) (m.call p W v).2 (fun _=>True) loc):=by
 have h1:=h.new (bb v)
 have IB:2≤s.aw.length:=by have:=(List.getElem?_eq_some_iff.1 h.t1).1;omega
 generalize hn:s.ah.length=n at h1
 generalize LB:s.aw.length=tk at IB
 have yc:v.args.length<1000000:=by have:=hd.said.2.2;have:=Ar.eB v.args;omega
 have av6:=ht.st
 refine bL.uC zj rfl fun B Q hB hQ=>?_
 have⟨hD,hY,hZ,gA⟩:=bQ
 have loop : ∀ (rest:List Ar) (k:Nat) (m1:Mc) (out:List Nat) (y1:Lay) (s1:St),v.args.drop k=rest→Mc.args v.args m [] = Mc.args rest m1 out→m1.st=m.st→m1.trace=m.trace∧m1.out=m.out→m.mem.length≤m1.mem.length→out.length=k∧k≤v.args.length→(∀ c∈out,c<m1.mem.length)→
  Inv p T W y1 m1 ((n,bb v)::loc) s1→s1.aw[tk]? = some (some out.length)→
  bl Tryz.prog B 67 QD6 (kA 0 (nN (jZ Tryz.prog B 67 QDL Q) Q))
   [(0, .ptr 0 0),(3, .ptr n 0),(5, .slice (.tok tk) 1 (out.map fun c=>fh (y1.κ.getD c 0))),(12, .slice .shared 6 (v.args.map ey)),(13, .int .i64 (v.args.length:Int)),(14, .int .i64 (k:Int))] s1:=by
  intro rest
  induction rest with
  | nil=>
   intro k m1 out y1 s1 GV np vg A3 vG wc pD h2 VK
   have hD:=drop_nil GV
   have wJ:mO m1 fr r:=⟨by rw[vg];exact ht.st,ht.len,ht.names,ht.vars⟩
   obtain⟨so,g,cells,o,e1,e2,e3,e4,e5⟩:=h2.VD wJ.st
   have jA:=h2.jC
   rw[fp,e1]at jA
   have tF:=(h2.loc (n,bb v) (by simp)).1
   have iW:=h2.uH
   have Gn:m.call p W v=if m1.st.length > 100 then(-1,{m1 with fin:=5})else(m1.event W v.id []).open p (p.at v.proc) out v.id:=by
    unfold Mc.call
    rw[np]
    rfl
   have hlen:m1.st.length=r.length+1:=by rw[wJ.st];rfl
   rw[Gn,hlen]at hQ
   simp only at tF
   refine bl.kQ ?_
   by_cases U0:r.length+1 > 100
   ·have E5:decide (((r.length+1:Nat):Int) > 100)=true:=by simp;omega
    rw[if_pos U0]at hQ
    have h3:=h2.tR (m':= {m1 with fin:=5}) rfl rfl h2.t0 h2.t1
    rw[fp,e1]at h3
    simp only at h3
    repeat' (first
 |simp only[go_sem,hD,hY,hZ,gA,jA,tF,E5,iW]
 |(with_reducible first|refine bo fun hc=>?_|refine bp fun hc=>?_|refine bq (fun hc=>?_) fun hc=>?_)<;>(try simp only[hc,bs,↓reduceIte]at h)<;>try simp only[hc]
 |(with_reducible refine aD hQ ?_;(try cases h);simp only[aU,aV,bI,bJ,go_sem,hD,hY,hZ,gA,jA,tF,E5,iW];try exact cv)
 | (cases h;done))
    (refine gJ hQ ?_;simp only[aU,aV,bI,bJ,go_sem])
    exact⟨rfl,y1,trivial,h3.sub fun q mq=>List.mem_cons_of_mem _ mq⟩
   ·have E5:decide (((r.length+1:Nat):Int) > 100)=false:=by simp;omega
    rw[if_neg U0]at hQ
    have c1:=vT h2 hz.W (by rw[A3.1];exact hz.trace) v.id
    repeat' (first
 |simp only[go_sem,hD,hY,hZ,gA,jA,tF,E5,iW]
 |(with_reducible first|refine bo fun hc=>?_|refine bp fun hc=>?_|refine bq (fun hc=>?_) fun hc=>?_)<;>(try simp only[hc,bs,↓reduceIte]at h)<;>try simp only[hc]
 |(with_reducible refine aD hQ ?_;(try cases h);simp only[aU,aV,bI,bJ,go_sem,hD,hY,hZ,gA,jA,tF,E5,iW];try exact cv)
 | (cases h;done))
    refine CR c1 fun d s3 h3=>?_
    obtain⟨rfl,y3,rfl,h3⟩:=h3
    have he:=eU W m1 v.id []
    obtain⟨j,q,j1,j2,j3⟩:=hd.proc
    obtain⟨y4,s4,hF,h4⟩:=Mi h3 hp VJ j2 j3 (by rw[he.1,hlen];have:=ht.len;omega) (l:=out) (by rw[he.2.1];exact pD) (by omega) (by rw[he.2.1];omega) v.id
    have hF':=fun g:Tag=>bL.q8 (.cons (Wk.refl _) (.cons (Wk.refl _) (.cons (Wk.shared g 1 _) (jq.refl _)))) hF
    have hF2:aF Tryz.prog jj [.ptr 0 0, .int .i64 (j:Int), .slice (.tok tk) 1 (out.map fun c=>fh (y3.κ.getD c 0)), .int .i64 v.id] s3 _ s4:=hF' _
    have cP:=fun s=>Ey (p:=p) (by have:=hp.procs.1;omega) v.proc s
    have oe:=h3.jC
    rw[fp]at oe
    have hx3:=(h3.loc (n,bb v) (by simp)).1
    simp only at hx3
    rw[j1]at hQ cP
    repeat' (first
 |simp only[go_sem,hD,hY,hZ,gA,oe,hx3]
 |(with_reducible refine CU (cP _) ?_)
 |(with_reducible refine CU (hF2) ?_)
 |(with_reducible first|refine bo fun hc=>?_|refine bp fun hc=>?_|refine bq (fun hc=>?_) fun hc=>?_)<;>(try simp only[hc,bs,↓reduceIte]at h)<;>try simp only[hc]
 |(with_reducible refine aD hQ ?_;(try cases h);simp only[aU,aV,bI,bJ,go_sem,hD,hY,hZ,gA,oe,hx3];try exact cv)
 | (cases h;done))
    (refine gJ hQ ?_;simp only[aU,aV,bI,bJ,go_sem])
    exact⟨rfl,y4,trivial,h4.sub fun q mq=>List.mem_cons_of_mem _ mq⟩
  | cons a rest ih=>
   intro k m1 out y1 s1 GV np vg A3 vG wc pD h2 VK
   obtain⟨hY,g2,hD,g4⟩:=drop_cons GV
   have bN:k<4611686018427387904:=by omega
   obtain⟨a1,a2,a3⟩:=hd.args a (List.mem_of_getElem? hY)
   have wJ:mO m1 fr r:=⟨by rw[vg];exact ht.st,ht.len,ht.names,ht.vars⟩
   have h3:=h2.new (ey a)
   have zq : ∀ z:List D,(s1.ah++ [z]).set s1.ah.length (ey a)=s1.ah++ [ey a]:=fun z=>by simp
   have zg : ∀ z:List D,(s1.ah++ [z])[s1.ah.length]? = some z:=fun z=>by simp
   have eO : ∀ (x:Nat) (os:List (List D)),ik 1 8 (.slice (.tok tk) 1 (out.map fun c=>fh (y1.κ.getD c 0))) (.slice .full 1 [[.ptr x 0]]) ⟨os,s1.aw⟩=some (.slice (.tok tk) 1 ((out.map fun c=>fh (y1.κ.getD c 0))++ [fh x]),⟨os,s1.aw.set tk (some (out.length+1))⟩):=fun x os=>by
    rw[nR (size:=1) (by simp only[List.length_map,List.length_singleton];unfold bC;omega) (by simpa using VK)]
    simp[fh]
   have DP : ∀ k':Nat,(s1.aw.set tk (some k'))[0]? = s1.aw[0]? ∧(s1.aw.set tk (some k'))[1]? = s1.aw[1]? ∧(s1.aw.set tk (some k'))[tk]? = some (some k'):=fun k'=>
    ⟨List.getElem?_set_ne (by omega),List.getElem?_set_ne (by omega),by simp[(List.getElem?_eq_some_iff.1 VK).1]⟩
   refine bl.kQ ?_
   rcases Bool.eq_false_or_eq_true a.ref with b|b
   ·obtain⟨c,hc⟩:=a3 b
    have Kk:=hc.cell wJ.top
    obtain⟨j,hj,BU⟩:=hc
    have c1:=Cs h3 wJ.st wJ.len wJ.names hj BU
    obtain⟨hκ,v0,gm,_⟩:=cell_of h2 wJ.st BU
    have Ac:=(List.getElem?_eq_some_iff.1 gm).1
    repeat' (first
 |simp only[go_sem,hD,hY,hZ,gA,hY,zq,zg,b,eO]
 |(with_reducible refine CU (c1) ?_)
 |(with_reducible first|refine bo fun hc=>?_|refine bp fun hc=>?_|refine bq (fun hc=>?_) fun hc=>?_)<;>(try simp only[hc,bs,↓reduceIte]at h)<;>try simp only[hc]
 |(with_reducible refine aD hQ ?_;(try cases h);simp only[aU,aV,bI,bJ,go_sem,hD,hY,hZ,gA,hY,zq,zg,b,eO];try exact cv)
 | (cases h;done))
    have:=ih (k+1) m1 (out++ [c]) y1 ⟨s1.ah++ [ey a],s1.aw.set tk (some (out.length+1))⟩ g2 (by rw[np];simp only[Mc.args,b,if_true,Kk]) vg A3 vG ⟨by simp[wc.1],g4⟩ (fun x mx=>by
     rcases List.mem_append.1 mx with mx|mx
     ·exact pD x mx
     ·rw[List.mem_singleton.1 mx];exact Ac) ((h3.sub fun q mq=>List.mem_cons_of_mem _ mq).keep (fun _ _ e=>e) (DP _).1 (DP _).2.1) (by simpa using (DP _).2.2)
    refine bl.pG ?_ this
    simp only[go_sem,aI bN,List.map_append,List.map_cons,List.map_nil]
    repeat' (first|exact Ok.out|with_reducible refine iY ?_ ?_)
   ·have c1:=DM h3 wJ a2 a1
    repeat' (first
 |simp only[go_sem,hD,hY,hZ,gA,hY,zq,zg,b]
 |(with_reducible first|refine bo fun hc=>?_|refine bp fun hc=>?_|refine bq (fun hc=>?_) fun hc=>?_)<;>(try simp only[hc,bs,↓reduceIte]at h)<;>try simp only[hc]
 |(with_reducible refine aD hQ ?_;(try cases h);simp only[aU,aV,bI,bJ,go_sem,hD,hY,hZ,gA,hY,zq,zg,b];try exact cv)
 | (cases h;done))
    refine CR c1 fun d s2 h4=>?_
    obtain⟨⟨rfl,y2,vU,h4⟩,vq⟩:=h4
    have hw:=gE m1 a.x
    simp only at vq
    rcases Bool.eq_false_or_eq_true (m1.bB a.x).1.2 with bw|bw
    ·have SD:(m1.bB a.x).2=m1:=by
      unfold Mc.bB
      dsimp only
      rw[if_pos (show(a.x.bB m1.top.names m1.bW).2=true from bw)]
     rw[SD]at h4
     have yq : ∀ z:List D,(s2.ah++ [z]).set s2.ah.length [.int .i64 (m1.bB a.x).1.1] = s2.ah++ [[.int .i64 (m1.bB a.x).1.1]]:=fun z=>by simp
     have yg : ∀ z:List D,(s2.ah++ [z])[s2.ah.length]? = some z:=fun z=>by simp
     rw[← vq]at eO DP
     have h5:=h4.anN (m1.bB a.x).1.1 (by omega)
     have hyκ:y2.κ=y1.κ:=by rw[vU]
     have ahk:y1.κ.length=m1.mem.length:=h2.len
     repeat' (first
 |simp only[go_sem,hD,hY,hZ,gA,bw,yq,yg,eO]
 |(with_reducible first|refine bo fun hc=>?_|refine bp fun hc=>?_|refine bq (fun hc=>?_) fun hc=>?_)<;>(try simp only[hc,bs,↓reduceIte]at h)<;>try simp only[hc]
 |(with_reducible refine aD hQ ?_;(try cases h);simp only[aU,aV,bI,bJ,go_sem,hD,hY,hZ,gA,bw,yq,yg,eO];try exact cv)
 | (cases h;done))
     have:=ih (k+1) {m1 with mem:=m1.mem++ [(m1.bB a.x).1.1]} (out++ [m1.mem.length]) {y2 with κ:=y2.κ++ [s2.ah.length]} ⟨s2.ah++ [[.int .i64 (m1.bB a.x).1.1]],s2.aw.set tk (some (out.length+1))⟩ g2
      (by rw [np];simp only [Mc.args,b,Bool.false_eq_true,if_false,bw,if_true,SD]) vg A3 (by simp;omega) ⟨by simp [wc.1],g4⟩ (fun x mx=>by
       simp only[List.length_append,List.length_singleton]
       rcases List.mem_append.1 mx with mx|mx
       ·have:=pD x mx;omega
       ·rw[List.mem_singleton.1 mx];omega) ((h5.sub fun q mq=>List.mem_cons_of_mem _ mq).keep (fun _ _ e=>e) (DP _).1 (DP _).2.1) (by simpa using (DP _).2.2)
     refine bl.pG ?_ this
     have anV:(out.map fun c=>fh ((y2.κ++ [s2.ah.length]).getD c 0))=out.map fun c=>fh (y1.κ.getD c 0):=List.map_congr_left fun c mc=>by rw[hyκ,DO (by have:=pD c mc;omega)]
     have dg:(y2.κ++ [s2.ah.length]).getD m1.mem.length 0=s2.ah.length:=by rw[hyκ, ← ahk];simp[List.getD_eq_getElem?_getD]
     simp only[go_sem,aI bN,List.map_append,List.map_cons,List.map_nil,anV,dg]
     repeat' (first|exact Ok.out|with_reducible refine iY ?_ ?_)
    ·repeat' (first
 |simp only[go_sem,hD,hY,hZ,gA,bw]
 |(with_reducible first|refine bo fun hc=>?_|refine bp fun hc=>?_|refine bq (fun hc=>?_) fun hc=>?_)<;>(try simp only[hc,bs,↓reduceIte]at h)<;>try simp only[hc]
 |(with_reducible refine aD hQ ?_;(try cases h);simp only[aU,aV,bI,bJ,go_sem,hD,hY,hZ,gA,bw];try exact cv)
 |(cases h;done))
     (refine gJ hQ ?_;simp only[aU,aV,bI,bJ,go_sem])
     have Gn:m.call p W v=(-1,(m1.bB a.x).2):=by
      unfold Mc.call
      rw[np]
      simp only[Mc.args,b,Bool.false_eq_true,if_false,bw]
     rw[Gn]
     exact⟨rfl,y2,trivial,h4.sub fun q mq=>List.mem_cons_of_mem _ (List.mem_cons_of_mem _ mq)⟩
 have XU:(s.ah++ [bb v])[n]? = some (bb v):=by simp[← hn]
 have l0:=loop v.args 0 m [] y ⟨s.ah++ [bb v],s.aw++ [some 0]⟩ rfl rfl rfl ⟨rfl,rfl⟩ (Nat.le_refl _) ⟨rfl,Nat.zero_le _⟩ (by simp) (h1.aw _) (by simp[← LB])
 repeat' (first
 |simp only[go_sem,hD,hY,hZ,gA,XU,hn]
 |(with_reducible first|refine bo fun hc=>?_|refine bp fun hc=>?_|refine bq (fun hc=>?_) fun hc=>?_)<;>(try simp only[hc,bs,↓reduceIte]at h)<;>try simp only[hc]
 |(with_reducible refine aD hQ ?_;(try cases h);simp only[aU,aV,bI,bJ,go_sem,hD,hY,hZ,gA,XU,hn];try exact cv)
 |(cases h;done))
 refine bl.se 5 1 rfl ?_
 simp only[go_sem,hD,hY,hZ,gA]
 refine bl.pG ?_ l0
 simp only[go_sem,LB,List.map_nil]
 repeat' (first|exact Ok.out|with_reducible refine iY ?_ ?_)
end
end Go.Abs
namespace Go.Abs
theorem VL {v:Sm} (h:v.one=true) (hk:v.kind=1∨v.kind=2):v.name≠ []:=by
 intro e
 have hn:v.hasName=true:=by unfold Sm.hasName;rcases hk with hk|hk<;>simp[hk]
 unfold Sm.one at h
 split at h
 ·cases h
 ·rw [e,hn]at h
  simp[isName]at h
theorem Hn {v:Sm} (hk:v.kind≠10) (hn:v.name≠ []):v.name∈v.said:=by
 unfold Sm.said Sm.sL
 refine uZ (.inl ?_)
 rw[if_pos (by simp[hk,hn])]
 simp
theorem zV {name:aG} {f:Pc} : ∀ {l:List Pc},iQ name l=some f→f.name=name
 |g::l,h=>by
  simp only[iQ]at h
  split at h
  ·rename_i e;cases h;simpa using e
  ·exact zV h
mutual
theorem adS : ∀ s:Sm,∀ v∈s.pre,v.size≤s.size
 | ⟨id,kind,labels,name,proc,x,has,args,aZ,aR⟩,v,m=>by
  rw[Sm.qa]at m
  rcases List.mem_cons.1 m with rfl|m
  ·exact Nat.le_refl _
  ·simp only [Sm.size]
   rcases List.mem_append.1 m with m|m
   ·have:=Ct aZ v m;omega
   ·have:=Ct aR v m;omega
theorem Ct : ∀ l:List Sm,∀ v∈Sm.db l,v.size≤Sm.aY l
 | [],v,m=>by simp[Sm.db]at m
 |s::l,v,m=>by
  simp only[Sm.db,List.mem_append]at m
  simp only[Sm.aY]
  rcases m with m|m
  ·have:=adS s v m;omega
  ·have:=Ct l v m;omega
end
theorem F2 : ∀ l:List Sm,l.length≤Sm.aY l
 | []=>Nat.le_refl _
 |s::l=>by
  have:=F2 l
  have h1:1≤s.size:=by cases s;simp only[Sm.size];omega
  simp only[Sm.aY,List.length_cons];omega
section
variable {p:Pg} {m:Mc} {a:Int}
theorem Kl (hO:p.iJ) (h:pe p p.aX.L a m) (hl:m.st.length≤1000) : ∃ fr r f,mO m fr r∧p.procs[fr.proc.toNat]? = some f∧fr.names=p.globals++f.own∧fr.vars.length=fr.names.length∧m.top=fr:=by
 obtain⟨fr,r,e⟩:=h.st.ne
 have ht:m.top=fr:=by simp[Mc.top,e]
 obtain⟨f,h1,h2,h3,h4,h5⟩:=h.fr fr (by rw[e];exact List.mem_cons_self ..)
 have hf:=List.mem_of_getElem? h1
 have s1:=Pc.dc hf
 have s2:=hO.sz
 simp only[Pg.size]at s2
 have hn:fr.names.length<1000000:=by
  rw[h3]
  have s3:=hO.small hf
  simp only[Pc.size]at s1
  simp only[List.length_append,Pc.own,Pc.tw,List.length_map]
  have:=s3.par;have:=s3.vars
  omega
 rw[e]at hl
 exact⟨fr,r,f,⟨e,by simp at hl;omega,hn,by omega⟩,h1,h3,h4,ht⟩
theorem F3 {fr:Fr} (hv:fr.vars.length=fr.names.length) {n:aG} (hn:n∈fr.names) : ∃ k,vV fr n k:=by
 obtain⟨j,h1,h2⟩:=Kd (k:=0) hn
 exact⟨_,j,by simpa using h1,List.getElem?_eq_getElem (by omega)⟩
theorem ZR {fr:Fr} (h:pe p p.aX.L a m) (ht:m.top=fr) (hR:p.Right) (ha:a≠ -1) {f:Pc} (hf:p.procs[fr.proc.toNat]? = some f):BR p p.aX.L (fw p.aX.L a) f∧(fw p.aX.L a).proc=fr.proc∧fw p.aX.L a∈p.aX.L∧
 ∃ c:Nat,a=(c:Int)+1∧p.aX.L[c]? = some (fw p.aX.L a):=by
 have hm:=h.at_.resolve_left ha
 have gy:=pb (L:=p.aX.L) (.inr ⟨hm.1,hm.2.1⟩) ha
 obtain⟨f',o⟩:=(pd hR).im _ gy
 have hp:(fw p.aX.L a).proc=fr.proc:=by rw[← ht];exact hm.2.2
 have:f'=f:=by have:=o.proc.1;rw[hp,hf]at this;exact(Option.some.inj this).symm
 subst this
 have h1:=hm.1
 have h2:=hm.2.1
 refine⟨o,hp,gy,(a - 1).toNat,by omega, ?_⟩
 unfold fw
 rw[List.getD_eq_getElem?_getD,List.getElem?_eq_getElem (show(a - 1).toNat<p.aX.L.length by omega)];rfl
theorem Mj (hO:p.iJ) (hR:p.Right) {x:Im} {f:Pc} {fr:Fr} (hx:BR p p.aX.L x f) (hn:fr.names=p.globals++f.own) (hv:fr.vars.length=fr.names.length):adM p fr x:=by
 have hf:=List.mem_of_getElem? hx.proc.1
 have pR:x.s∈p.pre:=by
  simp only[Pg.pre,List.mem_flatten,List.mem_map];exact⟨_,⟨f,hf,rfl⟩,hx.mem⟩
 have dM:=Ct f.body x.s hx.mem
 have s1:=Pc.dc hf
 have s2:=hO.sz
 simp only[Pg.size]at s2
 simp only[Pc.size]at s1
 have hs:Sm.aY x.s.aZ+Sm.aY x.s.aR≤x.s.size:=by
  cases x with
  |mk s _ _ _ _=>cases s;simp only[Sm.size];omega
 refine⟨hO.said hf _ hx.mem,fun hk=>?_,fun hk=>?_,fun hk=>?_, ?_, ?_⟩
 ·have hl:=hx.loop (.inl hk)
  have h1:=hl.1
  have h2:=hl.2.1
  exact⟨(x.loop - 1).toNat,_,by omega,List.getElem?_eq_getElem (by omega)⟩
 ·obtain⟨i,hi⟩:=Int.eq_ofNat_of_zero_le hx.proc.2
  exact⟨i,f,hi,by have:=hx.proc.1;rwa [hi,Int.toNat_natCast]at this⟩
 ·refine F3 hv ?_
  rw[hn]
  exact zK hR hx (Hn (by rcases hk with hk|hk<;>omega) (VL (L9 hR.may _ pR) hk))
 ·have:=F2 x.s.aZ;omega
 ·have:=F2 x.s.aR;omega
theorem SH (hO:p.iJ) (hR:p.Right) {x:Im} {f:Pc} {fr:Fr} (hx:BR p p.aX.L x f) (hk:x.s.kind=4) (hn:fr.names=p.globals++f.own) (hv:fr.vars.length=fr.names.length):SF p fr x.s:=by
 have hf:=List.mem_of_getElem? hx.proc.1
 have rR:=hO.said hf _ hx.mem
 have pR:x.s∈p.pre:=by
  simp only[Pg.pre,List.mem_flatten,List.mem_map];exact⟨_,⟨f,hf,rfl⟩,hx.mem⟩
 refine⟨rR,fun b mb=>⟨rR.2.1 b mb, ?_,fun hr=>?_⟩, ?_⟩
 ·have:=rR.2.2
  have key : ∀ l:List Ar,b∈l→b.x.size≤Ar.aY l:=fun l=>by
   induction l with
   |nil=>intro m;cases m
   |cons c l ih=>
    intro m
    simp only[Ar.aY]
    rcases List.mem_cons.1 m with rfl|m
    ·omega
    ·have:=ih m;omega
  have:=key _ mb
  omega
 ·refine F3 hv ?_
  rw[hn]
  exact zK hR hx (uZ (.inr ⟨b,mb,hr,rfl⟩))
 ·have jl:=hR.fits _ pR (by simp [hk])
  obtain⟨q,hq⟩:=He jl
  obtain⟨j,h1,h2⟩:=H8 (k:=0) hq
  exact⟨j,q,by simpa[Pg.at]using h1,h2,by rw[zV hq];exact hq⟩
theorem PC (hO:p.iJ) (hR:p.Right) (h:pe p p.aX.L a m) (hl:m.st.length≤1000) {fr:Fr} {r:List Fr} (ht:mO m fr r) :
 fr.call=0∨∃ (c:Nat) (it:Im) (uG:Fr) (r2:List Fr),fr.call=(c:Int)+1∧p.aX.L[c]? = some it∧mO {m with st:=r} uG r2∧(it.s.name≠ []→∃ k,vV uG it.s.name k):=by
 have hs:=h.st
 have iU:=ht.st
 rw[iU]at hs
 cases r with
 |nil=>exact .inl hs
 | cons uG r2=>
  obtain⟨⟨h1,G7⟩,h2⟩:=hs
  have e1:=h1.1
  have e2:=h1.2.1
  refine .inr ⟨(fr.call - 1).toNat,fw p.aX.L fr.call,uG,r2,by omega, ?_, ?_,fun hn=>?_⟩
  ·unfold fw
   rw[List.getD_eq_getElem?_getD,List.getElem?_eq_getElem (show(fr.call - 1).toNat<p.aX.L.length by omega)];rfl
  ·have h3:pe p p.aX.L (-1) {m with st:=uG::r2}:=⟨h2,fun q hq=>h.fr q (by rw [iU];exact List.mem_cons_of_mem _ hq), .inl rfl,h.uk⟩
   obtain⟨Mh,r',f',t,_⟩:=Kl hO h3 (by rw[iU]at hl;simp at hl ⊢;omega)
   have:=t.st
   cases this
   exact t
  ·obtain⟨f,g1,g2,g3,g4,g5⟩:=h.fr uG (by rw [iU];simp)
   have gy:fw p.aX.L fr.call∈p.aX.L:=pb (.inr ⟨e1,e2⟩) (by omega)
   obtain⟨f',o⟩:=(pd hR).im _ gy
   have:f'=f:=by have:=o.proc.1;rw[h1.2.2,g1]at this;exact(Option.some.inj this).symm
   subst this
   refine F3 g4 ?_
   rw[g3]
   exact zK hR o (Hn (by omega) hn)
end
end Go.Abs
namespace Go.Abs
structure xH (m:Mc):Prop where
 steps:0≤m.steps
 trace:(m.trace.length:Int)≤m.steps
 out:(m.out.length:Int)≤m.steps
 reads:0≤m.reads∧m.reads≤m.steps
 st:m.st.length≤101
structure BW (m m':Mc):Prop where
 trace:m'.trace.length≤m.trace.length+1
 out:m'.out.length≤m.out.length+1
 reads:m'.reads=m.reads∨m'.reads=m.reads+1
 steps:m'.steps=m.steps
theorem SI (W:List Int) (m:Mc) (id:Int) (bW:List Int):(m.event W id bW).trace.length≤m.trace.length+1:=by
 unfold Mc.event
 split<;>simp
theorem mh (W:List Int) (m:Mc) (id:Int) (bW:List Int):BW m (m.event W id bW):=by
 have h:=eU W m id bW
 exact⟨SI W m id bW,by rw[h.2.2.2.2.2];omega, .inl h.2.2.2.2.1,h.2.2.2.1⟩
theorem E6 (m:Mc) (x:Ex):BW m (m.bB x).2:=by
 have h:=gE m x
 exact⟨by rw[h.2.2.2.2.2];omega,by rw[h.2.2.2.2.1];omega, .inl h.2.2.2.1,h.2.2.1⟩
theorem wX (p:Pg) (m:Mc) (i:Int) (l:List Nat) (c:Int):(m.open p i l c).2.trace=m.trace∧(m.open p i l c).2.out=m.out∧(m.open p i l c).2.reads=m.reads∧(m.open p i l c).2.steps=m.steps:=by
 unfold Mc.open
 split<;>exact⟨rfl,rfl,rfl,rfl⟩
theorem wY : ∀ (l:List Ar) (m:Mc) (out:List Nat),(Mc.args l m out).2.reads=m.reads∧(Mc.args l m out).2.steps=m.steps
 | [],m,out=>⟨rfl,rfl⟩
 | a::l,m,out=>by
  have hw:=gE m a.x
  simp only[Mc.args]
  by_cases c:a.ref=true
  ·rw[if_pos c];exact wY l m _
  ·rw [if_neg c]
   by_cases c2:(m.bB a.x).1.2=true
   ·rw [if_pos c2]
    obtain⟨h1,h2⟩:=wY l {(m.bB a.x).2 with mem:=(m.bB a.x).2.mem++ [(m.bB a.x).1.1]} (out++ [(m.bB a.x).2.mem.length])
    exact⟨h1.trans hw.2.2.2.1,h2.trans hw.2.2.1⟩
   ·rw[if_neg c2];exact⟨hw.2.2.2.1,hw.2.2.1⟩
theorem SJ (p:Pg) (W:List Int) (m:Mc) (v:Sm):BW m (m.call p W v).2∧((m.call p W v).2.st.length≤m.st.length∨(m.call p W v).2.st.length≤101):=by
 have h1:=zU v.args m []
 have h2:=wY v.args m []
 have h3:=(u7 v.args m []).1
 unfold Mc.call
 generalize Mc.args v.args m [] = r at *
 obtain⟨o,m1⟩:=r
 dsimp only at h1 h2 h3
 cases o with
 |none=>exact⟨⟨by simp[h1.2],by simp[h1.1], .inl h2.1,h2.2⟩, .inl (by simp[h3])⟩
 | some l=>
  dsimp only
  by_cases c:m1.st.length > 100
  ·rw[if_pos c];exact⟨⟨by simp[h1.2],by simp[h1.1], .inl h2.1,h2.2⟩, .inl (by simp[h3])⟩
  ·rw [if_neg c]
   have e1:=mh W m1 v.id []
   have e2:=wX p (m1.event W v.id []) (p.at v.proc) l v.id
   have e3:=(yA p (m1.event W v.id []) (p.at v.proc) l v.id).1
   have e4:=(eU W m1 v.id []).1
   refine⟨⟨by rw[e2.1, ← h1.2];exact e1.trace,by rw[e2.2.1, ← h1.1];exact e1.out, ?_,by rw[e2.2.2.2,e1.steps,h2.2]⟩, .inr (by rw[e4]at e3;omega)⟩
   rw[e2.2.2.1, ← h2.1];exact e1.reads
theorem PD (W:List Int) (m:Mc) (v:Sm):BW m (m.fx W v).2:=by
 have hw:=gE m v.x
 unfold Mc.fx
 split
 ·dsimp only
  split
  ·have e:=mh W (m.bB v.x).2 v.id [(m.bB v.x).1.1]
   exact⟨by rw[← hw.2.2.2.2.2];exact e.trace,by rw[← hw.2.2.2.2.1];exact e.out,by rw[← hw.2.2.2.1];exact e.reads,e.steps.trans hw.2.2.1⟩
  ·exact E6 m v.x
 ·exact mh W m v.id []
theorem ZS (p:Pg) (L:List Im) (T W:List Int) (m:Mc) (it:Im):BW m (m.do p L T W it).2:=by
 have hw:=gE m it.s.x
 unfold Mc.do
 dsimp only
 split
 ·exact mh W m _ _
 split
 ·exact mh W m _ _
 split
 ·exact mh W m _ _
 split
 ·split
  ·exact⟨by simp,by simp, .inl rfl,rfl⟩
  ·rename_i n _
   have e:=mh W (({m with reads:=m.reads+1} : Mc).set it.s.name n) it.s.id [n]
   have e2:=(eU W (({m with reads:=m.reads+1} : Mc).set it.s.name n) it.s.id [n])
   exact⟨e.trace,e.out, .inr e2.2.2.2.2.1,e2.2.2.2.1⟩
 split
 ·have e:=mh W (m.bB it.s.x).2 it.s.id [(m.bB it.s.x).1.1]
  have e2:=eU W (m.bB it.s.x).2 it.s.id [(m.bB it.s.x).1.1]
  have k:BW m ((m.bB it.s.x).2.event W it.s.id [(m.bB it.s.x).1.1]):=⟨by rw[← hw.2.2.2.2.2];exact e.trace,by rw[← hw.2.2.2.2.1];exact e.out,by rw[← hw.2.2.2.1];exact e.reads,e.steps.trans hw.2.2.1⟩
  split
  ·exact⟨k.trace,k.out,k.reads,k.steps⟩
  split
  ·exact⟨k.trace,by simp[e2.2.2.2.2.2,hw.2.2.2.2.1],k.reads,k.steps⟩
  split
  ·exact k
  split
  ·exact k
  ·exact k
 ·exact E6 m it.s.x
theorem zW (L:List Im) (m:Mc) (g:Int):(m.close L g).2.trace=m.trace∧(m.close L g).2.out=m.out∧(m.close L g).2.reads=m.reads∧(m.close L g).2.steps=m.steps∧(m.close L g).2.st=m.st.tail:=by
 unfold Mc.close
 dsimp only
 split
 ·exact⟨rfl,rfl,rfl,rfl,rfl⟩
 ·split<;>exact⟨rfl,rfl,rfl,rfl,rfl⟩
theorem xH.less {m m1:Mc} (h:xH m) (k:BW {m with steps:=m.steps+1} m1) (hs:m1.st.length≤101):xH m1:=by
 have h1:=h.steps;have h2:=h.trace;have h3:=h.out;have h4:=h.reads
 have k1:=k.trace;have k2:=k.out;have k3:=k.reads;have k4:=k.steps
 dsimp only at k1 k2 k3 k4
 exact⟨by omega,by omega,by omega,by omega,hs⟩
theorem xH.close {L:List Im} {m:Mc} (h:xH m) (g:Int):xH (m.close L g).2:=by
 obtain⟨h1,h2,h3,h4,h5⟩:=zW L m g
 exact⟨by rw[h4];exact h.steps,by rw[h1,h4];exact h.trace,by rw[h2,h4];exact h.out,by rw[h3,h4];exact h.reads,by rw[h5];have:=h.st;simp;omega⟩
theorem xH.run {p:Pg} {T W:List Int} {m:Mc} (h:xH m) (hs:m.steps≤1000000) (hO:p.iJ) (hW:W.length<1000000) (hT:T.length<1000000):H9 p T W m:=by
 obtain⟨qZ,qM,qL⟩:=hO.procs
 have:=o8 p
 have h2:=h.trace;have h3:=h.out;have h4:=h.reads
 exact⟨hW,hT,by omega,by omega,by omega,by omega,by omega⟩
set_option maxRecDepth 8000
open Go.Proofs
theorem ZT {p:Pg} (h:p.iJ) (nI:(p.scope.1==0)=true) (s:St):aF Tryz.prog rn [.agg (cr p)] s (.dv (fv p) 0) s:=by
 refine aF.pure ?_ (by simp[D.bK,D.ok,jb]) (by simp[D.ok,uj]) s
 obtain⟨qZ,qM,qL⟩:=h.procs
 have pD:=fun s=>vK h s
 have dg:=fun s=>Cf (p:=p) (by omega) s
 have b0:(p.scope.1 != 0) = !(p.scope.1==0):=rfl
 rw[nI]at b0
 unfold S0
 refine aF.go yo rfl fun B Q hB hQ=>?_
 have⟨hD,hY,hZ,gA⟩:=bQ
 repeat' (first
 |simp only[go_sem,hD,hY,hZ,gA,b0,Bool.not_true]
 |(with_reducible refine CU (pD _) ?_)
 |(with_reducible refine CU (dg _) ?_)
 |(with_reducible refine aD hQ ?_;exact bc))
theorem ZU {p:Pg} (h:p.iJ) (nI:(p.scope.1==0)=false) (s:St):aF Tryz.prog rn [.agg (cr p)] s .dR s:=by
 refine aF.pure ?_ (by simp[D.bK,D.ok,jb]) rfl s
 have pD:=fun s=>vK h s
 have b0:(p.scope.1 != 0) = !(p.scope.1==0):=rfl
 rw[nI]at b0
 unfold S0
 refine aF.go yo rfl fun B Q hB hQ=>?_
 have⟨hD,hY,hZ,gA⟩:=bQ
 repeat' (first
 |simp only[go_sem,hD,hY,hZ,gA,b0,Bool.not_false]
 |(with_reducible refine CU (pD _) ?_)
 |(with_reducible refine aD hQ ?_;exact bc))
mutual
theorem VM {pr up next loop:Int} : ∀ (s:Sm) (m:Im),m∈s.vM pr up next loop→m.proc=pr
 | ⟨id,kind,labels,name,pc,x,has,args,aZ,aR⟩,m,h=>by
  simp only[Sm.vM]at h
  rcases List.mem_cons.1 h with rfl|h
  ·rfl
  ·rcases List.mem_append.1 h with h | h
   ·exact wZ aZ m h
   ·exact wZ aR m h
theorem wZ {pr up next loop:Int} : ∀ (l:List Sm) (m:Im),m∈Sm.jL pr up next loop l→m.proc=pr
 |s::l,m,h=>by
  simp only[Sm.jL]at h
  rcases List.mem_append.1 h with h|h
  ·exact VM s m h
  ·exact wZ l m h
end
theorem xI : ∀ a b:List Sm,ig (a++b)=ig a++ig b
 | [],b=>rfl
 |v::a,b=>by simp only[List.cons_append,ig,xI a b,List.append_assoc]
mutual
theorem Lp : ∀ s:Sm,(ig s.pre).length≤s.size
 |⟨id,kind,labels,name,pc,x,has,args,aZ,aR⟩=>by
  have:=rM aZ;have:=rM aR
  simp only[Sm.pre,ig,xI,List.length_append,Sm.size];omega
theorem rM : ∀ l:List Sm,(ig (Sm.db l)).length≤Sm.aY l
 | []=>Nat.le_refl _
 |s::l=>by
  have:=Lp s;have:=rM l
  simp only[Sm.db,xI,List.length_append,Sm.aY];omega
end
theorem SK (seen l:List aG):(iS seen l).1.length≤seen.length+l.length:=(G8 l seen).2
theorem VN {p:Pg} (h:p.iJ) (s:St):aF Tryz.prog vx [.agg (cr p)] s (.agg [.int .i64 p.jump.1, .int .i64 p.jump.2]) s:=by
 refine aF.pure ?_ (by simp[D.bK,D.ok,jb]) rfl s
 obtain⟨qZ,qM,qL⟩:=h.procs
 obtain⟨R,hR⟩ : ∃ R,p.jump=R:=⟨_,rfl⟩
 rw[hR]
 unfold Pg.jump at hR
 unfold S0
 rcases Bool.eq_false_or_eq_true (p.scope.1==0)with nI|nI
 case inr=>
  have hs:=fun s=>ZU h nI s
  simp only[nI,Bool.false_eq_true,if_false]at hR
  subst hR
  refine aF.go yk rfl fun B Q hB hQ=>?_
  have⟨hD,hY,hZ,gA⟩:=bQ
  repeat' (first
 |simp only[go_sem,hD,hY,hZ,gA]
 |(with_reducible refine CU (hs _) ?_)
 |(with_reducible refine aD hQ ?_;exact bc))
 have hs:=fun s=>ZT h nI s
 have hb:=BG nI
 simp only[nI,if_true]at hR
 refine aF.go yk rfl fun B Q hB hQ=>?_
 have⟨hD,hY,hZ,gA⟩:=bQ
 repeat' (first
 |simp only[go_sem,hD,hY,hZ,gA]
 |(with_reducible refine CU (hs _) ?_)
 |(with_reducible refine aD hQ ?_;exact bc))
 refine e8 2 0 (bl.ind (ι:=List Pc×Nat) (fun i=>p.procs.drop i.2=i.1∧yz 7 (sP i.1)=R) (fun i=>i.1.length)
  (fun i=> [(1, .ptr 0 0),(2, .ptr 1 0),(3, .dv (fv p) 0),(16, .slice .shared 5 (p.procs.map cj)),(17, .int .i64 (p.procs.length:Int)),(18, .int .i64 (i.2:Int))]) (fun i=>⟨[cr p,[.int .i64 0, .int .i64 0]],[]⟩) ?_ (p.procs,0) ⟨rfl,hR⟩)
 clear hR
 rintro⟨rest,k⟩ ⟨h1,hR⟩ IH
 dsimp only at h1 hR
 cases rest with
 |nil=>
  have hD:=drop_nil h1
  simp only[sP,yz]at hR
  subst hR
  repeat' (first
 |simp only[go_sem,hD,hY,hZ,gA]
 |(with_reducible refine aD hQ ?_;exact bc))
 | cons f rest=>
  obtain⟨hY,g2,hD,g4⟩:=drop_cons h1
  have bN:k<4611686018427387904:=by omega
  have An:=List.mem_of_getElem? hY
  have wQ:=fun s=>adf hb hY (by omega) s
  have pR:=rH (k:Int) 0 (-1) 0 f.body
  have wO:=JV (k:Int) f
  have ahl:=fun m=>wZ (pr:=(k:Int)) (up:=0) (next:= -1) (loop:=0) f.body m
  have JX:=EP h An
  have vO:=G9 h An
  have adT:(ig (Sm.db f.body)).length≤900000:=by
   have h1:=rM f.body
   have h2:=Pc.dc An
   simp only[Pc.size]at h2
   omega
  rw[← pR]at adT
  generalize hI:Sm.jL (k:Int) 0 (-1) 0 f.body=I at *
  have hIl:I.length≤900000:=by rw[← pR,List.length_map]at JX;exact JX
  simp only[sP, ← wO]at hR
  obtain⟨J,hJ⟩ : ∃ J,sO f.labels f.fin [] (I.map Im.pair)=J:=⟨_,rfl⟩
  rw[hJ]at hR
  have hld:=fun(m:Im) (hm:m∈I) s=>Zz h hb hY m (ahl m hm) s
  repeat' (first
 |simp only[go_sem,hD,hY,hZ,gA]
 |(with_reducible refine CU (wQ _) ?_)
 | (with_reducible refine aD hQ ?_;exact bc))
  refine bl.se 6 1 rfl ?_
  simp only[go_sem,hD,hY,hZ,gA]
  refine e8 3 1 (bl.ind (ι:=List Im×Nat×List aG×Nat) (fun i=>I.drop i.2.1=i.1∧sO f.labels f.fin i.2.2.1 (i.1.map Im.pair)=J∧i.2.2.2=i.2.2.1.length∧i.2.2.1.length+(ig (i.1.map Im.s)).length≤900000) (fun i=>i.1.length)
   (fun i=> [(1, .ptr 0 0),(2, .ptr 1 0),(3, .dv (fv p) 0),(5, .ptr 2 0),(6, .slice (.tok 0) 1 (i.2.2.1.map encStr)),(16, .slice .shared 5 (p.procs.map cj)),(17, .int .i64 (p.procs.length:Int)),(18, .int .i64 (k:Int)),
    (25, .slice .shared 17 (I.map dr)),(26, .int .i64 (I.length:Int)),(27, .int .i64 (i.2.1:Int))]) (fun i=>⟨[cr p,[.int .i64 0, .int .i64 0],cj f],[some i.2.2.2]⟩) ?_ (I,0,[],0) ⟨rfl,hJ,rfl,by simpa using adT⟩)
  clear hJ
  rintro⟨ql,k2,seen,n2⟩ ⟨j1,j2,j3,j4⟩ By
  dsimp only at j1 j2 j3 j4
  subst j3
  cases ql with
  | nil=>
   have J8:=drop_nil j1
   simp only[List.map_nil,sO]at j2
   simp only[List.map_nil,ig,List.length_nil,Nat.add_zero]at j4
   have Ho:=fun {s:St} {t:Nat} (ht:s.aw[t]? = some (some seen.length))=>Sb (seen:=seen) (l:=f.fin) (by omega) ht
   obtain⟨P1,hP1⟩ : ∃ P1,iS seen f.fin=P1:=⟨_,rfl⟩
   rw[hP1]at j2 Ho
   rcases Bool.eq_false_or_eq_true P1.2 with c1|c1
   ·simp only [c1,if_true]at j2
    subst j2
    simp only at hR
    repeat' (first
 |simp only[go_sem,hD,hY,hZ,gA,J8,c1,Bool.not_true]
 |(with_reducible refine CU (Ho (by with_unfolding_all rfl)) ?_)
 | (with_reducible refine aD hQ ?_;exact bc))
    refine eJ 2 0 ?_ ?_ (IH (rest,k+1) ⟨g2,hR⟩ (Nat.lt_succ_self _))
    ·(simp only[go_sem,hD,hY,hZ,gA,aI bN];try exact bS)
    ·(simp only[go_sem,hD,hY,hZ,gA,aI bN];try exact bS)
   ·simp only [c1,Bool.false_eq_true,if_false]at j2
    subst j2
    simp only[yz]at hR
    subst hR
    repeat' (first
 |simp only[go_sem,hD,hY,hZ,gA,J8,c1,Bool.not_false]
 |(with_reducible refine CU (Ho (by with_unfolding_all rfl)) ?_)
 | (with_reducible refine aD hQ ?_;exact bc))
  | cons m ql=>
   obtain⟨mC,j5,tA,j6⟩:=drop_cons j1
   have uF:k2<4611686018427387904:=by omega
   have Mk:=List.mem_of_getElem? mC
   have XI:=fun s=>hld m Mk s
   simp only[List.map_cons,Im.pair,sO]at j2
   simp only[List.map_cons,ig,List.length_append]at j4
   have Ho:=fun {s:St} {t:Nat} (ht:s.aw[t]? = some (some seen.length))=>Sb (seen:=seen) (l:=m.s.labels) (by omega) ht
   have Wu:=SK seen m.s.labels
   obtain⟨P1,hP1⟩ : ∃ P1,iS seen m.s.labels=P1:=⟨_,rfl⟩
   rw[hP1]at j2 Ho Wu
   rcases Bool.eq_false_or_eq_true P1.2 with c1|c1
   ·rcases Bool.eq_false_or_eq_true (qm f.labels m.s m.loop)with c2 | c2
    ·simp only [c1,c2,if_true]at j2
     repeat' (first
 |simp only[go_sem,hD,hY,hZ,gA,mC,tA,c1,c2,Bool.not_true]
 |(with_reducible refine CU (Ho (by with_unfolding_all rfl)) ?_)
 |(with_reducible refine CU (XI _) ?_)
 | (with_reducible refine aD hQ ?_;exact bc))
     refine eJ 3 1 ?_ ?_ (By (ql,k2+1,P1.1,P1.1.length) ⟨j5,j2,rfl,by dsimp only;omega⟩ (Nat.lt_succ_self _))
     ·(simp only[go_sem,hD,hY,hZ,gA,aI uF];try exact bS)
     ·(simp only[go_sem,hD,hY,hZ,gA,aI uF];try exact bS)
    ·simp only [c1,c2,if_true,Bool.false_eq_true,if_false]at j2
     subst j2
     simp only[yz]at hR
     subst hR
     repeat' (first
 |simp only[go_sem,hD,hY,hZ,gA,mC,tA,c1,c2,Bool.not_true,Bool.not_false]
 |(with_reducible refine CU (Ho (by with_unfolding_all rfl)) ?_)
 |(with_reducible refine CU (XI _) ?_)
 | (with_reducible refine aD hQ ?_;exact bc))
   ·simp only [c1,Bool.false_eq_true,if_false]at j2
    subst j2
    simp only[yz]at hR
    subst hR
    repeat' (first
 |simp only[go_sem,hD,hY,hZ,gA,mC,tA,c1,Bool.not_false]
 |(with_reducible refine CU (Ho (by with_unfolding_all rfl)) ?_)
 |(with_reducible refine CU (XI _) ?_)
 |(with_reducible refine aD hQ ?_;exact bc))
theorem VO (x:It):(fy x)[2]? = some (.slice .shared 1 (x.s.labels.map encStr)):=nd rfl
theorem SL (x:It):(fy x)[14]? = some (.int .i64 x.cy):=nd rfl
attribute [go_sem] VO SL
end Go.Abs
namespace Go.Abs
set_option maxRecDepth 8000
open Go.Proofs
def Pc.anX:List Pc→Nat
 | []=>0
 |f::l=>Sm.jc f.body+Pc.anX l
theorem VP {p:Pg} (h:p.may=false):p.scope=(1,0):=by unfold Pg.scope;rw[h];rfl
theorem adV {p:Pg} (h:p.iJ) (s:St):aF Tryz.prog xn [.agg (cr p)] s (.agg [.int .i64 p.check.1, .int .i64 p.check.2]) s:=by
 refine aF.pure ?_ (by simp[D.bK,D.ok,jb]) rfl s
 have h1:=fun s=>JB h.O5 s
 rw[Cj]at h1
 have h2:=fun s=>vK h s
 have h3:=fun s=>JN h s
 have h4:=fun s=>VN h s
 have h5:=fun s=>Sk h s
 obtain⟨R,hR⟩ : ∃ R,p.check=R:=⟨_,rfl⟩
 rw[hR]
 unfold Pg.check at hR
 unfold S0
 rcases Bool.eq_false_or_eq_true p.may with b0|b0
 case inr=>
  have e:((1:Int)==0)=false:=rfl
  rw[VP b0]at hR
  simp only[e,Bool.false_eq_true,if_false]at hR
  subst hR
  refine aF.go oc rfl fun B Q hB hQ=>?_
  have⟨hD,hY,hZ,gA⟩:=bQ
  repeat' (first
 |simp only[go_sem,hD,hY,hZ,gA,b0,Bool.not_false]
 |(with_reducible refine CU (h1 _) ?_)
 |(with_reducible refine aD hQ ?_;exact bc))
 rcases Bool.eq_false_or_eq_true (p.scope.1==0)with b1|b1
 case inr=>
  simp only[b1,Bool.false_eq_true,if_false]at hR
  subst hR
  refine aF.go oc rfl fun B Q hB hQ=>?_
  have⟨hD,hY,hZ,gA⟩:=bQ
  repeat' (first
 |simp only[go_sem,hD,hY,hZ,gA,b0,b1,Bool.not_true]
 |(with_reducible refine CU (h1 _) ?_)
 |(with_reducible refine CU (h2 _) ?_)
 |(with_reducible refine aD hQ ?_;exact bc))
 simp only[b1,if_true]at hR
 rcases Bool.eq_false_or_eq_true (p.arity.1==0)with b2|b2
 case inr=>
  simp only[b2,Bool.false_eq_true,if_false]at hR
  subst hR
  refine aF.go oc rfl fun B Q hB hQ=>?_
  have⟨hD,hY,hZ,gA⟩:=bQ
  repeat' (first
 |simp only[go_sem,hD,hY,hZ,gA,b0,b1,b2,Bool.not_true]
 |(with_reducible refine CU (h1 _) ?_)
 |(with_reducible refine CU (h2 _) ?_)
 |(with_reducible refine CU (h3 _) ?_)
 |(with_reducible refine aD hQ ?_;exact bc))
 simp only[b2,if_true]at hR
 rcases Bool.eq_false_or_eq_true (p.jump.1==0)with b3|b3
 case inr=>
  simp only[b3,Bool.false_eq_true,if_false]at hR
  subst hR
  refine aF.go oc rfl fun B Q hB hQ=>?_
  have⟨hD,hY,hZ,gA⟩:=bQ
  repeat' (first
 |simp only[go_sem,hD,hY,hZ,gA,b0,b1,b2,b3,Bool.not_true]
 |(with_reducible refine CU (h1 _) ?_)
 |(with_reducible refine CU (h2 _) ?_)
 |(with_reducible refine CU (h3 _) ?_)
 |(with_reducible refine CU (h4 _) ?_)
 |(with_reducible refine aD hQ ?_;exact bc))
 simp only[b3,if_true]at hR
 subst hR
 refine aF.go oc rfl fun B Q hB hQ=>?_
 have⟨hD,hY,hZ,gA⟩:=bQ
 repeat' (first
 |simp only[go_sem,hD,hY,hZ,gA,b0,b1,b2,b3,Bool.not_true]
 |(with_reducible refine CU (h1 _) ?_)
 |(with_reducible refine CU (h2 _) ?_)
 |(with_reducible refine CU (h3 _) ?_)
 |(with_reducible refine CU (h4 _) ?_)
 |(with_reducible refine CU (h5 _) ?_)
 |(with_reducible refine aD hQ ?_;exact bc))
theorem SM {p:Pg} (h:p.iJ) (s:St):aF Tryz.prog sH [.agg (cr p)] s (.bool (p.check.1==0)) s:=by
 refine aF.pure ?_ (by simp[D.bK,D.ok,jb]) rfl s
 have h1:=fun s=>adV h s
 unfold S0
 refine aF.go HA rfl fun B Q hB hQ=>?_
 have⟨hD,hY,hZ,gA⟩:=bQ
 repeat' (first
 |simp only[go_sem,hD,hY,hZ,gA]
 |(with_reducible refine CU (h1 _) ?_)
 |(with_reducible refine aD hQ ?_;exact bc))
def fM (m:Mc):List D:= [.int .i64 m.fin, .int .i64 m.steps, .int .i64 m.reads, .slice .shared 1 (m.out.map cm), .slice .shared 2 (m.trace.map iT)]
theorem adW (e:Int×List Int):D.bK 0 0 (iT e)=true:=by simp[iT,D.bK,D.ok,Tag.ok,iI]
theorem ahm (l:List (Int×List Int)):D.gQ 0 0 (l.map iT)=true:=gR adW l
theorem ahn (n m:Nat) (l:List (Int×List Int)):D.ku n m (l.map iT)=l.map iT:=lR adW n m l
attribute [go_sem] ahn
abbrev runT (m:Mc):List D:= [.int .i64 m.fin, .int .i64 m.steps, .int .i64 m.reads, .slice (.tok 0) 1 (m.out.map cm), .slice (.tok 1) 2 (m.trace.map iT)]
section
variable {p:Pg} {T W:List Int} {fuel:Int} {B:fR} {Q:Exit→Tm→St→Prop} {mf:Mc}
theorem Inv.q5 {y:Lay} {m:Mc} {s:St} {q:Nat} {r r':List D} {loc:List (Nat×List D)} (h:Inv p T W y m ((q,r)::loc) s) (hq : ∀ x∈loc,x.1≠q) (hr:r.length≠4):Inv p T W y m ((q,r')::loc) ⟨s.ah.set q r',s.aw⟩:=by
 obtain⟨h1,h2⟩:=h.loc (q,r) (List.mem_cons_self ..)
 simp only at h1 h2
 have ne : ∀ {o:Nat} {x:List D},s.ah[o]? = some x→o≠q→(s.ah.set q r')[o]? = some x:=fun e hn=>by rw[List.getElem?_set_ne (Ne.symm hn)];exact e
 have no : ∀ o∈y.own,o≠q:=fun o mo e=>h2 (e ▸ mo)
 have ka : ∀ {d:D} {cs:List D},(∀ o∈d.arr,o∈y.own)→jB s d cs→jB ⟨s.ah.set q r',s.aw⟩ d cs:=fun hd ha=>ha.keep fun o mo=>by
  show(s.ah.set q r')[o]? = _
  rw[List.getElem?_set_ne (Ne.symm (no o (hd o mo)))]
 obtain⟨l,hl⟩:=h.bW
 refine⟨ne h.jC (no 0 (by simp[Lay.own])),h.t0,h.t1,h.len,fun i c v e1 e2=>ne (h.cell i c v e1 e2) (no c (by simp[Lay.own,List.mem_of_getElem? e1])),h.sq,fun i o fr e1 e2=>?_,ka (fun o m=>by simp[Lay.own,m]) h.stack,⟨l,ka (fun o m=>by simp[Lay.own,m]) hl⟩,h.own,fun x mx=>?_⟩
 ·obtain⟨f1,f2,f3⟩:=h.frame i o fr e1 e2
  exact⟨ne f1 (LJ f1 h1 fun e=>hr (by rw[← e];rfl)),f2,f3⟩
 ·rcases List.mem_cons.1 mx with rfl | mx
  ·exact⟨by simp[fU h1],h2⟩
  ·obtain⟨f1,f2⟩:=h.loc x (List.mem_cons_of_mem _ mx)
   exact⟨ne f1 (hq x mx),f2⟩
abbrev BX:List D:= [.int .i64 0, .int .i64 0, .int .i64 0, .slice .full 0 [], .slice .full 0 []]
structure F4 (p:Pg) (T W:List Int) (fuel:Int):Prop where
 ok:p.iJ
 right:p.Right
 W:W.length<1000000
 T:T.length<1000000
 fuel:0≤fuel∧fuel≤1000000
structure At (p:Pg) (T W:List Int) (fuel:Int) (a:Int) (m:Mc) (y:Lay) (q:Nat) (s:St):Prop where
 inv : ∃ r:List D,r.length=17∧Inv p T W y m [(q,r),(2,BX)] s
 ok:pe p p.aX.L a m
 sz:xH m
 fin:m.fin=0
 fuel:m.steps≤fuel
abbrev TMr (fuel:Int) (q:Nat) (a:Int):Tm:= [(2, .int .i64 fuel),(8, .ptr 2 0),(10, .ptr 0 0),(11, .ptr q 0),(13, .int .i64 a)]
abbrev JJ (B:fR) (Q:Exit→Tm→St→Prop):=yU Tryz.prog B 131 Q53 Q
theorem E7 (hQ:pM 0 0 [(8,some (true,5)),(9,none)] (.tuple [.agg (fM mf), .int .i64 0]) ⟨[],[]⟩=Q) {y:Lay} {q:Nat} {r:List D} {s:St} (h:Inv p T W y mf [(q,r),(2,BX)] s) {tm:Tm} (ht:vt tm [(8, .ptr 2 0),(10, .ptr 0 0)]):JJ B Q (.goto 2) tm s:=by
 refine Dp (r:= .seq .skip Q4L) rfl (lC.pG ht (lC.kQ ?_))
 have hm:=h.jC
 rw[fp]at hm
 have h2:=(h.loc (2,BX) (by simp)).1
 have hl:=fU h2
 have⟨hD,hY,hZ,gA⟩:=bQ
 have z8 : ∀ r,(s.ah.set 2 r)[2]? = some r:=fun r=>List.getElem?_set_self hl
 simp only[fM]at hQ
 repeat' (first
 |simp only[go_sem,hD,hY,hZ,gA,hm,h2,z8]
 |(with_reducible first|refine bo fun hc=>?_|refine bp fun hc=>?_|refine bq (fun hc=>?_) fun hc=>?_)<;>(try simp only[hc,bs,↓reduceIte]at h)<;>try simp only[hc]
 |(with_reducible refine aD hQ ?_;(try cases h);simp only[aU,aV,bI,bJ,go_sem,hD,hY,hZ,gA,hm,h2,z8];try exact cv)
 |(cases h;done))
theorem Km (hS:F4 p T W fuel) (hQ:pM 0 0 [(8,some (true,5)),(9,none)] (.tuple [.agg (fM mf), .int .i64 0]) ⟨[],[]⟩=Q) {a:Int} {m:Mc} {y:Lay} {q:Nat} {s:St} {g:Int} (h:At p T W fuel a m y q s)
 (adY:m.back p.aX.L g=(none,mf)∨∃ a' m',m.back p.aX.L g=(some a',m')∧∀ y' s' tm,At p T W fuel a' m' y' q s'→vt tm (TMr fuel q a')→JJ B Q (.goto 1) tm s')
 {tm:Tm} (ht:vt tm [(2, .int .i64 fuel),(8, .ptr 2 0),(10, .ptr 0 0),(11, .ptr q 0),(12, .int .i64 g)]):JJ B Q (.goto 0) tm s:=by
 obtain⟨⟨r,hr,hi⟩,pE,dM,vO,hfu⟩:=h
 obtain⟨fr,rs,f,zL,h1,h2,h3,h4⟩:=Kl hS.ok pE (by have:=dM.st;omega)
 have C7:=dM.run (by have:=hS.fuel;omega) hS.ok hS.W hS.T
 have hc:=PC hS.ok hS.right pE (by have:=dM.st;omega) zL
 have c1:=ZQ hi zL C7.L hc g
 have oG:=zW p.aX.L m g
 refine Dp (r:= .seq .skip Q4O) rfl (lC.pG ht (lC.kQ ?_))
 have⟨hD,hY,hZ,gA⟩:=bQ
 repeat' (first
 |simp only[go_sem,hD,hY,hZ,gA]
 |(with_reducible first|refine bo fun hc=>?_|refine bp fun hc=>?_|refine bq (fun hc=>?_) fun hc=>?_)<;>(try simp only[hc,bs,↓reduceIte]at h)<;>try simp only[hc]
 |(with_reducible refine aD hQ ?_;exact fS)
 |(cases h;replace h:=hr;clear hr;(try simp only[bs,↓reduceIte]at h))
 |(cases h;done))
 refine CR c1 fun d s2 Kn=>?_
 obtain⟨rfl,y2,vU,nG⟩:=Kn
 have jA:=nG.jC
 rw[fp]at jA
 have XV:=(nG.loc (2,BX) (by simp)).1
 have iW:=fU XV
 have z8 : ∀ r,(s2.ah.set 2 r)[2]? = some r:=fun r=>List.getElem?_set_self iW
 simp only at XV
 have hb:m.back p.aX.L g=(if(m.close p.aX.L g).2.fin==0 then some (m.close p.aX.L g).1 else none,(m.close p.aX.L g).2):=rfl
 rcases Bool.eq_false_or_eq_true ((m.close p.aX.L g).2.fin==0)with b|b
 ·rw [b,if_pos rfl]at hb
  rcases adY with he|⟨a',m',he,hIH⟩
  ·rw[hb]at he;cases he
  ·have hk:=ZH (pd hS.right) pE he
   rw[hb]at he
   cases he
   repeat' (first
 |simp only[go_sem,hD,hY,hZ,gA,jA,b]
 |(with_reducible first|refine bo fun hc=>?_|refine bp fun hc=>?_|refine bq (fun hc=>?_) fun hc=>?_)<;>(try simp only[hc,bs,↓reduceIte]at h)<;>try simp only[hc]
 |(with_reducible refine aD hQ ?_;(try cases h);simp only[aU,aV,bI,bJ,go_sem,hD,hY,hZ,gA,jA,b];try exact cv)
 |(cases h;replace h:=hr;clear hr;(try simp only[bs,↓reduceIte]at h))
 | (cases h;done))
   refine hIH y2 s2 _ ⟨⟨r,hr,nG⟩,hk,dM.close g,by simpa using b,by rw[oG.2.2.2.1];exact hfu⟩ ?_
   simp only[go_sem]
   repeat' (first|exact Ok.out|with_reducible refine iY ?_ ?_)
 ·rw [b,if_neg (by simp)]at hb
  rcases adY with he|⟨a',m',he,hIH⟩
  ·rw [hb]at he
   cases he
   simp only[fM]at hQ
   repeat' (first
 |simp only[go_sem,hD,hY,hZ,gA,jA,b,XV,z8]
 |(with_reducible first|refine bo fun hc=>?_|refine bp fun hc=>?_|refine bq (fun hc=>?_) fun hc=>?_)<;>(try simp only[hc,bs,↓reduceIte]at h)<;>try simp only[hc]
 |(with_reducible refine aD hQ ?_;(try cases h);simp only[aU,aV,bI,bJ,go_sem,hD,hY,hZ,gA,jA,b,XV,z8];try exact cv)
 |(cases h;replace h:=hr;clear hr;(try simp only[bs,↓reduceIte]at h))
 |(cases h;done))
  ·rw[hb]at he;cases he
theorem VQ (hS:F4 p T W fuel) (hQ:pM 0 0 [(8,some (true,5)),(9,none)] (.tuple [.agg (fM mf), .int .i64 0]) ⟨[],[]⟩=Q) : ∀ (N:Nat) (a:Int) (m:Mc) (y:Lay) (q:Nat) (s:St),At p T W fuel a m y q s→Mc.go p p.aX.L T W fuel N a m=some mf→
 Sem Tryz.prog B 131 Q4W (JJ B Q) (TMr fuel q a) s:=by
 intro N
 induction N with
 |zero=>intro a m y q s _ h;cases h
 | succ N ih=>
  intro a m y q s q7 kM
  have IH : ∀ (a':Int) (m':Mc) (y':Lay) (s':St) (tm:Tm),Mc.go p p.aX.L T W fuel N a' m'=some mf→At p T W fuel a' m' y' q s'→vt tm (TMr fuel q a')→JJ B Q (.goto 1) tm s':=fun a' m' y' s' tm hg hA ht=>
   Dp (r:= .seq .skip Q4W) rfl (lC.pG ht (lC.once (Sem.mZ (ih a' m' y' q s' hA hg))))
  have anY:=q7
  obtain⟨⟨r,hr,hi⟩,pE,dM,vO,hfu⟩:=q7
  simp only[Mc.go]at kM
  refine iC ?_
  have⟨hD,hY,hZ,gA⟩:=bQ
  have hm:=hi.jC
  rw[fp]at hm
  have qG:=hi.uH
  rcases Bool.eq_false_or_eq_true (a == -1)with ba|ba
  ·have hn:m.next p p.aX.L T W fuel a=m.back p.aX.L 0:=by unfold Mc.next;rw [if_pos ba]
   rw[hn]at kM
   repeat' (first
 |simp only[go_sem,hD,hY,hZ,gA,ba]
 |(with_reducible first|refine bo fun hc=>?_|refine bp fun hc=>?_|refine bq (fun hc=>?_) fun hc=>?_)<;>(try simp only[hc,bs,↓reduceIte]at h)<;>try simp only[hc]
 |(with_reducible refine aD hQ ?_;(try cases h);simp only[aU,aV,bI,bJ,go_sem,hD,hY,hZ,gA,ba];try exact cv)
 |(cases h;replace h:=hr;clear hr;(try simp only[bs,↓reduceIte]at h))
 | (cases h;done))
   refine Km hS hQ anY (g:=0) ?_ ?_
   ·rcases e:m.back p.aX.L 0 with ⟨_ | a',m'⟩
    ·rw[e]at kM;cases kM;exact .inl rfl
    ·rw[e]at kM;exact .inr ⟨a',m',rfl,fun y' s' tm h1 h2=>IH a' m' y' s' tm kM h1 h2⟩
   ·simp only [go_sem]
    repeat' (first|exact Ok.out|with_reducible refine iY ?_ ?_)
  rcases Bool.eq_false_or_eq_true (m.steps==fuel)with bf|bf
  ·have hn:m.next p p.aX.L T W fuel a=(none,{m with fin:=2}):=by unfold Mc.next;rw [if_neg (by simp [ba]),if_pos bf]
   rw[hn]at kM
   cases kM
   have h2:=hi.tR (m':= {m with fin:=2}) rfl rfl hi.t0 hi.t1
   rw[fp]at h2
   simp only at h2
   repeat' (first
 |simp only[go_sem,hD,hY,hZ,gA,ba,bf,hm,qG]
 |(with_reducible first|refine bo fun hc=>?_|refine bp fun hc=>?_|refine bq (fun hc=>?_) fun hc=>?_)<;>(try simp only[hc,bs,↓reduceIte]at h)<;>try simp only[hc]
 |(with_reducible refine aD hQ ?_;(try cases h);simp only[aU,aV,bI,bJ,go_sem,hD,hY,hZ,gA,ba,bf,hm,qG];try exact cv)
 |(cases h;replace h:=hr;clear hr;(try simp only[bs,↓reduceIte]at h))
 | (cases h;done))
   refine E7 hQ h2 ?_
   simp only[go_sem]
   repeat' (first|exact Ok.out|with_reducible refine iY ?_ ?_)
  -- a statement
  obtain⟨fr,rs,f,zL,h1,h2,h3,h4⟩:=Kl hS.ok pE (by have:=dM.st;omega)
  have anZ:a≠ -1:=by simpa using ba
  obtain⟨hx,wO,gy,c,hac,Ko⟩:=ZR pE h4 hS.right anZ h1
  have hfb:=hS.fuel
  have C7:=dM.run (by omega) hS.ok hS.W hS.T
  have awa:m.steps<fuel:=by
   have h:m.steps≠fuel:=by simpa using bf
   omega
  have vh:=dM.steps
  have E4:IntKind.wrap .i64 (m.steps+1)=m.steps+1:=dU (by omega) (by omega)
  have BT:IntKind.wrap .i64 (a - 1)=(c:Int):=by
   have:=(List.getElem?_eq_some_iff.1 Ko).1
   have:=C7.L
   rw[show a - 1=(c:Int) by omega];exact dU (by omega) (by omega)
  have cS:(fv p)[2]? = some (.slice .shared 17 (p.aX.L.map dr)):=rfl
  have Ml:=hi.tR (m':= {m with steps:=m.steps+1}) rfl rfl hi.t0 hi.t1
  generalize pI:fw p.aX.L a=it at *
  have an0:2≠q:=by
   have e1:=(hi.loc (q,r) (by simp)).1
   have e2:=(hi.loc (2,BX) (by simp)).1
   exact LJ e2 e1 fun e=>by have e':BX=r:=e;rw[← e']at hr;cases hr
  have F5:17≤r.length:=by omega
  have Mm:List.drop 17 r = []:=List.drop_of_length_le (by omega)
  have nG:=Ml.q5 (r':=dr it) (by simpa using an0) (by omega)
  have np:=Ml.jC
  have Hp:=(Ml.loc (q,r) (by simp)).1
  have Bc:=(nG.loc (q,dr it) (by simp)).1
  rw[fp]at np nG Hp Bc
  simp only at np nG Hp Bc
  have hle:q<s.ah.length:=fU (hi.loc (q,r) (by simp)).1
  have PF:mO ({m with steps:=m.steps+1} : Mc) fr rs:=⟨zL.st,zL.len,zL.names,zL.vars⟩
  have PG:H9 p T W ({m with steps:=m.steps+1} : Mc):=⟨C7.W,C7.T,C7.trace,C7.out,C7.L,C7.P,C7.reads⟩
  have Kp:pe p p.aX.L a ({m with steps:=m.steps+1} : Mc):=pE.of rfl (Nat.le_refl _) pE.at_
  have hn:m.next p p.aX.L T W fuel a=(if it.s.kind==4 then(if(({m with steps:=m.steps+1} : Mc).call p W it.s).2.fin==0 then some (({m with steps:=m.steps+1} : Mc).call p W it.s).1 else none,(({m with steps:=m.steps+1} : Mc).call p W it.s).2)
   else if it.s.kind==9 then(if(({m with steps:=m.steps+1} : Mc).fx W it.s).2.fin==0 then(({m with steps:=m.steps+1} : Mc).fx W it.s).2.back p.aX.L (({m with steps:=m.steps+1} : Mc).fx W it.s).1 else(none,(({m with steps:=m.steps+1} : Mc).fx W it.s).2))
   else(if(({m with steps:=m.steps+1} : Mc).do p p.aX.L T W it).2.fin==0 then some (({m with steps:=m.steps+1} : Mc).do p p.aX.L T W it).1 else none,(({m with steps:=m.steps+1} : Mc).do p p.aX.L T W it).2)):=by
   unfold Mc.next
   rw[if_neg (by simp[ba]),if_neg (by simp[bf])]
   dsimp only
   rw[pI]
  rw[hn]at kM
  generalize Mk:({m with steps:=m.steps+1} : Mc)=m1 at *
  have an1:m1.fin=0:=by rw[← Mk];exact vO
  have VR:m1.steps=m.steps+1:=by rw[← Mk]
  have PH : ∀ m2:Mc,BW m1 m2→m2.st.length≤101→xH m2:=fun m2 hl hs=>dM.less (by rw[Mk];exact hl) hs
  have Kq:m1.st=m.st:=by rw[← Mk]
  rcases Bool.eq_false_or_eq_true (it.s.kind==4)with b4|b4
  ·rw [if_pos b4]at kM
   have G7:it.s.kind=4:=by simpa using b4
   have c1:=SG hS.ok hS.right.may nG PF PG Kp.uk (SH hS.ok hS.right hx G7 h2 h3)
   repeat' (first
 |simp only[go_sem,hD,hY,hZ,gA,ba,bf,hm,qG,E4,np,BT,Ko,cS,Hp,Bc,hle,b4,F5,Mm,List.append_nil]
 |(with_reducible first|refine bo fun hc=>?_|refine bp fun hc=>?_|refine bq (fun hc=>?_) fun hc=>?_)<;>(try simp only[hc,bs,↓reduceIte]at h)<;>try simp only[hc]
 |(with_reducible refine aD hQ ?_;(try cases h);simp only[aU,aV,bI,bJ,go_sem,hD,hY,hZ,gA,ba,bf,hm,qG,E4,np,BT,Ko,cS,Hp,Bc,hle,b4,F5,Mm,List.append_nil];try exact cv)
 |(cases h;replace h:=hr;clear hr;(try simp only[bs,↓reduceIte]at h))
 | (cases h;done))
   refine CR c1 fun d s2 Kn=>?_
   obtain⟨rfl,y2,_,BY⟩:=Kn
   have oe:=BY.jC
   rw[fp]at oe
   have oG:=SJ p W m1 it.s
   have nF:(m1.call p W it.s).2.st.length≤101:=by
    rcases oG.2 with h|h
    ·rw[Kq]at h;have:=dM.st;omega
    ·exact h
   rcases Bool.eq_false_or_eq_true ((m1.call p W it.s).2.fin==0)with b|b
   ·rw [b,if_pos rfl]at kM
    repeat' (first
 |simp only[go_sem,hD,hY,hZ,gA,oe,b]
 |(with_reducible first|refine bo fun hc=>?_|refine bp fun hc=>?_|refine bq (fun hc=>?_) fun hc=>?_)<;>(try simp only[hc,bs,↓reduceIte]at h)<;>try simp only[hc]
 |(with_reducible refine aD hQ ?_;(try cases h);simp only[aU,aV,bI,bJ,go_sem,hD,hY,hZ,gA,oe,b];try exact cv)
 |(cases h;replace h:=hr;clear hr;(try simp only[bs,↓reduceIte]at h))
 | (cases h;done))
    refine IH _ _ y2 s2 _ kM ⟨⟨dr it,rfl,BY⟩,ZJ hS.right Kp hx G7 (by rw[wO, ← h4];unfold Mc.top;rw[Kq]) (by simpa using b) rfl an1,PH _ oG.1 nF,by simpa using b,by rw[oG.1.steps,VR];omega⟩ ?_
    simp only[go_sem]
    repeat' (first|exact Ok.out|with_reducible refine iY ?_ ?_)
   ·rw [b,if_neg (by simp)]at kM
    cases kM
    repeat' (first
 |simp only[go_sem,hD,hY,hZ,gA,oe,b]
 |(with_reducible first|refine bo fun hc=>?_|refine bp fun hc=>?_|refine bq (fun hc=>?_) fun hc=>?_)<;>(try simp only[hc,bs,↓reduceIte]at h)<;>try simp only[hc]
 |(with_reducible refine aD hQ ?_;(try cases h);simp only[aU,aV,bI,bJ,go_sem,hD,hY,hZ,gA,oe,b];try exact cv)
 |(cases h;replace h:=hr;clear hr;(try simp only[bs,↓reduceIte]at h))
 | (cases h;done))
    refine E7 hQ BY ?_
    simp only[go_sem]
    repeat' (first|exact Ok.out|with_reducible refine iY ?_ ?_)
  rw[if_neg (by simp[b4])]at kM
  rcases Bool.eq_false_or_eq_true (it.s.kind==9)with b9|b9
  ·rw [if_pos b9]at kM
   have c1:=ZN nG PF (Mj hS.ok hS.right hx h2 h3).said PG.W PG.trace
   repeat' (first
 |simp only[go_sem,hD,hY,hZ,gA,ba,bf,hm,qG,E4,np,BT,Ko,cS,Hp,Bc,hle,b4,b9,F5,Mm,List.append_nil]
 |(with_reducible first|refine bo fun hc=>?_|refine bp fun hc=>?_|refine bq (fun hc=>?_) fun hc=>?_)<;>(try simp only[hc,bs,↓reduceIte]at h)<;>try simp only[hc]
 |(with_reducible refine aD hQ ?_;(try cases h);simp only[aU,aV,bI,bJ,go_sem,hD,hY,hZ,gA,ba,bf,hm,qG,E4,np,BT,Ko,cS,Hp,Bc,hle,b4,b9,F5,Mm,List.append_nil];try exact cv)
 |(cases h;replace h:=hr;clear hr;(try simp only[bs,↓reduceIte]at h))
 | (cases h;done))
   refine CR c1 fun d s2 Kn=>?_
   obtain⟨rfl,y2,_,BY⟩:=Kn
   have oe:=BY.jC
   rw[fp]at oe
   have qL:=PD W m1 it.s
   have hgs:=(zE W m1 it.s).1
   rcases Bool.eq_false_or_eq_true ((m1.fx W it.s).2.fin==0)with b|b
   ·rw [b,if_pos rfl]at kM
    repeat' (first
 |simp only[go_sem,hD,hY,hZ,gA,oe,b]
 |(with_reducible first|refine bo fun hc=>?_|refine bp fun hc=>?_|refine bq (fun hc=>?_) fun hc=>?_)<;>(try simp only[hc,bs,↓reduceIte]at h)<;>try simp only[hc]
 |(with_reducible refine aD hQ ?_;(try cases h);simp only[aU,aV,bI,bJ,go_sem,hD,hY,hZ,gA,oe,b];try exact cv)
 |(cases h;replace h:=hr;clear hr;(try simp only[bs,↓reduceIte]at h))
 | (cases h;done))
    have RZ:m1.mem.length≤(m1.fx W it.s).2.mem.length:=by
     have hw:=gE m1 it.s.x
     unfold Mc.fx
     split
     ·dsimp only
      split
      ·rw[(eU _ _ _ _).2.1,hw.2.1];exact Nat.le_refl _
      ·rw[hw.2.1];exact Nat.le_refl _
     ·rw[(eU _ _ _ _).2.1];exact Nat.le_refl _
    refine Km (a:=a) (g:=(m1.fx W it.s).1) hS hQ (y:=y2) ⟨⟨dr it,rfl,BY⟩,Kp.of hgs RZ Kp.at_,PH _ qL (by rw[hgs,Kq];exact dM.st),by simpa using b,by rw[qL.steps,VR];omega⟩ ?_ ?_
    ·rcases e:(m1.fx W it.s).2.back p.aX.L (m1.fx W it.s).1 with ⟨_ | a',m'⟩
     ·rw[e]at kM;cases kM;exact .inl rfl
     ·rw[e]at kM;exact .inr ⟨a',m',rfl,fun y' s' tm h1 h2=>IH a' m' y' s' tm kM h1 h2⟩
    ·simp only [go_sem]
     repeat' (first|exact Ok.out|with_reducible refine iY ?_ ?_)
   ·rw [b,if_neg (by simp)]at kM
    cases kM
    repeat' (first
 |simp only[go_sem,hD,hY,hZ,gA,oe,b]
 |(with_reducible first|refine bo fun hc=>?_|refine bp fun hc=>?_|refine bq (fun hc=>?_) fun hc=>?_)<;>(try simp only[hc,bs,↓reduceIte]at h)<;>try simp only[hc]
 |(with_reducible refine aD hQ ?_;(try cases h);simp only[aU,aV,bI,bJ,go_sem,hD,hY,hZ,gA,oe,b];try exact cv)
 |(cases h;replace h:=hr;clear hr;(try simp only[bs,↓reduceIte]at h))
 | (cases h;done))
    refine E7 hQ BY ?_
    simp only[go_sem]
    repeat' (first|exact Ok.out|with_reducible refine iY ?_ ?_)
  rw[if_neg (by simp[b9])]at kM
  have c1:=anS hS.ok hS.right.may nG PF PG (Mj hS.ok hS.right hx h2 h3)
  repeat' (first
 |simp only[go_sem,hD,hY,hZ,gA,ba,bf,hm,qG,E4,np,BT,Ko,cS,Hp,Bc,hle,b4,b9,F5,Mm,List.append_nil]
 |(with_reducible first|refine bo fun hc=>?_|refine bp fun hc=>?_|refine bq (fun hc=>?_) fun hc=>?_)<;>(try simp only[hc,bs,↓reduceIte]at h)<;>try simp only[hc]
 |(with_reducible refine aD hQ ?_;(try cases h);simp only[aU,aV,bI,bJ,go_sem,hD,hY,hZ,gA,ba,bf,hm,qG,E4,np,BT,Ko,cS,Hp,Bc,hle,b4,b9,F5,Mm,List.append_nil];try exact cv)
 |(cases h;replace h:=hr;clear hr;(try simp only[bs,↓reduceIte]at h))
 | (cases h;done))
  refine CR c1 fun d s2 Kn=>?_
  obtain⟨rfl,y2,_,BY⟩:=Kn
  have oe:=BY.jC
  rw[fp]at oe
  have hdl:=ZS p p.aX.L T W m1 it
  have A6:=(Po p p.aX.L T W m1 it).1
  rcases Bool.eq_false_or_eq_true ((m1.do p p.aX.L T W it).2.fin==0)with b|b
  ·rw [b,if_pos rfl]at kM
   repeat' (first
 |simp only[go_sem,hD,hY,hZ,gA,oe,b]
 |(with_reducible first|refine bo fun hc=>?_|refine bp fun hc=>?_|refine bq (fun hc=>?_) fun hc=>?_)<;>(try simp only[hc,bs,↓reduceIte]at h)<;>try simp only[hc]
 |(with_reducible refine aD hQ ?_;(try cases h);simp only[aU,aV,bI,bJ,go_sem,hD,hY,hZ,gA,oe,b];try exact cv)
 |(cases h;replace h:=hr;clear hr;(try simp only[bs,↓reduceIte]at h))
 | (cases h;done))
   refine IH _ _ y2 s2 _ kM ⟨⟨dr it,rfl,BY⟩,ag8 hS.right Kp hx (by rw[wO, ← h4];unfold Mc.top;rw[Kq]) (by simpa using b),PH _ hdl (by rw[A6,Kq];exact dM.st),by simpa using b,by rw[hdl.steps,VR];omega⟩ ?_
   simp only[go_sem]
   repeat' (first|exact Ok.out|with_reducible refine iY ?_ ?_)
  ·rw [b,if_neg (by simp)]at kM
   cases kM
   repeat' (first
 |simp only[go_sem,hD,hY,hZ,gA,oe,b]
 |(with_reducible first|refine bo fun hc=>?_|refine bp fun hc=>?_|refine bq (fun hc=>?_) fun hc=>?_)<;>(try simp only[hc,bs,↓reduceIte]at h)<;>try simp only[hc]
 |(with_reducible refine aD hQ ?_;(try cases h);simp only[aU,aV,bI,bJ,go_sem,hD,hY,hZ,gA,oe,b];try exact cv)
 |(cases h;replace h:=hr;clear hr;(try simp only[bs,↓reduceIte]at h))
 | (cases h;done))
   refine E7 hQ BY ?_
   simp only[go_sem]
   repeat' (first|exact Ok.out|with_reducible refine iY ?_ ?_)
end
end Go.Abs
namespace Go.Abs
set_option maxRecDepth 8000
open Go.Proofs
def ofM (p:Pg) (T W:List Int) (fuel:Int):Mc×Int:=
 if decide (fuel<0) ||(decide (fuel > 1000000) || !(p.check.1==0))then(⟨[],[],0,0,0,[],[]⟩,1)else((runM p T W fuel).getD ⟨[],[],0,0,0,[],[]⟩,0)
theorem Ia (m:Mc):D.bK 0 0 (fM m)=true:=by simp[fM,D.bK,D.ok,Tag.ok,iI,ahm]
theorem ZV {p:Pg} (hR:p.Right) : ∃ (j:Nat) (q:Pc),p.at iR=(j:Int)∧p.procs[j]? = some q∧p.find q.name=some q∧q.params.length=0:=by
 have h:=hR.main
 unfold Pg.tz at h
 cases e:p.find iR with
 |none=>rw[e]at h;cases h
 |some q=>
  rw[e]at h
  obtain⟨j,h1,h2⟩:=H8 (k:=0) e
  refine⟨j,q,by simpa[Pg.at]using h1,h2,by rw[zV e];exact e, ?_⟩
  simp only[decide_eq_false_iff_not]at h
  omega
theorem ad0 {p:Pg} (hO:p.iJ) {T W:List Int} (hT:T.length<1000000) (hW:W.length<1000000) (fuel:Int) (s:St) :
 aF Tryz.prog vv [.agg (cr p), .slice .shared 1 (T.map cm), .int .i64 fuel, .slice .shared 1 (W.map cm)] s (.tuple [.agg (fM (ofM p T W fuel).1), .int .i64 (ofM p T W fuel).2]) s:=by
 refine aF.pure ?_ (by simp[D.bK,D.ok,Tag.ok,jb,iI]) (by simp only[D.ok,D.bK,Ia];rfl) s
 have cM:=fun s=>SM hO s
 have cN:=fun s=>Cf (p:=p) (by have:=hO.procs;omega) s
 generalize hR:ofM p T W fuel=R
 unfold ofM at hR
 obtain⟨R1,R2⟩:=R
 dsimp only
 unfold S0
 by_cases Kr:(decide (fuel<0) ||(decide (fuel > 1000000) || !(p.check.1==0)))=true
 ·rw [if_pos Kr]at hR
  cases hR
  simp only[fM,List.map_nil]
  rcases Bool.eq_false_or_eq_true (decide (fuel<0))with b1|b1
  ·refine aF.go uP rfl fun B Q hB hQ=> ?_
   have⟨hD,hY,hZ,gA⟩:=bQ
   repeat' (first
 |simp only[go_sem,hD,hY,hZ,gA,b1]
 |(with_reducible first|refine bo fun hc=>?_|refine bp fun hc=>?_|refine bq (fun hc=>?_) fun hc=>?_)<;>(try simp only[hc,bs,↓reduceIte]at h)<;>try simp only[hc]
 |(with_reducible refine aD hQ ?_;(try cases h);simp only[aU,aV,bI,bJ,go_sem,hD,hY,hZ,gA,b1];try exact cv)
 | (cases h;done))
   refine lC.kQ ?_
   repeat' (first
 |simp only[go_sem,hD,hY,hZ,gA,b1]
 |(with_reducible first|refine bo fun hc=>?_|refine bp fun hc=>?_|refine bq (fun hc=>?_) fun hc=>?_)<;>(try simp only[hc,bs,↓reduceIte]at h)<;>try simp only[hc]
 |(with_reducible refine aD hQ ?_;(try cases h);simp only[aU,aV,bI,bJ,go_sem,hD,hY,hZ,gA,b1];try exact cv)
 | (cases h;done))
  rcases Bool.eq_false_or_eq_true (decide (fuel > 1000000))with b2|b2
  ·refine aF.go uP rfl fun B Q hB hQ=> ?_
   have⟨hD,hY,hZ,gA⟩:=bQ
   repeat' (first
 |simp only[go_sem,hD,hY,hZ,gA,b1,b2]
 |(with_reducible first|refine bo fun hc=>?_|refine bp fun hc=>?_|refine bq (fun hc=>?_) fun hc=>?_)<;>(try simp only[hc,bs,↓reduceIte]at h)<;>try simp only[hc]
 |(with_reducible refine aD hQ ?_;(try cases h);simp only[aU,aV,bI,bJ,go_sem,hD,hY,hZ,gA,b1,b2];try exact cv)
 | (cases h;done))
   refine lC.kQ ?_
   repeat' (first
 |simp only[go_sem,hD,hY,hZ,gA,b1,b2]
 |(with_reducible first|refine bo fun hc=>?_|refine bp fun hc=>?_|refine bq (fun hc=>?_) fun hc=>?_)<;>(try simp only[hc,bs,↓reduceIte]at h)<;>try simp only[hc]
 |(with_reducible refine aD hQ ?_;(try cases h);simp only[aU,aV,bI,bJ,go_sem,hD,hY,hZ,gA,b1,b2];try exact cv)
 | (cases h;done))
  ·have b3:(p.check.1==0)=false:=by simpa [b1,b2]using Kr
   rw[b3]at cM
   refine aF.go uP rfl fun B Q hB hQ=>?_
   have⟨hD,hY,hZ,gA⟩:=bQ
   repeat' (first
 |simp only[go_sem,hD,hY,hZ,gA,b1,b2]
 |(with_reducible refine CU (cM _) ?_)
 |(with_reducible first|refine bo fun hc=>?_|refine bp fun hc=>?_|refine bq (fun hc=>?_) fun hc=>?_)<;>(try simp only[hc,bs,↓reduceIte]at h)<;>try simp only[hc]
 |(with_reducible refine aD hQ ?_;(try cases h);simp only[aU,aV,bI,bJ,go_sem,hD,hY,hZ,gA,b1,b2];try exact cv)
 | (cases h;done))
   refine lC.kQ ?_
   repeat' (first
 |simp only[go_sem,hD,hY,hZ,gA,b1,b2]
 |(with_reducible refine CU (cM _) ?_)
 |(with_reducible first|refine bo fun hc=>?_|refine bp fun hc=>?_|refine bq (fun hc=>?_) fun hc=>?_)<;>(try simp only[hc,bs,↓reduceIte]at h)<;>try simp only[hc]
 |(with_reducible refine aD hQ ?_;(try cases h);simp only[aU,aV,bI,bJ,go_sem,hD,hY,hZ,gA,b1,b2];try exact cv)
 |(cases h;done))
 rw[if_neg Kr]at hR
 simp only[Bool.or_eq_true,not_or,Bool.not_eq_true,Bool.not_eq_false']at Kr
 obtain⟨b1,b2,b3⟩:=Kr
 rw[b3]at cM
 have PI:0≤fuel∧fuel≤1000000:=by simp at b1 b2;omega
 obtain⟨mf,hmf⟩:=Ha p T W PI.1
 rw[hmf]at hR
 simp only[Option.getD_some]at hR
 cases hR
 have XW:=zJ b3
 have hS:F4 p T W fuel:=⟨hO,XW,hW,hT,PI⟩
 obtain⟨j,q,j1,j2,j3,j4⟩:=ZV XW
 have cP:=fun s=>(show aF Tryz.prog iu [.dv (fv p) 0, .str [109,97,105,110]] s (.int .i64 (p.at iR)) s from Ey (p:=p) (by have:=hO.procs;omega) iR s)
 rw[j1]at cP
 have qL:=hO.procs.2.2
 refine aF.go uP rfl fun B Q hB hQ=>?_
 have⟨hD,hY,hZ,gA⟩:=bQ
 -- from the globals on
 have start : ∀ (y:Lay) (s:St),Inv p T W y (j7 p) [(2,BX)] s→Sem Tryz.prog B 131 Q50 (JJ B Q) [(2, .int .i64 fuel),(8, .ptr 2 0),(10, .ptr 0 0)] s:=by
  intro y s hi
  have Ml:=hi.new [.int .i64 0, .int .i64 0, .slice .full 0 [], .str [], .str [], .int .i64 0, .int .i64 0, .str [], .slice .full 0 [], .bool false, .slice .full 0 [], .slice .full 0 [], .slice .full 0 [], .int .i64 0, .int .i64 0, .int .i64 0, .int .i64 0]
  have np:=Ml.jC
  rw[fp]at np
  simp only at np
  obtain⟨y2,s2,hF,nG⟩:=Mi Ml hO XW.may j2 j3 (by simp[j7]) (l:= []) (by simp) (by simp) (by simp[j7]) 0
  have hF':=bL.q8 (.cons (Wk.refl _) (.cons (Wk.refl _) (.cons (Wk.nil .full 0 1) (jq.refl _)))) hF
  have hF2:aF Tryz.prog jj [.ptr 0 0, .int .i64 (j:Int), .slice .full 0 [], .int .i64 0] _ _ s2:=hF'
  have pE:=Mb (m:=j7 p) (pd XW) j2 (l:= []) (call:=0) (by simp[j4]) (by simp) (by simp[j7]) (by simp[j7]) (.inl ⟨rfl,rfl⟩)
  have kM:=hmf
  unfold runM at kM
  rw[j1]at kM
  dsimp only at kM
  have jh:=wX p (j7 p) (j:Int) [] 0
  have uy:=(yA p (j7 p) (j:Int) [] 0).1
  have wQ:((j7 p).open p (j:Int) [] 0).2.fin=0:=by
   unfold Mc.open
   split<;>rfl
  have ad2:=VQ (B:=B) hS hQ _ _ _ y2 s.ah.length s2 ⟨⟨_,rfl,nG⟩,pE,⟨by rw[jh.2.2.2];simp[j7],by rw[jh.1,jh.2.2.2];simp[j7],by rw[jh.2.1,jh.2.2.2];simp[j7],by rw[jh.2.2.1,jh.2.2.2];simp[j7],Nat.le_trans uy (by simp[j7])⟩,wQ,by rw[jh.2.2.2];simp[j7];exact PI.1⟩ kM
  refine Sem.mZ ?_
  repeat' (first
 |simp only[go_sem,hD,hY,hZ,gA]
 |(with_reducible first|refine bo fun hc=>?_|refine bp fun hc=>?_|refine bq (fun hc=>?_) fun hc=>?_)<;>(try simp only[hc,bs,↓reduceIte]at h)<;>try simp only[hc]
 |(with_reducible refine aD hQ ?_;exact fS)
 |(cases h;done))
  refine Sem.mZ ?_
  repeat' (first
 |simp only[go_sem,hD,hY,hZ,gA]
 |(with_reducible first|refine bo fun hc=>?_|refine bp fun hc=>?_|refine bq (fun hc=>?_) fun hc=>?_)<;>(try simp only[hc,bs,↓reduceIte]at h)<;>try simp only[hc]
 |(with_reducible refine aD hQ ?_;exact fS)
 |(cases h;done))
  refine Sem.mZ ?_
  repeat' (first
 |simp only[go_sem,hD,hY,hZ,gA,np]
 |(with_reducible refine CU (cP _) ?_)
 |(with_reducible refine CU (hF2) ?_)
 |(with_reducible first|refine bo fun hc=>?_|refine bp fun hc=>?_|refine bq (fun hc=>?_) fun hc=>?_)<;>(try simp only[hc,bs,↓reduceIte]at h)<;>try simp only[hc]
 |(with_reducible refine aD hQ ?_;(try cases h);simp only[aU,aV,bI,bJ,go_sem,hD,hY,hZ,gA,np];try exact cv)
 |(cases h;done))
  refine Sem.mZ ?_
  repeat' (first
 |simp only[go_sem,hD,hY,hZ,gA]
 |(with_reducible first|refine bo fun hc=>?_|refine bp fun hc=>?_|refine bq (fun hc=>?_) fun hc=>?_)<;>(try simp only[hc,bs,↓reduceIte]at h)<;>try simp only[hc]
 |(with_reducible refine aD hQ ?_;exact fS)
 |(cases h;done))
  refine Sem.pG ?_ ad2
  simp only[go_sem]
  repeat' (first|exact Ok.out|with_reducible refine iY ?_ ?_)
 generalize hG:p.globals.length=G at *
 have hGb:G≤900000:=by rw[← hG];exact hO.procs.2.2
 let row:Nat→List D:=fun k=> [.dv (fv p) 0, .slice (.tok 2) 1 ((List.range k).map fun i=>fh (3+i)), .slice .shared 1 (T.map cm), .slice .shared 1 (W.map cm), .ej 1, .ej 1, .int .i64 0, .int .i64 0, .int .i64 0, .slice (.tok 0) 1 [], .slice (.tok 1) 2 []]
 have loop : ∀ d k:Nat,k+d=G→bl Tryz.prog B 131 Q3E (kA 0 (nN (Sem Tryz.prog B 131 Q50 (JJ B Q)) (JJ B Q))) [(2, .int .i64 fuel),(8, .ptr 2 0),(10, .ptr 0 0),(34, .int .i64 (G:Int)),(35, .int .i64 (k:Int))]
  ⟨row k::cr p::BX::List.replicate k [.int .i64 0],[some 0,some 0,some k]⟩:=by
  intro d
  induction d with
  |zero=>
   intro k hk
   have uv:k=G:=by omega
   subst uv
   have hD:decide ((k:Int)<(k:Int))=false:=by simp
   refine bl.kQ ?_
   repeat' (first
 |simp only[go_sem,hD,hY,hZ,gA]
 |(with_reducible first|refine bo fun hc=>?_|refine bp fun hc=>?_|refine bq (fun hc=>?_) fun hc=>?_)<;>(try simp only[hc,bs,↓reduceIte]at h)<;>try simp only[hc]
 |(with_reducible refine aD hQ ?_;exact fS)
 | (cases h;done))
   refine Sem.pG (br:= [(2, .int .i64 fuel),(8, .ptr 2 0),(10, .ptr 0 0)]) (by simp only[go_sem];repeat' (first|exact Ok.out|with_reducible refine iY ?_ ?_)) ?_
   have hκ:((List.range k).map (3 + ·)).length=k:=by simp
   have hmp:((List.range k).map fun i=>fh (3+i))=(((List.range k).map (3 + ·)).take k).map fh:=by rw[List.take_of_length_le (by simp),List.map_map];rfl
   refine Sem.wkO (fp p T W ⟨(List.range k).map (3 + ·),[], .ej 1, .ej 1⟩ (j7 p)::cr p::BX::List.replicate k [.int .i64 0]) ?_ (start ⟨(List.range k).map (3 + ·),[], .ej 1, .ej 1⟩ _ ?_)
   ·refine .cons ?_ (gx.refl _)
    simp only[row,fp,hG, ← hmp,j7,List.map_nil]
    exact Ok.out
   ·have SB:((List.range k).map (3 + ·)).Nodup:=by
     rw[List.nodup_iff_pairwise_ne,List.pairwise_map]
     exact List.Pairwise.imp (fun h=>by omega) (List.nodup_iff_pairwise_ne.1 List.nodup_range)
    refine⟨rfl,rfl,rfl,by simp[j7,hG],fun i c v e1 e2=>?_,rfl,fun i o fr e1 e2=>by simp at e1, .inl ⟨rfl,rfl⟩,⟨[], .inl ⟨rfl,rfl⟩⟩, ?_,fun x mx=>?_⟩
    ·have hD:=(List.getElem?_eq_some_iff.1 e1).1
     simp only[hκ]at hD
     rw[List.getElem?_map,List.getElem?_range hD]at e1
     simp only[j7]at e2
     rw[List.getElem?_replicate_of_lt (by omega)]at e2
     simp only[Option.map_some,Option.some.injEq]at e1 e2
     subst e1 e2
     show(_::_::_::List.replicate k [D.int .i64 0])[3+i]? = _
     rw[show 3+i=i+1+1+1 by omega]
     simp only[List.getElem?_cons_succ]
     exact List.getElem?_replicate_of_lt hD
    ·simp only [Lay.own,D.arr,List.append_nil]
     rw[List.nodup_cons]
     exact⟨by simp,SB⟩
    ·rw [List.mem_singleton.1 mx]
     refine⟨rfl, ?_⟩
     simp only[Lay.own,D.arr,List.append_nil,List.mem_cons,List.mem_map,List.mem_range,not_or]
     exact⟨by omega,by rintro⟨i,_,h⟩;omega⟩
  | succ d ih=>
   intro k hk
   have hD:decide ((k:Int)<(G:Int))=true:=by simp;omega
   have bN:k<4611686018427387904:=by omega
   have eO : ∀ os,ik 1 8 (.slice (.tok 2) 1 ((List.range k).map fun i=>fh (3+i))) (.slice .full 1 [[.ptr (3+k) 0]]) ⟨os,[some 0,some 0,some k]⟩ =
    some (.slice (.tok 2) 1 ((List.range (k+1)).map fun i=>fh (3+i)),⟨os,[some 0,some 0,some (k+1)]⟩):=fun os=>by
    rw[nR (size:=1) (by simp only[List.length_map,List.length_range,List.length_singleton];unfold bC;omega) (by simp)]
    simp[List.range_succ,fh]
   have hln : ∀ a b c:List D,(a::b::c::List.replicate k [D.int .i64 0]).length=3+k:=fun a b c=>by simp;omega
   have ad3 : ∀ a b c:List D,a::b::c::List.replicate k [D.int .i64 0]++ [[D.int .i64 0]] = a::b::c::List.replicate (k+1) [D.int .i64 0]:=fun a b c=>by rw[List.replicate_succ'];rfl
   refine bl.kQ ?_
   simp only[row]
   repeat' (first
 |simp only[go_sem,hD,hY,hZ,gA,eO,hln,ad3]
 |(with_reducible first|refine bo fun hc=>?_|refine bp fun hc=>?_|refine bq (fun hc=>?_) fun hc=>?_)<;>(try simp only[hc,bs,↓reduceIte]at h)<;>try simp only[hc]
 |(with_reducible refine aD hQ ?_;(try cases h);simp only[aU,aV,bI,bJ,go_sem,hD,hY,hZ,gA,eO,hln,ad3];try exact cv)
 | (cases h;done))
   have:=ih (k+1) (by omega)
   simp only[row,List.range_succ,List.map_append,List.map_cons,List.map_nil]at this
   refine bl.pG ?_ this
   simp only[go_sem,aI bN]
   repeat' (first|exact Ok.out|with_reducible refine iY ?_ ?_)
 repeat' (first
 |simp only[go_sem,hD,hY,hZ,gA,b1,b2]
 |(with_reducible first|refine bo fun hc=>?_|refine bp fun hc=>?_|refine bq (fun hc=>?_) fun hc=>?_)<;>(try simp only[hc,bs,↓reduceIte]at h)<;>try simp only[hc]
 |(with_reducible refine aD hQ ?_;(try cases h);simp only[aU,aV,bI,bJ,go_sem,hD,hY,hZ,gA,b1,b2];try exact cv)
 |(cases h;done))
 refine lC.once (Sem.mZ ?_)
 repeat' (first
 |simp only[go_sem,hD,hY,hZ,gA,b1,b2]
 |(with_reducible refine CU (cM _) ?_)
 |(with_reducible first|refine bo fun hc=>?_|refine bp fun hc=>?_|refine bq (fun hc=>?_) fun hc=>?_)<;>(try simp only[hc,bs,↓reduceIte]at h)<;>try simp only[hc]
 |(with_reducible refine aD hQ ?_;(try cases h);simp only[aU,aV,bI,bJ,go_sem,hD,hY,hZ,gA,b1,b2];try exact cv)
 |(cases h;done))
 refine Sem.mZ ?_
 repeat' (first
 |simp only[go_sem,hD,hY,hZ,gA]
 |(with_reducible refine CU (cN _) ?_)
 |(with_reducible first|refine bo fun hc=>?_|refine bp fun hc=>?_|refine bq (fun hc=>?_) fun hc=>?_)<;>(try simp only[hc,bs,↓reduceIte]at h)<;>try simp only[hc]
 |(with_reducible refine aD hQ ?_;exact fS)
 |(cases h;done))
 refine Sem.mZ ?_
 repeat' (first
 |simp only[go_sem,hD,hY,hZ,gA]
 |(with_reducible first|refine bo fun hc=>?_|refine bp fun hc=>?_|refine bq (fun hc=>?_) fun hc=>?_)<;>(try simp only[hc,bs,↓reduceIte]at h)<;>try simp only[hc]
 |(with_reducible refine aD hQ ?_;exact fS)
 |(cases h;done))
 refine bl.Dn 2 9 1 rfl rfl ?_
 refine bl.Dn 2 10 2 rfl rfl ?_
 refine bl.Dn 2 1 1 rfl rfl ?_
 simp only[List.set_cons_succ,List.set_cons_zero,List.length_nil,List.nil_append,List.length_cons,List.cons_append]
 have l0:=loop G 0 (by omega)
 simp only[row,List.range_zero,List.map_nil,List.replicate_zero]at l0
 refine bl.re [(2, .int .i64 fuel),(8, .ptr 1 0),(10, .ptr 2 0),(34, .int .i64 (G:Int)),(35, .int .i64 ((0:Nat):Int))]
  [cr p,BX,[.dv (fv p) 0, .slice (.tok 2) 1 [], .slice .shared 1 (T.map cm), .slice .shared 1 (W.map cm), .ej 1, .ej 1, .int .i64 0, .int .i64 0, .int .i64 0, .slice (.tok 0) 1 [], .slice (.tok 1) 2 []]] 3 3 (by rw[hB];exact Nat.zero_le _) (by rw[hB];exact Nat.zero_le _) ?_ ?_ ?_
 ·simp only [go_sem,hG]
  repeat' (first|exact Ok.out|with_reducible refine iY ?_ ?_)
 ·simp only [go_sem,XG]
  repeat' (first|exact Ok.out|with_reducible refine iY ?_ ?_)
 have r1 : ∀ os ts,D.eZ os ts (fv p)=fv p:=fun os ts=>fz os ts _ (uj p)
 have r2 : ∀ n m,D.bK n m (fv p)=true:=fun n m=>il (Nat.zero_le n) (Nat.zero_le m) _ (uj p)
 have r3 : ∀ os ts l,D.nP os ts (List.map cm l)=List.map cm l:=fun os ts l=>ji os ts _ (iI l)
 have r4 : ∀ n m l,D.gQ n m (List.map cm l)=true:=fun n m l=>mr (Nat.zero_le n) (Nat.zero_le m) _ (iI l)
 refine bl.ajy hB [2,0,1] _ _ (by decide) (by simp) ?_ ?_ l0
 ·simp[Bh,D.eZ,D.cW,D.nP,D.bK,D.gQ,D.ok,Tag.cW,Tag.ok,St.cut,r1,r2,r3,r4,LK,Rn,BX]
 ·simp[CZ,Tm.get,D.cW,D.ok]
theorem Ks {a b:List Int} (ha:a.length<1000000000) (g:Tag) (s:St):aF Tryz.prog py [.slice .shared 1 (a.map cm), .slice g 1 (b.map cm)] s (.bool (a==b)) s:=by
 refine bL.q8 (.cons (Wk.refl _) (.cons (Wk.shared _ _ _) .nil)) (aF.pure ?_ (by simp[D.bK,D.ok,Tag.ok,iI]) rfl s)
 generalize h:(a==b)=R
 unfold S0
 by_cases hl:a.length=b.length
 ·have e1:((a.length:Int) != (b.length:Int))=false:=by simp [hl]
  refine aF.go vD rfl fun B Q hB hQ=>?_
  have⟨hD,hY,hZ,gA⟩:=bQ
  repeat' (first
 |simp only[go_sem,hD,hY,hZ,gA,e1]
 |(with_reducible first|refine bo fun hc=>?_|refine bp fun hc=>?_|refine bq (fun hc=>?_) fun hc=>?_)<;>(try simp only[hc,bs,↓reduceIte]at h)<;>try simp only[hc]
 |(with_reducible refine aD hQ ?_;(try cases h);simp only[aU,aV,bI,bJ,go_sem,hD,hY,hZ,gA,e1];try exact cv)
 | (cases h;done))
  refine e8 0 0 (bl.ind (ι:=List Int×List Int×Nat) (fun i=>a.drop i.2.2=i.1∧b.drop i.2.2=i.2.1∧(i.1==i.2.1)=R) (fun i=>i.1.length)
   (fun i=> [(0, .slice .shared 1 (a.map cm)),(1, .slice .shared 1 (b.map cm)),(12, .int .i64 (a.length:Int)),(13, .int .i64 (i.2.2:Int))]) (fun i=>⟨[],[]⟩) ?_ (a,b,0) ⟨rfl,rfl,h⟩)
  rintro⟨ra,rb,k⟩ ⟨h1,h2,h⟩ IH
  dsimp only at h1 h2 h
  cases ra with
  |nil=>
   have hD:=drop_nil h1
   have:b.drop k = []:=by rw[List.drop_eq_nil_iff]at h1 ⊢;omega
   rw[h2]at this
   subst this
   have h':true=R:=h
   subst h'
   repeat' (first
 |simp only[go_sem,hD,hY,hZ,gA]
 |(with_reducible first|refine bo fun hc=>?_|refine bp fun hc=>?_|refine bq (fun hc=>?_) fun hc=>?_)<;>(try simp only[hc,bs,↓reduceIte]at h)<;>try simp only[hc]
 |(with_reducible refine aD hQ ?_;exact fS)
 | (cases h;done))
  | cons x ra=>
   obtain⟨hY,g2,hD,g4⟩:=drop_cons h1
   have bN:k<4611686018427387904:=by omega
   cases rb with
   |nil=>rw[List.drop_eq_nil_iff]at h2;omega
   | cons y rb=>
    obtain⟨wi,g2',ada,g4'⟩:=drop_cons h2
    have e2:(x != y) = !(x==y):=rfl
    simp only[List.cons_beq_cons]at h
    rcases Bool.eq_false_or_eq_true (x==y)with c|c
    ·simp only [c,Bool.true_and]at h
     repeat' (first
 |simp only[go_sem,hD,hY,hZ,gA,e2,c,wi]
 |(with_reducible first|refine bo fun hc=>?_|refine bp fun hc=>?_|refine bq (fun hc=>?_) fun hc=>?_)<;>(try simp only[hc,bs,↓reduceIte]at h)<;>try simp only[hc]
 |(with_reducible refine aD hQ ?_;(try cases h);simp only[aU,aV,bI,bJ,go_sem,hD,hY,hZ,gA,e2,c,wi];try exact cv)
 | (cases h;done))
     refine eJ 0 0 ?_ ?_ (IH (ra,rb,k+1) ⟨g2,g2',h⟩ (Nat.lt_succ_self _))
     ·(simp only[go_sem,hD,hY,hZ,gA,aI bN];try exact bS)
     ·(simp only[go_sem,hD,hY,hZ,gA,aI bN];try exact bS)
    ·simp only [c,Bool.false_and]at h
     repeat' (first
 |simp only[go_sem,hD,hY,hZ,gA,e2,c,wi]
 |(with_reducible first|refine bo fun hc=>?_|refine bp fun hc=>?_|refine bq (fun hc=>?_) fun hc=>?_)<;>(try simp only[hc,bs,↓reduceIte]at h)<;>try simp only[hc]
 |(with_reducible refine aD hQ ?_;(try cases h);simp only[aU,aV,bI,bJ,go_sem,hD,hY,hZ,gA,e2,c,wi];try exact cv)
 |(cases h;done))
 ·have e1:((a.length:Int) != (b.length:Int))=true:=by simp;omega
  have:(a==b)=false:=by
   rw[beq_eq_false_iff_ne];intro e;rw[e]at hl;exact hl rfl
  rw[this]at h
  subst h
  refine aF.go vD rfl fun B Q hB hQ=>?_
  have⟨hD,hY,hZ,gA⟩:=bQ
  repeat' (first
 |simp only[go_sem,hD,hY,hZ,gA,e1]
 |(with_reducible first|refine bo fun hc=>?_|refine bp fun hc=>?_|refine bq (fun hc=>?_) fun hc=>?_)<;>(try simp only[hc,bs,↓reduceIte]at h)<;>try simp only[hc]
 |(with_reducible refine aD hQ ?_;(try cases h);simp only[aU,aV,bI,bJ,go_sem,hD,hY,hZ,gA,e1];try exact cv)
 |(cases h;done))
structure Mc.Len (m:Mc):Prop where
 out:m.out.length<1000000000
 trace:m.trace.length<1000000000
 bW : ∀ e∈m.trace,e.2.length<1000000000
def aho (a b:Mc):Bool:=a.fin==b.fin && (a.steps==b.steps && (a.reads==b.reads && a.out==b.out))
def avv (a b:Mc):Bool:=aho a b && a.trace==b.trace
theorem F6:fM (ofM rL [] [5,2] 50).1 = [.int .i64 1, .int .i64 7, .int .i64 0, .slice .shared 1 ([5,5].map cm), .slice .shared 2 ([(2,[]),(5,[5])].map iT)]:=by kernel_rfl
theorem ahp:(ofM rL [] [5,2] 50).2=0:=by kernel_rfl
theorem ZW:Nat.ble (rL.size+1) 1000=true:=by kernel_rfl
theorem SP (n:Int):qo (.ofInt .f64) (.int .i64 n) (.int .i64 n)=some (.val (.float .f64 (FloatKind.nearest .f64 n))):=nd rfl
theorem Kt (a b:Nat):qo .Ib (.val (.float .f64 a)) (.val (.float .f64 b))=some (.val (.complex .f64 a b)):=nd rfl
theorem Ku (a b:Nat) (d:D):qo .real (.val (.complex .f64 a b)) d=some (.val (.float .f64 a)):=nd rfl
theorem XX:qo .eq (.val (.float .f64 (FloatKind.nearest .f64 7))) (.val (.float .f64 4619567317775286272))=some (.bool true):=by
 have:FloatKind.nearest .f64 7=4619567317775286272:=by decide +kernel
 rw[this]
 have h:(FloatKind.f64.format.order 4619567317775286272 4619567317775286272==some .eq)=true:=by decide +kernel
 show(if FloatKind.f64=FloatKind.f64 then some (D.bool (FloatKind.f64.format.order 4619567317775286272 4619567317775286272==some .eq))else none)=_
 rw[if_pos rfl,h]
theorem ad4:rL.iJ:=by
 have vh:rL.size<100000:=by have:=Nat.le_of_ble_eq_true ZW;omega
 exact⟨RT (by decide +kernel) (by omega),by omega⟩
theorem ad5 (n k:Nat) (m:Mc):D.gn n k (fM m)=fM m:=gY n k _ (Ia m)
theorem ZX (m:Mc):(fM m).length=5:=nd rfl
theorem VT (m:Mc):List.take 5 (fM m)=fM m:=nd rfl
theorem ahq (m:Mc):(fM m)[0]? = some (.int .i64 m.fin):=nd rfl
theorem ahr (m:Mc):(fM m)[1]? = some (.int .i64 m.steps):=nd rfl
theorem ahs (m:Mc):(fM m)[2]? = some (.int .i64 m.reads):=nd rfl
theorem aht (m:Mc):(fM m)[3]? = some (.slice .shared 1 (m.out.map cm)):=nd rfl
theorem XY (m:Mc):(fM m)[4]? = some (.slice .shared 2 (m.trace.map iT)):=nd rfl
attribute [go_sem] ad5 ZX VT ahq ahr ahs aht XY
theorem ZY (m:Mc) (s:St):aF Tryz.prog xl [.agg (fM m)] s (.val (.complex .f64 (FloatKind.nearest .f64 m.steps) (FloatKind.nearest .f64 m.reads))) s:=by
 refine aF.pure ?_ (by simp[D.bK,D.ok,Ia]) rfl s
 unfold S0
 refine aF.go HC rfl fun B Q hB hQ=>?_
 have⟨hD,hY,hZ,gA⟩:=bQ
 repeat' (first
 |simp only[go_sem,hD,hY,hZ,gA,fM,SP,Kt]
 |(with_reducible first|refine bo fun hc=>?_|refine bp fun hc=>?_|refine bq (fun hc=>?_) fun hc=>?_)<;>(try simp only[hc,bs,↓reduceIte]at h)<;>try simp only[hc]
 |(with_reducible refine aD hQ ?_;(try cases h);simp only[aU,aV,bI,bJ,go_sem,hD,hY,hZ,gA,fM,SP,Kt];try exact cv)
 |(cases h;done))
theorem ahu (s:St):aF Tryz.prog xi [] s (.bool true) s:=by
 refine aF.pure ?_ rfl rfl s
 have h1:=fun s=>adz s
 have h2:=fun s=>ad0 (T:= []) (W:= [5,2]) ad4 (by simp) (by simp) 50 s
 have h4:=fun s=>ZY (ofM rL [] [5,2] 50).1 s
 have m1:(ofM rL [] [5,2] 50).1.steps=7:=by have:=congrArg (fun l=>l[1]?) F6;simpa[fM]using this
 have m2:(ofM rL [] [5,2] 50).1.reads=0:=by have:=congrArg (fun l=>l[2]?) F6;simpa[fM]using this
 rw[m1,m2]at h4
 rw[F6]at h2 h4
 rw[ahp]at h2
 simp only[List.map_cons,List.map_nil,cm,iT]at h2 h4
 have h3:=fun g s=>Ks (a:= [5,5]) (b:= [5,5]) (by simp) g s
 have h5:=fun g s=>Ks (a:= [5]) (b:= [5]) (by simp) g s
 have e5:(([5,5] : List Int) == [5,5])=true:=rfl
 have e6:(([5] : List Int) == [5])=true:=rfl
 rw[e5]at h3
 rw[e6]at h5
 simp only[List.map_cons,List.map_nil,cm]at h3 h5
 have uz:=fun s=>bL.q8 (.cons (Wk.refl _) (.cons (Wk.nil .full 0 1) (.cons (Wk.refl _) (.cons (Wk.shared .full _ _) .nil)))) (h2 s)
 have h2 : ∀ s,aF Tryz.prog vv [.agg (cr rL), .slice .full 0 [], .int .i64 50, .slice .full 1 [[.int .i64 5],[.int .i64 2]]] s _ s:=uz
 clear uz
 have z0 : ∀ x:Int,(x==x)=true:=fun x=>beq_self_eq_true x
 have z2:(((2:Nat):Int)==2)=true:=rfl
 unfold S0
 refine aF.go Hy rfl fun B Q hB hQ=>?_
 have⟨hD,hY,hZ,gA⟩:=bQ
 repeat' (first
 |simp only[go_sem,hD,hY,hZ,gA,z0,z2,Ku,XX,Int.toNat_one,List.getElem?_cons_succ,List.getElem?_cons_zero]
 |(with_reducible refine CU (h1 _) ?_)
 |(with_reducible refine CU (h2 _) ?_)
 |(with_reducible refine CU (h3 _ _) ?_)
 |(with_reducible refine CU (h5 _ _) ?_)
 |(with_reducible refine CU (h4 _) ?_)
 |(with_reducible first|refine bo fun hc=>?_|refine bp fun hc=>?_|refine bq (fun hc=>?_) fun hc=>?_)<;>(try simp only[hc,bs,↓reduceIte]at h)<;>try simp only[hc]
 |(with_reducible refine aD hQ ?_;(try cases h);simp only[aU,aV,bI,bJ,go_sem,hD,hY,hZ,gA,z0,z2,Ku,XX,Int.toNat_one,List.getElem?_cons_succ,List.getElem?_cons_zero];try exact cv)
 |(cases h;done))
theorem ZZ {p:Pg} (hO:p.iJ) (T:List Int) (fuel:Int) (s:St):aF Tryz.prog tV [.agg (cr p), .slice .shared 1 (T.map cm), .int .i64 fuel] s (.bool (p.check.1==0 && (decide (0≤fuel) && (decide (fuel≤400) && decide ((T.length:Int)≤100))))) s:=by
 refine aF.pure ?_ (by simp[D.bK,D.ok,Tag.ok,jb,iI]) rfl s
 have h1:=fun s=>SM hO s
 have g1:decide (fuel≥0)=decide (0≤fuel):=rfl
 unfold S0
 rcases Bool.eq_false_or_eq_true (p.check.1==0)with b1|b1
 all_goals rcases Bool.eq_false_or_eq_true (decide (0≤fuel))with b2|b2
 all_goals rcases Bool.eq_false_or_eq_true (decide (fuel≤400))with b3|b3
 all_goals rcases Bool.eq_false_or_eq_true (decide ((T.length:Int)≤100))with b4|b4
 all_goals simp only[b1,b2,b3,b4,Bool.true_and,Bool.false_and]
 all_goals rw[b1]at h1
 all_goals rw[b2]at g1
 all_goals
  refine aF.go Em rfl fun B Q hB hQ=>?_
  have⟨hD,hY,hZ,gA⟩:=bQ
  repeat' (first
 |simp only[go_sem,hD,hY,hZ,gA,g1,b3,b4]
 |(with_reducible refine CU (h1 _) ?_)
 |(with_reducible first|refine bo fun hc=>?_|refine bp fun hc=>?_|refine bq (fun hc=>?_) fun hc=>?_)<;>(try simp only[hc,bs,↓reduceIte]at h)<;>try simp only[hc]
 |(with_reducible refine aD hQ ?_;(try cases h);simp only[aU,aV,bI,bJ,go_sem,hD,hY,hZ,gA,g1,b3,b4];try exact cv)
 |(cases h;done))
def Pg.whole (p:Pg) (T:List Int) (fuel:Int):Mc:=(ofM p T (oD 0 p.all) fuel).1
theorem PJ {p:Pg} (hO:p.iJ) (wR:p.all.length≤1000) {T:List Int} (hT:T.length<1000000) (fuel:Int) (s:St):aF Tryz.prog tW [.agg (cr p), .slice .shared 1 (T.map cm), .int .i64 fuel] s (.agg (fM (p.whole T fuel))) s:=by
 refine aF.pure ?_ (by simp[D.bK,D.ok,Tag.ok,jb,iI]) (by simp only[D.ok,Ia]) s
 have wO:=hO.procs
 have h1:=fun s=>ag5 (p:=p) (by omega) wR 0 s
 have hW:(oD 0 p.all).length<1000000:=by have:=DJ 0 p.all;omega
 have h2:=fun s=>ad0 hO hT hW fuel s
 unfold Pg.whole
 unfold S0
 refine aF.go En rfl fun B Q hB hQ=>?_
 have⟨hD,hY,hZ,gA⟩:=bQ
 repeat' (first
 |simp only[go_sem,hD,hY,hZ,gA]
 |(with_reducible refine CU (h1 _) ?_)
 |(with_reducible refine CU (h2 _) ?_)
 |(with_reducible first|refine bo fun hc=>?_|refine bp fun hc=>?_|refine bq (fun hc=>?_) fun hc=>?_)<;>(try simp only[hc,bs,↓reduceIte]at h)<;>try simp only[hc]
 |(with_reducible refine aD hQ ?_;exact fS)
 |(cases h;done))
end Go.Abs
namespace Go.Abs
def Reads (n:Nat) (m:Mc):Prop:=0≤m.reads∧m.reads≤(n:Int)∧(m.fin=3→m.reads=(n:Int))
def Sm.tells (s:Sm):Nat:=if s.kind==4 ||(decide (s.kind≥7) && !s.has)then 0 else 1
def Mn (m m':Mc):Prop:=m'.trace=m.trace∧m'.out=m.out∧m'.reads=m.reads
def Mp (T:List Int) (x:Sm) (m m':Mc):Prop:=∃ bW:List Int,m'.trace=m.trace++ [(x.id,bW)]∧m'.out=m.out++(if x.kind==3 then bW else [])∧bW.length=x.tells∧
 (if x.kind==2 then ∃ v,T[m.reads.toNat]? = some v∧bW = [v]∧m'.reads=m.reads+1 else m'.reads=m.reads)
def zX (T:List Int) (x:Sm) (m m':Mc):Prop:=Mn m m'∨Mp T x m m'
theorem Z0 {s:Sm} (h:s.one=true):1≤s.kind∧s.kind≤10∧(s.kind≠9→s.has=false):=by
 unfold Sm.one at h
 split at h
 ·cases h
 ·rename_i c
  simp only[Bool.or_eq_true,not_or,Bool.not_eq_true,Bool.and_eq_false_iff,decide_eq_false_iff_not,bne_eq_false_iff_eq]at c
  obtain⟨⟨⟨⟨⟨c1,c2⟩,_⟩,_⟩,_⟩,c3⟩:=c
  refine⟨by omega,by omega,fun hk=>?_⟩
  rcases c3 with c3|c3
  ·exact c3
  ·exact absurd c3 hk
theorem sr {T W:List Int} {x:Sm} {m m1:Mc} {bW:List Int} (hW:W.contains x.id=true) (e:m1.trace=m.trace) (eo:m1.out=m.out) (er:m1.reads=m.reads) (hv:bW.length=x.tells) (h3:(x.kind==3)=false) (h2:(x.kind==2)=false):Mp T x m (m1.event W x.id bW):=by
 have k:=eU W m1 x.id bW
 refine⟨bW, ?_, ?_,hv, ?_⟩
 ·unfold Mc.event;rw[if_pos hW];dsimp only;rw[e]
 ·rw[h3];simp[k.2.2.2.2.2,eo]
 ·rw[h2];simp[k.2.2.2.2.1,er]
theorem PK {p:Pg} {T W:List Int} {m:Mc} {v:Sm} (hk:(v.kind==4)=true) (hW:W.contains v.id=true):zX T v m (m.call p W v).2:=by
 have h1:=zU v.args m []
 have h2:=wY v.args m []
 unfold Mc.call
 generalize Mc.args v.args m [] = r at *
 obtain⟨o,m1⟩:=r
 dsimp only at h1 h2
 have k4:v.kind=4:=by simpa using hk
 cases o with
 |none=>exact .inl ⟨h1.2,h1.1,h2.1⟩
 | some l=>
  dsimp only
  by_cases c:m1.st.length > 100
  ·rw[if_pos c];exact .inl ⟨h1.2,h1.1,h2.1⟩
  ·rw [if_neg c]
   have e2:=wX p (m1.event W v.id []) (p.at v.proc) l v.id
   obtain⟨bW,g1,g2,g3,g4⟩:=sr (T:=T) (x:=v) (m:=m) (bW:= []) hW h1.2 h1.1 h2.1 (by unfold Sm.tells;rw[hk];rfl) (by rw[k4];rfl) (by rw[k4];rfl)
   exact .inr ⟨bW,e2.1.trans g1,e2.2.1.trans g2,g3,by rw[e2.2.2.1];exact g4⟩
theorem Lq {T W:List Int} {m:Mc} {v:Sm} (hk:(v.kind==9)=true) (hW:W.contains v.id=true):zX T v m (m.fx W v).2:=by
 have hw:=gE m v.x
 have k9:v.kind=9:=by simpa using hk
 have k4:(v.kind==4)=false:=by rw[k9];rfl
 have k7:decide (v.kind≥7)=true:=by simp[k9]
 unfold Mc.fx
 rcases Bool.eq_false_or_eq_true v.has with c|c
 ·rw [if_pos c]
  dsimp only
  split
  ·exact .inr (sr hW hw.2.2.2.2.2 hw.2.2.2.2.1 hw.2.2.2.1 (by unfold Sm.tells;rw[k4,k7,c];rfl) (by rw[k9];rfl) (by rw[k9];rfl))
  ·exact .inl ⟨hw.2.2.2.2.2,hw.2.2.2.2.1,hw.2.2.2.1⟩
 ·rw [if_neg (by rw [c];exact Bool.false_ne_true)]
  exact .inr (sr hW rfl rfl rfl (by unfold Sm.tells;rw[k4,k7,c];rfl) (by rw[k9];rfl) (by rw[k9];rfl))
theorem VU {p:Pg} {L:List Im} {T W:List Int} {m:Mc} {it:Im} (h1:it.s.one=true) (k4:(it.s.kind==4)=false) (k9:(it.s.kind==9)=false) (hW:W.contains it.s.id=true):zX T it.s m (m.do p L T W it).2:=by
 have hw:=gE m it.s.x
 obtain⟨o1,o2,o3⟩:=Z0 h1
 have hh:=o3 (by simpa using k9)
 have late:(decide (it.s.kind≥7))=true→it.s.tells=0:=fun e=>by unfold Sm.tells;rw[k4,e,hh];rfl
 have an5:(decide (it.s.kind≥7))=false→it.s.tells=1:=fun e=>by unfold Sm.tells;rw[k4,e];rfl
 unfold Mc.do
 dsimp only
 by_cases c7:(it.s.kind==7)=true
 ·rw [if_pos c7]
  have e:it.s.kind=7:=by simpa using c7
  exact .inr (sr hW rfl rfl rfl (late (by simp[e])).symm (by rw[e];rfl) (by rw[e];rfl))
 rw[if_neg c7]
 by_cases c8:(it.s.kind==8)=true
 ·rw [if_pos c8]
  have e:it.s.kind=8:=by simpa using c8
  exact .inr (sr hW rfl rfl rfl (late (by simp[e])).symm (by rw[e];rfl) (by rw[e];rfl))
 rw[if_neg c8]
 by_cases Hi:(it.s.kind==10)=true
 ·rw [if_pos Hi]
  have e:it.s.kind=10:=by simpa using Hi
  exact .inr (sr hW rfl rfl rfl (late (by simp[e])).symm (by rw[e];rfl) (by rw[e];rfl))
 rw[if_neg Hi]
 have s7:decide (it.s.kind≥7)=false:=by
  simp only[beq_iff_eq]at c7 c8 Hi
  simp only[beq_eq_false_iff_ne,ne_eq]at k9
  simp only[decide_eq_false_iff_not]
  omega
 have one:=an5 s7
 by_cases c2:(it.s.kind==2)=true
 ·rw [if_pos c2]
  have e:it.s.kind=2:=by simpa using c2
  cases ht:T[m.reads.toNat]? with
  |none=>exact .inl ⟨rfl,rfl,rfl⟩
  |some n=>
   dsimp only
   have k:=eU W (({m with reads:=m.reads+1} : Mc).set it.s.name n) it.s.id [n]
   refine .inr ⟨[n], ?_, ?_,by rw[one];rfl, ?_⟩
   ·unfold Mc.event;rw[if_pos hW];rfl
   ·rw[k.2.2.2.2.2,e];simp[Mc.set]
   ·rw[if_pos c2];exact⟨n,ht,rfl,k.2.2.2.2.1⟩
 rw[if_neg c2]
 have c2':(it.s.kind==2)=false:=by simpa using c2
 by_cases cw:(m.bB it.s.x).1.2=true
 ·rw [if_pos cw]
  have k:=eU W (m.bB it.s.x).2 it.s.id [(m.bB it.s.x).1.1]
  have et:((m.bB it.s.x).2.event W it.s.id [(m.bB it.s.x).1.1]).trace=m.trace++ [(it.s.id,[(m.bB it.s.x).1.1])]:=by
   unfold Mc.event;rw[if_pos hW];dsimp only;rw[hw.2.2.2.2.2]
  by_cases c3:(it.s.kind==3)=true
  ·have e:it.s.kind=3:=by simpa using c3
   have n1 : ¬((it.s.kind==1)=true):=by rw[e];decide
   rw[if_neg n1,if_pos c3]
   refine .inr ⟨[(m.bB it.s.x).1.1],et, ?_,by rw[one];rfl, ?_⟩
   ·rw[if_pos c3];dsimp only;rw[k.2.2.2.2.2,hw.2.2.2.2.1]
   ·rw[if_neg c2];dsimp only;rw[k.2.2.2.2.1,hw.2.2.2.1]
  ·have key:Mp T it.s m ((m.bB it.s.x).2.event W it.s.id [(m.bB it.s.x).1.1]):=
    sr hW hw.2.2.2.2.2 hw.2.2.2.2.1 hw.2.2.2.1 (by rw[one];rfl) (by simpa using c3) c2'
   rw[if_neg c3]
   split
   ·exact .inr key
   split
   ·exact .inr key
   split
   ·exact .inr key
   ·exact .inr key
 ·rw [if_neg cw]
  exact .inl ⟨hw.2.2.2.2.2,hw.2.2.2.2.1,hw.2.2.2.1⟩
theorem Kv (L:List Im) (m:Mc) (g:Int):Mn m (m.back L g).2:=by
 have h:=zW L m g
 exact⟨h.1,h.2.1,h.2.2.1⟩
theorem zX.XZ {T:List Int} {x:Sm} {m m1 m2:Mc} (h:zX T x m m1) (k:Mn m1 m2):zX T x m m2:=by
 rcases h with h|⟨v,h1,h2,h3,h4⟩
 ·exact .inl ⟨k.1.trans h.1,k.2.1.trans h.2.1,k.2.2.trans h.2.2⟩
 ·exact .inr ⟨v,k.1.trans h1,k.2.1.trans h2,h3,by rw[k.2.2];exact h4⟩
theorem PO {p:Pg} {L:List Im} {T W:List Int} (hW : ∀ x∈L,W.contains x.s.id=true∧x.s.one=true) {fuel a:Int} {m:Mc} (ha:nW L a) :
 Mn m (m.next p L T W fuel a).2∨∃ x∈L,Mp T x.s m (m.next p L T W fuel a).2:=by
 unfold Mc.next
 by_cases c1:(a == -1)=true
 ·rw[if_pos c1];exact .inl (Kv L m 0)
 rw[if_neg c1]
 by_cases c2:(m.steps==fuel)=true
 ·rw[if_pos c2];exact .inl ⟨rfl,rfl,rfl⟩
 rw[if_neg c2]
 have hm:=pb ha (by simpa using c1)
 obtain⟨w1,w2⟩:=hW _ hm
 dsimp only
 have fin : ∀ {m':Mc},zX T (fw L a).s {m with steps:=m.steps+1} m'→Mn m m'∨∃ x∈L,Mp T x.s m m':=fun {m'} h=>by
  rcases h with h|h
  ·exact .inl h
  ·exact .inr ⟨_,hm,h⟩
 by_cases c4:((fw L a).s.kind==4)=true
 ·rw[if_pos c4];exact fin (PK c4 w1)
 rw[if_neg c4]
 by_cases c9:((fw L a).s.kind==9)=true
 ·rw [if_pos c9]
  have:=Lq (T:=T) (m:= {m with steps:=m.steps+1}) c9 w1
  split
  ·exact fin (this.XZ (Kv ..))
  ·exact fin this
 rw[if_neg c9]
 exact fin (VU w2 (by simpa using c4) (by simpa using c9) w1)
def og (f:Int→Sm) (k:Int):List (Int×List Int)→List Int
 | []=> []
 |e::l=>(if(f e.1).kind==k then e.2 else [])++og f k l
theorem zY (f:Int→Sm) (k:Int) : ∀ a b,og f k (a++b)=og f k a++og f k b
 | [],b=>rfl
 |e::a,b=>by simp only[List.cons_append,og,zY f k a b,List.append_assoc]
structure uu (L:List Im) (f:Int→Sm) (T:List Int) (m:Mc):Prop where
 ev : ∀ e∈m.trace,∃ x∈L,x.s.id=e.1∧e.2.length=x.s.tells
 out:og f 3 m.trace=m.out
 ins:og f 2 m.trace=T.take m.reads.toNat
 reads:0≤m.reads∧m.reads≤(T.length:Int)
theorem uu.XZ {L:List Im} {f:Int→Sm} {T:List Int} {m m':Mc} (h:uu L f T m) (k:Mn m m'):uu L f T m':=by
 obtain⟨k1,k2,k3⟩:=k
 exact⟨by rw[k1];exact h.ev,by rw[k1,k2];exact h.out,by rw[k1,k3];exact h.ins,by rw[k3];exact h.reads⟩
theorem uu.tel {L:List Im} {f:Int→Sm} {T:List Int} {m m':Mc} {x:Im} (hx:x∈L) (hf:f x.s.id=x.s) (h:uu L f T m) (k:Mp T x.s m m'):uu L f T m':=by
 obtain⟨v,k1,k2,k3,k4⟩:=k
 refine⟨fun e me=>?_, ?_, ?_, ?_⟩
 ·rw [k1]at me
  rcases List.mem_append.1 me with me|me
  ·exact h.ev e me
  ·rw[List.mem_singleton.1 me];exact⟨x,hx,rfl,k3⟩
 ·rw[k1,k2,zY,h.out];simp[og,hf]
 ·rw [k1,zY,h.ins]
  by_cases c:(x.s.kind==2)=true
  ·rw [if_pos c]at k4
   obtain⟨w,j1,j2,j3⟩:=k4
   have hr:=h.reads.1
   have e:m'.reads.toNat=m.reads.toNat+1:=by rw[j3];omega
   rw[e,List.take_add_one,j1,j2]
   simp[og,hf,c]
  ·rw [if_neg c]at k4
   rw[k4]
   have c':(x.s.kind==2)=false:=by simpa using c
   simp[og,hf,c']
 ·by_cases c:(x.s.kind==2)=true
  ·rw [if_pos c]at k4
   obtain⟨w,j1,j2,j3⟩:=k4
   have hr:=h.reads
   have:=(List.getElem?_eq_some_iff.1 j1).1
   omega
  ·rw [if_neg c]at k4
   rw[k4];exact h.reads
theorem Mq {p:Pg} {L:List Im} (hL:Ap p L) {f:Int→Sm} (hf : ∀ x∈L,f x.s.id=x.s) {T W:List Int} (hW : ∀ x∈L,W.contains x.s.id=true∧x.s.one=true) {fuel:Int} : ∀ (N:Nat) (a:Int) (m m':Mc),nW L a→oB L m→m.fin=0→(m.trace.length:Int)=m.steps→uu L f T m→
 Mc.go p L T W fuel N a m=some m'→uu L f T m'
 | 0,_,_,_,_,_,_,_,_,h=>by simp[Mc.go]at h
 | N+1,a,m,m',ha,hs,hfi,ht,hl,h=>by
  have hn:=Hd (fuel:=fuel) (tape:=T) hL (fun x mx=>(hW x mx).1) ha hs hfi ht
  have he:=PO (p:=p) (T:=T) (W:=W) (fuel:=fuel) (m:=m) hW ha
  have lX:uu L f T (m.next p L T W fuel a).2:=by
   rcases he with he|⟨x,mx,he⟩
   ·exact hl.XZ he
   ·exact hl.tel mx (hf x mx) he
  simp only[Mc.go]at h
  cases e:m.next p L T W fuel a with
  | mk o m1=>
   rw[e]at h hn lX
   cases o with
   |none=>simp only[Option.some.injEq]at h;subst h;exact lX
   |some a1=>
    obtain⟨h1,h2,h3,h4⟩:=hn
    exact Mq hL hf hW N a1 m1 m' h1 h2 h3 h4 lX h
theorem SQ {p:Pg} (hL:Ap p p.aX.L) {f:Int→Sm} (hf : ∀ x∈p.aX.L,f x.s.id=x.s) {T W:List Int} (hW : ∀ x∈p.aX.L,W.contains x.s.id=true∧x.s.one=true) {fuel:Int} {m:Mc} (h:runM p T W fuel=some m):uu p.aX.L f T m:=by
 obtain⟨h1,h2,h3,h4⟩:=JZ hL
 have ho:=wX p (j7 p) (p.at iR) [] 0
 refine Mq hL hf hW _ _ _ _ h1 h2 h3 h4 ?_ h
 have h0:uu p.aX.L f T (j7 p):=⟨fun e me=>by simp[j7]at me,rfl,rfl,by simp[j7]⟩
 exact h0.XZ ⟨ho.1,ho.2.1,ho.2.2.1⟩
def awf (fuel:Int) (m:Mc):Prop:=m.fin=2→m.steps=fuel
def ahw (W:List Int) (l:List (Int×List Int)):List (Int×List Int):=l.filter fun e=>W.contains e.1
def awg (W:List Int) (m:Mc):Mc:= {m with trace:=ahw W m.trace}
theorem Kw : ∀ l:List It,oD 0 l=l.map fun i=>i.s.id
 | []=>rfl
 |i::l=>by simp only[oD,List.map_cons,Kw l];rfl
theorem Kx {p:Pg} (hb:p.may=true) : ∀ x∈p.aX.L,(oD 0 p.all).contains x.s.id=true∧x.s.one=true:=fun x mx=>by
 have h1:x.s∈p.pre:=by rw[← (kq p).1];exact List.mem_map_of_mem mx
 refine⟨?_,L9 hb _ h1⟩
 rw[Kw,List.contains_iff_mem]
 have e:p.all.map (fun i=>i.s.id)=(p.all.map It.s).map fun s=>s.id:=by rw[List.map_map];rfl
 rw[e,(zt hb).2]
 exact List.mem_map_of_mem h1
theorem Hq {p:Pg} (hb:p.may=true) {v:Sm} (hv:v∈p.pre):p.uY v.id=v:=by
 obtain⟨h1,h2⟩:=Vw hb ⟨v,hv,rfl⟩
 obtain⟨i,hi⟩:=List.getElem?_of_mem hv
 obtain⟨j,hj⟩:=List.getElem?_of_mem h1
 have e1:=BE hb hi
 have e2:=BE hb hj
 have:i=j:=by omega
 subst this
 rw[hi]at hj
 exact(Option.some.inj hj).symm
theorem PQ {p:Pg} {T W:List Int} {fuel:Int} {m:Mc} (h0:0≤fuel) (h:runM p T W fuel=some m):m.steps≤fuel:=by
 have h1:=yA p (j7 p) (p.at iR) [] 0
 have e2:(j7 p).steps=0:=rfl
 exact J0 p _ T W _ _ _ m (by rw[h1.2,e2];exact h0) h
theorem E8 {f:Int→Sm} {k:Int} : ∀ {l:List (Int×List Int)},(∀ e∈l,e.2.length≤1)→(og f k l).length≤l.length
 | [],_=>Nat.le_refl _
 |e::l,h=>by
  have h1:=E8 (f:=f) (k:=k) fun e m=>h e (List.mem_cons_of_mem _ m)
  have h2:=h e (List.mem_cons_self ..)
  simp only[og,List.length_append,List.length_cons]
  split<;>simp<;>omega
theorem VV (s:Sm):s.tells≤1:=by unfold Sm.tells;split<;>omega
structure Run (p:Pg) (T:List Int) (fuel:Int) (m:Mc):Prop where
 run:runM p T (oD 0 p.all) fuel=some m
 of:ofM p T (oD 0 p.all) fuel=(m,0)
 whole:p.whole T fuel=m
 an6:uu p.aX.L p.uY T m
 told:Vu m
 steps:m.steps≤fuel
 len:m.Len
 small:m.trace.length≤fuel.toNat∧m.out.length≤fuel.toNat∧∀ e∈m.trace,e.2.length≤1
theorem ad6 {p:Pg} (hc:(p.check.1==0)=true) {T:List Int} {fuel:Int} (h0:0≤fuel) (h1:fuel≤1000000) : ∃ m,Run p T fuel m:=by
 have hR:=zJ hc
 have hb:=hR.may
 obtain⟨m,hm⟩:=Ha p T (oD 0 p.all) h0
 have wQ:ofM p T (oD 0 p.all) fuel=(m,0):=by
  unfold ofM
  rw[if_neg,hm];rfl
  simp[hc];omega
 have hl:=Hh hR
 have hlg:=SQ (f:=p.uY) hl (fun x mx=>Hq hb (by rw[← (kq p).1];exact List.mem_map_of_mem mx)) (Kx hb) hm
 have ht:=Si hl (fun x mx=>(Kx hb x mx).1) hm
 have hs:=PQ h0 hm
 have hv : ∀ e∈m.trace,e.2.length≤1:=fun e me=>by
  obtain⟨x,_,_,h⟩:=hlg.ev e me
  rw[h];exact VV _
 have sV:m.trace.length≤fuel.toNat:=by rcases ht with ⟨_,h⟩|⟨_,h⟩<;>omega
 have jh:m.out.length≤fuel.toNat:=by rw[← hlg.out];exact Nat.le_trans (E8 hv) sV
 exact⟨m,hm,wQ,by unfold Pg.whole;rw[wQ],hlg,ht,hs,⟨by omega,by omega,fun e me=>by have:=hv e me;omega⟩,sV,jh,hv⟩
structure awh (fuel:Int) (r s:Mc):Prop where
 steps:r.steps=fuel
 trace:(r.trace.length:Int)=fuel
 more:r.steps≤s.steps
 reads:r.reads≤s.reads
 out:(decide ((r.out.length:Int)≤(s.out.length:Int)) && r.out==s.out.take r.out.length)=true
 told:fuel≤(s.trace.length:Int)∧s.trace.take fuel.toNat=r.trace
set_option maxRecDepth 8000
open Go.Proofs
theorem VW {p:Pg} {T:List Int} {fuel:Int} (h:(p.check.1==0 && (decide (0≤fuel) && (decide (fuel≤400) && decide ((T.length:Int)≤100))))=true):(p.check.1==0)=true∧0≤fuel∧fuel≤400∧T.length≤100:=by
 simp only[Bool.and_eq_true,decide_eq_true_eq]at h
 exact⟨h.1,h.2.1,h.2.2.1,by omega⟩
theorem Lr (p:Pg) (T:List Int) (fuel:Int) (s:St):aF Tryz.prog wA [.agg (cr p), .slice .shared 1 (T.map cm), .int .i64 fuel] s (.bool true) s:=by
 refine aF.pure ?_ (by simp[D.bK,D.ok,Tag.ok,jb,iI]) rfl s
 have h1:=fun s=>ahu s
 have h2:=fun s=>adv p s
 unfold S0
 rcases Bool.eq_false_or_eq_true (decide (p.Co≤20000))with hw|hw
 case inr=>
  simp only[hw]at h2
  refine aF.go pP rfl fun B Q hB hQ=>?_
  have⟨hD,hY,hZ,gA⟩:=bQ
  repeat' (first
 |simp only[go_sem,hD,hY,hZ,gA]
 |(with_reducible refine CU (h1 _) ?_)
 |(with_reducible refine CU (h2 _) ?_)
 |(with_reducible first|refine bo fun hc=>?_|refine bp fun hc=>?_|refine bq (fun hc=>?_) fun hc=>?_)<;>(try simp only[hc,bs,↓reduceIte]at h)<;>try simp only[hc]
 |(with_reducible refine aD hQ ?_;exact fS)
 |(cases h;done))
 simp only[hw]at h2
 obtain⟨dM,ahx⟩:=Pr (of_decide_eq_true hw)
 have ho:p.iJ:=⟨ahx,by omega⟩
 have h3:=fun s=>ZZ ho T fuel s
 rcases Bool.eq_false_or_eq_true (p.check.1==0 && (decide (0≤fuel) && (decide (fuel≤400) && decide ((T.length:Int)≤100))))with b1|b1
 case inr=>
  rw[b1]at h3
  refine aF.go pP rfl fun B Q hB hQ=>?_
  have⟨hD,hY,hZ,gA⟩:=bQ
  repeat' (first
 |simp only[go_sem,hD,hY,hZ,gA]
 |(with_reducible refine CU (h1 _) ?_)
 |(with_reducible refine CU (h2 _) ?_)
 |(with_reducible refine CU (h3 _) ?_)
 |(with_reducible first|refine bo fun hc=>?_|refine bp fun hc=>?_|refine bq (fun hc=>?_) fun hc=>?_)<;>(try simp only[hc,bs,↓reduceIte]at h)<;>try simp only[hc]
 |(with_reducible refine aD hQ ?_;exact fS)
 |(cases h;done))
 rw[b1]at h3
 obtain⟨hc,f0,f1,hT1⟩:=VW b1
 obtain⟨m,hm⟩:=ad6 (T:=T) hc f0 (by omega)
 have hb:=(zJ hc).may
 have wR:p.all.length≤1000:=by have:=(Cl hb).1;omega
 have h4:=fun s=>PJ ho wR (T:=T) (by omega) fuel s
 rw[hm.whole]at h4
 obtain⟨qZ,qM,qL⟩:=ho.procs
 have h5:=fun id s=>ads (p:=p) (by omega) (by omega) id s
 have iU:0≤m.steps:=by rcases hm.told with ⟨_,h⟩|⟨_,h⟩<;>omega
 have hfu:=hm.steps
 have k1:decide (m.fin<1)=false:=by rcases hm.told with ⟨h|h,_⟩|⟨h|h|h,_⟩<;>simp[h]
 have k2:decide (m.fin > 5)=false:=by rcases hm.told with ⟨h|h,_⟩|⟨h|h|h,_⟩<;>simp[h]
 have k3:decide (m.steps<0)=false:=by simp;omega
 have k4:decide (m.steps > fuel)=false:=by simp;omega
 have z1 : ∀ x:Int,(x != x)=false:=fun x=>by simp
 have n4:IntKind.wrap .i64 (m.steps - 1)=m.steps - 1:=dU (by omega) (by omega)
 have key : ∃ (b1 b2:Bool) (t:Int),(m.fin != 1)=b1∧(m.fin != 2)=b2∧((m.trace.length:Int) != t)=false∧((b1=false∧t=m.steps)∨(b1=true∧b2=false∧t=m.steps)∨(b1=true∧b2=true∧t=m.steps - 1)):=by
  rcases hm.told with ⟨h|h,e⟩|⟨h|h|h,e⟩
  ·exact⟨false,true,m.steps,by simp[h],by simp[h],by simp;omega, .inl ⟨rfl,rfl⟩⟩
  ·exact⟨true,false,m.steps,by simp[h],by simp[h],by simp;omega, .inr (.inl ⟨rfl,rfl,rfl⟩)⟩
  ·exact⟨true,true,m.steps - 1,by simp[h],by simp[h],by simp;omega, .inr (.inr ⟨rfl,rfl,rfl⟩)⟩
  ·exact⟨true,true,m.steps - 1,by simp[h],by simp[h],by simp;omega, .inr (.inr ⟨rfl,rfl,rfl⟩)⟩
  ·exact⟨true,true,m.steps - 1,by simp[h],by simp[h],by simp;omega, .inr (.inr ⟨rfl,rfl,rfl⟩)⟩
 have an7:=hm.an6.ev
 have Sg : ∀ x∈p.aX.L,p.uY x.s.id=x.s∧x.s.id≠0:=fun x mx=>by
  refine⟨Hq hb (by rw[← (kq p).1];exact List.mem_map_of_mem mx), ?_⟩
  have:=(Hh (zJ hc)).id x mx
  omega
 have sV:m.trace.length≤400:=by have:=hm.small.1;omega
 obtain⟨d1,d2,t,n1,n2,n3,key⟩:=key
 generalize hTr:m.trace=tr at *
 have e4:(fM m)[4]? = some (.slice .shared 2 (tr.map iT)):=by rw[XY,hTr]
 rcases key with ⟨rfl,rfl⟩|⟨rfl,rfl,rfl⟩|⟨rfl,rfl,rfl⟩
 all_goals
  refine aF.go pP rfl fun B Q hB hQ=>?_
  have⟨hD,hY,hZ,gA⟩:=bQ
  repeat' (first
 |simp only[go_sem,hD,hY,hZ,gA,e4,n1,n2,n3,n4,k1,k2,k3,k4]
 |(with_reducible refine CU (h1 _) ?_)
 |(with_reducible refine CU (h2 _) ?_)
 |(with_reducible refine CU (h3 _) ?_)
 |(with_reducible refine CU (h4 _) ?_)
 |(with_reducible first|refine bo fun hc=>?_|refine bp fun hc=>?_|refine bq (fun hc=>?_) fun hc=>?_)<;>(try simp only[hc,bs,↓reduceIte]at h)<;>try simp only[hc]
 |(with_reducible refine aD hQ ?_;(try cases h);simp only[aU,aV,bI,bJ,go_sem,hD,hY,hZ,gA,e4,n1,n2,n3,n4,k1,k2,k3,k4];try exact cv)
 | (cases h;done))
  refine e8 2 0 (bl.ind (ι:=List (Int×List Int)×Nat) (fun i=>tr.drop i.2=i.1) (fun i=>i.1.length)
   (fun i=> [(3, .ptr 0 0),(66, .slice .shared 2 (tr.map iT)),(67, .int .i64 (tr.length:Int)),(68, .int .i64 (i.2:Int))]) (fun i=>⟨[cr p,fM m],[]⟩) ?_ (tr,0) rfl)
  rintro⟨rest,k⟩ g1 IH
  dsimp only at g1
  cases rest with
  |nil=>
   have hD:=drop_nil g1
   repeat' (first
 |simp only[go_sem,hD,hY,hZ,gA]
 |(with_reducible first|refine bo fun hc=>?_|refine bp fun hc=>?_|refine bq (fun hc=>?_) fun hc=>?_)<;>(try simp only[hc,bs,↓reduceIte]at h)<;>try simp only[hc]
 |(with_reducible refine aD hQ ?_;exact fS)
 | (cases h;done))
  | cons a rest=>
   obtain⟨hY,g2,hD,g4⟩:=drop_cons g1
   have bN:k<4611686018427387904:=by omega
   obtain⟨x,mx,j1,j2⟩:=an7 a (List.mem_of_getElem? hY)
   obtain⟨i1,i2⟩:=Sg x mx
   obtain⟨a1,a2⟩:=a
   dsimp only at j1 j2
   rw[j1]at i1
   have h6:=fun s=>h5 a1 s
   rw[i1]at h6
   generalize x.s=V at *
   obtain⟨vid,kind,labels,name,pc,x0,has,args,aZ,aR⟩:=V
   simp only[Sm.tells]at i2 j1 j2
   have c0:(vid==0)=false:=by simpa using i2
   rcases Bool.eq_false_or_eq_true (kind==4)with c4|c4
   ·simp only [c4,Bool.true_or,if_true]at j2
    have e2:((a2.length:Int) != 0)=false:=by rw[j2];rfl
    repeat' (first
 |simp only[go_sem,hD,hY,hZ,gA,hY,iT,bb,c0,c4,e2,zm]
 |(with_reducible refine CU (h6 _) ?_)
 |(with_reducible first|refine bo fun hc=>?_|refine bp fun hc=>?_|refine bq (fun hc=>?_) fun hc=>?_)<;>(try simp only[hc,bs,↓reduceIte]at h)<;>try simp only[hc]
 |(with_reducible refine aD hQ ?_;(try cases h);simp only[aU,aV,bI,bJ,go_sem,hD,hY,hZ,gA,hY,iT,bb,c0,c4,e2,zm];try exact cv)
 | (cases h;done))
    refine eJ 2 0 ?_ ?_ (IH (rest,k+1) g2 (Nat.lt_succ_self _))
    ·(simp only[go_sem,hD,hY,hZ,gA,aI bN];try exact bS)
    ·(simp only[go_sem,hD,hY,hZ,gA,aI bN];try exact bS)
   rcases Bool.eq_false_or_eq_true (decide (kind≥7))with c7|c7
   ·rcases Bool.eq_false_or_eq_true has with ch | ch
    ·subst ch
     simp only[c4,c7,Bool.false_or,Bool.not_true,Bool.and_false,Bool.false_eq_true,if_false]at j2
     have e2:((a2.length:Int) != 1)=false:=by rw[j2];rfl
     repeat' (first
 |simp only[go_sem,hD,hY,hZ,gA,hY,iT,bb,c0,c4,c7,e2,zm]
 |(with_reducible refine CU (h6 _) ?_)
 |(with_reducible first|refine bo fun hc=>?_|refine bp fun hc=>?_|refine bq (fun hc=>?_) fun hc=>?_)<;>(try simp only[hc,bs,↓reduceIte]at h)<;>try simp only[hc]
 |(with_reducible refine aD hQ ?_;(try cases h);simp only[aU,aV,bI,bJ,go_sem,hD,hY,hZ,gA,hY,iT,bb,c0,c4,c7,e2,zm];try exact cv)
 | (cases h;done))
     refine eJ 2 0 ?_ ?_ (IH (rest,k+1) g2 (Nat.lt_succ_self _))
     ·(simp only[go_sem,hD,hY,hZ,gA,aI bN];try exact bS)
     ·(simp only[go_sem,hD,hY,hZ,gA,aI bN];try exact bS)
    ·subst ch
     simp only[c4,c7,Bool.false_or,Bool.not_false,Bool.and_true,if_true]at j2
     have e2:((a2.length:Int) != 0)=false:=by rw[j2];rfl
     repeat' (first
 |simp only[go_sem,hD,hY,hZ,gA,hY,iT,bb,c0,c4,c7,e2,zm]
 |(with_reducible refine CU (h6 _) ?_)
 |(with_reducible first|refine bo fun hc=>?_|refine bp fun hc=>?_|refine bq (fun hc=>?_) fun hc=>?_)<;>(try simp only[hc,bs,↓reduceIte]at h)<;>try simp only[hc]
 |(with_reducible refine aD hQ ?_;(try cases h);simp only[aU,aV,bI,bJ,go_sem,hD,hY,hZ,gA,hY,iT,bb,c0,c4,c7,e2,zm];try exact cv)
 | (cases h;done))
     refine eJ 2 0 ?_ ?_ (IH (rest,k+1) g2 (Nat.lt_succ_self _))
     ·(simp only[go_sem,hD,hY,hZ,gA,aI bN];try exact bS)
     ·(simp only[go_sem,hD,hY,hZ,gA,aI bN];try exact bS)
   ·simp only [c4,c7,Bool.false_or,Bool.false_and,Bool.false_eq_true,if_false]at j2
    have e2:((a2.length:Int) != 1)=false:=by rw[j2];rfl
    repeat' (first
 |simp only[go_sem,hD,hY,hZ,gA,hY,iT,bb,c0,c4,c7,e2,zm]
 |(with_reducible refine CU (h6 _) ?_)
 |(with_reducible first|refine bo fun hc=>?_|refine bp fun hc=>?_|refine bq (fun hc=>?_) fun hc=>?_)<;>(try simp only[hc,bs,↓reduceIte]at h)<;>try simp only[hc]
 |(with_reducible refine aD hQ ?_;(try cases h);simp only[aU,aV,bI,bJ,go_sem,hD,hY,hZ,gA,hY,iT,bb,c0,c4,c7,e2,zm];try exact cv)
 | (cases h;done))
    refine eJ 2 0 ?_ ?_ (IH (rest,k+1) g2 (Nat.lt_succ_self _))
    ·(simp only[go_sem,hD,hY,hZ,gA,aI bN];try exact bS)
    ·(simp only[go_sem,hD,hY,hZ,gA,aI bN];try exact bS)
def M0:Map:=⟨fun _ _=>none,fun _=>(0, .any),fun _=>none⟩
def Kept (w w':World):Prop:=w.keptBut w' (fun _=>False)∧∀ a:Addr,a.block<w.heap.size→w'.frozen? a=w.frozen? a
theorem Kept.frame {w w':World} (h:Kept w w') (may:MemPlace→Prop):w.keptBut w' may:=World.keptBut_mono (fun _ f=>f.elim) h.1
theorem Ext.ad9 {M M':Map} {s':St} {w w':World} (e:Ext M S0 w M' s' w'):Kept w w':=by
 have hh : ∀ b,b<w.heap.size→w'.heap[b]? = w.heap[b]? :=fun b hb=>
  e.kept b hb (fun o ho=>by simp[S0]at ho) (fun t c z hl=>by obtain⟨n,hn⟩:=hl;simp[S0]at hn)
 refine⟨⟨e.os,e.output,fun i hi=>?_⟩,fun a ha=>?_⟩
 ·rw [hh i hi]
  exact(World.keptBut_refl w (fun _=>False)).2.2 i hi
 ·simp only[World.frozen?,hh _ ha]
theorem an8 (G:Nat→Nat→Option Value) (w:World) (h : ∀ b o v,G b o=some v→w.cell? ⟨b,o,none⟩=some v∧v.oneCell'=true):Rel ⟨G,fun _=>(0, .any),fun _=>none⟩ S0 w:=
 ⟨h,fun o ds e=>by simp [S0]at e,fun o ho=>by simp [S0]at ho,fun o o' ho=>by simp [S0]at ho,fun t n e=>by simp [S0]at e,
  fun t b c z o hl=>by obtain⟨n,hn⟩:=hl;simp[S0]at hn,fun t t' b c z c' z' hl=>by obtain⟨n,hn⟩:=hl;simp[S0]at hn⟩
def PR (w:World):Prop:=∀ g cs,aam g=some cs→∃ T fr,w.heap[g]? = some (.cells cs T fr)
theorem ahy (G:Nat→Nat→Option Value) {w:World} (h:PR w):Laid ⟨G,fun _=>(0, .any),fun _=>none⟩ S0 w:=
 fun g cs hg=>⟨h g cs hg,fun o ho=>by simp[S0]at ho,fun t c z hl=>by obtain⟨n,hn⟩:=hl;simp[S0]at hn⟩
theorem SR {P:Program} {f:FuncId} {args:List D} {fG:Array Value} {w:World} {G:Nat→Nat→Option Value} (h:bL P f args S0 fun d _=>d = .bool true)
 (hG : ∀ b o v,G b o=some v→w.cell? ⟨b,o,none⟩=some v∧v.oneCell'=true) (hl:fG.size=args.length)
 (ha : ∀ (i:Nat) (d:D) (v:Value),args[i]? = some d→fG[i]? = some v→RD ⟨G,fun _=>(0, .any),fun _=>none⟩ S0 d v) (kv:PR w) :
 Calls P f fG w fun e w'=>e = .returned (.bool true)∧Kept w w':=by
 refine(h _ w fG (an8 G w hG) (ahy G kv) hl ha).mono fun e w' hw=>?_
 obtain⟨M',d,v,s',rfl,rfl,he,_,hv⟩:=hw
 rw[hv.nM]
 exact⟨rfl,he.ad9⟩
section
variable {P:Program} {H:Type} {enc:TypeId×Value→H}
theorem Ky {f:Func} {s:ChangeSpec} {apart fresh handsOn again:Bool} {W W':World} {args:Array Value} {v:Value} {ds gs:List (DataW H)} {before pa pv:List MemPlace}
 (hW:DataW.Whole enc P f.params.toList s.vars apart W args.toList ds gs before)
 (aea : ∀ (b:Nat) (sp:Nat→Bool) (hd:Bool),DataW.TrodAll enc P W' b sp hd f.resultTypes.toList (v.resultList f.resultTypes.size) (s.fn H (ds++gs)).results [])
 (yV : ∀ sp:Nat→Bool,(∀ p∈before,sp p.block=true)→DataW.TrodAll enc P W' 0 sp true f.params.toList args.toList (s.fn H (ds++gs)).args pa)
 (zS : ∀ sp:Nat→Bool,(∀ p∈before,sp p.block=true)→DataW.TrodVars enc P W' sp s.vars (s.fn H (ds++gs)).vars pv)
 (qM:before=pa++pv) (hk:Kept W W')
 (pE : ∀ (j:Nat) (t:TypeId) (r:Value),f.resultTypes[j]? = some t→(v.resultList f.resultTypes.size)[j]? = some r→Value.okWide P W' .any 0 t r) :
 s.post enc P f apart fresh handsOn again W args v W':=by
 have hD : ∀ p∈before,p.block<W.heap.size:=fun p hp=>hW.lt p hp
 have hold : ∀ p∈before,(fun b=>decide (b<W.heap.size)) p.block=true:=fun p hp=>by simpa using hD p hp
 refine⟨ds,gs,before,[],pa,pv,hW,aea _ _ _,yV _ hold,zS _ hold,World.keptBut_mono (fun p hp=>⟨hp, ?_⟩) (hk.frame (· ∈before)),fun _=>?_⟩
 ·rw [qM,List.mem_append]at hp
  exact Or.inr hp
 ·obtain⟨_,_,_,_,_,hz,hn⟩:=hW
  refine⟨pE,_,_,([]++pa)++pv,⟨[]++pa,pv,ChangeShapes.trodAll_append (yV _ (fun _ _=>rfl)) (aea _ _ _),zS _ (fun _ _=>rfl),rfl, ?_, ?_⟩, ?_⟩
  ·intro b off hp
   have mP:MemPlace.cell b off∈before:=by rw[qM];simpa using hp
   rw[hk.2 _ (hD _ mP)]
   exact hz b off mP
  ·intro ha
   have:=hn ha
   rw[qM]at this
   simpa using this
  ·intro p hp _
   rw[qM]
   simpa using hp
end
end Go.Abs
namespace Go.Abs
open Go.RowKit Go.ChangeShapes Go.WideShapes
def B0 (w:World) (b o:Nat):Option Value:=
 match w.cell? ⟨b,o,none⟩with
 |some v=>if v.oneCell'=true then some v else none
 |none=>none
theorem Mr {w:World} (b o:Nat) (v:Value) (h:B0 w b o=some v):w.cell? ⟨b,o,none⟩=some v∧v.oneCell'=true:=by
 unfold B0 at h
 split at h
 ·split at h
  ·cases h;exact⟨‹_›, ‹_›⟩
  ·cases h
 ·cases h
def su (w:World):Map:=⟨B0 w,fun _=>(0, .any),fun _=>none⟩
theorem Kept.sameAt {w w':World} (h:Kept w w') {p:MemPlace} (hp:p.block<w.heap.size):w.sameAt w' p:=by
 have hk:=h.1.2.2 p.block hp
 cases p with
 | cell b off=>
  simp only[MemPlace.block]at hk hp
  simp only[World.sameAt,World.cell?]
  split at hk
  ·rename_i c t fr c' t' Mh e e'
   rw[e,e']
   simp only[hk.2.2.2 off (fun f=>f)]
  ·rename_i es clock A5 aeb e e'
   rw[e,e']
  ·rw[hk]
 | map b=>
  simp only[MemPlace.block]at hk hp
  simp only[World.sameAt]
  split at hk
  ·rename_i c t fr c' t' Mh e e'
   rw[e,e']
   obtain⟨rfl,rfl,hs,hc⟩:=hk
   have:c'=c:=by
    apply Array.ext_getElem?
    intro i
    exact hc i (fun f=>f)
   rw[this]
  ·rename_i es clock A5 aeb e e'
   rcases hk with f|⟨rfl,rfl⟩
   ·exact f.elim
   ·rw[e,e']
  ·exact hk
section
variable {P:Program} {H:Type} {enc:TypeId×Value→H} {T:TypeId→Prop}
theorem E9 (K:Kids P T) (hz : ∀ {t e:TypeId},T t→P.underlying t=some (.slice e)→0<P.cellsOf e) {W W':World} (hk:Kept W W') {sp:Nat→Bool} :
 ∀ {ts:List TypeId} {vs:List Value} {ds:List (DataW H)} {ps:List MemPlace},(∀ t∈ts,T t)→(∀ p∈ps,p.block<W.heap.size)→(∀ p∈ps,sp p.block=true)→
  DataW.TrodAll enc P W 0 (fun _=>true) true ts vs ds ps→DataW.TrodAll enc P W' 0 sp true ts vs ds ps
 | [],[],[],_,_,_,_,h=>h
 |t::ts,v::vs,d::ds,ps,hT,hD,hs,⟨p,q,⟨n,h1⟩,h2,e⟩=>by
  subst e
  refine⟨p,q,⟨n,DataW.trod_stays K hz (fun f=>by cases f) (hT t (List.mem_cons_self ..)) h1 (fun x hx=>hk.sameAt (hD x (List.mem_append_left _ hx))) (fun x hx=>hs x (List.mem_append_left _ hx))⟩, ?_,rfl⟩
  exact E9 K hz hk (fun t ht=>hT t (List.mem_cons_of_mem _ ht)) (fun x hx=>hD x (List.mem_append_right _ hx)) (fun x hx=>hs x (List.mem_append_right _ hx)) h2
 | [],[],_::_,_,_,_,_,h=>h.elim
 | [],_::_,_,_,_,_,_,h=>h.elim
 |_::_,[],_,_,_,_,_,h=>h.elim
 |_::_,_::_,[],_,_,_,_,h=>h.elim
theorem VY (K:Kids P T) (hz : ∀ {t e:TypeId},T t→P.underlying t=some (.slice e)→0<P.cellsOf e) {f:Func} {s:ChangeSpec} {apart fresh handsOn again:Bool} {tb:TypeId} {W W':World} {args:Array Value} {ds gs:List (DataW H)} {before:List MemPlace}
 (hT : ∀ t∈f.params.toList,T t) (hb:P.underlying tb=some .bool) (hr:f.resultTypes = #[tb]) (zS:s.vars = []) (hW:DataW.Whole enc P f.params.toList s.vars apart W args.toList ds gs before)
 (Ao:s.fn H (ds++gs) = {results:= [.lit (.bool true)],args:=ds}) (hk:Kept W W'):s.post enc P f apart fresh handsOn again W args (.bool true) W':=by
 have hW':=hW
 have hD : ∀ p∈before,p.block<W.heap.size:=fun p hp=>hW.lt p hp
 obtain⟨p,q,hA,hV,rfl,hfz,SB⟩:=hW
 rw[zS]at hV
 obtain⟨rfl,rfl⟩:=trodVars_none hV
 simp only[List.append_nil]at hD Ao
 refine Ky (pa:=p) (pv:= []) hW' (fun b sp hd=>?_) (fun sp CW=>?_) (fun sp CW=>?_) rfl hk (ok_one hr rfl (okWide_bool_mk hb _))
 ·rw [List.append_nil,Ao,hr]
  exact trodAll_cons_mk (shut_bool hb _) trodAll_mk0
 ·rw [List.append_nil,Ao]
  simp only[List.append_nil]at CW
  exact E9 K hz hk hT hD CW hA
 ·rw [List.append_nil,Ao,zS]
  rfl
theorem Z2 {f:FuncId} {args:List D} {fG:Array Value} {w:World} (h:bL P f args S0 fun d _=>d = .bool true) (hl:fG.size=args.length)
 (ha : ∀ (i:Nat) (d:D) (v:Value),args[i]? = some d→fG[i]? = some v→RD (su w) S0 d v) (kv:PR w):Calls P f fG w fun e w'=>e = .returned (.bool true)∧Kept w w':=
 SR (G:=B0 w) h Mr hl ha kv
end
end Go.Abs
namespace Go.Abs
open Go.Proofs
def pg (n:Int):List D:= [.int .i64 n]
theorem ahz (n:Int):D.bK 0 0 (pg n)=true:=rfl
theorem aed (n m:Nat) (l:List Int):D.ku n m (l.map pg)=l.map pg:=lR ahz n m l
attribute [go_sem] pg aed
def ahA (op:Int):aG:=
 if op=5 then [42]else if op=6 then [47]else if op=7 then [37]else if op=8 then [43]else if op=9 then [45]else if op=10 then [60]else if op=11 then [60,61]
 else if op=12 then [62]else if op=13 then [62,61]else if op=14 then [61,61]else if op=15 then [33,61]else if op=16 then [38,38]else [124,124]
def avw (op:Int):Int:=(acH (ahA op)).1
def SS:Nat→List aG
 | 0=> []
 |n+1=>SS n++ [[UInt8.ofNat (97+n)]]
end Go.Abs
namespace Go.Abs
open Go.RowKit Go.ChangeShapes Go.WideShapes
theorem Z3 {W:World} {a:Addr} {len cap:Nat} {zs:List Int} (hl:len≤cap) (hz:len≤zs.length) (hc : ∀ i,i<zs.length→W.cell? (a.add i)=some (.int .i64 (zs.getD i 0))) :
 RD (su W) S0 (.slice .shared 1 ((zs.take len).map pg)) (.slice (some a) len cap):=by
 by_cases h0:len=0
 ·subst h0
  exact .lx _ _ _
 ·obtain⟨b,off,rfl,iB⟩:=Go.ints_at hc (by omega)
  have hlen:((zs.take len).map pg).length=len:=by simp;omega
  have e:((zs.take len).map pg).length=len:=hlen
  have key : ∀ (i:Nat) (row:List D) (j:Nat) (d:D),((zs.take len).map pg)[i]? = some row→row[j]? = some d→(su W).G b (off+(i*1+j))=some (.int .i64 (zs.getD i 0))∧d = .int .i64 (zs.getD i 0):=by
   intro i row j d h1 h2
   rw[List.getElem?_map,Option.map_eq_some_iff]at h1
   obtain⟨n,h1,rfl⟩:=h1
   rw[List.getElem?_take]at h1
   split at h1
   ·rename_i hi
    have hd:zs.getD i 0=n:=by rw[List.getD_eq_getElem?_getD,h1];rfl
    have nG:i<zs.length:=(List.getElem?_eq_some_iff.1 h1).1
    cases j with
    |zero=>
     simp[pg]at h2
     subst h2
     refine⟨?_,by rw[hd]⟩
     have:=iB i nG
     show B0 W b (off+(i*1+0))=_
     unfold B0
     rw[show off+(i*1+0)=off+i by omega,this]
     rfl
    |succ j=>simp[pg]at h2
   ·cases h1
  have:=RD.slice (M:=su W) (s:=S0) .shared 1 ((zs.take len).map pg) b off cap (by omega) (fun row hr=>by obtain⟨n,_,rfl⟩:=List.mem_map.1 hr;rfl)
   (fun i row j d h1 h2=>⟨_,(key i row j d h1 h2).1⟩) (fun i row j d u h1 h2 hu=>by
    obtain⟨k1,k2⟩:=key i row j d h1 h2
    rw[k1]at hu
    cases hu
    rw[k2]
    exact .int _ _) trivial
  rw[hlen]at this
  exact this
end Go.Abs
namespace Go.Abs
open Go.RowKit Go.ChangeShapes Go.WideShapes
def fi (W:World) (ds:List D) (cs:List Value):Prop:=ds.length=cs.length∧(∀ (i:Nat) (d:D) (v:Value),ds[i]? = some d→cs[i]? = some v→RD (su W) S0 d v)∧∀ v∈cs,v.oneCell'=true
theorem fi.one {W:World} {d:D} {v:Value} (h:RD (su W) S0 d v) (hv:v.oneCell'=true):fi W [d] [v]:=by
 refine⟨rfl,fun i d' v' h1 h2=>?_,fun u hu=>by simp at hu;subst hu;exact hv⟩
 cases i with
 |zero=>simp at h1 h2;subst h1 h2;exact h
 |succ i=>simp at h1
theorem fi.app {W:World} {ds nD:List D} {cs jF:List Value} (h:fi W ds cs) (h':fi W nD jF):fi W (ds++nD) (cs++jF):=by
 obtain⟨a1,a2,a3⟩:=h
 obtain⟨b1,b2,b3⟩:=h'
 refine⟨by simp[a1,b1],fun i d v h1 h2=>?_,fun v hv=>?_⟩
 ·by_cases hi:i<ds.length
  ·rw [List.getElem?_append_left hi]at h1
   rw[List.getElem?_append_left (by omega)]at h2
   exact a2 i d v h1 h2
  ·rw [List.getElem?_append_right (by omega)]at h1
   rw[List.getElem?_append_right (by omega), ← a1]at h2
   exact b2 _ d v h1 h2
 ·rcases List.mem_append.1 hv with hv | hv
  ·exact a3 v hv
  ·exact b3 v hv
theorem fi.at {W:World} {ds nD:List D} {cs:List Value} {o n:Nat} (h:fi W ds ((cs.drop o).take n)) (h':fi W nD (cs.drop (o+n))):fi W (ds++nD) (cs.drop o):=by
 have e:cs.drop o=(cs.drop o).take n++cs.drop (o+n):=by rw[← List.drop_drop,List.take_append_drop]
 rw[e]
 exact h.app h'
theorem fi.end {W:World} {cs:List Value} {o:Nat} (h:cs.length=o):fi W [] (cs.drop o):=by
 rw[← h,List.drop_length]
 exact⟨rfl,fun i d v h=>by simp at h,fun v hv=>by cases hv⟩
section
variable {H:Type} {enc:TypeId×Value→H} {P:Program} {W:World} {sp:Nat→Bool}
def structOf (P:Program) (t:TypeId):List (TypeId×Nat):=
 match P.underlying t with
 |some (.struct fs)=>fs.toList.map fun f=>(f.type,f.offset)
 |_=> []
theorem lU {t:TypeId} {l:List (TypeId×Nat)} {fuel:Nat} {cs:List Value} {x:DataW H×List MemPlace} (h:structOf P t=l) (eK:l≠ []) (ht:DataW.trod enc P W 0 sp true fuel t cs=some x) :
 ∃ n,fuel=n+1∧cs.length=P.cellsOf t∧∀ (i:Nat) (f:TypeId×Nat),l[i]? = some f→∃ y,DataW.trod enc P W 0 sp true n f.1 ((cs.drop f.2).take (P.cellsOf f.1))=some y:=by
 unfold structOf at h
 split at h
 ·rename_i fs hu
  obtain⟨xs,n,e,_,hl,hlen,hf⟩:=DataW.trod_struct hu ht
  refine⟨n,e,hl,fun i f hi=>?_⟩
  subst h
  rw[List.getElem?_map,Option.map_eq_some_iff]at hi
  obtain⟨g,hg,rfl⟩:=hi
  have CO:fs[i]? = some g:=by simpa using hg
  have hi:i<xs.length:=by rw[hlen];exact(Array.getElem?_eq_some_iff.1 CO).1
  exact⟨xs[i],by rw[hf i g CO,List.getElem?_eq_getElem hi]⟩
 ·exact absurd h.symm eK
theorem HT {t:TypeId} {l:List (TypeId×Nat)} (h:structOf P t=l) (eK:l≠ []) : ∃ fs,P.underlying t=some (.struct fs):=by
 unfold structOf at h
 split at h
 ·exact⟨_, ‹_›⟩
 ·exact absurd h.symm eK
theorem C8 {α:Type} {Q:Nat→α→Prop} : ∀ n,(∀ i,i<n→∃ y,Q i y)→∃ ys:List α,ys.length=n∧∀ i y,ys[i]? = some y→Q i y
 | 0,_=>⟨[],rfl,fun i y h=>by simp at h⟩
 | n+1,h=>by
  obtain⟨ys,h1,h2⟩:=C8 n fun i hi=>h i (by omega)
  obtain⟨y,hy⟩:=h n (by omega)
  refine⟨ys++ [y],by simp[h1],fun i z hz=>?_⟩
  by_cases hi:i<ys.length
  ·rw[List.getElem?_append_left hi]at hz;exact h2 i z hz
  ·rw [List.getElem?_append_right (by omega)]at hz
   have:i - ys.length=0:=by
    rcases Nat.eq_zero_or_pos (i - ys.length)with h|h
    ·exact h
    ·rw[List.getElem?_eq_none (by simp only[List.length_cons,List.length_nil];omega)]at hz;cases hz
   rw[this]at hz
   simp at hz
   subst hz
   have:i=n:=by omega
   subst this
   exact hy
theorem ph {α:Type} (en:α→List D) (good:α→Prop) {z:Nat} {t e:TypeId} {fuel:Nat} {cs:List Value} {x:DataW H×List MemPlace} (ht:P.underlying t=some (.slice e)) (hz:P.cellsOf e=z) (XU:0<z) (hen : ∀ y,(en y).length=z)
 (hel : ∀ n<fuel,∀ cs x,DataW.trod enc P W 0 sp true n e cs=some x→∃ y,fi W (en y) cs∧good y) (h:DataW.trod enc P W 0 sp true fuel t cs=some x) :
 ∃ ys:List α,fi W [.slice .shared z (ys.map en)] cs∧∀ y∈ys,good y:=by
 rcases DataW.trod_slice ht h with ⟨rfl,_⟩|⟨a,len,cap,elems,rest,n,hn,rfl,_,hb,hl,hm,hlen,iB,_,_⟩
 ·exact⟨[],fi.one (.iH _ _ _ rfl trivial) rfl,fun y hy=>by cases hy⟩
 ·by_cases h0:len=0
  ·subst h0
   exact⟨[],fi.one (.lx _ _ _) rfl,fun y hy=>by cases hy⟩
  ·obtain⟨ys,hys,yX⟩:=C8 (Q:=fun i y=>good y∧∃ jF,W.cells? 0 (a.add (i*z)) z=some jF∧fi W (en y) jF) len fun i hi=>by
    have hc:=iB i hi
    rw[List.getElem?_eq_getElem (by omega),hz,Option.bind_eq_some_iff]at hc
    obtain⟨jF,h1,h2⟩:=hc
    obtain⟨y,h3,h4⟩:=hel n (by omega) _ _ h2
    exact⟨y,h4,jF,h1,h3⟩
   have cell : ∀ i y,ys[i]? = some y→∀ (j:Nat) d,(en y)[j]? = some d→∃ v,W.cell? ((a.add (i*z)).add j)=some v∧RD (su W) S0 d v∧v.oneCell'=true:=by
    intro i y hy j d hd
    obtain⟨_,jF,h1,h2,h3,h4⟩:=yX i y hy
    obtain⟨_,k1,k2⟩:=World.cells?_some h1
    have hj:j<z:=by rw[← hen y];exact(List.getElem?_eq_some_iff.1 hd).1
    have hv:jF[j]? = some jF[j]:=List.getElem?_eq_getElem (by omega)
    exact⟨jF[j],by rw[k2 j hj,hv],h3 j d _ hd hv,h4 _ (List.getElem_mem _)⟩
   obtain⟨b,off,spot⟩:=a
   have ahB:spot=none:=by
    have hy:ys[0]? = some (ys[0]'(by omega)):=List.getElem?_eq_getElem (by omega)
    obtain⟨d,hd⟩ : ∃ d,(en (ys[0]'(by omega)))[0]? = some d:=⟨_,List.getElem?_eq_getElem (show 0<(en (ys[0]'(by omega))).length by rw[hen];exact XU)⟩
    obtain⟨v,hv,_⟩:=cell 0 _ hy 0 _ hd
    have:=World.cell?_spot hv
    simpa[Addr.add]using this
   subst ahB
   have e:(ys.map en).length=len:=by simp[hys]
   have:=RD.slice (M:=su W) (s:=S0) .shared z (ys.map en) b off cap (by omega) (fun row hr=>by obtain⟨y,_,rfl⟩:=List.mem_map.1 hr;exact hen y)
    (fun i row j d h1 h2=>by
     rw[List.getElem?_map,Option.map_eq_some_iff]at h1
     obtain⟨y,h1,rfl⟩:=h1
     obtain⟨v,hv,_,h4⟩:=cell i y h1 j d h2
     rw[add_plain,add_plain]at hv
     refine⟨v, ?_⟩
     show B0 W b (off+(i*z+j))=_
     unfold B0
     rw[show off+(i*z+j)=off+i*z+j by omega,hv]
     simp[h4])
    (fun i row j d u h1 h2 hu=>by
     rw[List.getElem?_map,Option.map_eq_some_iff]at h1
     obtain⟨y,h1,rfl⟩:=h1
     obtain⟨v,hv,h3,h4⟩:=cell i y h1 j d h2
     rw[add_plain,add_plain]at hv
     obtain⟨hu,_⟩:=Mr _ _ _ hu
     rw[show off+(i*z+j)=off+i*z+j by omega,hv]at hu
     cases hu
     exact h3) trivial
   rw[e]at this
   refine⟨ys,fi.one this rfl,fun y hy=>?_⟩
   obtain⟨i,hi⟩:=List.getElem?_of_mem hy
   exact(yX i y hi).1
theorem Fa {t:TypeId} {fuel:Nat} {cs:List Value} {x:DataW H×List MemPlace} (ht:P.underlying t=some (.int .i64)) (h:DataW.trod enc P W 0 sp true fuel t cs=some x) : ∃ n:Int,fi W [.int .i64 n] cs∧n≤9223372036854775807∧ -9223372036854775808≤n:=by
 obtain⟨n,rfl,_,hw⟩:=DataW.trod_int ht h
 simp[Lit.wf,IntKind.min,IntKind.max,IntKind.signed,IntKind.bits]at hw
 exact⟨n,fi.one (.int _ _) rfl,by omega,by omega⟩
theorem F8 {t:TypeId} {fuel:Nat} {cs:List Value} {x:DataW H×List MemPlace} (ht:P.underlying t=some .bool) (h:DataW.trod enc P W 0 sp true fuel t cs=some x) : ∃ b:Bool,fi W [.bool b] cs:=by
 obtain⟨n,rfl,_⟩:=DataW.trod_bool ht h
 exact⟨n,fi.one (.bool _) rfl⟩
theorem vX {t:TypeId} {fuel:Nat} {cs:List Value} {x:DataW H×List MemPlace} (ht:P.underlying t=some .string) (h:DataW.trod enc P W 0 sp true fuel t cs=some x) : ∃ s:aG,fi W (encStr s) cs∧s.length≤maxLen:=by
 obtain⟨s,rfl,_,hm⟩:=DataW.trod_string ht h
 obtain⟨⟨l⟩⟩:=s
 exact⟨l,fi.one (.str l) rfl,hm⟩
theorem ahC {tE tI tN tS tK:TypeId} (hE:structOf P tE = [(tI,0),(tN,1),(tS,2),(tK,3)]) (hEc:P.cellsOf tE=4) (hI:P.underlying tI=some (.int .i64)) (hN:P.underlying tN=some (.int .i64)) (hS:P.underlying tS=some .string) (hK:P.underlying tK=some (.slice tE))
 (cI:P.cellsOf tI=1) (cN:P.cellsOf tN=1) (cS:P.cellsOf tS=1) (cK:P.cellsOf tK=1) :
 ∀ (fuel:Nat) (cs:List Value) (x:DataW H×List MemPlace),DataW.trod enc P W 0 sp true fuel tE cs=some x→∃ y:Ex,fi W (cd y) cs∧y.rG:=by
 intro fuel
 induction fuel using Nat.strongRecOn with
 | _ fuel ih=>
  intro cs x h
  obtain⟨n,rfl,hl,hf⟩:=lU hE (by simp) h
  obtain⟨y0,h0⟩:=hf 0 _ rfl
  obtain⟨y1,h1⟩:=hf 1 _ rfl
  obtain⟨y2,h2⟩:=hf 2 _ rfl
  obtain⟨y3,h3⟩:=hf 3 _ rfl
  dsimp only at h0 h1 h2 h3
  rw[cI]at h0
  rw[cN]at h1
  rw[cS]at h2
  rw[cK]at h3
  obtain⟨op,r0,_⟩:=Fa hI h0
  obtain⟨m,r1,hm,_⟩:=Fa hN h1
  obtain⟨s,r2,_⟩:=vX hS h2
  obtain⟨ks,r3,hg⟩:=ph (W:=W) cd Ex.rG hK hEc (by decide) Wx (fun k hk cs x hx=>ih k (by omega) cs x hx) h3
  refine⟨⟨op,m,s,ks⟩, ?_,hm, ?_⟩
  ·have:=r0.at (r1.at (r2.at (r3.at (fi.end (by rw [hl,hEc])))))
   rw[ja]
   simpa[encStr]using this
  ·clear r3
   induction ks with
   |nil=>exact trivial
   |cons k ks ihk=>exact⟨hg k (by simp),ihk fun y hy=>hg y (by simp[hy])⟩
theorem fi.agg {ds:List D} {v:Value} (h:fi W ds v.cells.toList) (hv : ∃ vs,v = .agg vs):RD (su W) S0 (.agg ds) v:=by
 obtain⟨vs,rfl⟩:=hv
 obtain⟨h1,h2,h3⟩:=h
 have e:(Value.agg vs).cells=vs:=rfl
 rw[e]at h1 h2 h3
 refine .agg ds vs (by simpa using h1) (fun v hv=>h3 v (by simpa using hv)) fun i d v hd hv=>h2 i d v hd (by simpa using hv)
end
end Go.Abs
namespace Go.Abs
open Go.Proofs Go.RowKit Go.ChangeShapes Go.WideShapes
section
variable {H:Type} {enc:TypeId×Value→H} {W:World} {sp:Nat→Bool}
theorem SU (fuel:Nat) (cs:List Value) (x:DataW H×List MemPlace) (h:DataW.trod enc Tryz.prog W 0 sp true fuel 50 cs=some x) : ∃ y:Ex,fi W (cd y) cs∧y.rG:=
 ahC (tE:=50) (tI:=3) (tN:=2) (tS:=9) (tK:=48) (by kernel_rfl) (by kernel_rfl) (by kernel_rfl) (by kernel_rfl) (by kernel_rfl) (by kernel_rfl) (by kernel_rfl) (by kernel_rfl) (by kernel_rfl) (by kernel_rfl) _ _ _ h
theorem Z4:Tryz.prog.underlying 22=some (.slice 9):=by kernel_rfl
theorem yE:Tryz.prog.underlying 9=some .string:=by kernel_rfl
theorem SV:Tryz.prog.underlying 3=some (.int .i64):=by kernel_rfl
theorem F9:Tryz.prog.underlying 4=some .bool:=by kernel_rfl
theorem B1:Tryz.prog.cellsOf 9=1:=by kernel_rfl
theorem aeh:Tryz.prog.cellsOf 3=1:=by kernel_rfl
theorem Ga:Tryz.prog.cellsOf 4=1:=by kernel_rfl
theorem Gb:Tryz.prog.cellsOf 22=1:=by kernel_rfl
theorem X0:Tryz.prog.cellsOf 50=4:=by kernel_rfl
theorem zZ {fuel:Nat} {cs:List Value} {x:DataW H×List MemPlace} (h:DataW.trod enc Tryz.prog W 0 sp true fuel 22 cs=some x) : ∃ l:List aG,fi W [.slice .shared 1 (l.map encStr)] cs:=by
 obtain⟨l,h,_⟩:=ph (W:=W) encStr (fun _=>True) Z4 B1 (by decide) (fun _=>rfl) (fun k hk cs x hx=>by
  obtain⟨s,hs,_⟩:=vX yE hx
  exact⟨s,hs,trivial⟩) h
 exact⟨l,h⟩
theorem aei {fuel:Nat} {cs:List Value} {x:DataW H×List MemPlace} (h:DataW.trod enc Tryz.prog W 0 sp true fuel 73 cs=some x) : ∃ y:Pm,fi W (iD y) cs:=by
 obtain⟨n,rfl,hl,hf⟩:=lU (l:= [(9,0),(4,1)]) (by kernel_rfl) (by simp) h
 have hc:Tryz.prog.cellsOf 73=2:=by kernel_rfl
 obtain⟨y0,h0⟩:=hf 0 _ rfl
 obtain⟨y1,h1⟩:=hf 1 _ rfl
 dsimp only at h0 h1
 rw[B1]at h0
 rw[Ga]at h1
 obtain⟨s,r0,_⟩:=vX yE h0
 obtain⟨b,r1⟩:=F8 F9 h1
 refine⟨⟨s,b⟩, ?_⟩
 have:=r0.at (r1.at (fi.end (by rw[hl,hc])))
 simpa[encStr,iD]using this
theorem aej {fuel:Nat} {cs:List Value} {x:DataW H×List MemPlace} (h:DataW.trod enc Tryz.prog W 0 sp true fuel 123 cs=some x) : ∃ y:Ar,fi W (ey y) cs∧y.x.rG:=by
 obtain⟨n,rfl,hl,hf⟩:=lU (l:= [(4,0),(9,1),(50,2)]) (by kernel_rfl) (by simp) h
 have hc:Tryz.prog.cellsOf 123=6:=by kernel_rfl
 obtain⟨y0,h0⟩:=hf 0 _ rfl
 obtain⟨y1,h1⟩:=hf 1 _ rfl
 obtain⟨y2,h2⟩:=hf 2 _ rfl
 dsimp only at h0 h1 h2
 rw[Ga]at h0
 rw[B1]at h1
 rw[X0]at h2
 obtain⟨b,r0⟩:=F8 F9 h0
 obtain⟨s,r1,_⟩:=vX yE h1
 obtain⟨e,r2,hr⟩:=SU _ _ _ h2
 refine⟨⟨b,s,e⟩, ?_,hr⟩
 have:=r0.at (r1.at (r2.at (fi.end (by rw[hl,hc]))))
 rw[ja]at this
 simpa[encStr,ey]using this
theorem z6 : ∀ {l:List Sm},(∀ s∈l,s.rG)→Sm.xA l
 | [],_=>trivial
 |s::l,h=>⟨h s (List.mem_cons_self ..),z6 fun t m=>h t (List.mem_cons_of_mem _ m)⟩
theorem aek : ∀ (fuel:Nat) (cs:List Value) (x:DataW H×List MemPlace),DataW.trod enc Tryz.prog W 0 sp true fuel 54 cs=some x→∃ y:Sm,fi W (bb y) cs∧y.rG:=by
 intro fuel
 induction fuel using Nat.strongRecOn with
 |_ fuel ih=>
  intro cs x h
  obtain⟨n,rfl,hl,hf⟩:=lU (l:= [(3,0),(3,1),(22,2),(9,3),(9,4),(50,5),(4,9),(51,10),(52,11),(52,12)]) (by kernel_rfl) (by simp) h
  have hc:Tryz.prog.cellsOf 54=13:=by kernel_rfl
  have ca:Tryz.prog.cellsOf 51=1:=by kernel_rfl
  have jF:Tryz.prog.cellsOf 52=1:=by kernel_rfl
  have ua:Tryz.prog.underlying 51=some (.slice 123):=by kernel_rfl
  have us:Tryz.prog.underlying 52=some (.slice 54):=by kernel_rfl
  have ca6:Tryz.prog.cellsOf 123=6:=by kernel_rfl
  obtain⟨y0,h0⟩:=hf 0 _ rfl
  obtain⟨y1,h1⟩:=hf 1 _ rfl
  obtain⟨y2,h2⟩:=hf 2 _ rfl
  obtain⟨y3,h3⟩:=hf 3 _ rfl
  obtain⟨y4,h4⟩:=hf 4 _ rfl
  obtain⟨y5,h5⟩:=hf 5 _ rfl
  obtain⟨y6,h6⟩:=hf 6 _ rfl
  obtain⟨y7,h7⟩:=hf 7 _ rfl
  obtain⟨y8,h8⟩:=hf 8 _ rfl
  obtain⟨y9,h9⟩:=hf 9 _ rfl
  dsimp only at h0 h1 h2 h3 h4 h5 h6 h7 h8 h9
  rw[aeh]at h0 h1
  rw[Gb]at h2
  rw[B1]at h3 h4
  rw[X0]at h5
  rw[Ga]at h6
  rw[ca]at h7
  rw[jF]at h8 h9
  obtain⟨id,r0,_⟩:=Fa SV h0
  obtain⟨kind,r1,_⟩:=Fa SV h1
  obtain⟨labels,r2⟩:=zZ h2
  obtain⟨name,r3,_⟩:=vX yE h3
  obtain⟨proc,r4,_⟩:=vX yE h4
  obtain⟨e,r5,hr⟩:=SU _ _ _ h5
  obtain⟨b,r6⟩:=F8 F9 h6
  obtain⟨args,r7,ha⟩:=ph (W:=W) ey (fun a=>a.x.rG) ua ca6 (by decide) (fun _=>rfl) (fun k hk cs x hx=>aej hx) h7
  obtain⟨aZ,r8,ht⟩:=ph (W:=W) bb Sm.rG us hc (by decide) HY (fun k hk cs x hx=>ih k (by omega) cs x hx) h8
  obtain⟨aR,r9,he⟩:=ph (W:=W) bb Sm.rG us hc (by decide) HY (fun k hk cs x hx=>ih k (by omega) cs x hx) h9
  refine⟨⟨id,kind,labels,name,proc,e,b,args,aZ,aR⟩, ?_,hr,ha,z6 ht,z6 he⟩
  have:=r0.at (r1.at (r2.at (r3.at (r4.at (r5.at (r6.at (r7.at (r8.at (r9.at (fi.end (by rw[hl,hc])))))))))))
  rw[ja]at this
  rw[ek]
  simpa[encStr]using this
theorem ael {fuel:Nat} {cs:List Value} {x:DataW H×List MemPlace} (h:DataW.trod enc Tryz.prog W 0 sp true fuel 70 cs=some x) : ∃ y:Pc,fi W (cj y) cs∧Sm.xA y.body:=by
 obtain⟨n,rfl,hl,hf⟩:=lU (l:= [(9,0),(68,1),(22,2),(52,3),(22,4)]) (by kernel_rfl) (by simp) h
 have hc:Tryz.prog.cellsOf 70=5:=by kernel_rfl
 have cp:Tryz.prog.cellsOf 68=1:=by kernel_rfl
 have jF:Tryz.prog.cellsOf 52=1:=by kernel_rfl
 have up:Tryz.prog.underlying 68=some (.slice 73):=by kernel_rfl
 have us:Tryz.prog.underlying 52=some (.slice 54):=by kernel_rfl
 have cp2:Tryz.prog.cellsOf 73=2:=by kernel_rfl
 have aoa:Tryz.prog.cellsOf 54=13:=by kernel_rfl
 obtain⟨y0,h0⟩:=hf 0 _ rfl
 obtain⟨y1,h1⟩:=hf 1 _ rfl
 obtain⟨y2,h2⟩:=hf 2 _ rfl
 obtain⟨y3,h3⟩:=hf 3 _ rfl
 obtain⟨y4,h4⟩:=hf 4 _ rfl
 dsimp only at h0 h1 h2 h3 h4
 rw[B1]at h0
 rw[cp]at h1
 rw[Gb]at h2 h4
 rw[jF]at h3
 obtain⟨name,r0,_⟩:=vX yE h0
 obtain⟨ps,r1,_⟩:=ph (W:=W) iD (fun _=>True) up cp2 (by decide) (fun _=>rfl) (fun k hk cs x hx=>by
  obtain⟨y,hy⟩:=aei hx
  exact⟨y,hy,trivial⟩) h1
 obtain⟨vars,r2⟩:=zZ h2
 obtain⟨body,r3,hb⟩:=ph (W:=W) bb Sm.rG us aoa (by decide) HY (fun k hk cs x hx=>aek k cs x hx) h3
 obtain⟨fin,r4⟩:=zZ h4
 refine⟨⟨name,ps,vars,body,fin⟩, ?_,z6 hb⟩
 have:=r0.at (r1.at (r2.at (r3.at (r4.at (fi.end (by rw[hl,hc]))))))
 simpa[encStr,cj]using this
theorem aem {fuel:Nat} {cs:List Value} {x:DataW H×List MemPlace} (h:DataW.trod enc Tryz.prog W 0 sp true fuel 25 cs=some x) : ∃ y:Pg,fi W (cr y) cs∧y.rG:=by
 obtain⟨n,rfl,hl,hf⟩:=lU (l:= [(22,0),(23,1)]) (by kernel_rfl) (by simp) h
 have hc:Tryz.prog.cellsOf 25=2:=by kernel_rfl
 have cp:Tryz.prog.cellsOf 23=1:=by kernel_rfl
 have up:Tryz.prog.underlying 23=some (.slice 70):=by kernel_rfl
 have cp5:Tryz.prog.cellsOf 70=5:=by kernel_rfl
 obtain⟨y0,h0⟩:=hf 0 _ rfl
 obtain⟨y1,h1⟩:=hf 1 _ rfl
 dsimp only at h0 h1
 rw[Gb]at h0
 rw[cp]at h1
 obtain⟨globals,r0⟩:=zZ h0
 obtain⟨procs,r1,hp⟩:=ph (W:=W) cj (fun f=>Sm.xA f.body) up cp5 (by decide) (fun _=>rfl) (fun k hk cs x hx=>ael hx) h1
 refine⟨⟨globals,procs⟩, ?_,hp⟩
 have:=r0.at (r1.at (fi.end (by rw[hl,hc])))
 simpa[cr]using this
end
end Go.Abs
namespace Go.Abs
open Go.Proofs Go.ChangeShapes Go.WideShapes Go.ChangeAt Go.RowKit
theorem B2 {H:Type} {enc:TypeId×Value→H} {P:Program} {W:World} {sp:Nat→Bool} {t:TypeId} {ts:List TypeId} {ps:List MemPlace} : ∀ {l:List Value} {ds:List (DataW H)},DataW.TrodAll enc P W 0 sp true (t::ts) l ds ps→
 ∃ v l' d nD p q,l=v::l'∧ds=d::nD∧DataW.Trod enc P W 0 sp true t v d p∧DataW.TrodAll enc P W 0 sp true ts l' nD q
 |v::l,d::ds,⟨p,q,h1,h2,e⟩=>⟨v,l,d,ds,p,q,rfl,rfl,h1,h2⟩
 | [],[],h=>h.elim
 | [],_::_,h=>h.elim
 |_::_,[],h=>h.elim
theorem VZ {H:Type} {enc:TypeId×Value→H} {P:Program} {W:World} {sp:Nat→Bool} {ps:List MemPlace} : ∀ {l:List Value} {ds:List (DataW H)},DataW.TrodAll enc P W 0 sp true [] l ds ps→l = []∧ds = []
 | [],[],_=>⟨rfl,rfl⟩
 | [],_::_,h=>h.elim
 |_::_,ds,h=>by cases ds<;>exact h.elim
end Go.Abs
