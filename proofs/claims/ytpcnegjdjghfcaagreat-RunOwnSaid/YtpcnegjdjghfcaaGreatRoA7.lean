/-
  What is proved here: part 7 of the road to the claim (Cp1, RunC0, RunC1, RunC2, RunC3, RunC4, RunC5, RunC6, RunC7, RunSt, RunSz, Jm3, Rj1, Rj2, Ck1, RunC8, RunC9, ThawR, RunL0, RunL1, WhA, OwnJ, R12P, R12A, R12N, R12B, R12D, R12E, R12I, R12M).
  No conditions.
-/
import Derived.Test.YtpcnegjdjghfcaaGreatRoA6

set_option linter.unusedSimpArgs false
set_option linter.unusedVariables false
namespace Go.Abs
set_option maxRecDepth 8000
open Go.Proofs
theorem tZ {size bytes:Nat} {rows:List (List D)} (h:rows≠ []) (hl:rows.length*(bytes+1)≤aT) {z:Nat} {g:Tag} (o:List (List D)) (T:List (Option Nat)) :
 fS size bytes (.slice .full z []) (.slice g size rows) ⟨o,T⟩=some (.slice (.tok T.length) size rows,⟨o,T++ [some rows.length]⟩):=by
 cases rows with
 |nil=>exact absurd rfl h
 |cons x r=>simp only[zas]at hl;simp[fS,hl]
theorem ub {size bytes z z':Nat} {g:Tag} (o:List (List D)) (T:List (Option Nat)) :
 fS size bytes (.slice .full z []) (.slice g z' []) ⟨o,T⟩=some (.slice .full z [],⟨o,T⟩):=by simp[fS,aT]
theorem FV {l:List aD} (hl:l.length≤10000000) (s:St):ay Tryz.prog 42 [.slice .shared 1 (l.map encStr)] s (.slice .shared 1 (l.map encStr)) s:=by
 refine ay.pure ?_ (by simp[D.bJ,D.ok,dv,Tag.ok]) (by rw[D.ok,dv];rfl) s
 unfold S0
 cases l with
 |nil=>
  simp only[zaj]
  have ha:=fun o T=>ub (size:=1) (bytes:=16) (z:=0) (z':=1) (g:= .shared) o T
  refine ay.go BL.h rfl fun B Q hB hQ=>?_
  have⟨hD,hZ,gC,gD⟩:=bc
  exact iX ha
 |cons x l=>
  have ha:=fun o T=>tZ (size:=1) (bytes:=16) (rows:=(x::l).map encStr) (by simp) (by simp only[zau];unfold aT;omega) (z:=0) (g:= .shared) o T
  have hf:=O0 0 0 (x::l)
  generalize (x::l).map encStr=R at *
  refine ay.go BL.h rfl fun B Q hB hQ=>?_
  have⟨hD,hZ,gC,gD⟩:=bc
  exact iX (eK ha hf)
theorem V4 : ∀ n,n<1073741824→∀ x:Ex,x.size≤n→ay Tryz.prog 108 [.agg (bQ x)] S0 (.agg (bQ x)) S0:=by
 intro n
 induction n with
 |zero=>rintro _ ⟨op,m,name,kids⟩ h;simp only[Ex.size]at h;omega
 |succ n ihn=>
 rintro hn ⟨op,m,name,kids⟩ hx
 have hk : ∀ y∈kids,∀ s,ay Tryz.prog 108 [.agg (bQ y)] s (.agg (bQ y)) s:=fun y hy s=>
  (ihn (by omega) y (by simp only[Ex.size]at hx;have:=Ex.cb hy;omega)).pure (by simp[D.bJ,D.ok,je]) (by simp[D.ok,je]) s
 have hlen:kids.length<1073741824:=by simp only[Ex.size]at hx;have:=Ex.dk kids;omega
 unfold S0
 refine ay.go Gb.h rfl fun B Q hB hQ=>?_
 have⟨hD,hZ,gC,gD⟩:=bc
 refine bT trivial ?_
 refine aJ.tR 2 3 4 rfl rfl ?_
 simp only[go_sem,hD,hZ,gC,gD]
 refine dg 3 1 (aJ.ind (ι:=List Ex×Nat×List Ex) (fun i=>kids.drop i.2.1=i.1∧i.2.1=i.2.2.length∧i.2.2++i.1=kids) (fun i=>i.1.length)
  (fun i=> [(1, .ptr 0 0),(2, .ptr 1 0),(3, .ptr 2 0),(14, .int .i64 (kids.length:Int)),(15, .int .i64 (i.2.1:Int))])
  (fun i=>⟨[bQ ⟨op,m,name,kids⟩,bQ sM,[.int .i64 op, .int .i64 m, .str name, .slice (.tok 0) 4 (i.2.2.map bQ)]],[some i.2.1]⟩) ?_ (kids,0,[]) ⟨rfl,rfl,rfl⟩)
 rintro⟨rest,k,acc⟩ ⟨h1,h2,h3⟩ IH
 dsimp only at h1 h2 h3
 subst h2
 cases rest with
 |nil=>
  have hD:=drop_nil h1
  simp only[zaF]at h3
  subst h3
  exact dR trivial
 |cons y rest=>
  obtain⟨hZ,g2,hD,g4⟩:=drop_cons h1
  have gk:(acc.length+1)*57≤aT:=by simp only[aT];omega
  have hy:=hk y (zad hZ)
  have w1:IntKind.wrap .i64 ((acc.length:Int)+1)=((acc.length+1:Nat):Int):=by rw[dE]<;>omega
  repeat' (first
 |simp only[go_sem,hD,hZ,gC,gD,gk,w1]
 |(with_reducible refine CU (hy _) ?_)
 |(with_reducible refine aX hQ ?_;exact bK))
  refine dg 3 1 (IH (rest,acc.length+1,acc++ [y]) ⟨g2,by simp,by rw[← h3];simp⟩ (zae _))
theorem JA {x:Ex} (h:x.size<1073741824) (s:St):ay Tryz.prog 108 [.agg (bQ x)] s (.agg (bQ x)) s:=
 (V4 x.size h x (zak _)).pure (by simp[D.bJ,D.ok,je]) (by simp[D.ok,je]) s
def Sm.bare (v:Sm):Sm:= {v with aY:= [],aH:= []}
theorem MD {v:Sm} (hv:v.labels.length+v.x.size+Ar.bB v.args<10000000) (s:St):ay Tryz.prog 73 [.agg (aO v)] s (.agg (aO v.bare)) s:=by
 refine ay.pure ?_ (by simp[D.bJ,D.ok,nN]) (by simp[D.ok,nN]) s
 obtain⟨id,kind,labels,name,proc,x,has,args,aY,aH⟩:=v
 dsimp only at hv
 have pg:=Ar.dk args
 have hx:=fun s=>JA (x:=x) (by omega) s
 simp only[jc]at hx
 have hL:=fun s=>FV (l:=labels) (by omega) s
 unfold Sm.bare
 unfold S0
 refine ay.go Ht.h rfl fun B Q hB hQ=>?_
 have⟨hD,hZ,gC,gD⟩:=bc
 repeat' (first
 |simp only[go_sem,hD,hZ,gC,gD]
 |(with_reducible refine CU (hL _) ?_)
 |(with_reducible refine CU (hx _) ?_)
 |(with_reducible refine aX hQ ?_;exact bK))
 refine aJ.tR 2 10 6 rfl rfl ?_
 simp only[go_sem,hD,hZ,gC,gD]
 refine dg 3 1 (aJ.ind (ι:=List Ar×Nat×List Ar) (fun i=>args.drop i.2.1=i.1∧i.2.1=i.2.2.length∧i.2.2++i.1=args) (fun i=>i.1.length)
  (fun i=> [(1, .ptr 0 0),(2, .ptr 1 0),(3, .ptr 2 0),(24, .slice .shared 6 (args.map dH)),(25, .int .i64 (args.length:Int)),(26, .int .i64 (i.2.1:Int))])
  (fun i=>⟨[aO ⟨id,kind,labels,name,proc,x,has,args,aY,aH⟩,aO LU,[.int .i64 id, .int .i64 kind, .slice .shared 1 (labels.map encStr), .str name, .str proc, .int .i64 x.op, .int .i64 x.n, .str x.name, .slice .shared 4 (x.kids.map bQ), .bool has, .slice (.tok 0) 6 (i.2.2.map dH), .slice .full 0 [], .slice .full 0 []]],[some i.2.1]⟩) ?_ (args,0,[]) ⟨rfl,rfl,rfl⟩)
 rintro⟨V5,ka,V6⟩ ⟨j1,j2,j3⟩ IHa
 dsimp only at j1 j2 j3
 subst j2
 cases V5 with
 |nil=>
  have hD:=drop_nil j1
  simp only[zaF]at j3
  subst j3
  exact dR (eK @ep @List.map_nil.{0,0})
 |cons c V5=>
  obtain⟨hZ,g2,hD,g4⟩:=drop_cons j1
  have ha:c.x.size<1073741824:=by have:=Ar.cb (zad hZ);omega
  have LH:V6.length<4611686018427387904:=by omega
  have aka:(V6.length+1)*81≤aT:=by simp only[aT];omega
  have hxa:=fun s=>JA ha s
  simp only[jc]at hxa
  obtain⟨aqU,anr,ax⟩:=c
  repeat' (first
 |simp only[go_sem,hD,hZ,gC,gD,aka]
 |(with_reducible refine CU (hxa _) ?_)
 |(with_reducible refine aX hQ ?_;exact bK))
  refine cr 3 1 ?_ ?_ (IHa (V5,V6.length+1,V6++ [⟨aqU,anr,ax⟩]) ⟨g2,by simp,by rw[← j3];simp⟩ (zae _))
  ·(simp only[go_sem,hD,hZ,gC,gD,ak LH];try exact aQ)
  ·(simp only[go_sem,hD,hZ,gC,gD,ak LH];try exact aQ)
set_option maxRecDepth 8000
open Go.Proofs
theorem ay.ans {P:Program} {f:FuncId} {args:List D} {z k:Nat} {rows:List (List D)} (h:ay P f args S0 (.slice (.tok 0) z rows) ⟨[],[some k]⟩) (ha:D.bJ 0 0 args=true) (hr:D.jB 0 0 rows=true) (s:St) :
 ay P f args s (.slice (.tok s.au.length) z rows) ⟨s.ag,s.au++ [some k]⟩:=by
 refine bk.frame [] [] h zbP zbP (by simp) (by simp) rfl (by simp) rfl (by simp) (by rw[fN _ _ _ ha]) ha ?_
 rintro _ _ ⟨rfl,rfl⟩
 refine⟨by simp[D.back,D.di,Tag.di,lj,kH _ _ _ hr], ?_⟩
 simp[St.back,l6]
theorem V7 (g:Tag) (z:Nat) (s:St):ay Tryz.prog 88 [.slice g z []] s (.slice .full 1 []) s:=by
 refine bk.mT (.cons (Wk.nil _ _ 1) .nil) (ay.pure ?_ rfl rfl s)
 unfold S0
 refine ay.go sN.h rfl fun B Q hB hQ=>?_
 have⟨hD,hZ,gC,gD⟩:=bc
 refine bT trivial ?_
 refine aaR (fun _=>?_) ?_
 ·repeat' (first
 |simp only[go_sem,hD,hZ,gC,gD,fS,true_or,zaA]
 |(with_reducible refine aX hQ ?_;exact bK))
 ·repeat' (first
 |simp only[go_sem,hD,hZ,gC,gD,fS,true_or,zaA]
 |(with_reducible refine aX hQ ?_;exact bK))
theorem V8 {l:List aD} (hl:l.length<1073741824) (h0:l≠ []) (s:St):ay Tryz.prog 88 [.slice .shared 1 (l.map encStr)] s (.slice (.tok s.au.length) 1 (l.map encStr)) ⟨s.ag,s.au++ [some l.length]⟩:=by
 refine ay.ans ?_ (by simp[D.bJ,D.ok,Tag.ok,dv]) (dv l) s
 unfold S0
 refine ay.goK 0 1 (zaA _) (zaA _) sN.h rfl fun B Q hB hQ=>?_
 have⟨hD,hZ,gC,gD⟩:=bc
 have ha:=fun o T=>tZ (size:=1) (bytes:=16) (rows:=l.map encStr) (by simpa using h0) (by simp only[zau];unfold aT;omega) (z:=1) (g:= .shared) o T
 cases l with
 |nil=>exact absurd rfl h0
 |cons x l=>
  simp only[zaf,encStr]at ha
  exact dR ha
theorem SN {a b:List aD} {n:Nat} (hn:n=a.length) (h:a.length+b.length≤1000000000) {g:Tag} {t:Nat} {s:St} (ht:s.au[t]? = some (some n)) :
 fS 1 16 (.slice (.tok t) 1 (a.map encStr)) (.slice g 1 (b.map encStr)) s=some (.slice (.tok t) 1 ((a++b).map encStr),⟨s.ag,s.au.set t (some (a++b).length)⟩):=by
 subst hn
 rw[kZ (size:=1) (bytes:=16) (by simp only[zau];unfold aT;omega) (by simpa using ht)]
 simp
theorem akb {p:Pg} (h:p.gb) (hb:p.may=true) {name:aD} {f:Pc} (hf:p.find name=some f) (s:St):ay Tryz.prog 58 [.agg (bG p), .str name] s (.slice .shared 1 ((p.globals++f.own).map encStr)) s:=by
 refine ay.pure ?_ (by simp[D.bJ,D.ok,fW]) (by simp only[D.ok,Tag.ok,dv];rfl) s
 have hm:=fun s=>PF h.PR s
 simp only[FH,hb]at hm
 obtain⟨nX,oE,mB⟩:=h.procs
 simp only[Pg.find]at hf
 unfold S0
 refine ay.go Km.h rfl fun B Q hB hQ=>?_
 have⟨hD,hZ,gC,gD⟩:=bc
 repeat' (first
 |simp only[go_sem,hD,hZ,gC,gD]
 |(with_reducible refine CU (hm _) ?_)
 |(with_reducible first|refine fv fun hc=>?_|refine fw fun hc=>?_|refine fx (fun hc=>?_) fun hc=>?_)<;>(try simp only[hc,bs,↓reduceIte]at h)<;>try simp only[hc]
 |(with_reducible refine aX hQ ?_;exact bK))
 refine dg 1 0 (aJ.ind (ι:=List Pc×Nat) (fun i=>p.procs.drop i.2=i.1∧iB name i.1=some f) (fun i=>i.1.length)
  (fun i=> [(1, .str name),(2, .ptr 0 0),(11, .slice .shared 5 (p.procs.map bP)),(12, .int .i64 (p.procs.length:Int)),(13, .int .i64 (i.2:Int))]) (fun i=>⟨[bG p],[]⟩) ?_ (p.procs,0) ⟨rfl,hf⟩)
 rintro⟨rest,k⟩ ⟨h1,h2⟩ IH
 dsimp only at h1 h2
 cases rest with
 |nil=>cases h2
 | cons a rest=>
  obtain⟨hZ,g2,hD,g4⟩:=drop_cons h1
  have aV:k<4611686018427387904:=by omega
  have sP:=h.small (zad hZ)
  simp only[iB]at h2
  rcases zaa (a.name==name)with b1|b1
  ·simp only [b1,if_true]at h2
   cases h2
   have ho:=fun s=>aeo (f:=f) sP.par sP.vars s
   have kg:f.own.length<2000000:=by have:=sP.par;have:=sP.vars;simp[Pc.own,Pc.mg];omega
   cases e:p.globals with
   | nil=>
    simp only[za1]at *
    have c1:=fun g z s=>V7 g z s
    cases e2:f.own with
    |nil=>
     rw[e2]at ho hQ
     have ha:=fun o T=>ub (size:=1) (bytes:=16) (z:=1) (z':=1) (g:= .shared) o T
     exact DG (ly b1 ha e) c1 ho
    |cons x l=>
     have ha:=fun o T=>tZ (size:=1) (bytes:=16) (rows:=f.own.map encStr) (by simp[e2]) (by simp only[zau];unfold aT;omega) (z:=1) (g:= .shared) o T
     exact DG (ly b1 ha e) c1 ho
   |cons x l=>
    have c1:=fun s=>V8 (l:=p.globals) (by omega) (by simp[e]) s
    have ha:=fun {s:St} {t:Nat} (ht:s.au[t]? = some (some p.globals.length))=>SN (a:=p.globals) (b:=f.own) (g:= .shared) rfl (by omega) ht
    have Bx:=fun o=>SN (a:=p.globals) (b:=f.own) (g:= .shared) (t:=0) (s:=⟨o,[some p.globals.length]⟩) rfl (by omega) rfl
    exact pT (eK b1 Bx) c1 ho
  ·simp only [b1,zab,if_false]at h2
   refine bT b1 ?_
   refine cr 1 0 ?_ ?_ (IH (rest,k+1) ⟨g2,h2⟩ (zae _))
   ·(simp only[go_sem,hD,hZ,gC,gD,ak aV];try exact aQ)
   ·(simp only[go_sem,hD,hZ,gC,gD,ak aV];try exact aQ)
theorem RS {p:Pg} (hb:p.may=true) {i:Nat} {f:Pc} (hf:p.procs[i]? = some f) : ∃ a b:Int,p.aU.lo[i]? = some a∧p.aU.hi[i]? = some b∧(if decide (a<b)=true then a else -1)=eR f.body (-1):=by
 obtain⟨a,b,e,h1,h2,h3,h4⟩:=(qn p).2 i f hf
 refine⟨_,_,h1,h2, ?_⟩
 cases Fy:f.body with
 |nil=>
  rw[Fy]at h3
  have:b = []:=by simpa[Sm.cU]using h3
  subst this
  simp[eR]
 | cons s l=>
  rw[Fy,Sm.cU,Sm.mO]at h3
  cases b with
  |nil=>simp at h3
  | cons x b=>
   simp only[zaf,zaV,List.cons.injEq]at h3
   have hx:p.pre[a.length]? = some s:=by
    rw[← (qn p).1,h4]
    simp[h3.1]
   have:=EO hb hx
   rw[if_pos (by simp;omega)]
   simp only[eR]
   rw[this];omega
theorem agE {p:Pg} (hb:p.may=true) {i:Nat} {f:Pc} (hf:p.procs[i]? = some f) (s:St):ay Tryz.prog 59 [.dW (gn p) 0, .int .i64 (i:Int)] s (.int .i64 (eR f.body (-1))) s:=by
 refine ay.pure ?_ (by simp[D.bJ,D.ok,xl]) rfl s
 obtain⟨a,b,h1,h2,h⟩:=RS hb hf
 generalize eR f.body (-1)=R at h
 unfold S0
 rw[rX]
 refine ay.go CM.h rfl fun B Q hB hQ=>?_
 have⟨hD,hZ,gC,gD⟩:=bc
 exact iX (eK h1 h2)
set_option maxRecDepth 8000
open Go.Proofs
section
variable {p:Pg} {T W:List Int} {y:Lay} {m:Mc} {loc:List (Nat×List D)} {s:St}
theorem lf.row {s:St} {d:D} {cs:List D} (h:lf s d cs) (hn:cs≠ []) : ∃ o g more,d = .dr 1 o g cs.length∧s.ag[o]? = some (.int .i64 ((g:Nat):Int)::(cs++more)):=by
 rcases h with ⟨_,h⟩|h
 ·exact absurd h hn
 ·exact h
theorem Inv.acC (h:Inv p T W y m loc s) {fr:Fr} {r:List Fr} (gG:m.st=fr::r) : ∃ so g cells o,y.sd = .dr 1 so g (r.length+1)∧s.ag[so]? = some (.int .i64 ((g:Nat):Int)::cells)∧cells[r.length]? = some (.ptr o 0)∧s.ag[o]? = some (si y.κ fr)∧y.φ[0]? = some o:=by
 have fM:=h.vT
 rw[gG]at fM
 cases hφ:y.φ with
 |nil=>rw[hφ]at fM;simp at fM
 | cons o φ=>
  rw[hφ]at fM
  simp only[zas]at fM
  obtain⟨so,g,more,h1,h2⟩:=h.stack.row (by simp[hφ])
  refine⟨so,g,_,o, ?_,h2, ?_,(h.frame 0 o fr (by rw[hφ];rfl) (by rw[gG];rfl)).1,rfl⟩
  ·rw[h1];simp[hφ];omega
  ·rw [hφ,List.reverse_cons,zag,zaB,zao (by simp;omega)]
   simp[Bc,show r.length - φ.length=0 by omega]
theorem V9 (h:Inv p T W y m loc s) {fr:Fr} {r:List Fr} (gG:m.st=fr::r) (hs:r.length<1000000) : ∃ o,y.φ[0]? = some o∧s.ag[o]? = some (si y.κ fr)∧ay Tryz.prog 67 [.ptr 0 0] s (.ptr o 0) s:=by
 obtain⟨so,g,cells,o,h1,h2,h3,h4,h5⟩:=h.acC gG
 refine⟨o,h5,h4, ?_⟩
 have hm:=h.fi
 rw[fZ,h1]at hm
 have hw:IntKind.wrap .i64 (((r.length+1:Nat):Int) - 1)=((r.length:Nat):Int):=by rw[show((r.length+1:Nat):Int) - 1=(r.length:Int) by omega];exact dE (by omega) (by omega)
 have hl:(r.length<r.length+1)=True:=by simp
 refine bk.jO DU.h rfl fun B Q hB hQ=>?_
 have⟨hD,hZ,gC,gD⟩:=bc
 refine bT (BG hm hw h2 h3 hl @Nat.mul_one) ?_
 (refine dI hQ ?_;simp only[bZ,cd,dn,dq,go_sem])
theorem FW (h:Inv p T W y m loc s) {fr:Fr} {r:List Fr} (gG:m.st=fr::r) (hs:r.length<1000000) (hn:fr.names.length<1000000) {name:aD} {j c:Nat} (hj:gi name 0 fr.names=(j:Int)) (hc:fr.vars[j]? = some c) :
 ay Tryz.prog 62 [.ptr 0 0, .str name] s (.ptr (y.κ.getD c 0) 0) s:=by
 obtain⟨o,_,h1,c1⟩:=V9 h gG hs
 have c2:=fun s=>FE (l:=fr.names) (by omega) name s
 rw[hj]at c2
 rw[si]at h1
 refine bk.jO BO.h rfl fun B Q hB hQ=>?_
 have⟨hD,hZ,gC,gD⟩:=bc
 repeat' (first
 |simp only[go_sem,hD,hZ,gC,gD,h1,hc,gE,za9]
 |(with_reducible refine CU (c1) ?_)
 |(with_reducible refine CU (c2 _) ?_)
 |(with_reducible refine aX hQ ?_;exact bK))
 (refine dI hQ ?_;simp only[bZ,cd,dn,dq,go_sem])
abbrev Rl (p:Pg) (T W:List Int) (d:D) (m':Mc) (X:Lay→Prop) (loc:List (Nat×List D)):D→St→Prop:=fun d' s'=>d'=d∧∃ y',X y'∧Inv p T W y' m' loc s'
theorem acD {tr:List (Int×List Int)} {ev:List Nat} (h:ev.length=tr.length) (e:Int×List Int) (k:Nat):List.zipWith rE (tr++ [e]) (ev++ [k])=List.zipWith rE tr ev++ [rE e k]:=by
 rw[List.zipWith_append h.symm];rfl
theorem SO (h:Inv p T W y m loc s) (hW:W.length<1000000) (ht:m.trace.length<2000000) (id:Int) (bq:List Int) {k:Nat} (hk:k<s.au.length) (hv:bq≠ []→2≤k∧s.au[k]? = some (some bq.length)∧k∉y.ev) (h0:bq = []→k=0) :
 bk Tryz.prog 64 [.ptr 0 0, .int .i64 id,Qn bq k] s (Rl p T W (.tuple []) (m.event W id bq) (fun y'=>∃ ev,y' = {y with ev:=ev}) loc):=by
 have hm:=h.fi
 rw[fZ]at hm
 have hl:=h.xM
 have c1:=fun s=>RR (l:=W) (by omega) id s
 have hz:=acD h.ev.len (id,bq) k
 rw[rE]at hz
 dsimp only at hz
 obtain⟨g,hg⟩ : ∃ g,Qn bq k = .slice g 1 (bq.map bl):=⟨_,rfl⟩
 have dc:fS 2 32 (.slice (.tok 1) 2 (List.zipWith rE m.trace y.ev)) (.slice .full 2 [[.int .i64 id, .slice g 1 (bq.map bl)]]) s=some (.slice (.tok 1) 2 (List.zipWith rE (m.trace++ [(id,bq)]) (y.ev++ [k])),⟨s.ag,s.au.set 1 (some (m.trace.length+1))⟩):=by
  have Dw:(List.zipWith rE m.trace y.ev).length=m.trace.length:=by rw[List.length_zipWith,h.ev.len,Nat.min_self]
  rw[kZ (size:=2) (bytes:=32) (by simp only[Dw,zaH];unfold aT;omega) (by rw[Dw];exact h.t1),hz,hg,Dw]
  rfl
 rw[hg]
 refine bk.jO BP.h rfl fun B Q hB hQ=>?_
 have⟨hD,hZ,gC,gD⟩:=bc
 cases hb:W.contains id
 ·repeat' (first
 |simp only[go_sem,hD,hZ,gC,gD,hm,hb]
 |(with_reducible refine CU (c1 _) ?_)
 |(with_reducible refine aX hQ ?_;exact bK))
  (refine dI hQ ?_;simp only[bZ,cd,dn,dq,go_sem])
  refine⟨rfl,y,⟨_,rfl⟩, ?_⟩
  unfold Mc.event
  rw[hb]
  exact h
 ·repeat' (first
 |simp only[go_sem,hD,hZ,gC,gD,hm,hb,dc,hl]
 |(with_reducible refine CU (c1 _) ?_)
 | (with_reducible refine aX hQ ?_;exact bK))
  (refine dI hQ ?_;simp only[bZ,cd,dn,dq,go_sem])
  refine⟨rfl,_,⟨y.ev++ [k],rfl⟩, ?_⟩
  have he:vy (s.au.set 1 (some (m.trace.length+1))) (m.event W id bq).trace (y.ev++ [k]):=by
   unfold Mc.event
   rw[hb]
   exact(h.ev.more hk hv h0).set (by decide) _
  have:=h.aj7 (m':=m.event W id bq) (ts:=s.au.set 1 (some (m.trace.length+1))) (dV W m id bq).1 (dV W m id bq).2.1 (by rw[(dV W m id bq).2.2.2.2.2,zam (by omega)];exact h.t0) (by
   unfold Mc.event
   rw[hb]
   simp[(zac.1 h.t1).1]) he
  unfold Mc.event at this ⊢
  rw[hb,if_pos rfl]at this ⊢
  simp only[fZ]at this
  exact this
theorem SP (l:List Sm) (hl:l.length<4611686018427387904) (o:Int) (s:St):ay Tryz.prog 66 [.slice .shared 13 (l.map aO), .int .i64 o] s (.int .i64 (firstM l o)) s:=by
 refine ay.pure ?_ (by simp[D.bJ,D.ok,Tag.ok,pB]) rfl s
 unfold S0
 cases l with
 |nil=>
  have e:decide ((0:Int) > 0)=false:=rfl
  simp only[firstM,eR,zaj]
  refine ay.go DI.h rfl fun B Q hB hQ=>?_
  have⟨hD,hZ,gC,gD⟩:=bc
  exact dR e
 |cons a l=>
  have e:decide (((l.length+1:Nat):Int) > 0)=true:=by simp
  simp only[firstM,eR,zaf]
  refine ay.go DI.h rfl fun B Q hB hQ=>?_
  have⟨hD,hZ,gC,gD⟩:=bc
  exact dR e
end
end Go.Abs
namespace Go.Abs
set_option maxRecDepth 8000
open Go.Proofs
section
variable {p:Pg} {T W:List Int} {y:Lay} {m:Mc} {loc:List (Nat×List D)} {s:St}
theorem Dd {s:St} {o g z bytes:Nat} {t:Tag} {cs more r:List D} {len:Nat} (hs:s.ag[o]? = some (.int .i64 (g:Int)::(cs++more))) (hl:cs.length=len*z) (hm:(len+1)*(bytes+1)≤aT) :
 Ct z bytes (.dr z o g len) (.slice t z [r]) s=some (.dr z o (g+1) (len+1),⟨s.ag.set o (.int .i64 ((g+1:Nat):Int)::(cs++r)),s.au⟩):=by
 have ha:qq s o g=some (cs++more):=by unfold qq;rw[hs];simp
 simp only[Ct,ha,zaH,hm,or_true,and_self,if_true,zbi,List.flatten_nil,zaF]
 rw[if_pos (by simp;omega), ← hl,zbN (zak _),List.take_length]
theorem Wk.ant (z z':Nat):Wk (.ew z) (.slice .shared z' []):=fun M s v h=>by
 cases h with
 |ew _ a=>cases a with
  |none=>exact .jw _ _ _ rfl trivial
  |some a=>exact .lY _ _ _
theorem ay.anu {P:Program} {f:FuncId} {a b:D} {d:D} {s:St} {v:D} {l:List Int} (hv:lf s v (l.map gj)) (h : ∀ s,ay P f [a,b, .slice .shared 1 (l.map bl)] s d s) (ha:D.ok 0 0 a=true) (hb:D.ok 0 0 b=true) (hd:d.flat=true) :
 ay P f [a,b,v] s d s:=by
 rcases hv with ⟨rfl,e⟩|⟨o,g,more,rfl,e⟩
 ·have:l = []:=by simpa using e
  subst this
  exact bk.mT (.cons (Wk.refl _) (.cons (Wk.refl _) (.cons (Wk.ant 1 1) .nil))) (h s)
 ·have dL : ∀ l:List Int,(l.map bl).flatten=l.map gj:=fun l=>by
   induction l with
   |nil=>rfl
   |cons x l ih=>simp only[zaf,zbi,ih];rfl
  have hlen:(l.map gj).length=(l.map bl).length:=by simp
  rw[hlen]
  have e0:D.k6 o g (l.map bl) [a,b, .dr 1 o g (l.map bl).length] = [a,b, .slice .shared 1 (l.map bl)]:=by
   simp only[D.k6,O2 _ _ _ a ha,O2 _ _ _ b hb,D.gW,and_self,if_true]
  refine ay.aqr (k:=2) (rows:=l.map bl) rfl (by rw[dL];exact e) (by intro r hr;obtain⟨x,_,rfl⟩:=zaG.1 hr;rfl) ?_ ?_ hd
  ·rw[e0];exact h S0
  ·rw[e0];simp[D.bJ,D.ok,Tag.ok,ha,hb,gY]
structure na (m:Mc) (fr:Fr) (r:List Fr):Prop where
 st:m.st=fr::r
 len:r.length<1000000
 names:fr.names.length<1000000
 vars:fr.vars.length<1000000
theorem na.top {fr:Fr} {r:List Fr} (h:na m fr r):m.top=fr:=by simp[Mc.top,h.st]
theorem ME {fr:Fr} {k c:Nat} {rest:List Nat} (h:fr.vars.drop k=c::rest) (m:Mc):(fr.vars.take (k+1)).map (fun c=>m.mem.getD c 0)=(fr.vars.take k).map (fun c=>m.mem.getD c 0)++ [m.mem.getD c 0]:=by
 have:=(drop_cons h).1
 rw[List.take_add_one,this]
 simp
theorem HX (h:Inv p T W y m loc s) {fr:Fr} {r:List Fr} (ht:na m fr r) {x:Ex} (hx:x.size<1000000) (htx:x.texts) :
 bk Tryz.prog 63 [.ptr 0 0, .agg (bQ x)] s (fun d s'=>Rl p T W (qc (m.bE x).1) (m.bE x).2 (fun y'=>y' = {y with vd:=y'.vd}) loc d s'∧s'.au=s.au):=by
 have h1:=h.new (bQ x)
 generalize aeD:(s.ag.length,bQ x)::loc=acE at h1
 obtain⟨o,ho,hfo,c1⟩:=V9 h1 ht.st ht.len
 have hm:=h1.fi
 rw[fZ]at hm
 have hl:=h1.xM
 simp only at hm hl
 rw[si]at hfo
 have Sx:=ht.vars
 have LD:=ht.names
 refine bk.jO pU.h rfl fun B Q hB hQ=>?_
 have⟨hD,hZ,gC,gD⟩:=bc
 -- the rounds
 have loop : ∀ (n k:Nat) (rest:List Nat) (vd:D) (s2:St),s2.au=s.au→rest.length=n→fr.vars.drop k=rest→Inv p T W {y with vd:=vd} m acE s2→lf s2 vd (((fr.vars.take k).map fun c=>m.mem.getD c 0).map gj)→
  aJ Tryz.prog B 64 Q0R (fV 0 (kp (iW Tryz.prog B 64 Q0S Q) Q)) [(0, .ptr 0 0),(3, .ptr s.ag.length 0),(6, .ptr o 0),(24, .slice .shared 1 (fr.vars.map fun c=>gE (y.κ.getD c 0))),(25, .int .i64 (fr.vars.length:Int)),(26, .int .i64 (k:Int))] s2:=by
  intro n
  induction n with
  | zero=>
   intro k rest vd s2 yB wF hd h2 ha
   have:rest = []:=za2 wF
   subst this
   have hD:=drop_nil hd
   have hk:fr.vars.take k=fr.vars:=zb5 (zaI.1 hd)
   rw[hk]at ha
   have NL:(fr.vars.map fun c=>m.mem.getD c 0)=m.bq:=by unfold Mc.bq;rw[ht.top]
   rw[NL]at ha
   have km:=h2.fi
   rw[fZ]at km
   have ke:=h2.xM
   have SQ:=(h2.frame 0 o fr ho (by rw[ht.st];rfl)).1
   rw[si]at SQ
   have E9:=(h2.loc (s.ag.length,bQ x) (by rw[← aeD];exact zaz ..)).1
   simp only at km SQ E9
   have c2:ay Tryz.prog 91 [.agg (bQ x), .slice .shared 1 (fr.names.map encStr),vd] s2 (qc (x.bE fr.names m.bq)) s2:=
    ay.anu ha (fun s=>acB (by omega) htx (by omega) (by rw[← NL,zau];omega) s) (by simp[D.ok,je]) (by simp[D.ok,Tag.ok,dv]) (by simp[D.flat,D.IT])
   have hw:(m.bE x).1=x.bE fr.names m.bq:=by unfold Mc.bE;rw[ht.top]
   generalize hr:x.bE fr.names m.bq=q at *
   have ta:(m.bE x).2=if q.2 then m else {m with fin:=4}:=by unfold Mc.bE;rw[ht.top,hr]
   obtain⟨q1,q2⟩:=q
   have q8:Inv p T W {y with vd:=vd} {m with fin:=4} acE ⟨s2.ag.set 0 (fZ p T W {y with vd:=vd} {m with fin:=4}),s2.au⟩:=h2.nJ (m':= {m with fin:=4}) rfl rfl h2.t0 h2.t1 h2.ev
   rw[fZ]at q8
   have ic : ∀ q∈loc,q∈acE:=fun q mq=>by rw[← aeD];exact zan _ mq
   refine aJ.fl ?_
   cases q2
   ·repeat' (first
 |simp only[go_sem,hD,hZ,gC,gD,km,ke,SQ,E9]
 |(with_reducible refine CU (c2) ?_)
 | (with_reducible refine aX hQ ?_;exact bK))
    (refine dI hQ ?_;simp only[bZ,cd,dn,dq,go_sem])
    refine⟨⟨by rw[hw],{y with vd:=vd},rfl, ?_⟩,yB⟩
    rw[ta]
    exact q8.sub ic
   ·repeat' (first
 |simp only[go_sem,hD,hZ,gC,gD,km,ke,SQ,E9]
 |(with_reducible refine CU (c2) ?_)
 | (with_reducible refine aX hQ ?_;exact bK))
    (refine dI hQ ?_;simp only[bZ,cd,dn,dq,go_sem])
    refine⟨⟨by rw[hw],{y with vd:=vd},rfl, ?_⟩,yB⟩
    rw[ta]
    exact h2.sub ic
  | succ n ih=>
   intro k rest vd s2 yB wF hd h2 ha
   cases rest with
   |nil=>cases wF
   | cons c rest=>
    obtain⟨hZ,g2,hD,g4⟩:=drop_cons hd
    have aV:k<4611686018427387904:=by omega
    have zb:c<m.mem.length:=(h2.frame 0 o fr ho (by rw[ht.st];rfl)).2.2 c (zad hZ)
    have hκ:y.κ[c]? = some (y.κ.getD c 0):=by
     rw[zay,zah (by have:=h2.len;simp only at this;omega)];rfl
    have jS:=h2.cell c _ _ hκ (by rw[zah zb])
    have sT:m.mem[c] = m.mem.getD c 0:=by rw[zay,zah zb];rfl
    rw[sT]at jS
    generalize anv:m.mem.getD c 0=v at jS
    have km:=h2.fi
    rw[fZ]at km
    have ke:=h2.xM
    simp only at km
    have hlen:k<1000000:=by have:=ht.vars;omega
    have SR:((fr.vars.take (k+1)).map fun c=>m.mem.getD c 0).map gj=((fr.vars.take k).map fun c=>m.mem.getD c 0).map gj++ [.int .i64 v]:=by
     rw[ME hd m,anv,zag];rfl
    rcases ha with ⟨rfl,e⟩|⟨vo,g,more,rfl,e⟩
    ·have dc:=Hp (z:=1) (bytes:=8) .full [.int .i64 v] s2 (by unfold aT;omega)
     have h3:=h2.K8 (vd:= .dr 1 s2.ag.length 0 1) (s1:=⟨s2.ag++ [[.int .i64 ((0:Nat):Int), .int .i64 v]],s2.au⟩) (fun o r e _=>by rw[zai (cY e)];exact e)
      ⟨[v], .inr ⟨_,0,[],rfl,by simp[gj]⟩⟩ (.inr (.inr rfl)) rfl
     rw[fZ]at h3
     simp only at h3
     refine aJ.fl ?_
     have hA : ∀ e:List (List D),(s2.ag++e)[0]? = s2.ag[0]? :=fun e=>zai ke
     repeat' (first
 |simp only[go_sem,hD,hZ,gC,gD,km,ke,jS,hZ,gE,dc,za9,hA]
 | (with_reducible refine aX hQ ?_;exact bK))
     refine aJ.iS ?_ (ih (k+1) rest _ _ yB (by simpa using wF) g2 h3 ?_)
     ·simp only [go_sem,ak aV,gE]
      repeat' (first|exact Ok.out|with_reducible refine ej ?_ ?_)
     ·rw [SR,e]
      refine .inr ⟨_,0,[],rfl, ?_⟩
      show((s2.ag++ [_]).set 0 _)[s2.ag.length]? = _
      rw[zam (by omega)]
      simp
    ·have kP:(((fr.vars.take k).map fun c=>m.mem.getD c 0).map gj).length=k:=by simp;omega
     have dc:=Dd (t:= .full) (bytes:=8) (r:= [.int .i64 v]) e (len:=k) (z:=1) (by rw[kP,zb1]) (by unfold aT;omega)
     rw[kP]at km h2
     have An:0≠vo:=fun e'=>(h2.yZ (o:=vo) (by simp[D.arr])) e'.symm
     have dF:lf ⟨s2.ag.set vo (.int .i64 ((g+1:Nat):Int)::(((fr.vars.take k).map fun c=>m.mem.getD c 0).map gj++ [.int .i64 v])),s2.au⟩ (.dr 1 vo (g+1) (k+1)) (((fr.vars.take k).map fun c=>m.mem.getD c 0).map gj++ [.int .i64 v]):=
      .inr ⟨vo,g+1,[],by simp;omega,by simp[cY e]⟩
     have h3:=h2.K8 (vd:= .dr 1 vo (g+1) (k+1)) (s1:=⟨s2.ag.set vo (.int .i64 ((g+1:Nat):Int)::(((fr.vars.take k).map fun c=>m.mem.getD c 0).map gj++ [.int .i64 v])),s2.au⟩) (fun o r e hn=>by rw[zam (fun e'=>hn (by rw[← e'];simp[D.arr]))];exact e)
      ⟨(fr.vars.take (k+1)).map fun c=>m.mem.getD c 0,by rw[SR];exact dF⟩ (.inl rfl) rfl
     rw[fZ]at h3
     simp only at h3
     refine aJ.fl ?_
     have hA : ∀ e:List D,(s2.ag.set vo e)[0]? = s2.ag[0]? :=fun e=>zam (Ne.symm An)
     repeat' (first
 |simp only[go_sem,hD,hZ,gC,gD,km,ke,jS,hZ,gE,dc,za9,hA]
 |(with_reducible refine aX hQ ?_;exact bK))
     refine aJ.iS ?_ (ih (k+1) rest _ _ yB (by simpa using wF) g2 h3 ?_)
     ·simp only [go_sem,ak aV,gE]
      repeat' (first|exact Ok.out|with_reducible refine ej ?_ ?_)
     ·rw [SR]
      exact dF.keep fun o mo=>by
       have:o=vo:=by simpa[D.arr]using mo
       subst this
       show(List.set _ 0 _)[o]? = _
       rw[zam An]
 -- the values' slice is emptied
 obtain⟨l,hv⟩:=h1.bq
 have h0:((s.ag++ [bQ x])[0]?).isSome=true:=by rw[hm];rfl
 rcases hv with ⟨e,_⟩|⟨vo,g,more,e,e2⟩
 ·rw [e]at hm
  have xp:vA (.ew 1) none (some (.int .i64 0))=some (.ew 1):=by simp[vA,vt,vu]
  have h3:=h1.K8 (vd:= .ew 1) (s1:=⟨s.ag++ [bQ x],s.au⟩) (fun _ _ e _=>e) ⟨[], .inl ⟨rfl,rfl⟩⟩ (.inl (by rw[e])) rfl
  have JB:=(h3.frame 0 o fr ho (by rw[ht.st];rfl)).1
  rw[fZ]at h3 JB
  rw[si]at JB
  simp only at h3 JB
  repeat' (first
 |simp only[go_sem,hD,hZ,gC,gD,hm,hl,hfo,xp,JB]
 |(with_reducible refine CU (c1) ?_)
 |(with_reducible refine aX hQ ?_;exact bK))
  refine aJ.iS ?_ (loop _ 0 fr.vars _ _ rfl rfl rfl h3 (.inl ⟨rfl,rfl⟩))
  simp only[go_sem,gE]
  repeat' (first|exact Ok.out|with_reducible refine ej ?_ ?_)
 ·rw [zau]at e
  rw[e]at hm
  have An:0≠vo:=fun e'=>(h1.yZ (o:=vo) (by rw[e];simp[D.arr])) e'.symm
  have xp:vA (.dr 1 vo g l.length) none (some (.int .i64 0))=some (.dr 1 vo g 0):=by simp[vA,vt,vu]
  have h3:=h1.K8 (vd:= .dr 1 vo g 0) (s1:=⟨s.ag++ [bQ x],s.au⟩) (fun _ _ e _=>e) ⟨[], .inr ⟨vo,g,l.map gj++more,rfl,e2⟩⟩ (.inl (by rw[e];rfl)) rfl
  have JB:=(h3.frame 0 o fr ho (by rw[ht.st];rfl)).1
  rw[fZ]at h3 JB
  rw[si]at JB
  simp only at h3 JB
  repeat' (first
 |simp only[go_sem,hD,hZ,gC,gD,hm,hl,hfo,xp,JB]
 |(with_reducible refine CU (c1) ?_)
 | (with_reducible refine aX hQ ?_;exact bK))
  refine aJ.iS ?_ (loop _ 0 fr.vars _ _ rfl rfl rfl h3 (.inr ⟨vo,g,l.map gj++more,rfl, ?_⟩))
  ·simp only [go_sem,gE]
   repeat' (first|exact Ok.out|with_reducible refine ej ?_ ?_)
  ·show(List.set _ 0 _)[vo]? = _
   rw[zam An];exact e2
end
end Go.Abs
namespace Go.Abs
set_option maxRecDepth 8000
open Go.Proofs
section
variable {p:Pg} {T W:List Int} {y:Lay} {m:Mc} {loc:List (Nat×List D)} {s:St}
theorem AJ:Wk (.slice .full 0 []) (Qn [] 0):=Wk.nil _ _ _
theorem zc (h:Inv p T W y m loc s) (hW:W.length<1000000) (ht:m.trace.length<2000000) (id:Int) :
 bk Tryz.prog 64 [.ptr 0 0, .int .i64 id, .slice .full 0 []] s (Rl p T W (.tuple []) (m.event W id []) (fun y'=>∃ ev,y' = {y with ev:=ev}) loc):=
 bk.mT (.cons (Wk.refl _) (.cons (Wk.refl _) (.cons AJ .nil))) (SO h hW ht id [] (h.tlt 0 (.inl (by decide))) (fun h=>absurd rfl h) fun _=>rfl)
theorem HY (h:Inv p T W y m loc s) (hW:W.length<1000000) (ht:m.trace.length<2000000) (id n:Int) :
 bk Tryz.prog 64 [.ptr 0 0, .int .i64 id, .slice (.tok s.au.length) 1 [[.int .i64 n]]] ⟨s.ag,s.au++ [some 1]⟩ (Rl p T W (.tuple []) (m.event W id [n]) (fun y'=>∃ ev,y' = {y with ev:=ev}) loc):=
 SO (h.au [some 1]) hW ht id [n] (by simp) (fun _=>⟨h.tlt 1 (.inl (by decide)),by simp,fun m=>zbY _ (h.ev.lt _ m)⟩) fun e=>by cases e
@[go_sem] def Y8:acg 64 uq.body:=⟨by conv=>lhs;cbv⟩
@[go_sem] def Y9:acg 64 iN.body:=⟨by conv=>lhs;cbv⟩
theorem agF (h:Inv p T W y m loc s) {fr:Fr} {r:List Fr} (ht:na m fr r) {v:Sm} (hv:v.mQ) (hW:W.length<1000000) (Qr:m.trace.length<2000000) :
 bk Tryz.prog 34 [.ptr 0 0, .agg (aO v)] s (Rl p T W (.int .i64 (m.fP W v).1) (m.fP W v).2 (fun _=>True) loc):=by
 have h1:=h.new (aO v)
 have hx:(s.ag++ [aO v])[s.ag.length]? = some (aO v):=by simp
 have ic : ∀ q∈loc,q∈(s.ag.length,aO v)::loc:=fun q mq=>zan _ mq
 refine bk.goE uq.h Y8 rfl fun B Q hB hQ=>?_
 have⟨hD,hZ,gC,gD⟩:=bc
 rcases zaa v.has with b|b
 ·have c1:=HX h1 ht (x:=v.x) (by have:=hv.2.2;omega) hv.1
  refine bT (eK hx b) ?_
  refine CR c1 fun d s2 h2=>?_
  obtain⟨⟨rfl,y2,Ao,h2⟩,_⟩:=h2
  have E9:=(h2.loc (s.ag.length,aO v) (zaz ..)).1
  have hw:=iu m v.x
  simp only at E9
  rcases zaa (m.bE v.x).1.2 with b2|b2
  ·have c2:=HY h2 hW (by rw [hw.2.2.2.2.2];exact Qr) v.id (m.bE v.x).1.1
   refine bT (eK E9 b2) ?_
   refine CR c2 fun d s3 h3=>?_
   obtain⟨rfl,y3,_,h3⟩:=h3
   refine bT trivial ?_
   (refine dI hQ ?_;simp only[bZ,cd,dn,dq,go_sem])
   refine⟨by simp only[Mc.fP,b,if_true],y3,trivial, ?_⟩
   simp only[Mc.fP,b,b2,if_true]
   exact h3.sub ic
  ·refine bT (eK E9 b2) ?_
   (refine dI hQ ?_;simp only[bZ,cd,dn,dq,go_sem])
   refine⟨by simp only[Mc.fP,b,if_true],y2,trivial, ?_⟩
   simp only[Mc.fP,b,b2,if_true,zab,if_false]
   exact h2.sub ic
 ·have c1:=zc h1 hW Qr v.id
  refine bT (eK hx b) ?_
  refine CR c1 fun d s2 h2=>?_
  obtain⟨rfl,y2,_,h2⟩:=h2
  refine bT trivial ?_
  (refine dI hQ ?_;simp only[bZ,cd,dn,dq,go_sem])
  refine⟨by simp only[Mc.fP,b,zab,if_false],y2,trivial, ?_⟩
  simp only[Mc.fP,b,zab,if_false]
  exact h2.sub ic
end
end Go.Abs
namespace Go.Abs
set_option maxRecDepth 8000
open Go.Proofs
section
variable {p:Pg} {T W:List Int} {y:Lay} {m:Mc} {loc:List (Nat×List D)} {s:St}
theorem iF.setAt : ∀ {l:List (List D)} {i:Nat} {r r':List D},l[i]? = some r→jM r r'→iF l (l.set i r')
 |a::l,0,r,r',h,w=>by simp at h;subst h;exact .cons w (iF.refl l)
 |a::l,i+1,r,r',h,w=> .cons (jM.refl a) (iF.setAt (l:=l) (by simpa using h) w)
def Lay.push (y:Lay) (n K:Nat) (sd:D):Lay:= {y with κ:=y.κ++(List.range K).map (n+2 + ·),φ:=(n+1)::y.φ,sd:=sd}
theorem acF {κ:List Nat} {n K j:Nat} (hj:j<K):(κ++(List.range K).map (n+2 + ·)).getD (κ.length+j) 0=n+2+j:=by
 rw[zay,zao (by omega),show κ.length+j - κ.length=j by omega]
 simp[hj]
theorem HZ {κ e:List Nat} {c:Nat} (hc:c<κ.length):(κ++e).getD c 0=κ.getD c 0:=by
 rw[zay,zay,zai hc]
theorem Wa {κ:List Nat} {n:Nat} (h:n≤κ.length):(List.range n).map (fun c=>κ.getD c 0)=κ.take n:=by
 apply zbZ
 intro i
 simp only[zap]
 by_cases hi:i<n
 ·rw [zb2 hi,zbn hi,zah (show i<κ.length by omega)]
  simp[zay,zah (show i<κ.length by omega)]
 ·rw[zbF (by simp;omega),zbF (by simp;omega)];rfl
theorem Inv.push (h:Inv p T W y m loc s) {K:Nat} {sd:D} {fr:Fr} {s':St} (hg:p.globals.length≤m.mem.length) (Yn : ∀ c∈fr.vars,c<m.mem.length+K)
 (k : ∀ (o:Nat) (r:List D),s.ag[o]? = some r→o≠0→o∉y.sd.arr→s'.ag[o]? = some r)
 (k0:s'.ag[0]? = some (fZ p T W (y.push s.ag.length K sd) m)) (kc : ∀ j,j<K→s'.ag[s.ag.length+2+j]? = some [.int .i64 0])
 (kf:s'.ag[s.ag.length+1]? = some (si (y.push s.ag.length K sd).κ fr)) (ks:lf s' sd ((y.push s.ag.length K sd).φ.reverse.map Bc)) (rh:sd.arr=y.sd.arr∨sd.arr = [s.ag.length+2+K])
 (kt : ∀ t,t<2∨t∈y.ev→s'.au[t]? = s.au[t]?) (kl:s.au.length≤s'.au.length) :
 Inv p T W (y.push s.ag.length K sd) {m with st:=fr::m.st,mem:=m.mem++List.replicate K 0} loc s':=by
 have BJ:=h.own
 rw[Lay.own,za4,za8,za8]at BJ
 obtain⟨n0,nκ,⟨ns,nv,nsv⟩,Qp⟩:=BJ
 have lt:=h.tu
 have ltκ : ∀ c∈y.κ,c<s.ag.length:=fun c mc=>lt c (by simp[Lay.own,mc])
 have lts : ∀ c∈y.sd.arr,c<s.ag.length:=fun c mc=>lt c (by simp[Lay.own,mc])
 have ltv : ∀ c∈y.vd.arr,c<s.ag.length:=fun c mc=>lt c (by simp[Lay.own,mc])
 have xM:=h.xM
 have Qq : ∀ o,o∈(y.push s.ag.length K sd).own→o∈y.own∨(s.ag.length+2≤o∧o≤s.ag.length+2+K):=fun o mo=>by
  simp only[Lay.own,Lay.push,zaq,zar,zaG,zbQ]at mo ⊢
  rcases mo with rfl|(mo|⟨j,hj,rfl⟩)|mo|mo
  ·exact .inl (.inl rfl)
  ·exact .inl (.inr (.inl mo))
  ·exact .inr ⟨by omega,by omega⟩
  ·rcases rh with e | e
   ·rw[e]at mo;exact .inl (.inr (.inr (.inl mo)))
   ·rw[e]at mo;have:=zaJ.1 mo;exact .inr ⟨by omega,by omega⟩
  ·exact .inl (.inr (.inr (.inr mo)))
 have g : ∀ {o:Nat} {r:List D},s.ag[o]? = some r→o∉y.own→s'.ag[o]? = some r∧o∉(y.push s.ag.length K sd).own:=fun {o r} e hn=>by
  refine⟨k o r e (fun e0=>hn (by rw[e0];simp[Lay.own])) (fun ms=>hn (by simp[Lay.own,ms])),fun mo=>?_⟩
  rcases Qq o mo with mo|mo
  ·exact hn mo
  ·have:=cY e;omega
 have hlen:=h.len
 refine⟨k0,by rw[kt 0 (.inl (by decide))];exact h.t0,by rw[kt 1 (.inl (by decide))];exact h.t1,h.ev.keep (fun t m _=>kt t (.inr m)) kl,by simp[Lay.push,hlen],fun i c v e1 e2=>?_,by simp[Lay.push,h.vT],fun i o Ap e1 e2=>?_,ks, ?_, ?_,fun q mq=>g (h.loc q mq).1 (h.loc q mq).2⟩
 ·simp only [Lay.push]at e1
  dsimp only at e2
  rcases zaE i y.κ.length with hi|hi
  ·rw [zai hi]at e1
   rw[zai (by omega)]at e2
   have hc:=zad e1
   exact k c _ (h.cell i c v e1 e2) (h.yZ (by simp[hc])) (fun ms=>Qp c hc c (zaK _ ms) rfl)
  ·rw [zao hi]at e1
   rw[zao (by omega)]at e2
   have hD:=(zac.1 e1).1
   simp only[zau,List.length_range]at hD
   rw[zap,zb2 hD]at e1
   rw[zbO (by omega)]at e2
   simp only[za9,Option.some.injEq]at e1 e2
   subst e1 e2
   exact kc _ hD
 ·cases i with
  |zero=>
   simp only[Lay.push,zbh,Option.some.injEq]at e1 e2
   subst e1 e2
   refine⟨kf,fun mo=>?_,fun c mc=>by simp only[zal,List.length_replicate];exact Yn c mc⟩
   rcases Qq _ mo with mo|mo
   ·have:=lt _ mo;omega
   ·omega
  |succ i=>
   simp only[Lay.push,za5]at e1 e2
   obtain⟨f1,f2,f3⟩:=h.frame i o Ap e1 e2
   obtain⟨f4,f5⟩:=g f1 f2
   exact⟨by simp only[Lay.push];rw[MB (by rw[hlen];exact f3)];exact f4,f5,fun c mc=>by have:=f3 c mc;simp only[zal];omega⟩
 ·obtain⟨l,hl⟩:=h.bq
  refine⟨l,hl.keep fun o mo=>?_⟩
  rw[zah (ltv o mo)]
  exact k o _ (zah _) (h.yZ (by simp[mo])) (fun ms=>nsv o ms o mo rfl)
 ·have O3:((List.range K).map (s.ag.length+2 + ·)).Nodup:=by
   rw[zby,List.pairwise_map]
   exact List.Pairwise.imp (fun h=>by omega) (zby.1 List.nodup_range)
  have J8 : ∀ o∈(List.range K).map (s.ag.length+2 + ·),s.ag.length+2≤o∧o<s.ag.length+2+K:=fun o mo=>by
   obtain⟨j,hj,rfl⟩:=zaG.1 mo
   have:=zbQ.1 hj;exact⟨by omega,by omega⟩
  have Wb : ∀ o∈sd.arr,(o∈y.sd.arr)∨o=s.ag.length+2+K:=fun o mo=>by
   rcases rh with e|e
   ·rw[e]at mo;exact .inl mo
   ·rw[e]at mo;exact .inr (zaJ.1 mo)
  simp only[Lay.own,Lay.push]
  rw[za4,za8,za8,za8]
  refine⟨fun mo=>?_,⟨nκ,O3,fun a ma b mb e=>?_⟩,⟨?_,nv,fun a ma b mb e=>?_⟩,fun a ma b mb e=>?_⟩
  ·simp only [zar]at mo
   rcases mo with (mo|mo)|mo|mo
   ·exact n0 (by simp[mo])
   ·have:=J8 _ mo;omega
   ·rcases Wb _ mo with mo | mo
    ·exact n0 (by simp[mo])
    ·omega
   ·exact n0 (by simp[mo])
  ·have:=ltκ a ma;have:=J8 b mb;omega
  ·rcases rh with e | e <;> rw [e]
   ·exact ns
   ·simp
  ·rcases Wb a ma with ma | ma
   ·exact nsv a ma b mb e
   ·have:=ltv b mb;omega
  ·rcases zar.1 ma with ma | ma
   ·rcases zar.1 mb with mb | mb
    ·rcases Wb b mb with mb | mb
     ·exact Qp a ma b (zaK _ mb) e
     ·have:=ltκ a ma;omega
    ·exact Qp a ma b (za7 _ mb) e
   ·have:=J8 a ma
    rcases zar.1 mb with mb|mb
    ·rcases Wb b mb with mb | mb
     ·have:=lts b mb;omega
     ·omega
    ·have:=ltv b mb;omega
theorem agG {gl ps:List (List D)} {bytes:Nat} (hb:(gl.length+ps.length)*(bytes+1)≤aT) (ts:List (Option Nat)) : ∃ (g1 g2:Tag) (z1 z2:Nat) (t1 t2:List (Option Nat)),(∀ os,fS 1 bytes (.slice .full 0 []) (.slice .shared 1 gl) ⟨os,ts⟩=some (.slice g1 z1 gl,⟨os,t1⟩))∧
 (∀ os,fS 1 bytes (.slice g1 z1 gl) (.slice .shared 1 ps) ⟨os,t1⟩=some (.slice g2 z2 (gl++ps),⟨os,t2⟩))∧
 ((g2 = .full∧t2=ts∧gl++ps = [])∨(g2 = .tok ts.length∧z2=1∧t2=ts++ [some (gl++ps).length])):=by
 have h1:gl.length*(bytes+1)≤aT:=zaZ (zaR _ (Nat.le_add_right _ _)) hb
 have h2:ps.length*(bytes+1)≤aT:=zaZ (zaR _ (Nat.le_add_left _ _)) hb
 cases gl with
 |nil=>
  cases ps with
  |nil=>exact⟨.full, .full,0,0,ts,ts,fun os=>ub os ts,fun os=>ub os ts, .inl ⟨rfl,rfl,rfl⟩⟩
  |cons a ps=>exact⟨.full, .tok ts.length,0,1,ts,_,fun os=>ub os ts,fun os=>tZ (by simp) h2 os ts, .inr ⟨rfl,rfl,rfl⟩⟩
 |cons a gl=>
  refine⟨.tok ts.length, .tok ts.length,1,1,ts++ [some (a::gl).length],ts++ [some (a::gl++ps).length],fun os=>tZ (by simp) h1 os ts,fun os=>?_, .inr ⟨rfl,rfl,rfl⟩⟩
  rw[kZ (size:=1) hb (by simp)]
  simp;omega
theorem SS (h:Inv p T W y m loc s) (hp:p.gb) (hb:p.may=true) {i:Nat} {f:Pc} (hf:p.procs[i]? = some f) (anx:p.find f.name=some f) (gG:m.st.length<1000000) {l:List Nat} (hl : ∀ c∈l,c<m.mem.length) (sQ:l.length<1000000)
 (hg:p.globals.length≤m.mem.length) (call:Int) :
 ∃ y' s',ay Tryz.prog 31 [.ptr 0 0, .int .i64 (i:Int), .slice .shared 1 (l.map fun c=>gE (y.κ.getD c 0)), .int .i64 call] s (.int .i64 (m.open p (i:Int) l call).1) s'∧Inv p T W y' (m.open p (i:Int) l call).2 loc s':=by
 have hm:=h.fi
 rw[fZ]at hm
 have xx:=h.xM
 obtain⟨nX,oE,mB⟩:=hp.procs
 have sP:=hp.small (zad hf)
 have cV:=fun s=>akb hp hb anx s
 have cF:=fun s=>agE hb hf s
 have hi:i<p.procs.length:=(zac.1 hf).1
 obtain⟨g1,g2,z1,z2,t1,t2,a1,a2,a3⟩:=agG (gl:=(y.κ.take p.globals.length).map gE) (ps:=l.map fun c=>gE (y.κ.getD c 0)) (bytes:=8) (by simp only[zau,zbR];unfold aT;omega) s.au
 have hA : ∀ e:List (List D),(s.ag++e)[0]? = s.ag[0]? :=fun e=>zai xx
 have n0 : ∀ e1 e2:List (List D),(s.ag++e1++e2)[0]? = s.ag[0]? :=fun e1 e2=>by rw[zaB];exact hA _
 have n1 : ∀ a b:List D,(s.ag++ [a]++ [b])[s.ag.length+1]? = some b:=fun a b=>by simp
 have n2 : ∀ a b:List D,(s.ag++ [a]++ [b])[s.ag.length]? = some a:=fun a b=>by simp
 have n3 : ∀ a b c:List D,(s.ag++ [a]++ [b]).set (s.ag.length+1) c=s.ag++ [a]++ [c]:=fun a b c=>by simp[zaB,List.set_append_right]
 have n4 : ∀ a:List D,(s.ag++ [a])[s.ag.length]? = some a:=fun a=>by simp
 have n5 : ∀ a b:List D,(s.ag++ [a]).set s.ag.length b=s.ag++ [b]:=fun a b=>by simp
 have Za:bP f = [.str f.name, .slice .shared 2 (f.params.map fc), .slice .shared 1 (f.vars.map encStr), .slice .shared 13 (f.body.map aO), .slice .shared 1 (f.fin.map encStr)]:=rfl
 generalize hn:s.ag.length=n at *
 have R6:(m.open p (i:Int) l call).1=eR f.body (-1)∧(m.open p (i:Int) l call).2 = {m with st:=⟨(i:Int),p.globals++f.own,List.range p.globals.length++l++(List.range f.vars.length).map (m.mem.length + ·),call⟩::m.st,mem:=m.mem++List.replicate f.vars.length 0}:=by
  unfold Mc.open
  rw[zaW,hf]
  exact⟨rfl,rfl⟩
 rw[R6.1,R6.2]
 generalize lU:(y.κ.take p.globals.length).map gE++l.map (fun c=>gE (y.κ.getD c 0))=lW at *
 have hgr:lW.length<2000000:=by rw[← lU];simp only[zal,zau,zbR];omega
 have Sx:=sP.vars
 -- the states of the rounds
 let fr:Nat→List D:=fun k=> [.int .i64 (i:Int), .slice .shared 1 ((p.globals++f.own).map encStr), .slice (.tok s.au.length) 1 (lW++(List.range k).map (fun j=>gE (n+2+j))), .int .i64 call]
 obtain⟨O,hO⟩ : ∃ O:Nat→List (List D),∀ k,O k=s.ag++ [bP f]++ [fr k]++List.replicate k [.int .i64 0]:=⟨_,fun _=>rfl⟩
 have oL : ∀ k,(O k).length=n+2+k:=fun k=>by rw[hO];simp[hn];omega
 have acG : ∀ k o,o<n→(O k)[o]? = s.ag[o]? :=fun k o ho=>by rw[hO,zaB,zaB,zai (by omega)]
 have oF : ∀ k,(O k)[n+1]? = some (fr k):=fun k=>by rw[hO,zai (by simp[hn])];simp[hn]
 have oC : ∀ k j,j<k→(O k)[n+2+j]? = some [.int .i64 0]:=fun k j hj=>by
  rw[hO,zao (by simp only[zal,zaH,hn];omega)]
  simp only[zal,zaH,hn]
  rw[show n+2+j - (n+1+1)=j by omega,zbO hj]
 have oF' : ∀ k e,(O k++e)[n+1]? = some (fr k):=fun k e=>by rw[zai (by rw[oL];omega)];exact oF k
 have o0 : ∀ k,(O k)[0]? = s.ag[0]? :=fun k=>acG k 0 xx
 have o0' : ∀ k e,(O k++e)[0]? = s.ag[0]? :=fun k e=>by rw[zai (by rw[oL];omega)];exact o0 k
 have oS : ∀ k,(O k++ [[D.int .i64 0]]).set (n+1) (fr (k+1))=O (k+1):=fun k=>by
  rw[hO,hO,List.replicate_succ']
  simp only[zaB]
  rw[List.set_append_right _ _ (by omega),hn,show n+1 - n=1 by omega]
  rfl
 have De:(List.range p.globals.length++l++(List.range f.vars.length).map (m.mem.length + ·)).map (fun c=>gE ((y.push n f.vars.length .fJ).κ.getD c 0))=lW++(List.range f.vars.length).map (fun j=>gE (n+2+j)):=by
  simp only[zag,List.map_map,Lay.push, ← lU]
  congr 1
  ·congr 1
   ·rw [← Wa (by rw [h.len];exact hg),List.map_map]
    exact zbB fun c mc=>by simp only[Function.comp];rw[HZ (by rw[h.len];have:=zbQ.1 mc;omega)]
   ·exact zbB fun c mc=>by rw[HZ (by rw[h.len];exact hl c mc)]
  ·exact zbB fun j mj=>by simp only[Function.comp];rw[← h.len,acF (zbQ.1 mj)]
 have aqY:jM (fr f.vars.length) (si (y.push n f.vars.length .fJ).κ ⟨(i:Int),p.globals++f.own,List.range p.globals.length++l++(List.range f.vars.length).map (m.mem.length + ·),call⟩):=by
  unfold si
  dsimp only
  rw[De]
  exact .cons (Wk.refl _) (.cons (Wk.refl _) (.cons (Wk.shared _ _ _) (.cons (Wk.refl _) .nil)))
 -- the stack
 generalize hK:f.vars.length=K at *
 obtain⟨sd,O',e1,e3,e4,e5,e6⟩ : ∃ (sd:D) (O':List (List D)),(∀ tm:Tm,tm.get 70=y.sd→tm.get 72 = .slice .full 1 [[.ptr (n+1) 0]]→bF (.app 1 8 (.s 70) (.s 72)) tm ⟨O K,s.au++ [some (lW.length+K)]⟩=some (sd,⟨O',s.au++ [some (lW.length+K)]⟩))∧
  (∀ (o:Nat) (r:List D),(O K)[o]? = some r→o∉y.sd.arr→O'[o]? = some r)∧lf ⟨O',s.au⟩ sd (((n+1)::y.φ).reverse.map Bc)∧(sd.arr=y.sd.arr∨sd.arr = [n+2+K])∧sd.row=some [sd]:=by
  rcases h.stack with ⟨e,e2⟩|⟨so,g,more,e,e2⟩
  ·have hφ:y.φ = []:=by simpa using e2
   refine⟨.dr 1 (n+2+K) 0 1,O K++ [[.int .i64 ((0:Nat):Int), .ptr (n+1) 0]],fun tm h1 h2=>?_,fun o r e _=>by rw[zai (cY (s:=⟨O K,[]⟩) e)];exact e, .inr ⟨n+2+K,0,[],by simp[hφ], ?_⟩, .inr rfl,rfl⟩
   ·simp only [bF,X.ev,h1,h2,e]
    rw[Hp _ _ _ (by unfold aT;omega)]
    simp only[oL]
   ·rw [hφ]
    show(O K++ [_])[n+2+K]? = _
    rw[← oL K]
    simp[Bc]
  ·have aqZ:so<n:=by have:=cY e2;omega
   have hlen:(y.φ.reverse.map Bc).length=m.st.length:=by simp[h.vT]
   have e2':(O K)[so]? = some (.int .i64 ((g:Nat):Int)::(y.φ.reverse.map Bc++more)):=by rw[acG K so aqZ];exact e2
   rw[hlen]at e
   refine⟨.dr 1 so (g+1) (m.st.length+1),(O K).set so (.int .i64 ((g+1:Nat):Int)::(y.φ.reverse.map Bc++ [.ptr (n+1) 0])),fun tm h1 h2=>?_,fun o r e hn=>?_, .inr ⟨so,g+1,[],by simp[h.vT], ?_⟩, .inl (by rw[e];rfl),rfl⟩
   ·simp only [bF,X.ev,h1,h2,e]
    rw[Dd (s:=⟨O K,_⟩) e2' (by rw[hlen,zb1]) (by unfold aT;omega)]
   ·rw[zam (fun e'=>hn (by rw[‹y.sd=_›, ← e'];simp[D.arr]))];exact e
   ·simp[oL,show so<n+2+K by omega,Bc]
 have o'0:O'[0]? = s.ag[0]? :=by
  rw[hm]
  exact e3 0 _ (by rw[o0];exact hm) (fun mo=>(h.yZ (by simp[mo])) rfl)
 have o'l:0<O'.length:=cY (s:=⟨O',[]⟩) (o'0.trans hm)
 have o'f:O'[n+1]? = some (fr K):=e3 _ _ (oF K) (fun mo=>by have:=h.tu (n+1) (by simp[Lay.own,mo]);omega)
 let row:=fZ p T W (y.push n K sd) {m with st:=⟨(i:Int),p.globals++f.own,List.range p.globals.length++l++(List.range K).map (m.mem.length + ·),call⟩::m.st,mem:=m.mem++List.replicate K 0}
 refine⟨y.push n K sd,⟨(O'.set 0 row).set (n+1) (si (y.push n K sd).κ ⟨(i:Int),p.globals++f.own,List.range p.globals.length++l++(List.range K).map (m.mem.length + ·),call⟩),s.au++ [some (lW.length+K)]⟩, ?_, ?_⟩
 case refine_2=>
  subst hn
  have gO : ∀ (o:Nat) (r:List D),O'[o]? = some r→o≠0→o≠s.ag.length+1→((O'.set 0 row).set (s.ag.length+1) (si (y.push s.ag.length K sd).κ ⟨(i:Int),p.globals++f.own,List.range p.globals.length++l++(List.range K).map (m.mem.length + ·),call⟩))[o]? = some r:=fun o r e h1 h2=>by
   rw[zam (Ne.symm h2),zam (Ne.symm h1)];exact e
  refine h.push (K:=K) (sd:=sd) hg (fun c mc=>?_) (fun o r e h1 h2=>?_) ?_ (fun j hj=>?_) ?_ (e4.keep fun o mo=>?_) e5 ?_ ?_
  ·simp only [zar,zbQ,zaG]at mc
   rcases mc with (mc|mc)|⟨x,mc,rfl⟩
   ·omega
   ·have:=hl c mc;omega
   ·omega
  ·have:=cY e
   exact gO o r (e3 o r (by rw[acG K o this];exact e) h2) h1 (by omega)
  ·rw [zam (by omega)]
   simp[o'l,row]
  ·refine gO _ _ (e3 _ _ (oC K j hj) fun mo=> ?_) (by omega) (by omega)
   have:=h.tu _ (show s.ag.length+2+j∈y.own by simp[Lay.own,mo]);omega
  ·have:=cY (s:=⟨O',[]⟩) o'f
   rw[zaO (by rw[zbr];exact this)]
  ·have:o≠0∧o≠s.ag.length+1:=by
    rcases e5 with e|e
    ·rw [e]at mo
     have h1:=h.tu o (by simp[Lay.own,mo])
     exact⟨h.yZ (by simp[mo]),by omega⟩
    ·rw [e]at mo
     have:=zaJ.1 mo
     exact⟨by omega,by omega⟩
   show(List.set _ _ _)[o]? = _
   rw[zam (Ne.symm this.2),zam (Ne.symm this.1)]
  ·exact fun t ht=>zai (h.tlt t ht)
  ·simp
 refine bk.up ?_
 refine bk.jO qx.h rfl fun B Q hB hQ=>?_
 have⟨hD,hZ,gC,gD⟩:=bc
 have loop : ∀ d k:Nat,k+d=K→aJ Tryz.prog B 82 Q0I (fV 0 (kp (iW Tryz.prog B 82 Q0J Q) Q))
  [(0, .ptr 0 0),(1, .int .i64 (i:Int)),(10, .ptr (n+1) 0),(52, .int .i64 (K:Int)),(53, .int .i64 (k:Int))] ⟨O k,s.au++ [some (lW.length+k)]⟩:=by
  intro d
  induction d with
  |zero=>
   intro k hk
   have uf:k=K:=by omega
   subst uf
   have hD:decide ((k:Int)<(k:Int))=false:=by simp
   have km:=o'0.trans hm
   have SQ:=o'f
   have xy : ∀ r,(O'.set 0 r)[0]? = some r:=fun r=>zaO o'l
   refine aJ.fl ?_
   repeat' (first
 |simp only[go_sem,hD,hZ,gC,gD,hm,o0,e1,e6,km,o'l,xy]
 |(with_reducible refine CU (cF _) ?_)
 | (with_reducible refine aX hQ ?_;exact bK))
   (refine dI hQ ?_;simp only[bZ,cd,dn,dq,go_sem])
   have dL:row = [.dW (gn p) 0, .slice .shared 1 ((y.κ.take p.globals.length).map gE), .slice .shared 1 (T.map bl), .slice .shared 1 (W.map bl),sd,y.vd,
    .int .i64 m.fin, .int .i64 m.steps, .int .i64 m.reads, .slice (.tok 0) 1 (m.out.map bl), .slice (.tok 1) 2 (List.zipWith rE m.trace y.ev)]:=by
    simp only[row,fZ,Lay.push]
    rw[zbN (by rw[h.len];exact hg)]
   refine⟨_,⟨(O'.set 0 row).set (n+1) _,_⟩,Wk.refl _, ?_,rfl,rfl,rfl⟩
   rw[dL]
   exact iF.setAt (by rw[zam (by omega)];exact SQ) aqY
  | succ d ih=>
   intro k hk
   have hD:decide ((k:Int)<(K:Int))=true:=by simp;omega
   have aV:k<4611686018427387904:=by omega
   have hfk:=oF k
   have akf:=oF' k [[.int .i64 0]]
   have dc:fS 1 8 (.slice (.tok s.au.length) 1 (lW++(List.range k).map (fun j=>gE (n+2+j)))) (.slice .full 1 [[.ptr (n+2+k) 0]]) ⟨O k++ [[.int .i64 0]],s.au++ [some (lW.length+k)]⟩ =
    some (.slice (.tok s.au.length) 1 (lW++(List.range (k+1)).map (fun j=>gE (n+2+j))),⟨O k++ [[.int .i64 0]],s.au++ [some (lW.length+(k+1))]⟩):=by
    rw[kZ (size:=1) (by simp only[zal,zau,List.length_range,zaH];unfold aT;omega) (by simp)]
    simp[zb4,gE,Nat.add_assoc]
   have oSk:=oS k
   simp only[fr,zag,zb4,zaf,zaj]at hfk akf oSk
   refine aJ.fl ?_
   refine bT (um hfk akf oL dc oSk) ?_
   refine aJ.iS ?_ (ih (k+1) (by omega))
   simp only[go_sem,ak aV]
   repeat' (first|exact Ok.out|with_reducible refine ej ?_ ?_)
 have l0:=loop K 0 (by omega)
 have hO0:O 0=s.ag++ [bP f]++ [fr 0]:=by rw[hO];simp
 rw[hO0]at l0
 repeat' (first
 |simp only[go_sem,hD,hZ,gC,gD,hm,hA,n0,n1,n2,n3,n4,n5,hf,a1,a2,rX, ← Px,hn]
 |(with_reducible refine CU (cV _) ?_)
 |(with_reducible refine aX hQ ?_;exact bK))
 simp only[fr,List.range_zero,zaj,zaF,zag]at l0
 rcases a3 with ⟨rfl,rfl,rfl⟩|⟨rfl,rfl,rfl⟩
 ·refine aJ.tR (n+1) 2 1 (n1 _ _) rfl ?_
  simp only[n3,zbt,zbT]
  refine aJ.iS ?_ l0
  simp only[go_sem,hK]
  repeat' (first|exact Ok.out|with_reducible refine ej ?_ ?_)
 ·refine aJ.iS ?_ l0
  simp only[go_sem,hK]
  repeat' (first|exact Ok.out|with_reducible refine ej ?_ ?_)
end
end Go.Abs
namespace Go.Abs
set_option maxRecDepth 8000
open Go.Proofs
section
variable {p:Pg} {T W:List Int} {y:Lay} {m:Mc} {loc:List (Nat×List D)} {s:St}
def tw (fr:Fr) (name:aD) (c:Nat):Prop:=∃ j:Nat,gi name 0 fr.names=(j:Int)∧fr.vars[j]? = some c
theorem tw.cell {fr:Fr} {name:aD} {c:Nat} (h:tw fr name c) (ht:m.top=fr):m.cell name=c:=by
 obtain⟨j,h1,h2⟩:=h
 unfold Mc.cell
 rw[ht,h1,zaW,zay,h2];rfl
theorem Inv.pop (h:Inv p T W y m loc s) {fr:Fr} {r:List Fr} (gG:m.st=fr::r) {so g:Nat} (rh:y.sd = .dr 1 so g (r.length+1)) :
 Inv p T W {y with φ:=y.φ.tail,sd:= .dr 1 so g r.length} {m with st:=r} loc ⟨s.ag.set 0 (fZ p T W {y with φ:=y.φ.tail,sd:= .dr 1 so g r.length} {m with st:=r}),s.au⟩:=by
 have jb:(D.dr 1 so g r.length).arr=y.sd.arr:=by rw[rh];rfl
 have Wc:Lay.own {y with φ:=y.φ.tail,sd:= .dr 1 so g r.length} = y.own:=by simp only[Lay.own,jb]
 have fM:=h.vT
 rw[gG]at fM
 have ne : ∀ {q:Nat} {r':List D},s.ag[q]? = some r'→q≠0→(s.ag.set 0 (fZ p T W {y with φ:=y.φ.tail,sd:= .dr 1 so g r.length} {m with st:=r}))[q]? = some r':=fun e hn=>by
  rw[zam (Ne.symm hn)];exact e
 have nf : ∀ {q:Nat},q∉y.own→q≠0:=fun hq e=>hq (by rw[e];simp[Lay.own])
 obtain⟨l,hl⟩:=h.bq
 refine⟨by simp[h.xM],h.t0,h.t1,h.ev,h.len,fun i c v e1 e2=>ne (h.cell i c v e1 e2) (h.yZ (by simp[zad e1])),by simp[fM],fun i o Ap e1 e2=>?_, ?_,⟨l,hl.keep fun o mo=>?_⟩,by rw[Wc];exact h.own,fun q mq=>?_⟩
 ·obtain⟨f1,f2,f3⟩:=h.frame (i+1) o Ap (by simpa [List.getElem?_tail]using e1) (by rw [gG];simpa using e2)
  exact⟨ne f1 (nf f2),by rw[Wc];exact f2,f3⟩
 ·cases hφ:y.φ with
  |nil=>rw[hφ]at fM;simp at fM
  | cons o φ=>
   rw[hφ]at fM
   rcases h.stack with ⟨e,_⟩|⟨so',g',more,e,e2⟩
   ·rw[e]at rh;cases rh
   ·have e':=e
    rw[rh,D.dr.injEq]at e'
    obtain⟨_,rfl,rfl,_⟩:=e'
    refine .inr ⟨so,g,[.ptr o 0]++more,by simp at fM ⊢;omega,ne ?_ (h.yZ (by rw[rh];simp[D.arr]))⟩
    rw[e2,hφ]
    simp[Bc]
 ·show(s.ag.set 0 _)[o]? = _
  rw[zam (Ne.symm (h.yZ (by simp[mo])))]
 ·obtain⟨f1,f2⟩:=h.loc q mq
  exact⟨ne f1 (nf f2),by rw[Wc];exact f2⟩
theorem Qs {L:List Im} {c:Nat} {it:Im} (h:L[c]? = some it) {a:Int} (ha:a=(c:Int)+1):fp L a=it:=by
 unfold fp
 rw[ha,show((c:Int)+1 - 1).toNat=c by omega,zay,h];rfl
theorem agK (h:Inv p T W y m loc s) {fr:Fr} {r:List Fr} (ht:na m fr r) (hL:p.aU.L.length<1000000)
 (hc:fr.call=0∨∃ (c:Nat) (it:Im) (kh:Fr) (r2:List Fr),fr.call=(c:Int)+1∧p.aU.L[c]? = some it∧na {m with st:=r} kh r2∧(it.s.name≠ []→∃ k,tw kh it.s.name k)) (o8:Int) :
 bk Tryz.prog 36 [.ptr 0 0, .int .i64 o8] s (Rl p T W (.int .i64 (m.close p.aU.L o8).1) (m.close p.aU.L o8).2 (fun y'=>∃ sd,y' = {y with φ:=y.φ.tail,sd:=sd}) loc):=by
 obtain⟨so,g,cells,o,h1,h2,h3,h4,h5⟩:=h.acC ht.st
 obtain⟨o',_,SU,c1⟩:=V9 h ht.st ht.len
 have ho:o'=o:=by rw[h5]at *;cases ‹some o=some o'›;rfl
 subst ho
 have hm:=h.fi
 rw[fZ,h1]at hm
 have hl:=h.xM
 have hp:=h.pop ht.st h1
 have hpf:=hp.fi
 have hlen:=ht.len
 have hw:IntKind.wrap .i64 (((r.length+1:Nat):Int) - 1)=((r.length:Nat):Int):=by rw[show((r.length+1:Nat):Int) - 1=(r.length:Int) by omega];exact dE (by omega) (by omega)
 have xp:vA (.dr 1 so g (r.length+1)) none (some (.int .i64 (r.length:Int)))=some (.dr 1 so g r.length):=by simp[vA,vt,vu];omega
 have xy : ∀ r,(s.ag.set 0 r)[0]? = some r:=fun r=>zaO hl
 rw[si]at SU
 have kP:m.close p.aU.L o8=if fr.call==0 then(-1,{{m with st:=r}with fin:=1})else((fp p.aU.L fr.call).next,if(fp p.aU.L fr.call).s.name == []then {m with st:=r}else({m with st:=r} : Mc).set (fp p.aU.L fr.call).s.name o8):=by
  unfold Mc.close
  rw[ht.top,ht.st];rfl
 rw[kP]
 rcases hc with hc|⟨c,it,kh,r2,hc,iG,jD,hn⟩
 ·rw [hc]at SU
  have e0:((0:Int)==0)=true:=rfl
  have h5:=hp.nJ (m':= {{m with st:=r}with fin:=1}) rfl rfl hp.t0 hp.t1 hp.ev
  rw[fZ]at h5
  simp only[zbA]at h5
  rw[hc,if_pos e0]
  refine bk.jO ur.h rfl fun B Q hB hQ=>?_
  have⟨hD,hZ,gC,gD⟩:=bc
  repeat' (first
 |simp only[go_sem,hD,hZ,gC,gD,hm,hl,hw,xp,xy,SU,e0,zbA]
 |(with_reducible refine CU (c1) ?_)
 |(with_reducible refine aX hQ ?_;exact bK))
  (refine dI hQ ?_;simp only[bZ,cd,dn,dq,go_sem])
  exact⟨rfl,_,⟨_,rfl⟩,h5⟩
 ·rw [hc]at SU
  have SV:IntKind.wrap .i64 ((c:Int)+1 - 1)=(c:Int):=by
   have:=(zac.1 iG).1
   rw[show(c:Int)+1 - 1=(c:Int) by omega];exact dE (by omega) (by omega)
  have e0:((c:Int)+1==0)=false:=by simp;omega
  have aq0:=Qs iG hc
  have hz : ∀ (z:List D) (e:List D),(s.ag.set 0 e++ [z]).set s.ag.length (dU it)=s.ag.set 0 e++ [dU it]:=fun z e=>by simp
  have hg : ∀ z e:List D,(s.ag.set 0 e++ [z])[s.ag.length]? = some z:=fun z e=>by simp
  have cS:(gn p)[2]? = some (.slice .shared 17 (p.aU.L.map dU)):=rfl
  have sQ : ∀ e:List D,(s.ag.set 0 e).length=s.ag.length:=fun e=>zbr
  have dF:=hp.new (dU it)
  rw[fZ]at dF
  simp only[sQ]at dF
  have yR:dU it = [.int .i64 it.s.id, .int .i64 it.s.kind, .slice .shared 1 (it.s.labels.map encStr), .str it.s.name, .str it.s.proc, .int .i64 it.s.x.op, .int .i64 it.s.x.n, .str it.s.x.name, .slice .shared 4 (it.s.x.kids.map bQ), .bool it.s.has, .slice .shared 6 (it.s.args.map dH), .slice .shared 13 (it.s.aY.map aO), .slice .shared 13 (it.s.aH.map aO), .int .i64 it.proc, .int .i64 it.up, .int .i64 it.next, .int .i64 it.loop]:=rfl
  have c3:(dU it)[3]? = some (.str it.s.name):=rfl
  rw[hc,if_neg (by rw[e0];simp),show fp p.aU.L ((c:Int)+1)=it from hc ▸ aq0]
  refine bk.jO ur.h rfl fun B Q hB hQ=>?_
  have⟨hD,hZ,gC,gD⟩:=bc
  rcases zaa (it.s.name == [])with b|b
  ·repeat' (first
 |simp only[go_sem,hD,hZ,gC,gD,hm,hl,hw,xp,xy,SU,e0,SV,iG,hz,hg,sQ,c3,b,cS]
 |(with_reducible refine CU (c1) ?_)
 | (with_reducible refine aX hQ ?_;exact bK))
   (refine dI hQ ?_;simp only[bZ,cd,dn,dq,go_sem])
   refine⟨rfl,{y with φ:=y.φ.tail,sd:= .dr 1 so g r.length},⟨_,rfl⟩, ?_⟩
   simp only[b,if_true]
   exact dF.sub fun q mq=>zan _ mq
  ·obtain⟨k,hk⟩:=hn (by intro e;rw [e]at b;cases b)
   have Cg:=hk.cell jD.top
   obtain⟨j,hj,sO⟩:=hk
   have c2:=FW dF jD.st jD.len jD.names hj sO
   have Zb:k<m.mem.length:=by
    have hlp:=hp.vT
    rw[jD.st]at hlp
    cases hφ:y.φ.tail with
    |nil=>simp[hφ]at hlp
    |cons o2 φ2=>exact(hp.frame 0 o2 kh (by simp[hφ]) (by rw[jD.st];rfl)).2.2 k (zad sO)
   have hκ:y.κ[k]? = some (y.κ.getD k 0):=by
    rw[zay,zah (by have:=h.len;omega)];rfl
   have jS:=dF.cell k _ _ hκ (zah Zb)
   have q8:=dF.K6 hκ o8
   have kW:=(q8.loc (s.ag.length,dU it) (zaz ..)).1
   simp only at jS q8 kW c2
   have hb:(it.s.name != [])=true:=by simp[bne,b]
   repeat' (first
 |simp only[go_sem,hD,hZ,gC,gD,hm,hl,hw,xp,xy,SU,e0,SV,iG,hz,hg,sQ,c3,b,cS,jS,kW]
 |(with_reducible refine CU (c1) ?_)
 |(with_reducible refine CU (c2) ?_)
 | (with_reducible refine aX hQ ?_;exact bK))
   (refine dI hQ ?_;simp only[bZ,cd,dn,dq,go_sem])
   refine⟨rfl,{y with φ:=y.φ.tail,sd:= .dr 1 so g r.length},⟨_,rfl⟩, ?_⟩
   simp only[b,zab,if_false,Mc.set,Cg]
   exact q8.sub fun q mq=>zan _ mq
end
end Go.Abs
namespace Go.Abs
set_option maxRecDepth 8000
open Go.Proofs
section
variable {p:Pg} {T W:List Int} {y:Lay} {m:Mc} {loc:List (Nat×List D)} {s:St}
structure akg (p:Pg) (fr:Fr) (it:Im):Prop where
 said:it.s.mQ
 brk:it.s.kind=7→∃ (c:Nat) (it2:Im),it.loop=(c:Int)+1∧p.aU.L[c]? = some it2
 VX:it.s.kind=10→∃ (i:Nat) (f:Pc),it.proc=(i:Int)∧p.procs[i]? = some f
 name:it.s.kind=1∨it.s.kind=2→∃ k,tw fr it.s.name k
 aY:it.s.aY.length<1000000
 aH:it.s.aH.length<1000000
structure NM (p:Pg) (T W:List Int) (m:Mc):Prop where
 W:W.length<1000000
 T:T.length<1000000
 trace:m.trace.length<2000000
 out:m.out.length<2000000
 L:p.aU.L.length<1000000
 P:Pc.bB p.procs<1000000000
 reads:0≤m.reads∧m.reads<2000000
theorem cell_of (h:Inv p T W y m loc s) {fr:Fr} {r:List Fr} (gG:m.st=fr::r) {c j:Nat} (hc:fr.vars[j]? = some c):y.κ[c]? = some (y.κ.getD c 0)∧∃ v,m.mem[c]? = some v∧s.ag[y.κ.getD c 0]? = some [.int .i64 v]:=by
 have fM:=h.vT
 rw[gG]at fM
 cases hφ:y.φ with
 |nil=>simp[hφ]at fM
 | cons o φ=>
  have zb:=(h.frame 0 o fr (by simp[hφ]) (by rw[gG];rfl)).2.2 c (zad hc)
  have hκ:y.κ[c]? = some (y.κ.getD c 0):=by
   rw[zay,zah (by have:=h.len;omega)];rfl
  exact⟨hκ,_,zah zb,h.cell c _ _ hκ (zah zb)⟩
set_option maxHeartbeats 1600000 in
theorem aq1 (hp : p.gb) (ze : p.may = true) (h : Inv p T W y m loc s) {fr : Fr} {r : List Fr} (ht : na m fr r) (hz : NM p T W m) {it : Im} (hd : akg p fr it) :
   bk Tryz.prog 35 [.ptr 0 0, .agg (dU it)] s (Rl p T W (.int .i64 (m.do p p.aU.L T W it).1) (m.do p p.aU.L T W it).2 (fun _ => True) loc) := by
 have h1 := (h.new (dU it)).new (aO it.s)
 simp only[zal, zaH]at h1
 have z0 : ∀ z : List D, (s.ag ++ [z])[s.ag.length]? = some z := fun z => by simp
 have z1 : ∀ z : List D, (s.ag ++ [dU it] ++ [z]).set (s.ag.length + 1) (aO it.s) = s.ag ++ [dU it] ++ [aO it.s] := fun z => by simp[zaB, List.set_append_right]
 have z2 : ∀ a z : List D, (s.ag ++ [a] ++ [z])[s.ag.length + 1]? = some z := fun a z => by simp
 have z3 : ∀ a z : List D, (s.ag ++ [a] ++ [z])[s.ag.length]? = some a := fun a z => by simp
 have z4 := h1.fi
 rw[fZ]at z4
 have B2 := h1.xM
 simp only at z4 B2
 have cS : (gn p)[2]? = some (.slice .shared 17 (p.aU.L.map dU)) := rfl
 have ic : ∀ q ∈ loc, q ∈ (s.ag.length + 1, aO it.s) :: (s.ag.length, dU it) :: loc := fun q mq => zan _ (zan _ mq)
 generalize hn : s.ag.length = n at *
 have kW : ∀ {y2 : Lay} {m2 : Mc} {s2 : St}, Inv p T W y2 m2 ((n + 1, aO it.s) :: (n, dU it) :: loc) s2 → s2.ag[n]? = some (dU it) ∧ s2.ag[n + 1]? = some (aO it.s) ∧ 0 < s2.ag.length := fun h2 =>
   ⟨(h2.loc (n, dU it) (by simp)).1, (h2.loc (n + 1, aO it.s) (by simp)).1, h2.xM⟩
 rcases zaa (it.s.kind == 7) with b7|b7
 · have c1 := zc h1 hz.W hz.trace it.s.id
   obtain ⟨c, it2, e1, e2⟩ := hd.brk (by simpa using b7)
   have hw : IntKind.wrap .i64 ((c : Int) + 1 - 1) = (c : Int) := by
     have := (zac.1 e2).1
     have := hz.L
     rw[show (c : Int) + 1 - 1 = (c : Int) by omega]; exact dE (by omega) (by omega)
   have Ch : m.do p p.aU.L T W it = (it2.next, m.event W it.s.id []) := by
     unfold Mc.do
     dsimp only
     rw[if_pos b7, Qs e2 e1]
   rw[Ch]
   refine bk.jO iN.h rfl fun B Q hB hQ =>?_
   have ⟨hD, hZ, gC, gD⟩ := bc
   refine bT (BG z0 z1 z2 z3 hn b7) ?_
   refine CR c1 fun d s2 h2 =>?_
   obtain ⟨rfl, y2, ⟨_, rfl⟩, h2⟩ := h2
   obtain ⟨x1, x2, x3⟩ := kW h2
   have km := h2.fi
   rw[fZ]at km
   refine bT (Gw x1 x2 km cS e1 hw e2) ?_
   (refine dI hQ ?_; simp only[bZ, cd, dn, dq, go_sem])
   exact ⟨rfl, _, trivial, h2.sub ic⟩
 rcases zaa (it.s.kind == 8) with b8|b8
 · have c1 := zc h1 hz.W hz.trace it.s.id
   have Ch : m.do p p.aU.L T W it = (it.loop, m.event W it.s.id []) := by
     unfold Mc.do
     dsimp only
     rw[if_neg (by simp[b7]), if_pos b8]
   rw[Ch]
   refine bk.jO iN.h rfl fun B Q hB hQ =>?_
   have ⟨hD, hZ, gC, gD⟩ := bc
   refine bT (Gw z0 z1 z2 z3 hn b7 b8) ?_
   refine CR c1 fun d s2 h2 =>?_
   obtain ⟨rfl, y2, ⟨_, rfl⟩, h2⟩ := h2
   obtain ⟨x1, x2, x3⟩ := kW h2
   refine bT (eK x1 x2) ?_
   (refine dI hQ ?_; simp only[bZ, cd, dn, dq, go_sem])
   exact ⟨rfl, _, trivial, h2.sub ic⟩
 rcases zaa (it.s.kind == 10) with qd|qd
 · have c1 := zc h1 hz.W hz.trace it.s.id
   obtain ⟨i, f, e1, e2⟩ := hd.VX (by simpa using qd)
   have cA := fun s => ajK hp ze e2 it.s.name s
   have Ch : m.do p p.aU.L T W it = ((jH f.fin it.s.name (Sm.cU f.body)).1, m.event W it.s.id []) := by
     unfold Mc.do
     dsimp only
     rw[if_neg (by simp[b7]), if_neg (by simp[b8]), if_pos qd, e1, zaW, e2]
   rw[Ch]
   refine bk.jO iN.h rfl fun B Q hB hQ =>?_
   have ⟨hD, hZ, gC, gD⟩ := bc
   refine bT (DF z0 z1 z2 z3 hn b7 b8 qd) ?_
   refine CR c1 fun d s2 h2 =>?_
   obtain ⟨rfl, y2, ⟨_, rfl⟩, h2⟩ := h2
   obtain ⟨x1, x2, x3⟩ := kW h2
   have km := h2.fi
   rw[fZ]at km
   repeat' (first
 |simp only[go_sem, hD, hZ, gC, gD, x1, x2, km, e1]
 |(with_reducible refine CU (cA _) ?_)
 | (with_reducible refine aX hQ ?_; exact bK))
   (refine dI hQ ?_; simp only[bZ, cd, dn, dq, go_sem])
   exact ⟨rfl, _, trivial, h2.sub ic⟩
 rcases zaa (it.s.kind == 2) with b2|b2
 · obtain ⟨k, hk⟩ := hd.name (.inr (by simpa using b2))
   have jy := hz.reads
   have Mx := hz.T
   have Gq := jy.1
   have avE : ∀ r, ((s.ag ++ [dU it] ++ [aO it.s]).set 0 r)[0]? = some r := fun r => zaO B2
   cases e : T[m.reads.toNat]? with
   | none =>
     have qK : decide (m.reads ≥ (T.length : Int)) = true := by have := zbC.1 e; simp; omega
     have Ch : m.do p p.aU.L T W it = (-1, { m with fin := 3 }) := by
       unfold Mc.do
       dsimp only
       rw[if_neg (by simp[b7]), if_neg (by simp[b8]), if_neg (by simp[qd]), if_pos b2, e]
     rw[Ch]
     have h2 := h1.nJ (m' := { m with fin := 3 }) rfl rfl h1.t0 h1.t1 h1.ev
     rw[fZ]at h2
     simp only at h2
     refine bk.jO iN.h rfl fun B Q hB hQ =>?_
     have ⟨hD, hZ, gC, gD⟩ := bc
     refine bT (Vs z0 z1 z2 z3 z4 hn b7 b8 qd b2 qK B2) ?_
     (refine dI hQ ?_; simp only[bZ, cd, dn, dq, go_sem])
     exact ⟨rfl, _, trivial, h2.sub ic⟩
   | some v =>
     have qK : decide (m.reads ≥ (T.length : Int)) = false := by have := (zac.1 e).1; simp; omega
     have zf : IntKind.wrap .i64 (m.reads + 1) = m.reads + 1 := dE (by omega) (by omega)
     have Cg := hk.cell ht.top
     obtain ⟨j, hj, sO⟩ := hk
     have Ch : m.do p p.aU.L T W it = (it.next, (({ m with reads := m.reads + 1, mem := m.mem.set k v } : Mc).event W it.s.id [v])) := by
       unfold Mc.do
       dsimp only
       rw[if_neg (by simp[b7]), if_neg (by simp[b8]), if_neg (by simp[qd]), if_pos b2, e]
       have : ({ m with reads := m.reads + 1 } : Mc).cell it.s.name = k := Cg
       simp only[Mc.set, this]
     rw[Ch]
     have h2 := h1.nJ (m' := { m with reads := m.reads + 1 }) rfl rfl h1.t0 h1.t1 h1.ev
     have jD : na ({ m with reads := m.reads + 1 } : Mc) fr r := ⟨ht.st, ht.len, ht.names, ht.vars⟩
     have c2 := FW h2 jD.st jD.len jD.names hj sO
     obtain ⟨hκ, v0, g1, g2⟩ := cell_of h2 jD.st sO
     have h3 := h2.K6 hκ v
     have c3 := HY h3 hz.W hz.trace it.s.id v
     obtain ⟨x1, x2, x3⟩ := kW h3
     obtain ⟨x4, x5, x6⟩ := kW h2
     rw[fZ]at c2 g2 c3 x1 x2 x4 x5
     simp only at c2 g2 c3 x1 x2 x4 x5
     refine bk.goE iN.h Y9 rfl fun B Q hB hQ =>?_
     have ⟨hD, hZ, gC, gD⟩ := bc
     repeat' (first
 |simp only[go_sem, hD, hZ, gC, gD, z0, z1, z2, z3, z4, hn, b7, b8, qd, b2, qK, B2, e, zf, Gq, x1, x2, x4, x5, g2]
 |(with_reducible refine CU (c2) ?_)
 |(with_reducible refine aX hQ ?_; exact bK))
     refine CR c3 fun d s2 h4 =>?_
     obtain ⟨rfl, y2, _, h4⟩ := h4
     obtain ⟨x1, x2, x3⟩ := kW h4
     refine bT (eK x1 x2) ?_
     (refine dI hQ ?_; simp only[bZ, cd, dn, dq, go_sem])
     exact ⟨rfl, _, trivial, h4.sub ic⟩
 -- an expression is reckoned
 have hx : it.s.x.size < 1000000 := by have := hd.said.2.2; omega
 have c1 := HX h1 ht hx hd.said.1
 rcases zaa (m.bE it.s.x).1.2 with bw|bw
 case inr =>
   have Ch : m.do p p.aU.L T W it = (-1, (m.bE it.s.x).2) := by
     unfold Mc.do
     dsimp only
     rw[if_neg (by simp[b7]), if_neg (by simp[b8]), if_neg (by simp[qd]), if_neg (by simp[b2]), if_neg (by simp[bw])]
   rw[Ch]
   refine bk.jO iN.h rfl fun B Q hB hQ =>?_
   have ⟨hD, hZ, gC, gD⟩ := bc
   refine bT (IJ z0 z1 z2 z3 hn b7 b8 qd b2) ?_
   refine CR c1 fun d s2 h2 =>?_
   obtain ⟨⟨rfl, y2, Ao, h2⟩, _⟩ := h2
   refine bT bw ?_
   (refine dI hQ ?_; simp only[bZ, cd, dn, dq, go_sem])
   exact ⟨rfl, y2, trivial, h2.sub ic⟩
 have Qt : (m.bE it.s.x).2 = m := by
   unfold Mc.bE
   dsimp only
   rw[if_pos (show (it.s.x.bE m.top.names m.bq).2 = true from bw)]
 have Ch : m.do p p.aU.L T W it = (let m1 := m.event W it.s.id [(m.bE it.s.x).1.1]; let n := (m.bE it.s.x).1.1
     if it.s.kind == 1 then (it.next, m1.set it.s.name n) else if it.s.kind == 3 then (it.next, { m1 with out := m1.out ++ [n] })
     else if it.s.kind == 5 then (if n == 0 then firstM it.s.aH it.next else firstM it.s.aY it.next, m1) else if it.s.kind == 6 then (if n == 0 then it.next else firstM it.s.aY it.s.id, m1) else (it.next, m1)) := by
   unfold Mc.do
   dsimp only
   rw[if_neg (by simp[b7]), if_neg (by simp[b8]), if_neg (by simp[qd]), if_neg (by simp[b2]), if_pos bw, Qt]
 rw[Ch]
 rw[Qt]at c1
 generalize hR : (m.bE it.s.x).1 = R at *
 obtain ⟨v, ok⟩ := R
 subst bw
 dsimp only
 have he := dV W m it.s.id [v]
 have ux : na (m.event W it.s.id [v]) fr r := ⟨by rw[he.1]; exact ht.st, ht.len, ht.names, ht.vars⟩
 have nb : (v != 0) = !(v == 0) := rfl
 have fT := fun o s => SP it.s.aY (by have := hd.aY; omega) o s
 have fE := fun o s => SP it.s.aH (by have := hd.aH; omega) o s
 refine bk.goE iN.h Y9 rfl fun B Q hB hQ =>?_
 have ⟨hD, hZ, gC, gD⟩ := bc
 refine bT (IJ z0 z1 z2 z3 hn b7 b8 qd b2) ?_
 refine CR c1 fun d s2 h2 =>?_
 obtain ⟨⟨rfl, y2, Ao, h2⟩, _⟩ := h2
 obtain ⟨x1, x2, x3⟩ := kW h2
 have c2 := HY h2 hz.W hz.trace it.s.id v
 refine bT (eK x1 x2) ?_
 refine CR c2 fun d s3 h3 =>?_
 obtain ⟨rfl, y3, _, h3⟩ := h3
 obtain ⟨x1, x2, x3⟩ := kW h3
 have sk := h3.fi
 rw[fZ]at sk
 rcases zaa (it.s.kind == 1) with b1|b1
 · obtain ⟨k, hk⟩ := hd.name (.inl (by simpa using b1))
   have Cg := hk.cell ux.top
   obtain ⟨j, hj, sO⟩ := hk
   have c3 := FW h3 ux.st ux.len ux.names hj sO
   obtain ⟨hκ, v0, g1, g2⟩ := cell_of h3 ux.st sO
   have h4 := h3.K6 hκ v
   obtain ⟨x4, x5, x6⟩ := kW h4
   simp only at x4 x5
   repeat' (first
 |simp only[go_sem, hD, hZ, gC, gD, x1, x2, b1, g2, x4, x5]
 |(with_reducible refine CU (c3) ?_)
 | (with_reducible refine aX hQ ?_; exact bK))
   (refine dI hQ ?_; simp only[bZ, cd, dn, dq, go_sem])
   rw[if_pos b1]
   refine ⟨rfl, y3, trivial, ?_⟩
   simp only[Mc.set, Cg]
   exact h4.sub ic
 rw[if_neg (by simp[b1])]at hQ
 rcases zaa (it.s.kind == 3) with b3|b3
 · rw [if_pos b3] at hQ
   have dc : fS 1 8 (.slice (.tok 0) 1 ((m.event W it.s.id [v]).out.map bl)) (.slice .full 1 [[.int .i64 v]]) s3 = some (.slice (.tok 0) 1 (((m.event W it.s.id [v]).out ++ [v]).map bl), ⟨s3.ag, s3.au.set 0 (some ((m.event W it.s.id [v]).out.length + 1))⟩) := by
     rw[kZ (size := 1) (by simp only[zau, zaH, he.2.2.2.2.2]; have := hz.out; unfold aT; omega) (by simpa using h3.t0)]
     simp[bl]
   have h4 := h3.nJ (m' := { m.event W it.s.id [v] with out := (m.event W it.s.id [v]).out ++ [v] }) (ts := s3.au.set 0 (some ((m.event W it.s.id [v]).out.length + 1))) rfl rfl (by simp[(zac.1 h3.t0).1]) (by rw[zam (by omega)]; exact h3.t1) (h3.ev.set (by decide) _)
   obtain ⟨x4, x5, x6⟩ := kW h4
   rw[fZ]at h4 x4 x5
   simp only[zag, zaf, zaj, bl]at h4 x4 x5 dc
   refine bT (IJ x1 x2 b1 b3 sk dc x3 x4 x5) ?_
   (refine dI hQ ?_; simp only[bZ, cd, dn, dq, go_sem])
   exact ⟨rfl, y3, trivial, h4.sub ic⟩
 rw[if_neg (by simp[b3])]at hQ
 rcases zaa (it.s.kind == 5) with b5|b5
 · rw [if_pos b5] at hQ
   rcases zaa (v == 0) with bv|bv
   · rw [if_pos bv] at hQ
     repeat' (first
 |simp only[go_sem, hD, hZ, gC, gD, x1, x2, b1, b3, b5, nb, bv]
 |(with_reducible refine CU (fT _ _) ?_)
 |(with_reducible refine CU (fE _ _) ?_)
 | (with_reducible refine aX hQ ?_; exact bK))
     (refine dI hQ ?_; simp only[bZ, cd, dn, dq, go_sem])
     exact ⟨rfl, y3, trivial, h3.sub ic⟩
   · rw [if_neg (by simp [bv])] at hQ
     repeat' (first
 |simp only[go_sem, hD, hZ, gC, gD, x1, x2, b1, b3, b5, nb, bv]
 |(with_reducible refine CU (fT _ _) ?_)
 |(with_reducible refine CU (fE _ _) ?_)
 |(with_reducible refine aX hQ ?_; exact bK))
     (refine dI hQ ?_; simp only[bZ, cd, dn, dq, go_sem])
     exact ⟨rfl, y3, trivial, h3.sub ic⟩
 rw[if_neg (by simp[b5])]at hQ
 rcases zaa (it.s.kind == 6) with b6|b6
 · rw [if_pos b6] at hQ
   rcases zaa (v == 0) with bv|bv
   · rw [if_pos bv] at hQ
     refine zv2 (DF x1 x2 b1 b3 b5 b6 nb bv) fT fE ?_
     (refine dI hQ ?_; simp only[bZ, cd, dn, dq, go_sem])
     exact ⟨rfl, y3, trivial, h3.sub ic⟩
   · rw [if_neg (by simp [bv])] at hQ
     repeat' (first
 |simp only[go_sem, hD, hZ, gC, gD, x1, x2, b1, b3, b5, b6, nb, bv]
 |(with_reducible refine CU (fT _ _) ?_)
 |(with_reducible refine CU (fE _ _) ?_)
 |(with_reducible refine aX hQ ?_; exact bK))
     (refine dI hQ ?_; simp only[bZ, cd, dn, dq, go_sem])
     exact ⟨rfl, y3, trivial, h3.sub ic⟩
 rw[if_neg (by simp[b6])]at hQ
 refine bT (BG x1 x2 b1 b3 b5 b6) ?_
 (refine dI hQ ?_; simp only[bZ, cd, dn, dq, go_sem])
 exact ⟨rfl, y3, trivial, h3.sub ic⟩
end
end Go.Abs
namespace Go.Abs
set_option maxRecDepth 8000
open Go.Proofs
section
variable {p:Pg} {T W:List Int} {y:Lay} {m:Mc} {loc:List (Nat×List D)} {s:St}
theorem Df : ∀ (l:List Ar) (m:Mc) (out:List Nat),(Mc.args l m out).2.out=m.out∧(Mc.args l m out).2.trace=m.trace
 | [],m,out=>⟨rfl,rfl⟩
 | a::l,m,out=>by
  have hw:=iu m a.x
  simp only[Mc.args]
  by_cases c:a.ref=true
  ·rw[if_pos c];exact Df l m _
  ·rw [if_neg c]
   by_cases c2:(m.bE a.x).1.2=true
   ·rw [if_pos c2]
    obtain⟨h1,h2⟩:=Df l {(m.bE a.x).2 with mem:=(m.bE a.x).2.mem++ [(m.bE a.x).1.1]} (out++ [(m.bE a.x).2.mem.length])
    exact⟨h1.trans hw.2.2.2.2.1,h2.trans hw.2.2.2.2.2⟩
   ·rw[if_neg c2];exact⟨hw.2.2.2.2.1,hw.2.2.2.2.2⟩
structure Zc (p:Pg) (fr:Fr) (v:Sm):Prop where
 said:v.mQ
 args : ∀ a∈v.args,a.x.texts∧a.x.size<1000000∧(a.ref=true→∃ k,tw fr a.name k)
 proc : ∃ (j:Nat) (q:Pc),p.at v.proc=(j:Int)∧p.procs[j]? = some q∧p.find q.name=some q
theorem Zd (hp:p.gb) (ze:p.may=true) (h:Inv p T W y m loc s) {fr:Fr} {r:List Fr} (ht:na m fr r) (hz:NM p T W m) (hg:p.globals.length≤m.mem.length) {v:Sm} (hd:Zc p fr v) :
 bk Tryz.prog 33 [.ptr 0 0, .agg (aO v)] s (Rl p T W (.int .i64 (m.call p W v).1) (m.call p W v).2 (fun _=>True) loc):=by
 have h1:=h.new (aO v)
 have qL:2≤s.au.length:=by have:=(zac.1 h.t1).1;omega
 generalize hn:s.ag.length=n at h1
 generalize Oz:s.au.length=tk at qL
 have pg:v.args.length<1000000:=by have:=hd.said.2.2;have:=Ar.dk v.args;omega
 have aq2:=ht.st
 refine bk.jO qy.h rfl fun B Q hB hQ=>?_
 have⟨hD,hZ,gC,gD⟩:=bc
 have loop : ∀ (rest:List Ar) (k:Nat) (m1:Mc) (out:List Nat) (y1:Lay) (s1:St),v.args.drop k=rest→Mc.args v.args m [] = Mc.args rest m1 out→m1.st=m.st→m1.trace=m.trace∧m1.out=m.out→m.mem.length≤m1.mem.length→out.length=k∧k≤v.args.length→(∀ c∈out,c<m1.mem.length)→
  Inv p T W y1 m1 ((n,aO v)::loc) s1→s1.au[tk]? = some (some out.length)→(∀ q∈y1.ev,q<tk)→
  aJ Tryz.prog B 67 Q0K (fV 0 (kp (iW Tryz.prog B 67 Q0L Q) Q))
   [(0, .ptr 0 0),(3, .ptr n 0),(5, .slice (.tok tk) 1 (out.map fun c=>gE (y1.κ.getD c 0))),(12, .slice .shared 6 (v.args.map dH)),(13, .int .i64 (v.args.length:Int)),(14, .int .i64 (k:Int))] s1:=by
  intro rest
  induction rest with
  | nil=>
   intro k m1 out y1 s1 Mi jQ ow Ee B2 zw sJ h2 H2 qM
   have hD:=drop_nil Mi
   have xL:na m1 fr r:=⟨by rw[ow];exact ht.st,ht.len,ht.names,ht.vars⟩
   obtain⟨so,g,cells,o,e1,e2,e3,e4,e5⟩:=h2.acC xL.st
   have km:=h2.fi
   rw[fZ,e1]at km
   have E9:=(h2.loc (n,aO v) (by simp)).1
   have ke:=h2.xM
   have Dy:m.call p W v=if m1.st.length > 100 then(-1,{m1 with fin:=5})else(m1.event W v.id []).open p (p.at v.proc) out v.id:=by
    unfold Mc.call
    rw[jQ]
    rfl
   have hlen:m1.st.length=r.length+1:=by rw[xL.st];rfl
   rw[Dy,hlen]at hQ
   simp only at E9
   refine aJ.fl ?_
   by_cases KO:r.length+1 > 100
   ·have Dg:decide (((r.length+1:Nat):Int) > 100)=true:=by simp;omega
    rw[if_pos KO]at hQ
    have h3:=h2.nJ (m':= {m1 with fin:=5}) rfl rfl h2.t0 h2.t1 h2.ev
    rw[fZ,e1]at h3
    simp only at h3
    refine bT (ql km E9 Dg ke) ?_
    (refine dI hQ ?_;simp only[bZ,cd,dn,dq,go_sem])
    exact⟨rfl,y1,trivial,h3.sub fun q mq=>zan _ mq⟩
   ·have Dg:decide (((r.length+1:Nat):Int) > 100)=false:=by simp;omega
    rw[if_neg KO]at hQ
    have c1:=zc h2 hz.W (by rw[Ee.1];exact hz.trace) v.id
    refine bT (ql km E9 Dg ke) ?_
    refine CR c1 fun d s3 h3=>?_
    obtain⟨rfl,y3,⟨_,rfl⟩,h3⟩:=h3
    have he:=dV W m1 v.id []
    obtain⟨j,q,j1,j2,j3⟩:=hd.proc
    obtain⟨y4,s4,hF,h4⟩:=SS h3 hp ze j2 j3 (by rw[he.1,hlen];have:=ht.len;omega) (l:=out) (by rw[he.2.1];exact sJ) (by omega) (by rw[he.2.1];omega) v.id
    have hF':=fun g:Tag=>bk.mT (.cons (Wk.refl _) (.cons (Wk.refl _) (.cons (Wk.shared g 1 _) (jM.refl _)))) hF
    have JD:ay Tryz.prog 31 [.ptr 0 0, .int .i64 (j:Int), .slice (.tok tk) 1 (out.map fun c=>gE (y1.κ.getD c 0)), .int .i64 v.id] s3 _ s4:=hF' _
    have cP:=fun s=>Ja (p:=p) (by have:=hp.procs.1;omega) v.proc s
    have sk:=h3.fi
    rw[fZ]at sk
    have hx3:=(h3.loc (n,aO v) (by simp)).1
    simp only at hx3
    rw[j1]at hQ cP
    repeat' (first
 |simp only[go_sem,hD,hZ,gC,gD,sk,hx3]
 |(with_reducible refine CU (cP _) ?_)
 |(with_reducible refine CU (JD) ?_)
 | (with_reducible refine aX hQ ?_;exact bK))
    (refine dI hQ ?_;simp only[bZ,cd,dn,dq,go_sem])
    exact⟨rfl,y4,trivial,h4.sub fun q mq=>zan _ mq⟩
  | cons a rest ih=>
   intro k m1 out y1 s1 Mi jQ ow Ee B2 zw sJ h2 H2 qM
   obtain⟨hZ,g2,hD,g4⟩:=drop_cons Mi
   have aV:k<4611686018427387904:=by omega
   obtain⟨a1,a2,a3⟩:=hd.args a (zad hZ)
   have xL:na m1 fr r:=⟨by rw[ow];exact ht.st,ht.len,ht.names,ht.vars⟩
   have h3:=h2.new (dH a)
   have zq : ∀ z:List D,(s1.ag++ [z]).set s1.ag.length (dH a)=s1.ag++ [dH a]:=fun z=>by simp
   have zg : ∀ z:List D,(s1.ag++ [z])[s1.ag.length]? = some z:=fun z=>by simp
   have dc : ∀ (x:Nat) (os:List (List D)),fS 1 8 (.slice (.tok tk) 1 (out.map fun c=>gE (y1.κ.getD c 0))) (.slice .full 1 [[.ptr x 0]]) ⟨os,s1.au⟩=some (.slice (.tok tk) 1 ((out.map fun c=>gE (y1.κ.getD c 0))++ [gE x]),⟨os,s1.au.set tk (some (out.length+1))⟩):=fun x os=>by
    rw[kZ (size:=1) (by simp only[zau,zaH];unfold aT;omega) (by simpa using H2)]
    simp[gE]
   have Qu : ∀ k':Nat,(∀ q,q<2∨q∈y1.ev→(s1.au.set tk (some k'))[q]? = s1.au[q]?)∧(s1.au.set tk (some k'))[tk]? = some (some k'):=fun k'=>
    ⟨fun q hq=>zam fun e=>hq.elim (fun h=>by omega) fun h=>by have:=qM q h;omega,by simp[(zac.1 H2).1]⟩
   refine aJ.fl ?_
   rcases zaa a.ref with b|b
   ·obtain⟨c,hc⟩:=a3 b
    have Cg:=hc.cell xL.top
    obtain⟨j,hj,sO⟩:=hc
    have c1:=FW h3 xL.st xL.len xL.names hj sO
    obtain⟨hκ,v0,gm,_⟩:=cell_of h2 xL.st sO
    have Bz:=(zac.1 gm).1
    repeat' (first
 |simp only[go_sem,hD,hZ,gC,gD,hZ,zq,zg,b,dc]
 |(with_reducible refine CU (c1) ?_)
 | (with_reducible refine aX hQ ?_;exact bK))
    have:=ih (k+1) m1 (out++ [c]) y1 ⟨s1.ag++ [dH a],s1.au.set tk (some (out.length+1))⟩ g2 (by rw[jQ];simp only[Mc.args,b,if_true,Cg]) ow Ee B2 ⟨by simp[zw.1],g4⟩ (fun x mx=>by
     rcases zar.1 mx with mx|mx
     ·exact sJ x mx
     ·rw[zaJ.1 mx];exact Bz) ((h3.sub fun q mq=>zan _ mq).keep (fun _ _ e=>e) (Qu _).1 (by simp)) (by simpa using (Qu _).2) qM
    refine aJ.iS ?_ this
    simp only[go_sem,ak aV,zag,zaf,zaj]
    repeat' (first|exact Ok.out|with_reducible refine ej ?_ ?_)
   ·have c1:=HX h3 xL a2 a1
    refine bT (ql hZ zq zg b) ?_
    refine CR c1 fun d s2 h4=>?_
    obtain⟨⟨rfl,y2,Ao,h4⟩,yB⟩:=h4
    have hw:=iu m1 a.x
    simp only at yB
    rcases zaa (m1.bE a.x).1.2 with bw|bw
    ·have Qt:(m1.bE a.x).2=m1:=by
      unfold Mc.bE
      dsimp only
      rw[if_pos (show(a.x.bE m1.top.names m1.bq).2=true from bw)]
     rw[Qt]at h4
     have yq : ∀ z:List D,(s2.ag++ [z]).set s2.ag.length [.int .i64 (m1.bE a.x).1.1] = s2.ag++ [[.int .i64 (m1.bE a.x).1.1]]:=fun z=>by simp
     have yg : ∀ z:List D,(s2.ag++ [z])[s2.ag.length]? = some z:=fun z=>by simp
     rw[← yB]at dc Qu
     have hye:y2.ev=y1.ev:=by rw[Ao]
     have h5:=h4.K7 (m1.bE a.x).1.1 (by omega)
     have hyκ:y2.κ=y1.κ:=by rw[Ao]
     have x7:y1.κ.length=m1.mem.length:=h2.len
     refine bT (ql bw yq yg dc) ?_
     have:=ih (k+1) {m1 with mem:=m1.mem++ [(m1.bE a.x).1.1]} (out++ [m1.mem.length]) {y2 with κ:=y2.κ++ [s2.ag.length]} ⟨s2.ag++ [[.int .i64 (m1.bE a.x).1.1]],s2.au.set tk (some (out.length+1))⟩ g2
      (by rw [jQ];simp only [Mc.args,b,zab,if_false,bw,if_true,Qt]) ow Ee (by simp;omega) ⟨by simp [zw.1],g4⟩ (fun x mx=>by
       simp only[zal,zaH]
       rcases zar.1 mx with mx|mx
       ·have:=sJ x mx;omega
       ·rw[zaJ.1 mx];omega) ((h5.sub fun q mq=>zan _ mq).keep (fun _ _ e=>e) (fun q hq=>(Qu _).1 q (by rw[← hye];exact hq)) (by simp)) (by simpa using (Qu _).2) (fun q hq=>qM q (by rw[← hye];exact hq))
     refine aJ.iS ?_ this
     have aq3:(out.map fun c=>gE ((y2.κ++ [s2.ag.length]).getD c 0))=out.map fun c=>gE (y1.κ.getD c 0):=zbB fun c mc=>by rw[hyκ,HZ (by have:=sJ c mc;omega)]
     have dF:(y2.κ++ [s2.ag.length]).getD m1.mem.length 0=s2.ag.length:=by rw[hyκ, ← x7];simp[zay]
     simp only[go_sem,ak aV,zag,zaf,zaj,aq3,dF]
     repeat' (first|exact Ok.out|with_reducible refine ej ?_ ?_)
    ·refine bT bw ?_
     (refine dI hQ ?_;simp only[bZ,cd,dn,dq,go_sem])
     have Dy:m.call p W v=(-1,(m1.bE a.x).2):=by
      unfold Mc.call
      rw[jQ]
      simp only[Mc.args,b,zab,if_false,bw]
     rw[Dy]
     exact⟨rfl,y2,trivial,h4.sub fun q mq=>zan _ (zan _ mq)⟩
 have hz0:(s.ag++ [aO v])[n]? = some (aO v):=by simp[← hn]
 have l0:=loop v.args 0 m [] y ⟨s.ag++ [aO v],s.au++ [some 0]⟩ rfl rfl rfl ⟨rfl,rfl⟩ (zak _) ⟨rfl,zaA _⟩ (by simp) (h1.au _) (by simp[← Oz]) (fun q hq=>by rw[← Oz];exact h.ev.lt q hq)
 refine bT (eK hz0 hn) ?_
 refine aJ.lA 5 1 rfl ?_
 simp only[go_sem,hD,hZ,gC,gD]
 refine aJ.iS ?_ l0
 simp only[go_sem,Oz,zaj]
 repeat' (first|exact Ok.out|with_reducible refine ej ?_ ?_)
end
end Go.Abs
namespace Go.Abs
theorem Qv {v:Sm} (h:v.one=true) (hk:v.kind=1∨v.kind=2):v.name≠ []:=by
 intro e
 have hn:v.hasName=true:=by unfold Sm.hasName;rcases hk with hk|hk<;>simp[hk]
 unfold Sm.one at h
 split at h
 ·cases h
 ·rw [e,hn]at h
  simp[isName]at h
theorem Fa {v:Sm} (hk:v.kind≠10) (hn:v.name≠ []):v.name∈v.said:=by
 unfold Sm.said Sm.tG
 refine vf (.inl ?_)
 rw[if_pos (by simp[hk,hn])]
 simp
theorem Dh {name:aD} {f:Pc} : ∀ {l:List Pc},iB name l=some f→f.name=name
 |g::l,h=>by
  simp only[iB]at h
  split at h
  ·rename_i e;cases h;simpa using e
  ·exact Dh h
mutual
theorem akl : ∀ s:Sm,∀ v∈s.pre,v.size≤s.size
 | ⟨id,kind,labels,name,proc,x,has,args,aY,aH⟩,v,m=>by
  rw[Sm.mO]at m
  rcases zaq.1 m with rfl|m
  ·exact zak _
  ·simp only [Sm.size]
   rcases zar.1 m with m|m
   ·have:=Ci aY v m;omega
   ·have:=Ci aH v m;omega
theorem Ci : ∀ l:List Sm,∀ v∈Sm.cU l,v.size≤Sm.bB l
 | [],v,m=>by simp[Sm.cU]at m
 |s::l,v,m=>by
  simp only[Sm.cU,zar]at m
  simp only[Sm.bB]
  rcases m with m|m
  ·have:=akl s v m;omega
  ·have:=Ci l v m;omega
end
theorem Lb : ∀ l:List Sm,l.length≤Sm.bB l
 | []=>zak _
 |s::l=>by
  have:=Lb l
  have h1:1≤s.size:=by cases s;simp only[Sm.size];omega
  simp only[Sm.bB,zas];omega
section
variable {p:Pg} {m:Mc} {a:Int}
theorem JE (hO:p.gb) (h:nS p p.aU.L a m) (hl:m.st.length≤1000) : ∃ fr r f,na m fr r∧p.procs[fr.proc.toNat]? = some f∧fr.names=p.globals++f.own∧fr.vars.length=fr.names.length∧m.top=fr:=by
 obtain⟨fr,r,e⟩:=h.st.ne
 have ht:m.top=fr:=by simp[Mc.top,e]
 obtain⟨f,h1,h2,h3,h4,h5⟩:=h.fr fr (by rw[e];exact zaz ..)
 have hf:=zad h1
 have s1:=Pc.cb hf
 have s2:=hO.sz
 simp only[Pg.size]at s2
 have hn:fr.names.length<1000000:=by
  rw[h3]
  have s3:=hO.small hf
  simp only[Pc.size]at s1
  simp only[zal,Pc.own,Pc.mg,zau]
  have:=s3.par;have:=s3.vars
  omega
 rw[e]at hl
 exact⟨fr,r,f,⟨e,by simp at hl;omega,hn,by omega⟩,h1,h3,h4,ht⟩
theorem Cj {fr:Fr} (hv:fr.vars.length=fr.names.length) {n:aD} (hn:n∈fr.names) : ∃ k,tw fr n k:=by
 obtain⟨j,h1,h2⟩:=Ql (k:=0) hn
 exact⟨_,j,by simpa using h1,zah (by omega)⟩
theorem Lc {fr:Fr} (h:nS p p.aU.L a m) (ht:m.top=fr) (hR:p.Right) (ha:a≠ -1) {f:Pc} (hf:p.procs[fr.proc.toNat]? = some f):yY p p.aU.L (fp p.aU.L a) f∧(fp p.aU.L a).proc=fr.proc∧fp p.aU.L a∈p.aU.L∧
 ∃ c:Nat,a=(c:Int)+1∧p.aU.L[c]? = some (fp p.aU.L a):=by
 have hm:=h.at_.resolve_left ha
 have iJ:=C6 (L:=p.aU.L) (.inr ⟨hm.1,hm.2.1⟩) ha
 obtain⟨f',o⟩:=(qo hR).im _ iJ
 have hp:(fp p.aU.L a).proc=fr.proc:=by rw[← ht];exact hm.2.2
 have:f'=f:=by have:=o.proc.1;rw[hp,hf]at this;exact(Option.some.inj this).symm
 subst this
 have h1:=hm.1
 have h2:=hm.2.1
 refine⟨o,hp,iJ,(a - 1).toNat,by omega, ?_⟩
 unfold fp
 rw[zay,zah (show(a - 1).toNat<p.aU.L.length by omega)];rfl
theorem SW (hO:p.gb) (hR:p.Right) {x:Im} {f:Pc} {fr:Fr} (hx:yY p p.aU.L x f) (hn:fr.names=p.globals++f.own) (hv:fr.vars.length=fr.names.length):akg p fr x:=by
 have hf:=zad hx.proc.1
 have kN:x.s∈p.pre:=by
  simp only[Pg.pre,zbx,zaG];exact⟨_,⟨f,hf,rfl⟩,hx.mem⟩
 have dJ:=Ci f.body x.s hx.mem
 have s1:=Pc.cb hf
 have s2:=hO.sz
 simp only[Pg.size]at s2
 simp only[Pc.size]at s1
 have hs:Sm.bB x.s.aY+Sm.bB x.s.aH≤x.s.size:=by
  cases x with
  |mk s _ _ _ _=>cases s;simp only[Sm.size];omega
 refine⟨hO.said hf _ hx.mem,fun hk=>?_,fun hk=>?_,fun hk=>?_, ?_, ?_⟩
 ·have hl:=hx.loop (.inl hk)
  have h1:=hl.1
  have h2:=hl.2.1
  exact⟨(x.loop - 1).toNat,_,by omega,zah (by omega)⟩
 ·obtain⟨i,hi⟩:=Int.eq_ofNat_of_zero_le hx.proc.2
  exact⟨i,f,hi,by have:=hx.proc.1;rwa [hi,zaW]at this⟩
 ·refine Cj hv ?_
  rw[hn]
  exact vS hR hx (Fa (by rcases hk with hk|hk<;>omega) (Qv (Cd hR.may _ kN) hk))
 ·have:=Lb x.s.aY;omega
 ·have:=Lb x.s.aH;omega
theorem Ze (hO:p.gb) (hR:p.Right) {x:Im} {f:Pc} {fr:Fr} (hx:yY p p.aU.L x f) (hk:x.s.kind=4) (hn:fr.names=p.globals++f.own) (hv:fr.vars.length=fr.names.length):Zc p fr x.s:=by
 have hf:=zad hx.proc.1
 have rh:=hO.said hf _ hx.mem
 have kN:x.s∈p.pre:=by
  simp only[Pg.pre,zbx,zaG];exact⟨_,⟨f,hf,rfl⟩,hx.mem⟩
 refine⟨rh,fun b mb=>⟨rh.2.1 b mb, ?_,fun hr=>?_⟩, ?_⟩
 ·have:=rh.2.2
  have key : ∀ l:List Ar,b∈l→b.x.size≤Ar.bB l:=fun l=>by
   induction l with
   |nil=>intro m;cases m
   |cons c l ih=>
    intro m
    simp only[Ar.bB]
    rcases zaq.1 m with rfl|m
    ·omega
    ·have:=ih m;omega
  have:=key _ mb
  omega
 ·refine Cj hv ?_
  rw[hn]
  exact vS hR hx (vf (.inr ⟨b,mb,hr,rfl⟩))
 ·have gT:=hR.fits _ kN (by simp [hk])
  obtain⟨q,hq⟩:=Ak gT
  obtain⟨j,h1,h2⟩:=Db (k:=0) hq
  exact⟨j,q,by simpa[Pg.at]using h1,h2,by rw[Dh hq];exact hq⟩
theorem JF (hO:p.gb) (hR:p.Right) (h:nS p p.aU.L a m) (hl:m.st.length≤1000) {fr:Fr} {r:List Fr} (ht:na m fr r) :
 fr.call=0∨∃ (c:Nat) (it:Im) (kh:Fr) (r2:List Fr),fr.call=(c:Int)+1∧p.aU.L[c]? = some it∧na {m with st:=r} kh r2∧(it.s.name≠ []→∃ k,tw kh it.s.name k):=by
 have hs:=h.st
 have gG:=ht.st
 rw[gG]at hs
 cases r with
 |nil=>exact .inl hs
 | cons kh r2=>
  obtain⟨⟨h1,w5⟩,h2⟩:=hs
  have e1:=h1.1
  have e2:=h1.2.1
  refine .inr ⟨(fr.call - 1).toNat,fp p.aU.L fr.call,kh,r2,by omega, ?_, ?_,fun hn=>?_⟩
  ·unfold fp
   rw[zay,zah (show(fr.call - 1).toNat<p.aU.L.length by omega)];rfl
  ·have h3:nS p p.aU.L (-1) {m with st:=kh::r2}:=⟨h2,fun q hq=>h.fr q (by rw [gG];exact zan _ hq), .inl rfl,h.sV⟩
   obtain⟨Ap,r',f',t,_⟩:=JE hO h3 (by rw[gG]at hl;simp at hl ⊢;omega)
   have:=t.st
   cases this
   exact t
  ·obtain⟨f,g1,g2,g3,g4,g5⟩:=h.fr kh (by rw [gG];simp)
   have iJ:fp p.aU.L fr.call∈p.aU.L:=C6 (.inr ⟨e1,e2⟩) (by omega)
   obtain⟨f',o⟩:=(qo hR).im _ iJ
   have:f'=f:=by have:=o.proc.1;rw[h1.2.2,g1]at this;exact(Option.some.inj this).symm
   subst this
   refine Cj g4 ?_
   rw[g3]
   exact vS hR o (Fa (by omega) hn)
end
end Go.Abs
namespace Go.Abs
structure xq (m:Mc):Prop where
 steps:0≤m.steps
 trace:(m.trace.length:Int)≤m.steps
 out:(m.out.length:Int)≤m.steps
 reads:0≤m.reads∧m.reads≤m.steps
 st:m.st.length≤101
structure Be (m m':Mc):Prop where
 trace:m'.trace.length≤m.trace.length+1
 out:m'.out.length≤m.out.length+1
 reads:m'.reads=m.reads∨m'.reads=m.reads+1
 steps:m'.steps=m.steps
theorem Zf (W:List Int) (m:Mc) (id:Int) (bq:List Int):(m.event W id bq).trace.length≤m.trace.length+1:=by
 unfold Mc.event
 split<;>simp
theorem oN (W:List Int) (m:Mc) (id:Int) (bq:List Int):Be m (m.event W id bq):=by
 have h:=dV W m id bq
 exact⟨Zf W m id bq,by rw[h.2.2.2.2.2];omega, .inl h.2.2.2.2.1,h.2.2.2.1⟩
theorem JG (m:Mc) (x:Ex):Be m (m.bE x).2:=by
 have h:=iu m x
 exact⟨by rw[h.2.2.2.2.2];omega,by rw[h.2.2.2.2.1];omega, .inl h.2.2.2.1,h.2.2.1⟩
theorem w8 (p:Pg) (m:Mc) (i:Int) (l:List Nat) (c:Int):(m.open p i l c).2.trace=m.trace∧(m.open p i l c).2.out=m.out∧(m.open p i l c).2.reads=m.reads∧(m.open p i l c).2.steps=m.steps:=by
 unfold Mc.open
 split<;>exact⟨rfl,rfl,rfl,rfl⟩
theorem Aq : ∀ (l:List Ar) (m:Mc) (out:List Nat),(Mc.args l m out).2.reads=m.reads∧(Mc.args l m out).2.steps=m.steps
 | [],m,out=>⟨rfl,rfl⟩
 | a::l,m,out=>by
  have hw:=iu m a.x
  simp only[Mc.args]
  by_cases c:a.ref=true
  ·rw[if_pos c];exact Aq l m _
  ·rw [if_neg c]
   by_cases c2:(m.bE a.x).1.2=true
   ·rw [if_pos c2]
    obtain⟨h1,h2⟩:=Aq l {(m.bE a.x).2 with mem:=(m.bE a.x).2.mem++ [(m.bE a.x).1.1]} (out++ [(m.bE a.x).2.mem.length])
    exact⟨h1.trans hw.2.2.2.1,h2.trans hw.2.2.1⟩
   ·rw[if_neg c2];exact⟨hw.2.2.2.1,hw.2.2.1⟩
theorem Fb (p:Pg) (W:List Int) (m:Mc) (v:Sm):Be m (m.call p W v).2∧((m.call p W v).2.st.length≤m.st.length∨(m.call p W v).2.st.length≤101):=by
 have h1:=Df v.args m []
 have h2:=Aq v.args m []
 have h3:=(Cc v.args m []).1
 unfold Mc.call
 generalize Mc.args v.args m [] = r at *
 obtain⟨o,m1⟩:=r
 dsimp only at h1 h2 h3
 cases o with
 |none=>exact⟨⟨by simp[h1.2],by simp[h1.1], .inl h2.1,h2.2⟩, .inl (by simp[h3])⟩
 | some l=>
  dsimp only
  by_cases c:m1.st.length > 100
  ·rw[if_pos c];exact⟨⟨by simp[h1.2],by simp[h1.1], .inl h2.1,h2.2⟩, .inl (by simp[h3])⟩
  ·rw [if_neg c]
   have e1:=oN W m1 v.id []
   have e2:=w8 p (m1.event W v.id []) (p.at v.proc) l v.id
   have e3:=(FP p (m1.event W v.id []) (p.at v.proc) l v.id).1
   have e4:=(dV W m1 v.id []).1
   refine⟨⟨by rw[e2.1, ← h1.2];exact e1.trace,by rw[e2.2.1, ← h1.1];exact e1.out, ?_,by rw[e2.2.2.2,e1.steps,h2.2]⟩, .inr (by rw[e4]at e3;omega)⟩
   rw[e2.2.2.1, ← h2.1];exact e1.reads
theorem Di (W:List Int) (m:Mc) (v:Sm):Be m (m.fP W v).2:=by
 have hw:=iu m v.x
 unfold Mc.fP
 split
 ·dsimp only
  split
  ·have e:=oN W (m.bE v.x).2 v.id [(m.bE v.x).1.1]
   exact⟨by rw[← hw.2.2.2.2.2];exact e.trace,by rw[← hw.2.2.2.2.1];exact e.out,by rw[← hw.2.2.2.1];exact e.reads,e.steps.trans hw.2.2.1⟩
  ·exact JG m v.x
 ·exact oN W m v.id []
theorem Ld (p:Pg) (L:List Im) (T W:List Int) (m:Mc) (it:Im):Be m (m.do p L T W it).2:=by
 have hw:=iu m it.s.x
 unfold Mc.do
 dsimp only
 split
 ·exact oN W m _ _
 split
 ·exact oN W m _ _
 split
 ·exact oN W m _ _
 split
 ·split
  ·exact⟨by simp,by simp, .inl rfl,rfl⟩
  ·rename_i n _
   have e:=oN W (({m with reads:=m.reads+1} : Mc).set it.s.name n) it.s.id [n]
   have e2:=(dV W (({m with reads:=m.reads+1} : Mc).set it.s.name n) it.s.id [n])
   exact⟨e.trace,e.out, .inr e2.2.2.2.2.1,e2.2.2.2.1⟩
 split
 ·have e:=oN W (m.bE it.s.x).2 it.s.id [(m.bE it.s.x).1.1]
  have e2:=dV W (m.bE it.s.x).2 it.s.id [(m.bE it.s.x).1.1]
  have k:Be m ((m.bE it.s.x).2.event W it.s.id [(m.bE it.s.x).1.1]):=⟨by rw[← hw.2.2.2.2.2];exact e.trace,by rw[← hw.2.2.2.2.1];exact e.out,by rw[← hw.2.2.2.1];exact e.reads,e.steps.trans hw.2.2.1⟩
  split
  ·exact⟨k.trace,k.out,k.reads,k.steps⟩
  split
  ·exact⟨k.trace,by simp[e2.2.2.2.2.2,hw.2.2.2.2.1],k.reads,k.steps⟩
  split
  ·exact k
  split
  ·exact k
  ·exact k
 ·exact JG m it.s.x
theorem vg (L:List Im) (m:Mc) (g:Int):(m.close L g).2.trace=m.trace∧(m.close L g).2.out=m.out∧(m.close L g).2.reads=m.reads∧(m.close L g).2.steps=m.steps∧(m.close L g).2.st=m.st.tail:=by
 unfold Mc.close
 dsimp only
 split
 ·exact⟨rfl,rfl,rfl,rfl,rfl⟩
 ·split<;>exact⟨rfl,rfl,rfl,rfl,rfl⟩
theorem xq.less {m m1:Mc} (h:xq m) (k:Be {m with steps:=m.steps+1} m1) (hs:m1.st.length≤101):xq m1:=by
 have h1:=h.steps;have h2:=h.trace;have h3:=h.out;have h4:=h.reads
 have k1:=k.trace;have k2:=k.out;have k3:=k.reads;have k4:=k.steps
 dsimp only at k1 k2 k3 k4
 exact⟨by omega,by omega,by omega,by omega,hs⟩
theorem xq.close {L:List Im} {m:Mc} (h:xq m) (g:Int):xq (m.close L g).2:=by
 obtain⟨h1,h2,h3,h4,h5⟩:=vg L m g
 exact⟨by rw[h4];exact h.steps,by rw[h1,h4];exact h.trace,by rw[h2,h4];exact h.out,by rw[h3,h4];exact h.reads,by rw[h5];have:=h.st;simp;omega⟩
theorem xq.run {p:Pg} {T W:List Int} {m:Mc} (h:xq m) (hs:m.steps≤1000000) (hO:p.gb) (hW:W.length<1000000) (hT:T.length<1000000):NM p T W m:=by
 obtain⟨nX,oE,mB⟩:=hO.procs
 have:=rY p
 have h2:=h.trace;have h3:=h.out;have h4:=h.reads
 exact⟨hW,hT,by omega,by omega,by omega,by omega,by omega⟩
set_option maxRecDepth 8000
open Go.Proofs
theorem agL {p:Pg} (h:p.gb) (kL:(p.scope.1==0)=true) (s:St):ay Tryz.prog 103 [.agg (bG p)] s (.dW (gn p) 0) s:=by
 refine ay.pure ?_ (by simp[D.bJ,D.ok,fW]) (by simp[D.ok,xl]) s
 obtain⟨nX,oE,mB⟩:=h.procs
 have sJ:=fun s=>yQ h s
 have dF:=fun s=>CP (p:=p) (by omega) s
 have b0:(p.scope.1 != 0) = !(p.scope.1==0):=rfl
 rw[kL]at b0
 unfold S0
 refine ay.go BT.h rfl fun B Q hB hQ=>?_
 have⟨hD,hZ,gC,gD⟩:=bc
 exact pT (eK b0 @Bool.not_true) sJ dF
theorem agM {p:Pg} (h:p.gb) (kL:(p.scope.1==0)=false) (s:St):ay Tryz.prog 103 [.agg (bG p)] s .fJ s:=by
 refine ay.pure ?_ (by simp[D.bJ,D.ok,fW]) rfl s
 have sJ:=fun s=>yQ h s
 have b0:(p.scope.1 != 0) = !(p.scope.1==0):=rfl
 rw[kL]at b0
 unfold S0
 refine ay.go BT.h rfl fun B Q hB hQ=>?_
 have⟨hD,hZ,gC,gD⟩:=bc
 exact jn (eK b0 @Bool.not_false) sJ
mutual
theorem acH {pr up next loop:Int} : ∀ (s:Sm) (m:Im),m∈s.uw pr up next loop→m.proc=pr
 | ⟨id,kind,labels,name,pc,x,has,args,aY,aH⟩,m,h=>by
  simp only[Sm.uw]at h
  rcases zaq.1 h with rfl|h
  ·rfl
  ·rcases zar.1 h with h | h
   ·exact As aY m h
   ·exact As aH m h
theorem As {pr up next loop:Int} : ∀ (l:List Sm) (m:Im),m∈Sm.iV pr up next loop l→m.proc=pr
 |s::l,m,h=>by
  simp only[Sm.iV]at h
  rcases zar.1 h with h|h
  ·exact acH s m h
  ·exact As l m h
end
theorem Bf : ∀ a b:List Sm,fG (a++b)=fG a++fG b
 | [],b=>rfl
 |v::a,b=>by simp only[zaV,fG,Bf a b,zaB]
mutual
theorem RV : ∀ s:Sm,(fG s.pre).length≤s.size
 |⟨id,kind,labels,name,pc,x,has,args,aY,aH⟩=>by
  have:=sm aY;have:=sm aH
  simp only[Sm.pre,fG,Bf,zal,Sm.size];omega
theorem sm : ∀ l:List Sm,(fG (Sm.cU l)).length≤Sm.bB l
 | []=>zak _
 |s::l=>by
  have:=RV s;have:=sm l
  simp only[Sm.cU,Bf,zal,Sm.bB];omega
end
theorem Zg (seen l:List aD):(jU seen l).1.length≤seen.length+l.length:=(Mu l seen).2
theorem acI {p:Pg} (h:p.gb) (s:St):ay Tryz.prog 71 [.agg (bG p)] s (.agg [.int .i64 p.jump.1, .int .i64 p.jump.2]) s:=by
 refine ay.pure ?_ (by simp[D.bJ,D.ok,fW]) rfl s
 obtain⟨nX,oE,mB⟩:=h.procs
 obtain⟨R,hR⟩ : ∃ R,p.jump=R:=⟨_,rfl⟩
 rw[hR]
 unfold Pg.jump at hR
 unfold S0
 rcases zaa (p.scope.1==0)with kL|kL
 case inr=>
  have hs:=fun s=>agM h kL s
  simp only[kL,zab,if_false]at hR
  subst hR
  refine ay.go BQ.h rfl fun B Q hB hQ=>?_
  have⟨hD,hZ,gC,gD⟩:=bc
  exact jn trivial hs
 have hs:=fun s=>agL h kL s
 have hb:=oI kL
 simp only[kL,if_true]at hR
 refine ay.go BQ.h rfl fun B Q hB hQ=>?_
 have⟨hD,hZ,gC,gD⟩:=bc
 repeat' (first
 |simp only[go_sem,hD,hZ,gC,gD]
 |(with_reducible refine CU (hs _) ?_)
 |(with_reducible refine aX hQ ?_;exact bK))
 refine dg 2 0 (aJ.ind (ι:=List Pc×Nat) (fun i=>p.procs.drop i.2=i.1∧nQ 7 (oK i.1)=R) (fun i=>i.1.length)
  (fun i=> [(1, .ptr 0 0),(2, .ptr 1 0),(3, .dW (gn p) 0),(16, .slice .shared 5 (p.procs.map bP)),(17, .int .i64 (p.procs.length:Int)),(18, .int .i64 (i.2:Int))]) (fun i=>⟨[bG p,[.int .i64 0, .int .i64 0]],[]⟩) ?_ (p.procs,0) ⟨rfl,hR⟩)
 clear hR
 rintro⟨rest,k⟩ ⟨h1,hR⟩ IH
 dsimp only at h1 hR
 cases rest with
 |nil=>
  have hD:=drop_nil h1
  simp only[oK,nQ]at hR
  subst hR
  exact dR trivial
 | cons f rest=>
  obtain⟨hZ,g2,hD,g4⟩:=drop_cons h1
  have aV:k<4611686018427387904:=by omega
  have pW:=zad hZ
  have EP:=fun s=>ajI hb hZ (by omega) s
  have kN:=u6 (k:Int) 0 (-1) 0 f.body
  have sb:=HM (k:Int) f
  have VG:=fun m=>As (pr:=(k:Int)) (up:=0) (next:= -1) (loop:=0) f.body m
  have P8:=Jr h pW
  have q8:=E3 h pW
  have Wd:(fG (Sm.cU f.body)).length≤900000:=by
   have h1:=sm f.body
   have h2:=Pc.cb pW
   simp only[Pc.size]at h2
   omega
  rw[← kN]at Wd
  generalize hI:Sm.iV (k:Int) 0 (-1) 0 f.body=I at *
  have hIl:I.length≤900000:=by rw[← kN,zau]at P8;exact P8
  simp only[oK, ← sb]at hR
  obtain⟨J,hJ⟩ : ∃ J,qD f.labels f.fin [] (I.map Im.pair)=J:=⟨_,rfl⟩
  rw[hJ]at hR
  have hld:=fun(m:Im) (hm:m∈I) s=>agu h hb hZ m (VG m hm) s
  repeat' (first
 |simp only[go_sem,hD,hZ,gC,gD]
 |(with_reducible refine CU (EP _) ?_)
 | (with_reducible refine aX hQ ?_;exact bK))
  refine aJ.lA 6 1 rfl ?_
  simp only[go_sem,hD,hZ,gC,gD]
  refine dg 3 1 (aJ.ind (ι:=List Im×Nat×List aD×Nat) (fun i=>I.drop i.2.1=i.1∧qD f.labels f.fin i.2.2.1 (i.1.map Im.pair)=J∧i.2.2.2=i.2.2.1.length∧i.2.2.1.length+(fG (i.1.map Im.s)).length≤900000) (fun i=>i.1.length)
   (fun i=> [(1, .ptr 0 0),(2, .ptr 1 0),(3, .dW (gn p) 0),(5, .ptr 2 0),(6, .slice (.tok 0) 1 (i.2.2.1.map encStr)),(16, .slice .shared 5 (p.procs.map bP)),(17, .int .i64 (p.procs.length:Int)),(18, .int .i64 (k:Int)),
    (25, .slice .shared 17 (I.map dU)),(26, .int .i64 (I.length:Int)),(27, .int .i64 (i.2.1:Int))]) (fun i=>⟨[bG p,[.int .i64 0, .int .i64 0],bP f],[some i.2.2.2]⟩) ?_ (I,0,[],0) ⟨rfl,hJ,rfl,by simpa using Wd⟩)
  clear hJ
  rintro⟨lC,k2,seen,n2⟩ ⟨j1,j2,j3,j4⟩ rZ
  dsimp only at j1 j2 j3 j4
  subst j3
  cases lC with
  | nil=>
   have Qw:=drop_nil j1
   simp only[zaj,qD]at j2
   simp only[zaj,fG,zaC,zaP]at j4
   have MF:=fun {s:St} {t:Nat} (ht:s.au[t]? = some (some seen.length))=>YQ (seen:=seen) (l:=f.fin) (by omega) ht
   obtain⟨P1,hP1⟩ : ∃ P1,jU seen f.fin=P1:=⟨_,rfl⟩
   rw[hP1]at j2 MF
   rcases zaa P1.2 with c1|c1
   ·simp only [c1,if_true]at j2
    subst j2
    simp only at hR
    repeat' (first
 |simp only[go_sem,hD,hZ,gC,gD,Qw,c1,zav]
 |(with_reducible refine CU (MF (by with_unfolding_all rfl)) ?_)
 | (with_reducible refine aX hQ ?_;exact bK))
    refine cr 2 0 ?_ ?_ (IH (rest,k+1) ⟨g2,hR⟩ (zae _))
    ·(simp only[go_sem,hD,hZ,gC,gD,ak aV];try exact aQ)
    ·(simp only[go_sem,hD,hZ,gC,gD,ak aV];try exact aQ)
   ·simp only [c1,zab,if_false]at j2
    subst j2
    simp only[nQ]at hR
    subst hR
    repeat' (first
 |simp only[go_sem,hD,hZ,gC,gD,Qw,c1,zax]
 |(with_reducible refine CU (MF (by with_unfolding_all rfl)) ?_)
 | (with_reducible refine aX hQ ?_;exact bK))
  | cons m lC=>
   obtain⟨fm,j5,jo,j6⟩:=drop_cons j1
   have gN:k2<4611686018427387904:=by omega
   have rF:=zad fm
   have Sy:=fun s=>hld m rF s
   simp only[zaf,Im.pair,qD]at j2
   simp only[zaf,fG,zal]at j4
   have MF:=fun {s:St} {t:Nat} (ht:s.au[t]? = some (some seen.length))=>YQ (seen:=seen) (l:=m.s.labels) (by omega) ht
   have xG:=Zg seen m.s.labels
   obtain⟨P1,hP1⟩ : ∃ P1,jU seen m.s.labels=P1:=⟨_,rfl⟩
   rw[hP1]at j2 MF xG
   rcases zaa P1.2 with c1|c1
   ·rcases zaa (pE f.labels m.s m.loop)with c2 | c2
    ·simp only [c1,c2,if_true]at j2
     repeat' (first
 |simp only[go_sem,hD,hZ,gC,gD,fm,jo,c1,c2,zav]
 |(with_reducible refine CU (MF (by with_unfolding_all rfl)) ?_)
 |(with_reducible refine CU (Sy _) ?_)
 | (with_reducible refine aX hQ ?_;exact bK))
     refine cr 3 1 ?_ ?_ (rZ (lC,k2+1,P1.1,P1.1.length) ⟨j5,j2,rfl,by dsimp only;omega⟩ (zae _))
     ·(simp only[go_sem,hD,hZ,gC,gD,ak gN];try exact aQ)
     ·(simp only[go_sem,hD,hZ,gC,gD,ak gN];try exact aQ)
    ·simp only [c1,c2,if_true,zab,if_false]at j2
     subst j2
     simp only[nQ]at hR
     subst hR
     repeat' (first
 |simp only[go_sem,hD,hZ,gC,gD,fm,jo,c1,c2,zav,zax]
 |(with_reducible refine CU (MF (by with_unfolding_all rfl)) ?_)
 |(with_reducible refine CU (Sy _) ?_)
 | (with_reducible refine aX hQ ?_;exact bK))
   ·simp only [c1,zab,if_false]at j2
    subst j2
    simp only[nQ]at hR
    subst hR
    repeat' (first
 |simp only[go_sem,hD,hZ,gC,gD,fm,jo,c1,zax]
 |(with_reducible refine CU (MF (by with_unfolding_all rfl)) ?_)
 |(with_reducible refine CU (Sy _) ?_)
 |(with_reducible refine aX hQ ?_;exact bK))
theorem acJ (x:It):(du x)[2]? = some (.slice .shared 1 (x.s.labels.map encStr)):=nd rfl
theorem Zh (x:It):(du x)[14]? = some (.int .i64 x.bp):=nd rfl
attribute [go_sem] acJ Zh
theorem Qx {l:List It} (hl:l.length≤1000000) (id:Int) (s:St):ay Tryz.prog 118 [.slice .shared 16 (l.map du), .int .i64 id] s (.tuple [.int .i64 (gR l l.length id), .bool (gR l l.length id != 0)]) s:=by
 refine ay.pure ?_ (by simp[D.bJ,D.ok,Tag.ok,tF]) rfl s
 obtain⟨R,hR⟩ : ∃ R,gR l l.length id=R:=⟨_,rfl⟩
 rw[hR]
 have w0:IntKind.wrap .i64 ((l.length:Int) - 1)=(l.length:Int) - 1:=by rw[dE]<;>omega
 unfold S0
 refine ay.go I5.h rfl fun B Q hB hQ=>?_
 have⟨hD,hZ,gC,gD⟩:=bc
 refine bT w0 ?_
 refine dg 0 0 (aJ.ind (ι:=Nat×Int) (fun i=>i.1≤l.length∧i.2=(i.1:Int) - 1∧gR l i.1 id=R) (fun i=>i.1)
  (fun i=> [(0, .slice .shared 16 (l.map du)),(1, .int .i64 id),(6, .int .i64 i.2)]) (fun i=>⟨[],[]⟩) ?_ (l.length,(l.length:Int) - 1) ⟨zak _,rfl,hR⟩)
 clear hR
 rintro⟨n,j⟩ ⟨h1,h2,hR⟩ IH
 dsimp only at h1 h2 hR
 cases n with
 |zero=>
  have qK:decide (j≥0)=false:=by simp;omega
  simp only[gR]at hR
  subst hR
  have w1:((0:Int) != 0)=false:=rfl
  exact iX (eK qK w1)
 | succ n=>
  have hj:j=(n:Int):=by omega
  subst hj
  have qK:decide ((n:Int)≥0)=true:=by simp
  obtain⟨x,hx⟩ : ∃ x,l[n]? = some x:=⟨_,zah (by omega)⟩
  have wn:IntKind.wrap .i64 ((n:Int) - 1)=(n:Int) - 1:=by rw[dE]<;>omega
  simp only[gR,hx]at hR
  have b0:(x.s.id != id) = !(x.s.id==id):=rfl
  rcases zaa (x.s.id==id)with c1|c1
  case inr=>
   rw[c1]at b0
   simp only[b0,zax,if_true]at hR
   refine bT (BG @decide_true qK hx b0 wn @Bool.not_false) ?_
   refine dg 0 0 (IH (n,(n:Int) - 1) ⟨by dsimp only;omega,rfl,hR⟩ (zae _))
  rw[c1]at b0
  simp only[b0,zav,zab,if_false]at hR
  obtain⟨U,hU⟩ : ∃ U,u7 l n x.bp=U:=⟨_,rfl⟩
  rw[hU]at hR
  refine bT (BG @decide_true qK hx b0 wn @Bool.not_true) ?_
  refine dg 0 0 (aJ.ind (ι:=Nat×Int×Int) (fun i=>i.1≤n∧i.2.1=(i.1:Int) - 1∧u7 l i.1 i.2.2=U) (fun i=>i.1)
   (fun i=> [(0, .slice .shared 16 (l.map du)),(1, .int .i64 id),(6, .int .i64 (n:Int)),(7, .int .i64 i.2.2),(8, .int .i64 i.2.1)]) (fun i=>⟨[],[]⟩) ?_ (n,(n:Int) - 1,x.bp) ⟨zak _,rfl,hU⟩)
  clear hU
  rintro⟨m,k,bp⟩ ⟨j1,j2,hU⟩ rZ
  dsimp only at j1 j2 hU
  have He:U=0→gR l n id=R:=fun e=>by rw[e]at hR;simpa using hR
  cases m with
  |zero=>
   have Lf:decide (k≥0)=false:=by simp;omega
   have Py:=He (by simpa[u7]using hU.symm)
   refine bT (eK Lf wn) ?_
   refine dg 0 0 (IH (n,(n:Int) - 1) ⟨by dsimp only;omega,rfl,Py⟩ (zae _))
  | succ m=>
   have hk:k=(m:Int):=by omega
   subst hk
   have Lf:decide ((m:Int)≥0)=true:=by simp
   obtain⟨y,hy⟩ : ∃ y,l[m]? = some y:=⟨_,zah (by omega)⟩
   have wm:IntKind.wrap .i64 ((m:Int) - 1)=(m:Int) - 1:=by rw[dE]<;>omega
   simp only[u7,hy]at hU
   have d0:(bp != 0) = !(bp==0):=rfl
   rcases zaa (bp==0)with e1|e1
   ·rw [e1]at d0
    simp only[e1,if_true]at hU
    have Py:=He hU.symm
    refine bT (um @decide_true Lf d0 @Bool.not_true wn) ?_
    refine dg 0 0 (IH (n,(n:Int) - 1) ⟨by dsimp only;omega,rfl,Py⟩ (zae _))
   rw[e1]at d0
   simp only[e1,zab,if_false]at hU
   have d1:(y.s.id != bp) = !(y.s.id==bp):=rfl
   rcases zaa (y.s.id==bp)with e2|e2
   case inr=>
    rw[e2]at d1
    simp only[d1,zax,if_true]at hU
    refine bT (Gw @decide_true Lf d0 hy d1 wm @Bool.not_false) ?_
    refine dg 0 0 (rZ (m,(m:Int) - 1,bp) ⟨by dsimp only;omega,rfl,hU⟩ (zae _))
   rw[e2]at d1
   simp only[d1,zav,zab,if_false]at hU
   rcases zaa (y.s.kind==6)with e3|e3
   ·simp only [e3,if_true]at hU
    subst hU
    simp only[d0,zax,if_true]at hR
    subst hR
    exact iX (DF @decide_true Lf d0 hy d1 e3 @Bool.not_false @Bool.not_true)
   ·simp only [e3,zab,if_false]at hU
    refine bT (IJ @decide_true Lf d0 hy d1 e3 wm @Bool.not_false @Bool.not_true) ?_
    refine dg 0 0 (rZ (m,(m:Int) - 1,y.bp) ⟨by dsimp only;omega,rfl,hU⟩ (zae _))
theorem Zi {f:Pc} (hs:Sm.bB f.body<4611686018427387000) (hl:(fG (f.flat.map It.s)).length+f.fin.length≤10000000) (s:St) :
 ay Tryz.prog 119 [.agg (bP f)] s (.slice .shared 1 ((fG (f.flat.map It.s)++f.fin).map encStr)) s:=by
 refine ay.pure ?_ (by simp[D.bJ,D.ok,tT]) (by simp only[D.ok,Tag.ok,dv];rfl) s
 have fM:=fun s=>yN (f:=f) hs s
 have aq4:=Pc.tW f
 obtain⟨R,hR⟩ : ∃ R,fG (f.flat.map It.s)=R:=⟨_,rfl⟩
 rw[hR]at hl ⊢
 unfold S0
 refine ay.go I6.h rfl fun B Q hB hQ=>?_
 have⟨hD,hZ,gC,gD⟩:=bc
 repeat' (first
 |simp only[go_sem,hD,hZ,gC,gD]
 |(with_reducible refine CU (fM _) ?_)
 |(with_reducible refine aX hQ ?_;exact bK))
 refine aJ.lA 3 1 rfl ?_
 simp only[go_sem,hD,hZ,gC,gD]
 refine dg 1 1 (aJ.ind (ι:=List It×Nat×List aD×Nat) (fun i=>f.flat.drop i.2.1=i.1∧i.2.2.1++fG (i.1.map It.s)=R∧i.2.2.2=i.2.2.1.length) (fun i=>i.1.length)
  (fun i=> [(1, .ptr 0 0),(3, .slice (.tok 0) 1 (i.2.2.1.map encStr)),(7, .slice .shared 16 (f.flat.map du)),(8, .int .i64 (f.flat.length:Int)),(9, .int .i64 (i.2.1:Int))]) (fun i=>⟨[bP f],[some i.2.2.2]⟩) ?_ (f.flat,0,[],0) ⟨rfl,hR,rfl⟩)
 clear hR
 rintro⟨rest,k,out,n⟩ ⟨h1,h2,h3⟩ IH
 dsimp only at h1 h2 h3
 subst h3
 have hlen:=congrArg List.length h2
 rw[zal]at hlen
 cases rest with
 |nil=>
  have hD:=drop_nil h1
  simp only[zaj,fG,zaF]at h2
  subst h2
  have dc:=fF (l:=out) (nx:=f.fin) rfl (by omega) (g:= .shared)
  exact dR dc
 |cons a rest=>
  obtain⟨hZ,g2,hD,g4⟩:=drop_cons h1
  have aV:k<4611686018427387904:=by omega
  simp only[zaf,fG]at h2
  simp only[zaf,fG,zal]at hlen
  have dc:=fF (l:=out) (nx:=a.s.labels) rfl (by omega) (g:= .shared)
  refine bT dc ?_
  refine cr 1 1 ?_ ?_ (IH (rest,k+1,out++a.s.labels,out.length+a.s.labels.length) ⟨g2,by rw[← h2];simp,by simp⟩ (zae _))
  ·(simp only[go_sem,hD,hZ,gC,gD,ak aV];try exact aQ)
  ·(simp only[go_sem,hD,hZ,gC,gD,ak aV];try exact aQ)
end Go.Abs
namespace Go.Abs
set_option maxRecDepth 8000
open Go.Proofs
theorem Wh {p:Pg} (hb:p.may=true) {f:Pc} (hf:f∈p.procs):f.pF=f.flat.map fun x=>(x.s,gR f.flat f.flat.length x.s.id):=by
 obtain⟨h1,h2⟩:=GN hb hf
 apply zbZ
 intro i
 rw[zap]
 cases e:f.flat[i]? with
 |some a=>rw[h2 i a e];rfl
 |none=>
  have:=zbC.1 e
  rw[zbC.2 (by omega)];rfl
set_option maxHeartbeats 4000000 in
theorem acK {p : Pg} (h : p.gb) (hb : p.may = true) (s : St) : ay Tryz.prog 76 [.agg (bG p)] s (.agg [.int .i64 (nQ 7 (oK p.procs)).1, .int .i64 (nQ 7 (oK p.procs)).2]) s := by
 refine ay.pure ?_ (by simp[D.bJ, D.ok, fW]) rfl s
 obtain ⟨nX, oE, mB⟩ := h.procs
 obtain ⟨R, hR⟩ : ∃ R, nQ 7 (oK p.procs) = R := ⟨_, rfl⟩
 rw[hR]
 unfold S0
 refine ay.go Ko.h rfl fun B Q hB hQ =>?_
 have ⟨hD, hZ, gC, gD⟩ := bc
 refine bT trivial ?_
 refine dg 2 0 (aJ.ind (ι := List Pc × Nat) (fun i => p.procs.drop i.2 = i.1 ∧ nQ 7 (oK i.1) = R) (fun i => i.1.length)
   (fun i => [(1, .ptr 0 0), (2, .ptr 1 0), (13, .slice .shared 5 (p.procs.map bP)), (14, .int .i64 (p.procs.length : Int)), (15, .int .i64 (i.2 : Int))]) (fun i => ⟨[bG p, [.int .i64 0, .int .i64 0]], []⟩) ?_ (p.procs, 0) ⟨rfl, hR⟩)
 clear hR
 rintro ⟨rest, k⟩ ⟨h1, hR⟩ IH
 dsimp only at h1 hR
 cases rest with
 | nil =>
   have hD := drop_nil h1
   simp only[oK, nQ]at hR
   subst hR
   exact dR trivial
 | cons f rest =>
   obtain ⟨hZ, g2, hD, g4⟩ := drop_cons h1
   have aV : k < 4611686018427387904 := by omega
   have pW := zad hZ
   have dJ : Sm.bB f.body ≤ 900000 := by have := Pc.cb pW; simp only[Pc.size]at this; omega
   have fM := fun s => yN (f := f) (by omega) s
   have aq4 := Pc.tW f
   have q8 := E3 h pW
   have kN := (se hb).1 f pW
   have Wd : (fG (f.flat.map It.s)).length ≤ 900000 := by rw[kN]; have := sm f.body; omega
   have Qy := fun s => Zi (f := f) (by omega) (by omega) s
   have ako : fG (f.flat.map It.s) ++ f.fin = f.labels := by rw[kN]; rfl
   have aq5 : f.labels.length < 4611686018427387904 := by rw[← ako, zal]; omega
   rw[ako]at Qy
   have Ck := fun id s => Qx (l := f.flat) (by omega) id s
   have jE := fun x s => xm (l := f.labels) aq5 x .shared s
   have hpp := Wh hb pW
   simp only[oK, hpp]at hR
   generalize hFL : f.flat = FL at *
   obtain ⟨J, hJ⟩ : ∃ J, qD f.labels f.fin [] (FL.map fun x => (x.s, gR FL FL.length x.s.id)) = J := ⟨_, rfl⟩
   rw[hJ]at hR
   repeat' (first
 |simp only[go_sem, hD, hZ, gC, gD]
 |(with_reducible refine CU (fM _) ?_)
 | (with_reducible refine aX hQ ?_; exact bK))
   refine aJ.lA 5 1 rfl ?_
   simp only[go_sem, hD, hZ, gC, gD]
   refine dg 3 1 (aJ.ind (ι := List It × Nat × List aD × Nat) (fun i => FL.drop i.2.1 = i.1 ∧ qD f.labels f.fin i.2.2.1 (i.1.map fun x => (x.s, gR FL FL.length x.s.id)) = J ∧ i.2.2.2 = i.2.2.1.length ∧ i.2.2.1.length + (fG (i.1.map It.s)).length ≤ 900000 ∧ eI i.2.2.1 = false) (fun i => i.1.length)
     (fun i => [(1, .ptr 0 0), (2, .ptr 1 0), (4, .ptr 2 0), (5, .slice (.tok 0) 1 (i.2.2.1.map encStr)), (6, .slice .shared 16 (FL.map du)), (13, .slice .shared 5 (p.procs.map bP)), (14, .int .i64 (p.procs.length : Int)), (15, .int .i64 (k : Int)),
       (21, .slice .shared 16 (FL.map du)), (22, .int .i64 (FL.length : Int)), (23, .int .i64 (i.2.1 : Int))]) (fun i => ⟨[bG p, [.int .i64 0, .int .i64 0], bP f], [some i.2.2.2]⟩) ?_ (FL, 0, [], 0) ⟨rfl, hJ, rfl, by simpa using Wd, rfl⟩)
   clear hJ
   rintro ⟨lC, k2, seen, n2⟩ ⟨j1, j2, j3, j4, j5⟩ rZ
   dsimp only at j1 j2 j3 j4 j5
   subst j3
   cases lC with
   | nil =>
     have Qw := drop_nil j1
     simp only[zaj, qD]at j2
     simp only[zaj, fG, zaC, zaP]at j4
     have dc := fF (l := seen) (nx := f.fin) rfl (by omega) (g := .shared)
     have rr := fun g s => yP (l := seen ++ f.fin) (by simp; omega) g s
     simp only[zag]at rr
     rw[GM j5]at j2
     rcases zaa (eI (seen ++ f.fin)) with c1|c1
     · simp only [c1, zab, if_false, if_true] at j2
       subst j2
       simp only[nQ]at hR
       subst hR
       exact pT (ly Qw dc c1) rr gQ
     · simp only [c1, zab, if_false, if_true] at j2
       subst j2
       simp only at hR
       repeat' (first
 |simp only[go_sem, hD, hZ, gC, gD, Qw, dc, c1]
 |(with_reducible refine CU (rr _ _) ?_)
 | (with_reducible refine aX hQ ?_; exact bK))
       refine cr 2 0 ?_ ?_ (IH (rest, k + 1) ⟨g2, hR⟩ (zae _))
       · (simp only[go_sem, hD, hZ, gC, gD, ak aV]; try exact aQ)
       · (simp only[go_sem, hD, hZ, gC, gD, ak aV]; try exact aQ)
   | cons m lC =>
     obtain ⟨fm, j6, jo, j7⟩ := drop_cons j1
     have gN : k2 < 4611686018427387904 := by omega
     simp only[zaf, qD]at j2
     simp only[zaf, fG, zal]at j4
     have dc := fF (l := seen) (nx := m.s.labels) rfl (by omega) (g := .shared)
     have rr := fun g s => yP (l := seen ++ m.s.labels) (by simp; omega) g s
     simp only[zag]at rr
     rw[GM j5]at j2
     have Lg := fun s => Ck m.s.id s
     generalize gR FL FL.length m.s.id = lp at *
     have b0 : (lp != 0) = !(lp == 0) := rfl
     rcases zaa (eI (seen ++ m.s.labels)) with c1|c1
     · simp only [c1, zab, if_false, if_true] at j2
       subst j2
       simp only[nQ]at hR
       subst hR
       rcases zaa (m.s.kind == 7) with c2|c2
       · have c4 : (m.s.kind == 10) = false := by simp at c2 ⊢; omega
         exact zN (BG fm jo dc c1 c2 c4) rr Lg gQ
       rcases zaa (m.s.kind == 8) with c3|c3
       · have c4 : (m.s.kind == 10) = false := by simp at c3 ⊢; omega
         exact zN (Gw fm jo dc c1 c2 c3 c4) rr Lg gQ
       rcases zaa (m.s.kind == 10) with c4|c4
       · rcases zaa (dZ f.labels m.s.name) with c5 | c5
         · exact Gx (OW fm jo dc c1 c2 c3 c4 c5 @Bool.not_true @Bool.not_false) rr Qy jE gQ
         · exact Gx (OW fm jo dc c1 c2 c3 c4 c5 @Bool.not_true @Bool.not_false) rr Qy jE gQ
       · exact pT (Gw fm jo dc c1 c2 c3 c4) rr gQ
     simp only[c1, zab, if_false, if_true]at j2
     have Ma : pE f.labels m.s lp = true → qD f.labels f.fin (seen ++ m.s.labels) (lC.map fun x => (x.s, gR FL FL.length x.s.id)) = J := fun e => by simpa only[e, if_true] using j2
     have EI : pE f.labels m.s lp = false → R = (7, m.s.id) := fun e => by
       simp only[e, zab, if_false]at j2
       subst j2
       simpa only[nQ] using hR.symm
     have Bg : ∀ e : pE f.labels m.s lp = true, _ := fun e => rZ (lC, k2 + 1, seen ++ m.s.labels, seen.length + m.s.labels.length) ⟨j6, Ma e, by simp, by simp; omega, c1⟩ (zae _)
     clear rZ j2 Ma
     unfold pE at EI Bg
     rcases zaa (m.s.kind == 7) with c2|c2
     · have c4 : (m.s.kind == 10) = false := by simp at c2 ⊢; omega
       simp only[c2, zbk, if_true]at EI Bg
       rcases zaa (lp == 0) with c6|c6
       · rw [c6] at b0
         have := EI b0
         subst this
         exact zN (IJ fm jo dc c1 c2 c4 b0 @Bool.not_true @Bool.not_false) rr Lg gQ
       · rw [c6] at b0
         have Cb := Bg b0
         repeat' (first
 |simp only[go_sem, hD, hZ, gC, gD, fm, jo, dc, c1, c2, c4, b0, zav, zax]
 |(with_reducible refine CU (rr _ _) ?_)
 |(with_reducible refine CU (Lg _) ?_)
 |(with_reducible refine aX hQ ?_; exact bK))
         refine cr 3 1 ?_ ?_ (Cb)
         · (simp only[go_sem, hD, hZ, gC, gD, ak gN]; try exact aQ)
         · (simp only[go_sem, hD, hZ, gC, gD, ak gN]; try exact aQ)
     rcases zaa (m.s.kind == 8) with c3|c3
     · have c4 : (m.s.kind == 10) = false := by simp at c3 ⊢; omega
       simp only[c2, c3, zbI, if_true]at EI Bg
       rcases zaa (lp == 0) with c6|c6
       · rw [c6] at b0
         have := EI b0
         subst this
         exact zN (OW fm jo dc c1 c2 c3 c4 b0 @Bool.not_true @Bool.not_false) rr Lg gQ
       · rw [c6] at b0
         have Cb := Bg b0
         repeat' (first
 |simp only[go_sem, hD, hZ, gC, gD, fm, jo, dc, c1, c2, c3, c4, b0, zav, zax]
 |(with_reducible refine CU (rr _ _) ?_)
 |(with_reducible refine CU (Lg _) ?_)
 |(with_reducible refine aX hQ ?_; exact bK))
         refine cr 3 1 ?_ ?_ (Cb)
         · (simp only[go_sem, hD, hZ, gC, gD, ak gN]; try exact aQ)
         · (simp only[go_sem, hD, hZ, gC, gD, ak gN]; try exact aQ)
     simp only[c2, c3, zb3, zab, if_false]at EI Bg
     rcases zaa (m.s.kind == 10) with c4|c4
     · simp only [c4, if_true] at EI Bg
       rcases zaa (dZ f.labels m.s.name) with c5|c5
       · have Cb := Bg c5
         repeat' (first
 |simp only[go_sem, hD, hZ, gC, gD, fm, jo, dc, c1, c2, c3, c4, c5, zav, zax]
 |(with_reducible refine CU (rr _ _) ?_)
 |(with_reducible refine CU (Qy _) ?_)
 |(with_reducible refine CU (jE _ _) ?_)
 |(with_reducible refine aX hQ ?_; exact bK))
         refine cr 3 1 ?_ ?_ (Cb)
         · (simp only[go_sem, hD, hZ, gC, gD, ak gN]; try exact aQ)
         · (simp only[go_sem, hD, hZ, gC, gD, ak gN]; try exact aQ)
       · have := EI c5
         subst this
         exact Gx (OW fm jo dc c1 c2 c3 c4 c5 @Bool.not_true @Bool.not_false) rr Qy jE gQ
     · simp only [c4, zab, if_false] at EI Bg
       have Cb := Bg trivial
       repeat' (first
 |simp only[go_sem, hD, hZ, gC, gD, fm, jo, dc, c1, c2, c3, c4]
 |(with_reducible refine CU (rr _ _) ?_)
 |(with_reducible refine aX hQ ?_; exact bK))
       refine cr 3 1 ?_ ?_ (Cb)
       · (simp only[go_sem, hD, hZ, gC, gD, ak gN]; try exact aQ)
       · (simp only[go_sem, hD, hZ, gC, gD, ak gN]; try exact aQ)
def Pc.aq6:List Pc→Nat
 | []=>0
 |f::l=>Sm.kB f.body+Pc.aq6 l
theorem acL {p:Pg} (h:p.may=false):p.scope=(1,0):=by unfold Pg.scope;rw[h];rfl
theorem akp {p:Pg} (h:p.gb) (s:St):ay Tryz.prog 41 [.agg (bG p)] s (.agg [.int .i64 p.check.1, .int .i64 p.check.2]) s:=by
 refine ay.pure ?_ (by simp[D.bJ,D.ok,fW]) rfl s
 have h1:=fun s=>PF h.PR s
 rw[FH]at h1
 have h2:=fun s=>yQ h s
 have h3:=fun s=>PU h s
 have h4:=fun s=>acI h s
 have h5:=fun s=>YV h s
 obtain⟨R,hR⟩ : ∃ R,p.check=R:=⟨_,rfl⟩
 rw[hR]
 unfold Pg.check at hR
 unfold S0
 rcases zaa p.may with b0|b0
 case inr=>
  have e:((1:Int)==0)=false:=rfl
  rw[acL b0]at hR
  simp only[e,zab,if_false]at hR
  subst hR
  refine ay.go qS.h rfl fun B Q hB hQ=>?_
  have⟨hD,hZ,gC,gD⟩:=bc
  exact jn (eK b0 @Bool.not_false) h1
 rcases zaa (p.scope.1==0)with b1|b1
 case inr=>
  simp only[b1,zab,if_false]at hR
  subst hR
  refine ay.go qS.h rfl fun B Q hB hQ=>?_
  have⟨hD,hZ,gC,gD⟩:=bc
  exact pT (ly b0 b1 @Bool.not_true) h1 h2
 simp only[b1,if_true]at hR
 rcases zaa (p.arity.1==0)with b2|b2
 case inr=>
  simp only[b2,zab,if_false]at hR
  subst hR
  refine ay.go qS.h rfl fun B Q hB hQ=>?_
  have⟨hD,hZ,gC,gD⟩:=bc
  exact zN (ql b0 b1 b2 @Bool.not_true) h1 h2 h3
 simp only[b2,if_true]at hR
 rcases zaa (p.jump.1==0)with b3|b3
 case inr=>
  simp only[b3,zab,if_false]at hR
  subst hR
  refine ay.go qS.h rfl fun B Q hB hQ=>?_
  have⟨hD,hZ,gC,gD⟩:=bc
  exact Gx (um b0 b1 b2 b3 @Bool.not_true) h1 h2 h3 h4
 simp only[b3,if_true]at hR
 subst hR
 refine ay.go qS.h rfl fun B Q hB hQ=>?_
 have⟨hD,hZ,gC,gD⟩:=bc
 exact Sc (um b0 b1 b2 b3 @Bool.not_true) h1 h2 h3 h4 h5
theorem Qz {p:Pg} (h:p.gb) (s:St):ay Tryz.prog 20 [.agg (bG p)] s (.bool (p.check.1==0)) s:=by
 refine ay.pure ?_ (by simp[D.bJ,D.ok,fW]) rfl s
 have h1:=fun s=>akp h s
 unfold S0
 refine ay.go MZ.h rfl fun B Q hB hQ=>?_
 have⟨hD,hZ,gC,gD⟩:=bc
 exact jn trivial h1
theorem akq {p:Pg} (h:p.gb) (s:St):ay Tryz.prog 44 [.agg (bG p)] s (.agg [.int .i64 p.check.1, .int .i64 p.check.2]) s:=by
 refine ay.pure ?_ (by simp[D.bJ,D.ok,fW]) rfl s
 have h2:=fun s=>aca h s
 obtain⟨R,hR⟩ : ∃ R,p.check=R:=⟨_,rfl⟩
 rw[hR]
 unfold Pg.check at hR
 unfold S0
 rcases zaa (p.scope.1==0)with b1|b1
 case inr=>
  simp only[b1,zab,if_false]at hR
  subst hR
  refine ay.go uR.h rfl fun B Q hB hQ=>?_
  have⟨hD,hZ,gC,gD⟩:=bc
  exact jn b1 h2
 have hb:=oI b1
 have h3:=fun s=>acb h hb s
 have e3:p.arity=jt 6 (Ac p p.pre):=by unfold Pg.arity;rw[if_pos b1]
 rw[← e3]at h3
 have h4:=fun s=>acK h hb s
 have e4:p.jump=nQ 7 (oK p.procs):=by unfold Pg.jump;rw[if_pos b1]
 rw[← e4]at h4
 simp only[b1,if_true]at hR
 rcases zaa (p.arity.1==0)with b2|b2
 case inr=>
  simp only[b2,zab,if_false]at hR
  subst hR
  refine ay.go uR.h rfl fun B Q hB hQ=>?_
  have⟨hD,hZ,gC,gD⟩:=bc
  exact pT (eK b1 b2) h2 h3
 simp only[b2,if_true]at hR
 have h5:=fun s=>ajQ h b1 s
 have e5:p.alias=jt 8 (GQ p p.pre):=by unfold Pg.alias;rw[if_pos b2,agz hb (HQ b2).2]
 rw[← e5]at h5
 rcases zaa (p.jump.1==0)with b3|b3
 case inr=>
  simp only[b3,zab,if_false]at hR
  subst hR
  refine ay.go uR.h rfl fun B Q hB hQ=>?_
  have⟨hD,hZ,gC,gD⟩:=bc
  exact zN (ly b1 b2 b3) h2 h3 h4
 simp only[b3,if_true]at hR
 subst hR
 refine ay.go uR.h rfl fun B Q hB hQ=>?_
 have⟨hD,hZ,gC,gD⟩:=bc
 exact Gx (ly b1 b2 b3) h2 h3 h4 h5
theorem acM {p:Pg} (h:p.gb) (s:St):ay Tryz.prog 22 [.agg (bG p)] s (.bool (p.check.1==0)) s:=by
 refine ay.pure ?_ (by simp[D.bJ,D.ok,fW]) rfl s
 have h1:=fun s=>akq h s
 unfold S0
 refine ay.go Ki.h rfl fun B Q hB hQ=>?_
 have⟨hD,hZ,gC,gD⟩:=bc
 exact jn trivial h1
theorem bk.anC {P:Program} {f:FuncId} {args:List D} {s:St} {ag:List (List D)} {Q:D→St→Prop} (hw:iF s.ag ag) (h:bk P f args ⟨ag,s.au⟩ Q):bk P f args s Q:=by
 intro M w fH r hl dJ ha
 obtain⟨r',le⟩:=r.mT hw
 have hlen:=hw.len
 refine(h M w fH r' (fun g cs hg=>⟨(hl g cs hg).1,fun o ho=>(hl g cs hg).2.1 o (by rw[hlen];exact ho),(hl g cs hg).2.2⟩) dJ fun i d v e1 e2=>(ha i d v e1 e2).mono le).mono ?_
 rintro e w' ⟨M',d,v,s2,h1,hq,hx,r2,rd⟩
 refine⟨M',d,v,s2,h1,hq,Ext.trans ⟨le,fun _ _ _ _=>rfl,fun o h1 h2=>?_,fun t b c z hl e=> .inl ⟨hl,c,z,e⟩,fun _ _ h=>(h rfl).elim,zak _,rfl,rfl,rfl⟩ hx,r2,rd⟩
 rw[← hlen]at h2
 exact h1.elim (fun h1=>absurd h2 (Nat.not_lt.2 h1)) fun h1=>(h1 rfl).elim
def fq (m:Mc):List D:= [.int .i64 m.fin, .int .i64 m.steps, .int .i64 m.reads, .slice .shared 1 (m.out.map bl), .slice .shared 2 (m.trace.map jv)]
theorem akr (e:Int×List Int):D.bJ 0 0 (jv e)=true:=by simp[jv,D.bJ,D.ok,Tag.ok,gY]
theorem aeE (l:List (Int×List Int)):D.jB 0 0 (l.map jv)=true:=jC akr l
theorem anD (n m:Nat) (l:List (Int×List Int)):D.kY n m (l.map jv)=l.map jv:=oe akr n m l
attribute [go_sem] anD
abbrev runT (m:Mc) (ev:List Nat):List D:= [.int .i64 m.fin, .int .i64 m.steps, .int .i64 m.reads, .slice (.tok 0) 1 (m.out.map bl), .slice (.tok 1) 2 (List.zipWith rE m.trace ev)]
def JK (m:Mc) (d:D) (s:St):Prop:=∃ ev,d = .tuple [.agg (runT m ev), .int .i64 0]∧s.au[0]? = some (some m.out.length)∧s.au[1]? = some (some m.trace.length)∧vy s.au m.trace ev
theorem SX : ∀ {tr:List (Int×List Int)} {ev:List Nat},ev.length=tr.length→D.kY 0 0 (List.zipWith rE tr ev)=tr.map jv
 | [],ev,_=>by cases ev<;>simp[D.kY]
 |e::tr,[],h=>by cases h
 |e::tr,k::ev,h=>by
  have hg:Tag.fg 0 (if e.2 = []then .shared else .tok k) = .shared:=by split<;>rfl
  have hr:D.kY 0 0 (e.2.map bl)=e.2.map bl:=Ez 0 0 _ (gY e.2)
  simp only[List.zipWith_cons_cons,zaf,D.kY,rE,Qn,jv,D.iI,D.fg,hg,hr,SX (by simpa using h)]
theorem JK.fg {m:Mc} {d:D} {s:St} (h:JK m d s):d.fg 0 0 = .tuple [.agg (fq m), .int .i64 0]:=by
 obtain⟨ev,rfl,_,_,h⟩:=h
 have hr:D.kY 0 0 (m.out.map bl)=m.out.map bl:=Ez 0 0 _ (gY m.out)
 simp only[D.fg,D.iI,runT,fq,Tag.fg,hr,SX h.len,zaT,if_false]
theorem bk.aq7 {P:Program} {f:FuncId} {args:List D} {R:D→St→Prop} {d':D} (h:bk P f args S0 R) (hq : ∀ d s,R d s→d.fg 0 0=d'):ay P f args S0 d' S0:=by
 intro M w fH r kM dJ ha
 refine(h M w fH r kM dJ ha).mono ?_
 rintro e w' ⟨M',d,v,s',h1,hQ,h3,h4,h5⟩
 refine⟨M',d',v,S0,h1,⟨rfl,rfl⟩, ?_, ?_, ?_⟩
 ·exact h3.cut (show S0.ag.length≤0 from zak _) (show S0.au.length≤0 from zak _)
 ·exact h4.cut 0 0
 ·rw[← hq d s' hQ];exact h5.fg 0 0
section
variable {p:Pg} {T W:List Int} {fuel:Int} {B:gK} {Q:Exit→Tm→St→Prop} {mf:Mc}
theorem Inv.rP {y:Lay} {m:Mc} {s:St} {q:Nat} {r r':List D} {loc:List (Nat×List D)} (h:Inv p T W y m ((q,r)::loc) s) (hq : ∀ x∈loc,x.1≠q) (hr:r.length≠4):Inv p T W y m ((q,r')::loc) ⟨s.ag.set q r',s.au⟩:=by
 obtain⟨h1,h2⟩:=h.loc (q,r) (zaz ..)
 simp only at h1 h2
 have ne : ∀ {o:Nat} {x:List D},s.ag[o]? = some x→o≠q→(s.ag.set q r')[o]? = some x:=fun e hn=>by rw[zam (Ne.symm hn)];exact e
 have no : ∀ o∈y.own,o≠q:=fun o mo e=>h2 (e ▸ mo)
 have ka : ∀ {d:D} {cs:List D},(∀ o∈d.arr,o∈y.own)→lf s d cs→lf ⟨s.ag.set q r',s.au⟩ d cs:=fun hd ha=>ha.keep fun o mo=>by
  show(s.ag.set q r')[o]? = _
  rw[zam (Ne.symm (no o (hd o mo)))]
 obtain⟨l,hl⟩:=h.bq
 refine⟨ne h.fi (no 0 (by simp[Lay.own])),h.t0,h.t1,h.ev,h.len,fun i c v e1 e2=>ne (h.cell i c v e1 e2) (no c (by simp[Lay.own,zad e1])),h.vT,fun i o fr e1 e2=>?_,ka (fun o m=>by simp[Lay.own,m]) h.stack,⟨l,ka (fun o m=>by simp[Lay.own,m]) hl⟩,h.own,fun x mx=>?_⟩
 ·obtain⟨f1,f2,f3⟩:=h.frame i o fr e1 e2
  exact⟨ne f1 (Kh f1 h1 fun e=>hr (by rw[← e];rfl)),f2,f3⟩
 ·rcases zaq.1 mx with rfl | mx
  ·exact⟨by simp[cY h1],h2⟩
  ·obtain⟨f1,f2⟩:=h.loc x (zan _ mx)
   exact⟨ne f1 (hq x mx),f2⟩
abbrev zh:List D:= [.int .i64 0, .int .i64 0, .int .i64 0, .slice .full 0 [], .slice .full 0 []]
structure Lh (p:Pg) (T W:List Int) (fuel:Int):Prop where
 ok:p.gb
 right:p.Right
 W:W.length<1000000
 T:T.length<1000000
 fuel:0≤fuel∧fuel≤1000000
structure At (p:Pg) (T W:List Int) (fuel:Int) (a:Int) (m:Mc) (y:Lay) (q:Nat) (s:St):Prop where
 inv : ∃ r:List D,r.length=17∧Inv p T W y m [(q,r),(2,zh)] s
 ok:nS p p.aU.L a m
 sz:xq m
 fin:m.fin=0
 fuel:m.steps≤fuel
abbrev TMr (fuel:Int) (q:Nat) (a:Int):Tm:= [(2, .int .i64 fuel),(8, .ptr 2 0),(10, .ptr 0 0),(11, .ptr q 0),(13, .int .i64 a)]
abbrev JJ (B:gK) (Q:Exit→Tm→St→Prop):=CF Tryz.prog B 131 Q06 Q
theorem JL (hQ:Hi [(8,some (true,5)),(9,none)] (JK mf)=Q) {y:Lay} {q:Nat} {r:List D} {s:St} (h:Inv p T W y mf [(q,r),(2,zh)] s) {tm:Tm} (ht:yG tm [(8, .ptr 2 0),(10, .ptr 0 0)]):JJ B Q (.goto 2) tm s:=by
 refine Hn (r:= .seq .skip Q0B) rfl (nM.iS ht (nM.fl ?_))
 have hm:=h.fi
 rw[fZ]at hm
 have h2:=(h.loc (2,zh) (by simp)).1
 have hl:=cY h2
 have⟨hD,hZ,gC,gD⟩:=bc
 have uh : ∀ r,(s.ag.set 2 r)[2]? = some r:=fun r=>zaO hl
 refine bT (ly hm h2 uh) ?_
 (refine dI hQ ?_;simp only[bZ,cd,dn,dq,go_sem,uh])
 exact⟨y.ev,rfl,h.t0,h.t1,h.ev⟩
theorem QA (hS:Lh p T W fuel) (hQ:Hi [(8,some (true,5)),(9,none)] (JK mf)=Q) {a:Int} {m:Mc} {y:Lay} {q:Nat} {s:St} {g:Int} (h:At p T W fuel a m y q s)
 (Fc:m.back p.aU.L g=(none,mf)∨∃ a' m',m.back p.aU.L g=(some a',m')∧∀ y' s' tm,At p T W fuel a' m' y' q s'→yG tm (TMr fuel q a')→JJ B Q (.goto 1) tm s')
 {tm:Tm} (ht:yG tm [(2, .int .i64 fuel),(8, .ptr 2 0),(10, .ptr 0 0),(11, .ptr q 0),(12, .int .i64 g)]):JJ B Q (.goto 0) tm s:=by
 obtain⟨⟨r,hr,hi⟩,qj,dJ,q8,hfu⟩:=h
 obtain⟨fr,rs,f,kn,h1,h2,h3,h4⟩:=JE hS.ok qj (by have:=dJ.st;omega)
 have GU:=dJ.run (by have:=hS.fuel;omega) hS.ok hS.W hS.T
 have hc:=JF hS.ok hS.right qj (by have:=dJ.st;omega) kn
 have c1:=agK hi kn GU.L hc g
 have kP:=vg p.aU.L m g
 refine Hn (r:= .seq .skip Q0A) rfl (nM.iS ht (nM.fl ?_))
 have⟨hD,hZ,gC,gD⟩:=bc
 refine bT trivial ?_
 refine CR c1 fun d s2 GV=>?_
 obtain⟨rfl,y2,Ao,lu⟩:=GV
 have km:=lu.fi
 rw[fZ]at km
 have QB:=(lu.loc (2,zh) (by simp)).1
 have ke:=cY QB
 have uh : ∀ r,(s2.ag.set 2 r)[2]? = some r:=fun r=>zaO ke
 simp only at QB
 have hb:m.back p.aU.L g=(if(m.close p.aU.L g).2.fin==0 then some (m.close p.aU.L g).1 else none,(m.close p.aU.L g).2):=rfl
 rcases zaa ((m.close p.aU.L g).2.fin==0)with b|b
 ·rw [b,if_pos rfl]at hb
  rcases Fc with he|⟨a',m',he,hIH⟩
  ·rw[hb]at he;cases he
  ·have hk:=SJ (qo hS.right) qj he
   rw[hb]at he
   cases he
   refine bT (eK km b) ?_
   refine hIH y2 s2 _ ⟨⟨r,hr,lu⟩,hk,dJ.close g,by simpa using b,by rw[kP.2.2.2.1];exact hfu⟩ ?_
   simp only[go_sem]
   repeat' (first|exact Ok.out|with_reducible refine ej ?_ ?_)
 ·rw [b,if_neg (by simp)]at hb
  rcases Fc with he|⟨a',m',he,hIH⟩
  ·rw [hb]at he
   cases he
   refine bT (ql km b QB uh) ?_
   (refine dI hQ ?_;simp only[bZ,cd,dn,dq,go_sem,uh])
   exact⟨y2.ev,rfl,lu.t0,lu.t1,lu.ev⟩
  ·rw[hb]at he;cases he
theorem acN (hS:Lh p T W fuel) (hQ:Hi [(8,some (true,5)),(9,none)] (JK mf)=Q) : ∀ (N:Nat) (a:Int) (m:Mc) (y:Lay) (q:Nat) (s:St),At p T W fuel a m y q s→Mc.go p p.aU.L T W fuel N a m=some mf→
 Sem Tryz.prog B 131 Q09 (JJ B Q) (TMr fuel q a) s:=by
 intro N
 induction N with
 |zero=>intro a m y q s _ h;cases h
 | succ N ih=>
  intro a m y q s gV lg
  have IH : ∀ (a':Int) (m':Mc) (y':Lay) (s':St) (tm:Tm),Mc.go p p.aU.L T W fuel N a' m'=some mf→At p T W fuel a' m' y' q s'→yG tm (TMr fuel q a')→JJ B Q (.goto 1) tm s':=fun a' m' y' s' tm hg hA ht=>
   Hn (r:= .seq .skip Q09) rfl (nM.iS ht (nM.once (Sem.lN (ih a' m' y' q s' hA hg))))
  have aq8:=gV
  obtain⟨⟨r,hr,hi⟩,qj,dJ,q8,hfu⟩:=gV
  simp only[Mc.go]at lg
  refine iM ?_
  have⟨hD,hZ,gC,gD⟩:=bc
  have hm:=hi.fi
  rw[fZ]at hm
  have xx:=hi.xM
  rcases zaa (a == -1)with ba|ba
  ·have hn:m.next p p.aU.L T W fuel a=m.back p.aU.L 0:=by unfold Mc.next;rw [if_pos ba]
   rw[hn]at lg
   refine bT ba ?_
   refine QA hS hQ aq8 (g:=0) ?_ ?_
   ·rcases e:m.back p.aU.L 0 with ⟨_ | a',m'⟩
    ·rw[e]at lg;cases lg;exact .inl rfl
    ·rw[e]at lg;exact .inr ⟨a',m',rfl,fun y' s' tm h1 h2=>IH a' m' y' s' tm lg h1 h2⟩
   ·simp only [go_sem]
    repeat' (first|exact Ok.out|with_reducible refine ej ?_ ?_)
  rcases zaa (m.steps==fuel)with bf|bf
  ·have hn:m.next p p.aU.L T W fuel a=(none,{m with fin:=2}):=by unfold Mc.next;rw [if_neg (by simp [ba]),if_pos bf]
   rw[hn]at lg
   cases lg
   have h2:=hi.nJ (m':= {m with fin:=2}) rfl rfl hi.t0 hi.t1 hi.ev
   rw[fZ]at h2
   simp only at h2
   refine bT (ql ba bf hm xx) ?_
   refine JL hQ h2 ?_
   simp only[go_sem]
   repeat' (first|exact Ok.out|with_reducible refine ej ?_ ?_)
  -- a statement
  obtain⟨fr,rs,f,kn,h1,h2,h3,h4⟩:=JE hS.ok qj (by have:=dJ.st;omega)
  have aq9:a≠ -1:=by simpa using ba
  obtain⟨hx,sb,iJ,c,hac,JM⟩:=Lc qj h4 hS.right aq9 h1
  have hfb:=hS.fuel
  have GU:=dJ.run (by omega) hS.ok hS.W hS.T
  have akt:m.steps<fuel:=by
   have h:m.steps≠fuel:=by simpa using bf
   omega
  have xy:=dJ.steps
  have zf:IntKind.wrap .i64 (m.steps+1)=m.steps+1:=dE (by omega) (by omega)
  have SV:IntKind.wrap .i64 (a - 1)=(c:Int):=by
   have:=(zac.1 JM).1
   have:=GU.L
   rw[show a - 1=(c:Int) by omega];exact dE (by omega) (by omega)
  have cS:(gn p)[2]? = some (.slice .shared 17 (p.aU.L.map dU)):=rfl
  have MG:=hi.nJ (m':= {m with steps:=m.steps+1}) rfl rfl hi.t0 hi.t1 hi.ev
  generalize iG:fp p.aU.L a=it at *
  have ara:2≠q:=by
   have e1:=(hi.loc (q,r) (by simp)).1
   have e2:=(hi.loc (2,zh) (by simp)).1
   exact Kh e2 e1 fun e=>by have e':zh=r:=e;rw[← e']at hr;cases hr
  have acO:17≤r.length:=by omega
  have hdr:List.drop 17 r = []:=zb6 (by omega)
  have lu:=MG.rP (r':=dU it) (by simpa using ara) (by omega)
  have jQ:=MG.fi
  have Zk:=(MG.loc (q,r) (by simp)).1
  have zF:=(lu.loc (q,dU it) (by simp)).1
  rw[fZ]at jQ lu Zk zF
  simp only at jQ lu Zk zF
  have hle:q<s.ag.length:=cY (hi.loc (q,r) (by simp)).1
  have Wi:na ({m with steps:=m.steps+1} : Mc) fr rs:=⟨kn.st,kn.len,kn.names,kn.vars⟩
  have Wj:NM p T W ({m with steps:=m.steps+1} : Mc):=⟨GU.W,GU.T,GU.trace,GU.out,GU.L,GU.P,GU.reads⟩
  have Bh:nS p p.aU.L a ({m with steps:=m.steps+1} : Mc):=qj.of rfl (zak _) qj.at_
  have hn:m.next p p.aU.L T W fuel a=(if it.s.kind==4 then(if(({m with steps:=m.steps+1} : Mc).call p W it.s).2.fin==0 then some (({m with steps:=m.steps+1} : Mc).call p W it.s).1 else none,(({m with steps:=m.steps+1} : Mc).call p W it.s).2)
   else if it.s.kind==9 then(if(({m with steps:=m.steps+1} : Mc).fP W it.s).2.fin==0 then(({m with steps:=m.steps+1} : Mc).fP W it.s).2.back p.aU.L (({m with steps:=m.steps+1} : Mc).fP W it.s).1 else(none,(({m with steps:=m.steps+1} : Mc).fP W it.s).2))
   else(if(({m with steps:=m.steps+1} : Mc).do p p.aU.L T W it).2.fin==0 then some (({m with steps:=m.steps+1} : Mc).do p p.aU.L T W it).1 else none,(({m with steps:=m.steps+1} : Mc).do p p.aU.L T W it).2)):=by
   unfold Mc.next
   rw[if_neg (by simp[ba]),if_neg (by simp[bf])]
   dsimp only
   rw[iG]
  rw[hn]at lg
  generalize rF:({m with steps:=m.steps+1} : Mc)=m1 at *
  have arb:m1.fin=0:=by rw[← rF];exact q8
  have QC:m1.steps=m.steps+1:=by rw[← rF]
  have Dj : ∀ m2:Mc,Be m1 m2→m2.st.length≤101→xq m2:=fun m2 hl hs=>dJ.less (by rw[rF];exact hl) hs
  have Fe:m1.st=m.st:=by rw[← rF]
  rcases zaa (it.s.kind==4)with b4|b4
  ·rw [if_pos b4]at lg
   have w5:it.s.kind=4:=by simpa using b4
   have c1:=Zd hS.ok hS.right.may lu Wi Wj Bh.sV (Ze hS.ok hS.right hx w5 h2 h3)
   refine bT (aqf ba bf hm xx zf jQ SV JM cS Zk zF hle b4 acO hdr @List.append_nil.{0}) ?_
   refine CR c1 fun d s2 GV=>?_
   obtain⟨rfl,y2,_,Ff⟩:=GV
   have sk:=Ff.fi
   rw[fZ]at sk
   have kP:=Fb p W m1 it.s
   have mK:(m1.call p W it.s).2.st.length≤101:=by
    rcases kP.2 with h|h
    ·rw[Fe]at h;have:=dJ.st;omega
    ·exact h
   rcases zaa ((m1.call p W it.s).2.fin==0)with b|b
   ·rw [b,if_pos rfl]at lg
    refine bT (eK sk b) ?_
    refine IH _ _ y2 s2 _ lg ⟨⟨dU it,rfl,Ff⟩,SL hS.right Bh hx w5 (by rw[sb, ← h4];unfold Mc.top;rw[Fe]) (by simpa using b) rfl arb,Dj _ kP.1 mK,by simpa using b,by rw[kP.1.steps,QC];omega⟩ ?_
    simp only[go_sem]
    repeat' (first|exact Ok.out|with_reducible refine ej ?_ ?_)
   ·rw [b,if_neg (by simp)]at lg
    cases lg
    refine bT (eK sk b) ?_
    refine JL hQ Ff ?_
    simp only[go_sem]
    repeat' (first|exact Ok.out|with_reducible refine ej ?_ ?_)
  rw[if_neg (by simp[b4])]at lg
  rcases zaa (it.s.kind==9)with b9|b9
  ·rw [if_pos b9]at lg
   have c1:=agF lu Wi (SW hS.ok hS.right hx h2 h3).said Wj.W Wj.trace
   refine bT (ah4 ba bf hm xx zf jQ SV JM cS Zk zF hle b4 b9 acO hdr @List.append_nil.{0}) ?_
   refine CR c1 fun d s2 GV=>?_
   obtain⟨rfl,y2,_,Ff⟩:=GV
   have sk:=Ff.fi
   rw[fZ]at sk
   have mB:=Di W m1 it.s
   have Zl:=(HO W m1 it.s).1
   rcases zaa ((m1.fP W it.s).2.fin==0)with b|b
   ·rw [b,if_pos rfl]at lg
    refine bT (eK sk b) ?_
    have Ca:m1.mem.length≤(m1.fP W it.s).2.mem.length:=by
     have hw:=iu m1 it.s.x
     unfold Mc.fP
     split
     ·dsimp only
      split
      ·rw[(dV _ _ _ _).2.1,hw.2.1];exact zak _
      ·rw[hw.2.1];exact zak _
     ·rw[(dV _ _ _ _).2.1];exact zak _
    refine QA (a:=a) (g:=(m1.fP W it.s).1) hS hQ (y:=y2) ⟨⟨dU it,rfl,Ff⟩,Bh.of Zl Ca Bh.at_,Dj _ mB (by rw[Zl,Fe];exact dJ.st),by simpa using b,by rw[mB.steps,QC];omega⟩ ?_ ?_
    ·rcases e:(m1.fP W it.s).2.back p.aU.L (m1.fP W it.s).1 with ⟨_ | a',m'⟩
     ·rw[e]at lg;cases lg;exact .inl rfl
     ·rw[e]at lg;exact .inr ⟨a',m',rfl,fun y' s' tm h1 h2=>IH a' m' y' s' tm lg h1 h2⟩
    ·simp only [go_sem]
     repeat' (first|exact Ok.out|with_reducible refine ej ?_ ?_)
   ·rw [b,if_neg (by simp)]at lg
    cases lg
    refine bT (eK sk b) ?_
    refine JL hQ Ff ?_
    simp only[go_sem]
    repeat' (first|exact Ok.out|with_reducible refine ej ?_ ?_)
  rw[if_neg (by simp[b9])]at lg
  have c1:=aq1 hS.ok hS.right.may lu Wi Wj (SW hS.ok hS.right hx h2 h3)
  refine bT (ah4 ba bf hm xx zf jQ SV JM cS Zk zF hle b4 b9 acO hdr @List.append_nil.{0}) ?_
  refine CR c1 fun d s2 GV=>?_
  obtain⟨rfl,y2,_,Ff⟩:=GV
  have sk:=Ff.fi
  rw[fZ]at sk
  have SY:=Ld p p.aU.L T W m1 it
  have xC:=(VW p p.aU.L T W m1 it).1
  rcases zaa ((m1.do p p.aU.L T W it).2.fin==0)with b|b
  ·rw [b,if_pos rfl]at lg
   refine bT (eK sk b) ?_
   refine IH _ _ y2 s2 _ lg ⟨⟨dU it,rfl,Ff⟩,aez hS.right Bh hx (by rw[sb, ← h4];unfold Mc.top;rw[Fe]) (by simpa using b),Dj _ SY (by rw[xC,Fe];exact dJ.st),by simpa using b,by rw[SY.steps,QC];omega⟩ ?_
   simp only[go_sem]
   repeat' (first|exact Ok.out|with_reducible refine ej ?_ ?_)
  ·rw [b,if_neg (by simp)]at lg
   cases lg
   refine bT (eK sk b) ?_
   refine JL hQ Ff ?_
   simp only[go_sem]
   repeat' (first|exact Ok.out|with_reducible refine ej ?_ ?_)
end
end Go.Abs
namespace Go.Abs
set_option maxRecDepth 8000
open Go.Proofs
def ofM (p:Pg) (T W:List Int) (fuel:Int):Mc×Int:=
 if decide (fuel<0) ||(decide (fuel > 1000000) || !(p.check.1==0))then(⟨[],[],0,0,0,[],[]⟩,1)else((runM p T W fuel).getD ⟨[],[],0,0,0,[],[]⟩,0)
theorem Dk (m:Mc):D.bJ 0 0 (fq m)=true:=by simp[fq,D.bJ,D.ok,Tag.ok,gY,aeE]
theorem agN {p:Pg} (hR:p.Right) : ∃ (j:Nat) (q:Pc),p.at jq=(j:Int)∧p.procs[j]? = some q∧p.find q.name=some q∧q.params.length=0:=by
 have h:=hR.main
 unfold Pg.pZ at h
 cases e:p.find jq with
 |none=>rw[e]at h;cases h
 |some q=>
  rw[e]at h
  obtain⟨j,h1,h2⟩:=Db (k:=0) e
  refine⟨j,q,by simpa[Pg.at]using h1,h2,by rw[Dh e];exact e, ?_⟩
  simp only[decide_eq_false_iff_not]at h
  omega
theorem aeF {p:Pg} (hO:p.gb) {T W:List Int} (hT:T.length<1000000) (hW:W.length<1000000) {fuel:Int} (b1:decide (fuel<0)=false) (b2:decide (fuel > 1000000)=false) (b3:(p.check.1==0)=true) {mf:Mc} (Au:runM p T W fuel=some mf) :
 bk Tryz.prog 14 [.agg (bG p), .slice .shared 1 (T.map bl), .int .i64 fuel, .slice .shared 1 (W.map bl)] S0 (JK mf):=by
 have cM:=fun s=>Qz hO s
 have cN:=fun s=>CP (p:=p) (by have:=hO.procs;omega) s
 rw[b3]at cM
 have FX:0≤fuel∧fuel≤1000000:=by simp at b1 b2;omega
 unfold S0
 have DR:=HU b3
 have hS:Lh p T W fuel:=⟨hO,DR,hW,hT,FX⟩
 obtain⟨j,q,j1,j2,j3,j4⟩:=agN DR
 have cP:=fun s=>(show ay Tryz.prog 32 [.dW (gn p) 0, .str [109,97,105,110]] s (.int .i64 (p.at jq)) s from Ja (p:=p) (by have:=hO.procs;omega) jq s)
 rw[j1]at cP
 have mB:=hO.procs.2.2
 refine bk.jO lX.h rfl fun B Q hB hQ=>?_
 have⟨hD,hZ,gC,gD⟩:=bc
 -- from the globals on
 have start : ∀ (y:Lay) (s:St),Inv p T W y (gZ p) [(2,zh)] s→Sem Tryz.prog B 131 Q08 (JJ B Q) [(2, .int .i64 fuel),(8, .ptr 2 0),(10, .ptr 0 0)] s:=by
  intro y s hi
  have MG:=hi.new [.int .i64 0, .int .i64 0, .slice .full 0 [], .str [], .str [], .int .i64 0, .int .i64 0, .str [], .slice .full 0 [], .bool false, .slice .full 0 [], .slice .full 0 [], .slice .full 0 [], .int .i64 0, .int .i64 0, .int .i64 0, .int .i64 0]
  have jQ:=MG.fi
  rw[fZ]at jQ
  simp only at jQ
  obtain⟨y2,s2,hF,lu⟩:=SS MG hO DR.may j2 j3 (by simp[gZ]) (l:= []) (by simp) (by simp) (by simp[gZ]) 0
  have hF':=bk.mT (.cons (Wk.refl _) (.cons (Wk.refl _) (.cons (Wk.nil .full 0 1) (jM.refl _)))) hF
  have JD:ay Tryz.prog 31 [.ptr 0 0, .int .i64 (j:Int), .slice .full 0 [], .int .i64 0] _ _ s2:=hF'
  have qj:=K5 (m:=gZ p) (qo DR) j2 (l:= []) (call:=0) (by simp[j4]) (by simp) (by simp[gZ]) (by simp[gZ]) (.inl ⟨rfl,rfl⟩)
  have lg:=Au
  unfold runM at lg
  rw[j1]at lg
  dsimp only at lg
  have kg:=w8 p (gZ p) (j:Int) [] 0
  have xD:=(FP p (gZ p) (j:Int) [] 0).1
  have EP:((gZ p).open p (j:Int) [] 0).2.fin=0:=by
   unfold Mc.open
   split<;>rfl
  have akv:=acN (B:=B) hS hQ _ _ _ y2 s.ag.length s2 ⟨⟨_,rfl,lu⟩,qj,⟨by rw[kg.2.2.2];simp[gZ],by rw[kg.1,kg.2.2.2];simp[gZ],by rw[kg.2.1,kg.2.2.2];simp[gZ],by rw[kg.2.2.1,kg.2.2.2];simp[gZ],zaZ xD (by simp[gZ])⟩,EP,by rw[kg.2.2.2];simp[gZ];exact FX.1⟩ lg
  refine Sem.lN ?_
  refine bT trivial ?_
  refine Sem.lN ?_
  refine bT trivial ?_
  refine Sem.lN ?_
  repeat' (first
 |simp only[go_sem,hD,hZ,gC,gD,jQ]
 |(with_reducible refine CU (cP _) ?_)
 |(with_reducible refine CU (JD) ?_)
 |(with_reducible refine aX hQ ?_;exact bK))
  refine Sem.lN ?_
  refine bT trivial ?_
  refine Sem.iS ?_ akv
  simp only[go_sem]
  repeat' (first|exact Ok.out|with_reducible refine ej ?_ ?_)
 generalize hG:p.globals.length=G at *
 have hGb:G≤900000:=by rw[← hG];exact hO.procs.2.2
 let row:Nat→List D:=fun k=> [.dW (gn p) 0, .slice (.tok 2) 1 ((List.range k).map fun i=>gE (3+i)), .slice .shared 1 (T.map bl), .slice .shared 1 (W.map bl), .ew 1, .ew 1, .int .i64 0, .int .i64 0, .int .i64 0, .slice (.tok 0) 1 [], .slice (.tok 1) 2 []]
 have loop : ∀ d k:Nat,k+d=G→aJ Tryz.prog B 131 Q07 (fV 0 (kp (Sem Tryz.prog B 131 Q08 (JJ B Q)) (JJ B Q))) [(2, .int .i64 fuel),(8, .ptr 2 0),(10, .ptr 0 0),(34, .int .i64 (G:Int)),(35, .int .i64 (k:Int))]
  ⟨row k::bG p::zh::List.replicate k [.int .i64 0],[some 0,some 0,some k]⟩:=by
  intro d
  induction d with
  | zero=>
   intro k hk
   have uf:k=G:=by omega
   subst uf
   have hD:decide ((k:Int)<(k:Int))=false:=by simp
   refine aJ.fl ?_
   refine bT trivial ?_
   refine Sem.iS (da:= [(2, .int .i64 fuel),(8, .ptr 2 0),(10, .ptr 0 0)]) (by simp only[go_sem];repeat' (first|exact Ok.out|with_reducible refine ej ?_ ?_)) ?_
   have hκ:((List.range k).map (3 + ·)).length=k:=by simp
   have hmp:((List.range k).map fun i=>gE (3+i))=(((List.range k).map (3 + ·)).take k).map gE:=by rw[zb5 (by simp),List.map_map];rfl
   refine Sem.wkO (fZ p T W ⟨(List.range k).map (3 + ·),[], .ew 1, .ew 1,[]⟩ (gZ p)::bG p::zh::List.replicate k [.int .i64 0]) ?_ (start ⟨(List.range k).map (3 + ·),[], .ew 1, .ew 1,[]⟩ _ ?_)
   ·refine .cons ?_ (iF.refl _)
    simp only[row,fZ,hG, ← hmp,gZ,zaj,List.zipWith_nil_left]
    exact Ok.out
   ·have O3:((List.range k).map (3 + ·)).Nodup:=by
     rw[zby,List.pairwise_map]
     exact List.Pairwise.imp (fun h=>by omega) (zby.1 List.nodup_range)
    refine⟨rfl,rfl,rfl,⟨rfl,fun i e k h=>by simp[gZ]at h,fun k h=>by cases h⟩,by simp[gZ,hG],fun i c v e1 e2=>?_,rfl,fun i o fr e1 e2=>by simp at e1, .inl ⟨rfl,rfl⟩,⟨[], .inl ⟨rfl,rfl⟩⟩, ?_,fun x mx=>?_⟩
    ·have hD:=(zac.1 e1).1
     simp only[hκ]at hD
     rw[zap,zb2 hD]at e1
     simp only[gZ]at e2
     rw[zbO (by omega)]at e2
     simp only[za9,Option.some.injEq]at e1 e2
     subst e1 e2
     show(_::_::_::List.replicate k [D.int .i64 0])[3+i]? = _
     rw[show 3+i=i+1+1+1 by omega]
     simp only[za5]
     exact zbO hD
    ·simp only [Lay.own,D.arr,zaF]
     rw[za4]
     exact⟨by simp,O3⟩
    ·rw [zaJ.1 mx]
     refine⟨rfl, ?_⟩
     simp only[Lay.own,D.arr,zaF,zaq,zaG,zbQ,not_or]
     exact⟨by omega,by rintro⟨i,_,h⟩;omega⟩
  | succ d ih=>
   intro k hk
   have hD:decide ((k:Int)<(G:Int))=true:=by simp;omega
   have aV:k<4611686018427387904:=by omega
   have dc : ∀ os,fS 1 8 (.slice (.tok 2) 1 ((List.range k).map fun i=>gE (3+i))) (.slice .full 1 [[.ptr (3+k) 0]]) ⟨os,[some 0,some 0,some k]⟩ =
    some (.slice (.tok 2) 1 ((List.range (k+1)).map fun i=>gE (3+i)),⟨os,[some 0,some 0,some (k+1)]⟩):=fun os=>by
    rw[kZ (size:=1) (by simp only[zau,List.length_range,zaH];unfold aT;omega) (by simp)]
    simp[zb4,gE]
   have hln : ∀ a b c:List D,(a::b::c::List.replicate k [D.int .i64 0]).length=3+k:=fun a b c=>by simp;omega
   have arc : ∀ a b c:List D,a::b::c::List.replicate k [D.int .i64 0]++ [[D.int .i64 0]] = a::b::c::List.replicate (k+1) [D.int .i64 0]:=fun a b c=>by rw[List.replicate_succ'];rfl
   refine aJ.fl ?_
   simp only[row]
   refine bT (ly dc hln arc) ?_
   have:=ih (k+1) (by omega)
   simp only[row,zb4,zag,zaf,zaj]at this
   refine aJ.iS ?_ this
   simp only[go_sem,ak aV]
   repeat' (first|exact Ok.out|with_reducible refine ej ?_ ?_)
 refine bT (eK b1 b2) ?_
 refine nM.once (Sem.lN ?_)
 repeat' (first
 |simp only[go_sem,hD,hZ,gC,gD,b1,b2]
 |(with_reducible refine CU (cM _) ?_)
 |(with_reducible refine aX hQ ?_;exact bK))
 refine Sem.lN ?_
 repeat' (first
 |simp only[go_sem,hD,hZ,gC,gD]
 |(with_reducible refine CU (cN _) ?_)
 |(with_reducible refine aX hQ ?_;exact bK))
 refine Sem.lN ?_
 refine bT trivial ?_
 refine aJ.tR 2 9 1 rfl rfl ?_
 refine aJ.tR 2 10 2 rfl rfl ?_
 refine aJ.tR 2 1 1 rfl rfl ?_
 simp only[zbt,zbT,zaC,za1,zas,zaV]
 have l0:=loop G 0 (by omega)
 simp only[row,List.range_zero,zaj,List.replicate_zero]at l0
 refine aJ.re [(2, .int .i64 fuel),(8, .ptr 1 0),(10, .ptr 2 0),(34, .int .i64 (G:Int)),(35, .int .i64 ((0:Nat):Int))]
  [bG p,zh,[.dW (gn p) 0, .slice (.tok 2) 1 [], .slice .shared 1 (T.map bl), .slice .shared 1 (W.map bl), .ew 1, .ew 1, .int .i64 0, .int .i64 0, .int .i64 0, .slice (.tok 0) 1 [], .slice (.tok 1) 2 []]] 3 3 (by rw[hB];exact zaA _) (by rw[hB];exact zaA _) ?_ ?_ ?_
 ·simp only [go_sem,hG]
  repeat' (first|exact Ok.out|with_reducible refine ej ?_ ?_)
 ·simp only [go_sem,aep]
  repeat' (first|exact Ok.out|with_reducible refine ej ?_ ?_)
 have r1 : ∀ os ts,D.eJ os ts (gn p)=gn p:=fun os ts=>fN os ts _ (xl p)
 have r2 : ∀ n m,D.bJ n m (gn p)=true:=fun n m=>jW (zaA n) (zaA m) _ (xl p)
 have r3 : ∀ os ts l,D.n8 os ts (List.map bl l)=List.map bl l:=fun os ts l=>kH os ts _ (gY l)
 have r4 : ∀ n m l,D.jB n m (List.map bl l)=true:=fun n m l=>oU (zaA n) (zaA m) _ (gY l)
 refine aJ.aqp hB [2,0,1] _ _ (by decide) (by simp) ?_ ?_ l0
 ·simp[EB,D.eJ,D.di,D.n8,D.bJ,D.jB,D.ok,Tag.di,Tag.ok,St.cut,r1,r2,r3,r4,Si,X5,zh]
 ·simp[Gy,Tm.get,D.di,D.ok]
theorem akw {p:Pg} (hO:p.gb) {T W:List Int} (hT:T.length<1000000) (hW:W.length<1000000) (fuel:Int) (s:St) :
 ay Tryz.prog 14 [.agg (bG p), .slice .shared 1 (T.map bl), .int .i64 fuel, .slice .shared 1 (W.map bl)] s (.tuple [.agg (fq (ofM p T W fuel).1), .int .i64 (ofM p T W fuel).2]) s:=by
 refine ay.pure ?_ (by simp[D.bJ,D.ok,Tag.ok,fW,gY]) (by simp only[D.ok,D.bJ,Dk];rfl) s
 have cM:=fun s=>Qz hO s
 have cN:=fun s=>CP (p:=p) (by have:=hO.procs;omega) s
 generalize hR:ofM p T W fuel=R
 unfold ofM at hR
 obtain⟨R1,R2⟩:=R
 dsimp only
 unfold S0
 by_cases zi:(decide (fuel<0) ||(decide (fuel > 1000000) || !(p.check.1==0)))=true
 ·rw [if_pos zi]at hR
  cases hR
  simp only[fq,zaj]
  rcases zaa (decide (fuel<0))with b1|b1
  ·refine ay.go lX.h rfl fun B Q hB hQ=> ?_
   have⟨hD,hZ,gC,gD⟩:=bc
   refine bT b1 ?_
   refine nM.fl ?_
   exact dR b1
  rcases zaa (decide (fuel > 1000000))with b2|b2
  ·refine ay.go lX.h rfl fun B Q hB hQ=> ?_
   have⟨hD,hZ,gC,gD⟩:=bc
   refine bT (eK b1 b2) ?_
   refine nM.fl ?_
   exact dR (eK b1 b2)
  ·have b3:(p.check.1==0)=false:=by simpa [b1,b2]using zi
   rw[b3]at cM
   refine ay.go lX.h rfl fun B Q hB hQ=>?_
   have⟨hD,hZ,gC,gD⟩:=bc
   refine XT (eK b1 b2) cM ?_
   refine nM.fl ?_
   exact jn (eK b1 b2) cM
 rw[if_neg zi]at hR
 simp only[zaD,not_or,zbH,Bool.not_eq_false']at zi
 obtain⟨b1,b2,b3⟩:=zi
 obtain⟨mf,Au⟩:=Aj p T W (fuel:=fuel) (by simpa using b1)
 rw[Au]at hR
 simp only[zbo]at hR
 cases hR
 exact(aeF hO hT hW b1 b2 b3 Au).aq7 fun d s h=>h.fg
def vh:Nat→List (Int×List Int)→List D
 |_,[]=> []
 |n,(id,[])::r=> .int .i64 id:: .slice .shared 1 []::vh n r
 |n,(id,v::vs)::r=> .int .i64 id:: .dr 1 n 0 (vs.length+1)::vh (n+1) r
def sq (l:List D):List D:= .int .i64 ((0:Nat):Int)::l
def w9:List (Int×List Int)→List (List D)
 | []=> []
 |(_,[])::r=>w9 r
 |(_,v::vs)::r=>sq ((v::vs).map gj)::w9 r
def Mc.nO (m:Mc) (n:Nat):Nat:=if m.out = []then n else n+1
def Mc.nT (m:Mc) (n:Nat):Nat:=if m.trace = []then m.nO n else m.nO n+1
def Mc.lP (m:Mc) (n:Nat):List (List D):=(if m.out = []then []else [sq (m.out.map gj)])++((if m.trace = []then []else [sq (vh (m.nT n) m.trace)])++w9 m.trace)
def Mc.mH (m:Mc) (n:Nat):List D:= [.int .i64 m.fin, .int .i64 m.steps, .int .i64 m.reads,if m.out = []then .slice .shared 1 []else .dr 1 n 0 m.out.length,if m.trace = []then .slice .shared 2 []else .dr 2 (m.nO n) 0 m.trace.length]
def xN:List (Int×List Int)→List Nat→List (Nat×Nat×List (List D))
 |(_,[])::tr,_::ev=>xN tr ev
 |(_,v::vs)::tr,k::ev=>(k,1,(v::vs).map bl)::xN tr ev
 |_,_=> []
def zj (m:Mc) (ev:List Nat):List (Nat×Nat×List (List D)):=(if m.out = []then []else [(0,1,m.out.map bl)])++((if m.trace = []then []else [(1,2,List.zipWith rE m.trace ev)])++xN m.trace ev)
theorem H4 : ∀ l:List Int,(l.map bl).flatten=l.map gj
 | []=>rfl
 |x::l=>by simp only[zaf,zbi,H4 l];rfl
theorem DH.ints {I:List (Nat×Nat×List (List D))} : ∀ l:List Int,DH I (l.map gj) (l.map gj)
 | []=> .nil
 |x::l=> .cons (.int _ _) (DH.ints l)
theorem vy.tail {ts:List (Option Nat)} {e:Int×List Int} {tr:List (Int×List Int)} {k:Nat} {ev:List Nat} (h:vy ts (e::tr) (k::ev)):vy ts tr ev:=
 ⟨by simpa using h.len,fun i e' k' h1 h2 h3=>by
  obtain⟨g1,g2,g3⟩:=h.own (i+1) e' k' (by simpa using h1) (by simpa using h2) h3
  exact⟨g1,g2,fun j hj=>by have:=g3 (j+1) (by simpa using hj);omega⟩,fun t m=>h.lt t (zan _ m)⟩
theorem QD {ts:List (Option Nat)} : ∀ {tr:List (Int×List Int)} {ev:List Nat},vy ts tr ev→((xN tr ev).map (·.1)).Nodup∧(∀ x∈xN tr ev,x.1∈ev∧2≤x.1)∧(xN tr ev).length=(w9 tr).length∧
 ∀ (i k z:Nat) (rows:List (List D)),(xN tr ev)[i]? = some (k,z,rows)→z=1∧rows≠ []∧ts[k]? = some (some rows.length)∧(∃ (j:Nat) (e:Int×List Int),tr[j]? = some e∧ev[j]? = some k∧Qn e.2 k = .slice (.tok k) 1 rows)∧
  ∃ l:List Int,rows=l.map bl∧(w9 tr)[i]? = some (sq (l.map gj))
 | [],ev,_=>by cases ev<;>simp[xN,w9]
 |e::tr,[],h=>by have:=h.len;cases this
 |(id,[])::tr,k::ev,h=>by
  obtain⟨h1,h2,h3,h4⟩:=QD h.tail
  refine⟨h1,fun x mx=>⟨zan _ (h2 x mx).1,(h2 x mx).2⟩,h3,fun i k' z rows hi=>?_⟩
  obtain⟨g1,g2,g3,⟨j,e,g4,g5,g6⟩,g7⟩:=h4 i k' z rows hi
  exact⟨g1,g2,g3,⟨j+1,e,by simpa using g4,by simpa using g5,g6⟩,g7⟩
 | (id,v::vs)::tr,k::ev,h=>by
  obtain⟨h1,h2,h3,h4⟩:=QD h.tail
  obtain⟨k1,k2,k3⟩:=h.own 0 (id,v::vs) k rfl rfl (by simp)
  have hk:k∉ev:=fun m=>by
   obtain⟨j,hj⟩:=zbM m
   have:=k3 (j+1) (by simpa using hj)
   omega
  refine⟨?_,fun x mx=>?_,by simp only[xN,w9,zas,h3],fun i k' z rows hi=>?_⟩
  ·simp only [xN,zaf,za4]
   refine⟨fun m=>?_,h1⟩
   obtain⟨x,mx,hx⟩:=zaG.1 m
   exact hk (hx ▸ (h2 x mx).1)
  ·rcases zaq.1 mx with rfl | mx
   ·exact⟨zaz ..,k1⟩
   ·exact⟨zan _ (h2 x mx).1,(h2 x mx).2⟩
  ·cases i with
   |zero=>
    cases hi
    exact⟨rfl,by simp,by simpa using k2,⟨0,(id,v::vs),rfl,rfl,rfl⟩,v::vs,rfl,rfl⟩
   |succ i=>
    obtain⟨g1,g2,g3,⟨j,e,g4,g5,g6⟩,g7⟩:=h4 i k' z rows (by simpa[xN]using hi)
    exact⟨g1,g2,g3,⟨j+1,e,by simpa using g4,by simpa using g5,g6⟩,by simpa[w9]using g7⟩
theorem QE {I:List (Nat×Nat×List (List D))} : ∀ {tr:List (Int×List Int)} {ev:List Nat} (n:Nat),ev.length=tr.length→(∀ (i:Nat) (x:Nat×Nat×List (List D)),(xN tr ev)[i]? = some x→I[n+i]? = some x)→DH I (List.zipWith rE tr ev).flatten (vh n tr)
 | [],ev,n,_,_=>by cases ev<;>exact .nil
 |e::tr,[],n,h,_=>by cases h
 |(id,[])::tr,k::ev,n,h,hI=> .cons (.int _ _) (.cons (.nil _ _) (QE n (by simpa using h) hI))
 |(id,v::vs)::tr,k::ev,n,h,hI=>by
  have h0:=hI 0 _ rfl
  have:=Th.tok n k 1 _ h0
  rw[zau,zas]at this
  refine .cons (.int _ _) (.cons this (QE (n+1) (by simpa using h) fun i x hx=>?_))
  rw[show n+1+i=n+(i+1) by omega]
  exact hI (i+1) x (by simpa[xN]using hx)
theorem JK.abC {P:Program} {f:FuncId} {args:List D} {m:Mc} (h:bk P f args S0 (JK m)):ay P f args S0 (.tuple [.agg (m.mH 0), .int .i64 0]) ⟨m.lP 0,[]⟩:=by
 intro M0 w0 fH r0 kM dJ ha
 refine(h M0 w0 fH r0 kM dJ ha).mono ?_
 rintro en w ⟨M,d,v,s,rfl,⟨ev,rfl,t0,t1,he⟩,e,r,hv⟩
 obtain⟨q1,q2,q3,q4⟩:=QD he
 have Dw:(List.zipWith rE m.trace ev).length=m.trace.length:=by rw[List.length_zipWith,he.len,Nat.min_self]
 -- the parts of what is given
 obtain⟨u3,u4,hu3,hu4⟩ : ∃ u3 u4,RD M s (.slice (.tok 0) 1 (m.out.map bl)) u3∧RD M s (.slice (.tok 1) 2 (List.zipWith rE m.trace ev)) u4:=by
  cases hv with
  | tuple _ vs g1 g2=>
   have h0:=g2 0 _ _ rfl (za6 (by simp at g1;omega))
   generalize vs[0]'(by simp at g1;omega)=x at h0
   cases h0 with
   |agg _ us k1 _ k2=>
    simp only[runT,zas,zaC]at k1
    exact⟨_,_,k2 3 _ _ rfl (za6 (by omega)),k2 4 _ _ rfl (za6 (by omega))⟩
 have hO : ∀ {α:Type} {l:List Int} {a b:α},l≠ []→(if l = []then a else b)=b:=fun h=>if_neg h
 have hlen:((if m.out = []then []else [(0,1,m.out.map bl)]):List (Nat×Nat×List (List D))).length=m.nO 0:=by unfold Mc.nO;split<;>rfl
 have NN:((if m.trace = []then []else [(1,2,List.zipWith rE m.trace ev)]):List (Nat×Nat×List (List D))).length+m.nO 0=m.nT 0:=by unfold Mc.nT;split<;>simp<;>omega
 -- which items there are
 have hI : ∀ (i k z:Nat) (rows:List (List D)),(zj m ev)[i]? = some (k,z,rows)→(m.out≠ []∧i=0∧k=0∧z=1∧rows=m.out.map bl)∨(m.trace≠ []∧i=m.nO 0∧k=1∧z=2∧rows=List.zipWith rE m.trace ev)∨
  ∃ j,i=m.nT 0+j∧(xN m.trace ev)[j]? = some (k,z,rows):=fun i k z rows hi=>by
  unfold zj at hi
  rcases zaE i (m.nO 0)with h1|h1
  ·rw [zai (by rw [hlen];exact h1)]at hi
   split at hi
   ·simp at hi
   ·rename_i dj
    have:i=0:=by unfold Mc.nO at h1;rw[if_neg dj]at h1;omega
    subst this
    cases hi
    exact .inl ⟨dj,rfl,rfl,rfl,rfl⟩
  ·rw [zao (by rw [hlen];exact h1),hlen]at hi
   rcases zaE i (m.nT 0)with h2|h2
   ·rw [zai (by omega)]at hi
    split at hi
    ·simp at hi
    ·rename_i dj
     have:i - m.nO 0=0:=by unfold Mc.nT at h2;rw[if_neg dj]at h2;omega
     rw[this]at hi
     cases hi
     exact .inr (.inl ⟨dj,by omega,rfl,rfl,rfl⟩)
   ·rw [zao (by omega)]at hi
    refine .inr (.inr ⟨i - m.nT 0,by omega, ?_⟩)
    rw[← hi]
    congr 1;omega
 have hOut:m.out≠ []→(zj m ev)[0]? = some (0,1,m.out.map bl)∧(m.lP 0)[0]? = some (sq (m.out.map gj)):=fun dj=>by
  unfold zj Mc.lP
  rw[if_neg dj,if_neg dj]
  exact⟨rfl,rfl⟩
 have ha1:((if m.out = []then []else [sq (m.out.map gj)]):List (List D)).length=m.nO 0:=by unfold Mc.nO;split<;>rfl
 have ha2:((if m.trace = []then []else [sq (vh (m.nT 0) m.trace)]):List (List D)).length+m.nO 0=m.nT 0:=by unfold Mc.nT;split<;>simp<;>omega
 have hTr:m.trace≠ []→(zj m ev)[m.nO 0]? = some (1,2,List.zipWith rE m.trace ev)∧(m.lP 0)[m.nO 0]? = some (sq (vh (m.nT 0) m.trace)):=fun dj=>by
  unfold zj Mc.lP
  constructor
  ·rw[zao (by rw[hlen];exact zak _),hlen,Nat.sub_self,if_neg dj];rfl
  ·rw[zao (by rw[ha1];exact zak _),ha1,Nat.sub_self,if_neg dj];rfl
 have hVs : ∀ j,(zj m ev)[m.nT 0+j]? = (xN m.trace ev)[j]? ∧(m.lP 0)[m.nT 0+j]? = (w9 m.trace)[j]? :=fun j=>by
  unfold zj Mc.lP
  constructor
  ·rw [zao (by omega),zao (by omega)]
   congr 1;omega
  ·rw [zao (by omega),zao (by omega)]
   congr 1;omega
 refine Exists.elim (r0.abC e r (I:=zj m ev) (m.lP 0) ?_ ?_ ?_ ?_) fun M' ⟨r',e',rd⟩=>?_
 ·unfold zj
  rw[zag,zag,za8,za8]
  have g1 : ∀ a∈(xN m.trace ev).map (·.1),2≤a:=fun a ma=>by
   obtain⟨x,mx,rfl⟩:=zaG.1 ma
   exact(q2 x mx).2
  refine⟨by split<;>simp,⟨by split<;>simp,q1,fun a ma b mb e=>?_⟩,fun a ma b mb e=>?_⟩
  ·have:=g1 b mb
   split at ma<;>simp at ma
   omega
  ·have h0:a=0:=by split at ma <;> simp at ma;exact ma
   rcases zar.1 mb with mb|mb
   ·split at mb <;> simp at mb
    omega
   ·have:=g1 b mb;omega
 ·intro i k z rows hi
  rcases hI i k z rows hi with ⟨dj,rfl,rfl,rfl,rfl⟩|⟨dj,rfl,rfl,rfl,rfl⟩|⟨j,rfl,hj⟩
  ·exact⟨by decide,by simpa using dj,by simpa using t0,u3,hu3⟩
  ·exact⟨by decide,fun h=>dj (za2 (by rw[← Dw,h];rfl)),by rw[Dw];exact t1,u4,hu4⟩
  ·obtain⟨rfl,g2,g3,⟨a,x,g4,g5,g6⟩,_⟩:=q4 j k z rows hj
   refine⟨by decide,g2,g3, ?_⟩
   have dL:(List.zipWith rE m.trace ev)[a]? = some (rE x k):=by rw[List.getElem?_zipWith,g4,g5]
   have dj:(List.zipWith rE m.trace ev)≠ []:=fun h=>by rw[h]at dL;simp at dL
   clear hI hOut hTr hVs hlen NN
   generalize List.zipWith rE m.trace ev=R at hu4 dL dj
   cases hu4 with
   |jw _ _ cap hc h=>exact absurd rfl dj
   |slice _ _ _ b q cap hl hs h1 h2 hta=>
    obtain⟨u,hu⟩:=h1 a _ 1 (Qn x.2 k) dL rfl
    rw[← g6]
    exact⟨u,h2 a _ 1 _ u dL rfl hu⟩
 ·unfold zj Mc.lP
  simp only[zal]
  have e1:=NN;have e2:=ha2
  rw[hlen,ha1]
  omega
 ·intro i k z rows hi
  rcases hI i k z rows hi with ⟨dj,rfl,rfl,rfl,rfl⟩|⟨dj,rfl,rfl,rfl,rfl⟩|⟨j,rfl,hj⟩
  ·exact⟨_,(hOut dj).2,by rw[H4];exact .ints _⟩
  ·exact⟨_,(hTr dj).2,QE _ he.len fun i x hx=>by rw[(hVs i).1];exact hx⟩
  ·obtain⟨rfl,_,_,_,l,rfl,g8⟩:=q4 j k z rows hj
   exact⟨_,(hVs j).2.trans g8,by rw[H4];exact .ints _⟩
 ·refine⟨M',_,v,_,rfl,⟨rfl,rfl⟩,e',r',rd _ _ v ?_ hv⟩
  have h3:Th (zj m ev) (.slice (.tok 0) 1 (m.out.map bl)) (if m.out = []then .slice .shared 1 []else .dr 1 0 0 m.out.length):=by
   split
   ·rename_i dj;rw[dj];exact .nil _ _
   ·rename_i dj
    have:=Th.tok 0 0 1 _ (hOut dj).1
    rwa [zau]at this
  have h4:Th (zj m ev) (.slice (.tok 1) 2 (List.zipWith rE m.trace ev)) (if m.trace = []then .slice .shared 2 []else .dr 2 (m.nO 0) 0 m.trace.length):=by
   split
   ·rename_i dj;rw[dj,List.zipWith_nil_left];exact .nil _ _
   ·rename_i dj
    have:=Th.tok _ 1 2 _ (hTr dj).1
    rwa [Dw]at this
  have hc:DH (zj m ev) (runT m ev) (m.mH 0):= .cons (.int _ _) (.cons (.int _ _) (.cons (.int _ _) (.cons h3 (.cons h4 .nil))))
  have hp:DH (zj m ev) [.agg (runT m ev), .int .i64 0] [.agg (m.mH 0), .int .i64 0]:= .cons (.agg _ _ hc.1 hc.2) (.cons (.int _ _) .nil)
  exact .tuple _ _ hp.1 hp.2
theorem zk {a b:List Int} (ha:a.length<1000000000) (g:Tag) (s:St):ay Tryz.prog 12 [.slice .shared 1 (a.map bl), .slice g 1 (b.map bl)] s (.bool (a==b)) s:=by
 refine bk.mT (.cons (Wk.refl _) (.cons (Wk.shared _ _ _) .nil)) (ay.pure ?_ (by simp[D.bJ,D.ok,Tag.ok,gY]) rfl s)
 generalize h:(a==b)=R
 unfold S0
 by_cases hl:a.length=b.length
 ·have e1:((a.length:Int) != (b.length:Int))=false:=by simp [hl]
  refine ay.go yI.h rfl fun B Q hB hQ=>?_
  have⟨hD,hZ,gC,gD⟩:=bc
  refine bT e1 ?_
  refine dg 0 0 (aJ.ind (ι:=List Int×List Int×Nat) (fun i=>a.drop i.2.2=i.1∧b.drop i.2.2=i.2.1∧(i.1==i.2.1)=R) (fun i=>i.1.length)
   (fun i=> [(0, .slice .shared 1 (a.map bl)),(1, .slice .shared 1 (b.map bl)),(12, .int .i64 (a.length:Int)),(13, .int .i64 (i.2.2:Int))]) (fun i=>⟨[],[]⟩) ?_ (a,b,0) ⟨rfl,rfl,h⟩)
  rintro⟨ra,rb,k⟩ ⟨h1,h2,h⟩ IH
  dsimp only at h1 h2 h
  cases ra with
  |nil=>
   have hD:=drop_nil h1
   have:b.drop k = []:=by rw[zaI]at h1 ⊢;omega
   rw[h2]at this
   subst this
   have h':true=R:=h
   subst h'
   exact dR trivial
  | cons x ra=>
   obtain⟨hZ,g2,hD,g4⟩:=drop_cons h1
   have aV:k<4611686018427387904:=by omega
   cases rb with
   |nil=>rw[zaI]at h2;omega
   | cons y rb=>
    obtain⟨pA,IS,sh,g4'⟩:=drop_cons h2
    have e2:(x != y) = !(x==y):=rfl
    simp only[List.cons_beq_cons]at h
    rcases zaa (x==y)with c|c
    ·simp only [c,zbf]at h
     refine bT (ly e2 c pA) ?_
     refine cr 0 0 ?_ ?_ (IH (ra,rb,k+1) ⟨g2,IS,h⟩ (zae _))
     ·(simp only[go_sem,hD,hZ,gC,gD,ak aV];try exact aQ)
     ·(simp only[go_sem,hD,hZ,gC,gD,ak aV];try exact aQ)
    ·simp only [c,zaN]at h
     exact iX (ly e2 c pA)
 ·have e1:((a.length:Int) != (b.length:Int))=true:=by simp;omega
  have:(a==b)=false:=by
   rw[beq_eq_false_iff_ne];intro e;rw[e]at hl;exact hl rfl
  rw[this]at h
  subst h
  refine ay.go yI.h rfl fun B Q hB hQ=>?_
  have⟨hD,hZ,gC,gD⟩:=bc
  exact dR e1
theorem Zn {a b:List (Int×List Int)} (ha:a.length<1000000000) (hv : ∀ e∈a,e.2.length<1000000000) (s:St):ay Tryz.prog 29 [.slice .shared 2 (a.map jv), .slice .shared 2 (b.map jv)] s (.bool (a==b)) s:=by
 refine ay.pure ?_ (by simp[D.bJ,D.ok,Tag.ok,aeE]) rfl s
 generalize h:(a==b)=R
 unfold S0
 by_cases hl:a.length=b.length
 ·have e1:((a.length:Int) != (b.length:Int))=false:=by simp [hl]
  refine ay.go xH.h rfl fun B Q hB hQ=>?_
  have⟨hD,hZ,gC,gD⟩:=bc
  refine bT e1 ?_
  refine dg 0 0 (aJ.ind (ι:=List (Int×List Int)×List (Int×List Int)×Nat) (fun i=>a.drop i.2.2=i.1∧b.drop i.2.2=i.2.1∧(i.1==i.2.1)=R) (fun i=>i.1.length)
   (fun i=> [(0, .slice .shared 2 (a.map jv)),(1, .slice .shared 2 (b.map jv)),(12, .int .i64 (a.length:Int)),(13, .int .i64 (i.2.2:Int))]) (fun i=>⟨[],[]⟩) ?_ (a,b,0) ⟨rfl,rfl,h⟩)
  rintro⟨ra,rb,k⟩ ⟨h1,h2,h⟩ IH
  dsimp only at h1 h2 h
  cases ra with
  |nil=>
   have hD:=drop_nil h1
   have:b.drop k = []:=by rw[zaI]at h1 ⊢;omega
   rw[h2]at this
   subst this
   have h':true=R:=h
   subst h'
   exact dR trivial
  | cons x ra=>
   obtain⟨hZ,g2,hD,g4⟩:=drop_cons h1
   have aV:k<4611686018427387904:=by omega
   cases rb with
   |nil=>rw[zaI]at h2;omega
   |cons y rb=>
    obtain⟨pA,IS,sh,g4'⟩:=drop_cons h2
    obtain⟨x1,x2⟩:=x
    obtain⟨y1,y2⟩:=y
    have e2:(x1 != y1) = !(x1==y1):=rfl
    have hb:((x1,x2)==(y1,y2))=(x1==y1 && x2==y2):=rfl
    have cE:=fun g s=>zk (a:=x2) (b:=y2) (hv _ (zad hZ)) g s
    simp only[List.cons_beq_cons,hb]at h
    rcases zaa (x1==y1)with c|c<;>rcases zaa (x2==y2)with c2|c2<;>simp only[c,c2,zbf,zaN]at h
    ·repeat' (first
 |simp only[go_sem,hD,hZ,gC,gD,e2,c,c2,pA,jv]
 |(with_reducible refine CU (cE _ _) ?_)
 | (with_reducible refine aX hQ ?_;exact bK))
     refine cr 0 0 ?_ ?_ (IH (ra,rb,k+1) ⟨g2,IS,h⟩ (zae _))
     ·(simp only[go_sem,hD,hZ,gC,gD,ak aV,jv];try exact aQ)
     ·(simp only[go_sem,hD,hZ,gC,gD,ak aV,jv];try exact aQ)
    ·repeat' (first
 |simp only[go_sem,hD,hZ,gC,gD,e2,c,c2,pA,jv]
 |(with_reducible refine CU (cE _ _) ?_)
 |(with_reducible first|refine fv fun hc=>?_|refine fw fun hc=>?_|refine fx (fun hc=>?_) fun hc=>?_)<;>(try simp only[hc,bs,↓reduceIte]at h)<;>try simp only[hc]
 | ((with_reducible refine aX hQ ?_);(try cases h);simp only [bZ,cd,dn,dq,go_sem,hD,hZ,gC,gD,e2,c,c2,pA,jv];try exact kI))
    ·repeat' (first
 |simp only[go_sem,hD,hZ,gC,gD,e2,c,c2,pA,jv]
 |(with_reducible refine CU (cE _ _) ?_)
 |(with_reducible first|refine fv fun hc=>?_|refine fw fun hc=>?_|refine fx (fun hc=>?_) fun hc=>?_)<;>(try simp only[hc,bs,↓reduceIte]at h)<;>try simp only[hc]
 | ((with_reducible refine aX hQ ?_);(try cases h);simp only [bZ,cd,dn,dq,go_sem,hD,hZ,gC,gD,e2,c,c2,pA,jv];try exact kI))
    ·repeat' (first
 |simp only[go_sem,hD,hZ,gC,gD,e2,c,c2,pA,jv]
 |(with_reducible refine CU (cE _ _) ?_)
 |(with_reducible first|refine fv fun hc=>?_|refine fw fun hc=>?_|refine fx (fun hc=>?_) fun hc=>?_)<;>(try simp only[hc,bs,↓reduceIte]at h)<;>try simp only[hc]
 |((with_reducible refine aX hQ ?_);(try cases h);simp only[bZ,cd,dn,dq,go_sem,hD,hZ,gC,gD,e2,c,c2,pA,jv];try exact kI))
 ·have e1:((a.length:Int) != (b.length:Int))=true:=by simp;omega
  have:(a==b)=false:=by
   rw[beq_eq_false_iff_ne];intro e;rw[e]at hl;exact hl rfl
  rw[this]at h
  subst h
  refine ay.go xH.h rfl fun B Q hB hQ=>?_
  have⟨hD,hZ,gC,gD⟩:=bc
  exact iX e1
structure Mc.SZ (m:Mc):Prop where
 out:m.out.length<1000000000
 trace:m.trace.length<1000000000
 bq : ∀ e∈m.trace,e.2.length<1000000000
def FY (a b:Mc):Bool:=a.fin==b.fin && (a.steps==b.steps && (a.reads==b.reads && a.out==b.out))
def JN (a b:Mc):Bool:=FY a b && a.trace==b.trace
theorem agO {a b:Mc} (ha:a.SZ) (s:St):ay Tryz.prog 28 [.agg (fq a), .agg (fq b)] s (.bool (FY a b)) s:=by
 refine ay.pure ?_ (by simp[D.bJ,D.ok,Dk]) rfl s
 have cE:=fun g s=>zk (a:=a.out) (b:=b.out) ha.out g s
 generalize h:FY a b=R
 simp only[FY]at h
 unfold S0
 simp only[fq]
 rcases zaa (a.fin==b.fin)with c1|c1
 all_goals rcases zaa (a.steps==b.steps)with c2|c2
 all_goals rcases zaa (a.reads==b.reads)with c3|c3
 all_goals
  simp only[c1,c2,c3,zbf,zaN]at h
  subst h
  refine ay.go IW.h rfl fun B Q hB hQ=>?_
  have⟨hD,hZ,gC,gD⟩:=bc
  exact jn (ly c1 c2 c3) cE
theorem agP {a b:Mc} (ha:a.SZ) (s:St):ay Tryz.prog 13 [.agg (fq a), .agg (fq b)] s (.bool (JN a b)) s:=by
 refine ay.pure ?_ (by simp[D.bJ,D.ok,Dk]) rfl s
 have c1:=fun s=>agO (b:=b) ha s
 have c2:=fun s=>Zn (a:=a.trace) (b:=b.trace) ha.trace ha.bq s
 have e : ∀ m:Mc,(fq m).length=5:=fun m=>rfl
 have e0 : ∀ m:Mc,List.take 5 (fq m)=fq m:=fun m=>rfl
 have e4 : ∀ m:Mc,(fq m)[4]? = some (.slice .shared 2 (m.trace.map jv)):=fun m=>rfl
 generalize h:JN a b=R
 simp only[JN]at h
 unfold S0
 rcases zaa (FY a b)with b1|b1
 all_goals
  simp only[b1,zbf,zaN]at h
  subst h
  refine ay.go IV.h rfl fun B Q hB hQ=>?_
  have⟨hD,hZ,gC,gD⟩:=bc
  exact pT (ql b1 e e0 e4) c1 c2
theorem Li:fq (ofM ve [] [5,2] 50).1 = [.int .i64 1, .int .i64 7, .int .i64 0, .slice .shared 1 ([5,5].map bl), .slice .shared 2 ([(2,[]),(5,[5])].map jv)]:=by kernel_rfl
theorem anE:(ofM ve [] [5,2] 50).2=0:=by kernel_rfl
theorem agQ:Nat.ble (ve.size+1) 1000=true:=by kernel_rfl
theorem akB (n:Int):tL (.ofInt .f64) (.int .i64 n) (.int .i64 n)=some (.val (.float .f64 (FloatKind.nearest .f64 n))):=nd rfl
theorem acQ (a b:Nat):tL .Ti (.val (.float .f64 a)) (.val (.float .f64 b))=some (.val (.complex .f64 a b)):=nd rfl
theorem acR (a b:Nat) (d:D):tL .real (.val (.complex .f64 a b)) d=some (.val (.float .f64 a)):=nd rfl
theorem anF:tL .eq (.val (.float .f64 (FloatKind.nearest .f64 7))) (.val (.float .f64 4619567317775286272))=some (.bool true):=by
 have:FloatKind.nearest .f64 7=4619567317775286272:=by decide +kernel
 rw[this]
 have h:(FloatKind.f64.format.order 4619567317775286272 4619567317775286272==some .eq)=true:=by decide +kernel
 show(if FloatKind.f64=FloatKind.f64 then some (D.bool (FloatKind.f64.format.order 4619567317775286272 4619567317775286272==some .eq))else none)=_
 rw[if_pos rfl,h]
theorem akC:ve.gb:=by
 have xy:ve.size<100000:=by have:=zbl agQ;omega
 exact⟨YC (by decide +kernel) (by omega),by omega⟩
theorem akD (n k:Nat) (m:Mc):D.iI n k (fq m)=fq m:=jN n k _ (Dk m)
theorem agR (m:Mc):(fq m).length=5:=nd rfl
theorem acS (m:Mc):List.take 5 (fq m)=fq m:=nd rfl
theorem anG (m:Mc):(fq m)[0]? = some (.int .i64 m.fin):=nd rfl
theorem anH (m:Mc):(fq m)[1]? = some (.int .i64 m.steps):=nd rfl
theorem anI (m:Mc):(fq m)[2]? = some (.int .i64 m.reads):=nd rfl
theorem anJ (m:Mc):(fq m)[3]? = some (.slice .shared 1 (m.out.map bl)):=nd rfl
theorem anK (m:Mc):(fq m)[4]? = some (.slice .shared 2 (m.trace.map jv)):=nd rfl
attribute [go_sem] akD agR acS anG anH anI anJ anK
theorem agS (m:Mc) (s:St):ay Tryz.prog 16 [.agg (fq m)] s (.val (.complex .f64 (FloatKind.nearest .f64 m.steps) (FloatKind.nearest .f64 m.reads))) s:=by
 refine ay.pure ?_ (by simp[D.bJ,D.ok,Dk]) rfl s
 unfold S0
 refine ay.go MY.h rfl fun B Q hB hQ=>?_
 have⟨hD,hZ,gC,gD⟩:=bc
 repeat' (first
 |simp only[go_sem,hD,hZ,gC,gD,fq,akB,acQ]
 |(with_reducible refine aX hQ ?_;exact bK))
theorem anL (s:St):ay Tryz.prog 4 [] s (.bool true) s:=by
 refine ay.pure ?_ rfl rfl s
 have h1:=fun s=>aj1 s
 have h2:=fun s=>akw (T:= []) (W:= [5,2]) akC (by simp) (by simp) 50 s
 have h4:=fun s=>agS (ofM ve [] [5,2] 50).1 s
 have m1:(ofM ve [] [5,2] 50).1.steps=7:=by have:=congrArg (fun l=>l[1]?) Li;simpa[fq]using this
 have m2:(ofM ve [] [5,2] 50).1.reads=0:=by have:=congrArg (fun l=>l[2]?) Li;simpa[fq]using this
 rw[m1,m2]at h4
 rw[Li]at h2 h4
 rw[anE]at h2
 simp only[zaf,zaj,bl,jv]at h2 h4
 have h3:=fun g s=>zk (a:= [5,5]) (b:= [5,5]) (by simp) g s
 have h5:=fun g s=>zk (a:= [5]) (b:= [5]) (by simp) g s
 have e5:(([5,5] : List Int) == [5,5])=true:=rfl
 have e6:(([5] : List Int) == [5])=true:=rfl
 rw[e5]at h3
 rw[e6]at h5
 simp only[zaf,zaj,bl]at h3 h5
 have ui:=fun s=>bk.mT (.cons (Wk.refl _) (.cons (Wk.nil .full 0 1) (.cons (Wk.refl _) (.cons (Wk.shared .full _ _) .nil)))) (h2 s)
 have h2 : ∀ s,ay Tryz.prog 14 [.agg (bG ve), .slice .full 0 [], .int .i64 50, .slice .full 1 [[.int .i64 5],[.int .i64 2]]] s _ s:=ui
 clear ui
 have z0 : ∀ x:Int,(x==x)=true:=fun x=>beq_self_eq_true x
 have z2:(((2:Nat):Int)==2)=true:=rfl
 unfold S0
 refine ay.go MU.h rfl fun B Q hB hQ=>?_
 have⟨hD,hZ,gC,gD⟩:=bc
 exact Sc (Gw z0 z2 @acR @anF @Int.toNat_one @List.getElem?_cons_succ.{0} @List.getElem?_cons_zero.{0}) h1 h2 h3 h5 h4
theorem agT {p:Pg} (hO:p.gb) (T:List Int) (fuel:Int) (s:St):ay Tryz.prog 6 [.agg (bG p), .slice .shared 1 (T.map bl), .int .i64 fuel] s (.bool (p.check.1==0 && (decide (0≤fuel) && (decide (fuel≤400) && decide ((T.length:Int)≤100))))) s:=by
 refine ay.pure ?_ (by simp[D.bJ,D.ok,Tag.ok,fW,gY]) rfl s
 have h1:=fun s=>Qz hO s
 have g1:decide (fuel≥0)=decide (0≤fuel):=rfl
 unfold S0
 rcases zaa (p.check.1==0)with b1|b1
 all_goals rcases zaa (decide (0≤fuel))with b2|b2
 all_goals rcases zaa (decide (fuel≤400))with b3|b3
 all_goals rcases zaa (decide ((T.length:Int)≤100))with b4|b4
 all_goals simp only[b1,b2,b3,b4,zbf,zaN]
 all_goals rw[b1]at h1
 all_goals rw[b2]at g1
 all_goals
  refine ay.go IU.h rfl fun B Q hB hQ=>?_
  have⟨hD,hZ,gC,gD⟩:=bc
  exact wT (ly g1 b3 b4) h1
def Pg.whole (p:Pg) (T:List Int) (fuel:Int):Mc:=(ofM p T (p8 0 p.all) fuel).1
theorem Wl {p:Pg} (hO:p.gb) (sQ:p.all.length≤1000) {T:List Int} (hT:T.length<1000000) (fuel:Int) (s:St):ay Tryz.prog 8 [.agg (bG p), .slice .shared 1 (T.map bl), .int .i64 fuel] s (.agg (fq (p.whole T fuel))) s:=by
 refine ay.pure ?_ (by simp[D.bJ,D.ok,Tag.ok,fW,gY]) (by simp only[D.ok,Dk]) s
 have sb:=hO.procs
 have h1:=fun s=>VY (p:=p) (by omega) sQ 0 s
 have hW:(p8 0 p.all).length<1000000:=by have:=yV 0 p.all;omega
 have h2:=fun s=>akw hO hT hW fuel s
 unfold Pg.whole
 unfold S0
 refine ay.go zP.h rfl fun B Q hB hQ=>?_
 have⟨hD,hZ,gC,gD⟩:=bc
 exact pT trivial h1 h2
end Go.Abs
namespace Go.Abs
set_option maxRecDepth 8000
open Go.Proofs
section
variable {os ts:List Nat} {n K:Nat}
theorem Zo (l:List Int):D.bJ 0 0 (sq (l.map gj))=true:=by
 have:D.bJ 0 0 (l.map gj)=true:=by
  induction l with
  |nil=>rfl
  |cons x l ih=>simp only[zaf,D.bJ,ih];rfl
 simp only[sq,D.bJ,this];rfl
theorem Lj (ho : ∀ i,i<K→os[i]? = some (n+i)) : ∀ (tr:List (Int×List Int)) (i:Nat),i+(w9 tr).length≤K→D.eJ os ts (vh i tr)=vh (n+i) tr
 | [],i,_=>by simp[vh,D.eJ]
 |(id,[])::tr,i,h=>by
  simp only[vh,D.eJ,D.di,Tag.di,D.n8,Lj ho tr i h]
 |(id,v::vs)::tr,i,h=>by
  simp only[w9,zas]at h
  simp only[vh,D.eJ,D.di,ho i (by omega),Lj ho tr (i+1) (by omega),Nat.add_assoc]
theorem Lk : ∀ tr:List (Int×List Int),(w9 tr).map (D.eJ os ts)=w9 tr
 | []=>rfl
 |(id,[])::tr=>Lk tr
 |(id,v::vs)::tr=>by simp only[w9,zaf (f:=D.eJ os ts),Lk tr,fN _ _ _ (Zo (v::vs))]
theorem acT (m:Mc) (n:Nat):(m.lP n).length+n=m.nT n+(w9 m.trace).length:=by
 unfold Mc.lP Mc.nT Mc.nO
 split<;>split<;>simp<;>omega
theorem Zp (m:Mc) (n i:Nat):n+m.nO i=m.nO (n+i)∧n+m.nT i=m.nT (n+i):=by
 unfold Mc.nT Mc.nO
 split<;>split<;>constructor<;>omega
theorem acU (m:Mc) (ho : ∀ i,i<(m.lP 0).length→os[i]? = some (n+i)):(m.lP 0).map (D.eJ os ts)=m.lP n∧D.eJ os ts (m.mH 0)=m.mH n:=by
 have hl:=acT m 0
 have hO:=Zp m n 0
 have hlO:m.out≠ []→0<(m.lP 0).length:=fun h=>by unfold Mc.lP;rw[if_neg h];simp
 have hlT:m.trace≠ []→m.nO 0<(m.lP 0).length:=fun h=>by
  have:m.nT 0=m.nO 0+1:=by unfold Mc.nT;rw[if_neg h]
  omega
 constructor
 ·unfold Mc.lP at ho hl ⊢
  have h1:=Lj (ts:=ts) ho m.trace (m.nT 0) (by omega)
  have e0:D.eJ os ts (sq (vh (m.nT 0) m.trace))=sq (vh (m.nT n) m.trace):=by
   unfold sq
   rw[D.eJ,D.di,h1,hO.2,zaP]
  rw[zag,zag,Lk]
  congr 1
  ·split
   ·rfl
   ·simp[fN _ _ _ (Zo m.out)]
  ·congr 1
   split
   ·rfl
   ·simp[e0]
 ·have h3:D.di os ts (if m.out = []then .slice .shared 1 []else .dr 1 0 0 m.out.length)=if m.out = []then .slice .shared 1 []else .dr 1 n 0 m.out.length:=by
   split
   ·simp[D.di,Tag.di,D.n8]
   ·rename_i h
    simp[D.di,ho 0 (hlO h)]
  have h4:D.di os ts (if m.trace = []then .slice .shared 2 []else .dr 2 (m.nO 0) 0 m.trace.length)=if m.trace = []then .slice .shared 2 []else .dr 2 (m.nO n) 0 m.trace.length:=by
   split
   ·simp[D.di,Tag.di,D.n8]
   ·rename_i h
    have e:=hO.1
    rw[zaP]at e
    simp[D.di,ho _ (hlT h),e]
  unfold Mc.mH
  simp only[D.eJ,h3,h4,D.di]
end
theorem ay.anM {P:Program} {f:FuncId} {args:List D} {m:Mc} (h:ay P f args S0 (.tuple [.agg (m.mH 0), .int .i64 0]) ⟨m.lP 0,[]⟩) (ha:D.bJ 0 0 args=true) (s:St) :
 ay P f args s (.tuple [.agg (m.mH s.ag.length), .int .i64 0]) ⟨s.ag++m.lP s.ag.length,s.au⟩:=by
 refine bk.frame [] [] h zbP zbP (by simp) (by simp) rfl (by simp) rfl (by simp) (by rw[fN _ _ _ ha]) ha ?_
 rintro _ _ ⟨rfl,rfl⟩
 have ho : ∀ i,i<(m.lP 0).length→(lj [] s.ag.length (m.lP 0).length)[i]? = some (s.ag.length+i):=fun i hi=>by
  rw[AN]
  simp[hi]
 obtain⟨h1,h2⟩:=acU (ts:=lj [] s.au.length 0) m ho
 refine⟨?_, ?_⟩
 ·simp only[D.back,D.di,D.eJ,zaC,Nat.sub_zero,h2]
 ·simp only[St.back,l6,zaC,Nat.sub_zero,h1,zaF]
theorem acV (m:Mc) (n:Nat):(m.mH n).length=5:=nd rfl
theorem Zq (m:Mc) (n:Nat):List.take 5 (m.mH n)=m.mH n:=nd rfl
attribute [go_sem] acV Zq
def WhR (m:Mc) (s:St) (d:D) (s':St):Prop:=∃ n,d = .agg (m.mH n)∧s.ag.length≤n∧s'.au=s.au∧(∀ (o:Nat) (r:List D),s.ag[o]? = some r→s'.ag[o]? = some r)∧∀ (i:Nat) (r:List D),(m.lP n)[i]? = some r→s'.ag[n+i]? = some r
theorem acW {p:Pg} (hO:p.gb) (sQ:p.all.length≤1000) {T:List Int} (hT:T.length<1000000) {fuel:Int} (b1:decide (fuel<0)=false) (b2:decide (fuel > 1000000)=false) (b3:(p.check.1==0)=true) {m:Mc} (hm:runM p T (p8 0 p.all) fuel=some m) (s:St) :
 bk Tryz.prog 8 [.agg (bG p), .slice .shared 1 (T.map bl), .int .i64 fuel] s (WhR m s):=by
 have sb:=hO.procs
 have h1:=fun s=>VY (p:=p) (by omega) sQ 0 s
 have hW:(p8 0 p.all).length<1000000:=by have:=yV 0 p.all;omega
 have h2:=fun s=>ay.anM (JK.abC (aeF hO hT hW b1 b2 b3 hm)) (by simp[D.bJ,D.ok,Tag.ok,fW,gY]) s
 have g1 : ∀ a b:List D,(s.ag++ [a]++ [b])[s.ag.length]? = some a:=fun a b=>by simp
 have g2 : ∀ (a b:List D) (C:List (List D)),(s.ag++ [a]++ [b]++C)[s.ag.length]? = some a:=fun a b C=>by simp
 have gl : ∀ a b:List D,(s.ag++ [a]++ [b]).length=s.ag.length+2:=fun a b=>by simp
 have gL : ∀ (a b:List D) (C:List (List D)),s.ag.length+2+C.length=(s.ag++ [a]++ [b]++C).length:=fun a b C=>by simp;omega
 have g3 : ∀ (a b z:List D) (C:List (List D)) (r:List D),(s.ag++ [a]++ [b]++C++ [z]).set (s.ag.length+2+C.length) r=s.ag++ [a]++ [b]++C++ [r]:=fun a b z C r=>by rw[gL a b C];simp
 have g4 : ∀ (a b z:List D) (C:List (List D)),(s.ag++ [a]++ [b]++C++ [z])[s.ag.length+2+C.length]? = some z:=fun a b z C=>by rw[gL a b C];simp
 have g5 : ∀ (a b z:List D) (C:List (List D)),(s.ag++ [a]++ [b]++C++ [z])[s.ag.length+1]? = some b:=fun a b z C=>by simp
 have g6 : ∀ (a b z:List D) (C:List (List D)) (r:List D),((s.ag++ [a]++ [b]++C++ [z]).set (s.ag.length+1) r)[s.ag.length+1]? = some r:=fun a b z C r=>by simp
 have g7 : ∀ a:List D,(s.ag++ [a]).length=s.ag.length+1:=fun a=>by simp
 refine bk.jO zP.h rfl fun B Q hB hQ=>?_
 have⟨hD,hZ,gC,gD⟩:=bc
 repeat' (first
 |simp only[go_sem,hD,hZ,gC,gD,g1,g2,gl,g3,g4,g5,g6,g7]
 |(with_reducible refine CU (h1 _) ?_)
 |(with_reducible refine CU (h2 _) ?_)
 |(with_reducible refine aX hQ ?_;exact bK))
 (refine dI hQ ?_;simp only[bZ,cd,dn,dq,go_sem,g6])
 refine⟨s.ag.length+2,rfl,by omega,rfl,fun o r e=>?_,fun i r e=>?_⟩
 ·have:=(zac.1 e).1
  rw[zam (by omega),zaB,zaB,zaB,zai this]
  exact e
 ·have hi:=(zac.1 e).1
  rw[zam (by omega),zai (by simp;omega),zao (by simp)]
  rw[← e]
  congr 1
  simp
end Go.Abs
namespace Go.Abs
abbrev xu:D:= .int .i64 ((0:Nat):Int)
def S1 (s:St) (cells:List D) (L:Nat):Prop:=cells.length=L*2∧∀ i,i<L→(∃ x,cells[i*2]? = some (.int .i64 x))∧
 (cells[i*2+1]? = some (.slice .shared 1 [])∨∃ o x,cells[i*2+1]? = some (.dr 1 o 0 1)∧s.ag[o]? = some [xu, .int .i64 x])
structure vi (p:Pg) (row:List D) (q tr ot L K:Nat) (s:St):Prop where
 p0:s.ag[0]? = some (bG p)
 p1:s.ag[1]? = some (bG p)
 r:s.ag[q]? = some row
 len:row.length=5
 atr:0<L→tr≠q∧∃ cells,s.ag[tr]? = some (xu::cells)∧S1 s cells L
 Zs:0<K→ot≠q∧tr≠ot∧∃ l:List Int,l.length=K∧s.ag[ot]? = some (xu::l.map gj)
section
variable {p:Pg} {row:List D} {q tr ot L K:Nat} {s:St}
theorem vU (p:Pg) (x:Int) (l:List D):bG p≠ .int .i64 x::l:=fun h=>by cases h
theorem o9 {s:St} {o k:Nat} {r r0 x:List D} (h:s.ag[k]? = some r) (h0:s.ag[o]? = some r0) (hn:r≠r0):(s.ag.set o x)[k]? = some r:=by
 rw[zam (Kh h0 h (Ne.symm hn))];exact h
theorem Dl {s:St} {o:Nat} {r0 x:List D} (h0:s.ag[o]? = some r0):(s.ag.set o x)[o]? = some x:=zaO (cY h0)
theorem vi.K8 (h:vi p row q tr ot L K s) {o:Nat} {x:Int} (ho:s.ag[o]? = some [xu, .int .i64 x]) (y:Int):vi p row q tr ot L K ⟨s.ag.set o [xu, .int .i64 y],s.au⟩:=by
 refine⟨o9 h.p0 ho (vU p _ _),o9 h.p1 ho (vU p _ _),o9 h.r ho (fun e=>by have:=h.len;rw[e]at this;cases this),h.len,fun hL=>?_,fun hK=>?_⟩
 ·obtain⟨h1,cells,h2,h3,h4⟩:=h.atr hL
  refine⟨h1,cells,o9 h2 ho fun e=>by cases e;simp at h3;omega,h3,fun i hi=>?_⟩
  obtain⟨g1,g2⟩:=h4 i hi
  refine⟨g1,g2.imp id fun⟨o',x',g3,g4⟩=>?_⟩
  by_cases e:o'=o
  ·subst e;exact⟨o',y,g3,Dl ho⟩
  ·exact⟨o',x',g3,by show(List.set _ _ _)[_]? = _;rw[zam (Ne.symm e)];exact g4⟩
 ·obtain⟨h1,h2,l,h3,h4⟩:=h.Zs hK
  refine⟨h1,h2, ?_⟩
  by_cases e:ot=o
  ·subst e
   rw[ho]at h4
   have:K=1:=by
    have:=congrArg (fun z=>z.map List.length) h4
    simp at this;omega
   exact⟨[y],by simp[this],Dl ho⟩
  ·exact⟨l,h3,by show(List.set _ _ _)[_]? = _;rw[zam (Ne.symm e)];exact h4⟩
theorem vi.eY (h:vi p row q tr ot L K s) {cells:List D} (ht:s.ag[tr]? = some (xu::cells)) {k:Nat} (hk:k<L) (y:Int):vi p row q tr ot L K ⟨s.ag.set tr (xu::fU cells (k*2) [.int .i64 y]),s.au⟩:=by
 obtain⟨h1,wL,h2,h3,h4⟩:=h.atr (by omega)
 rw[ht]at h2
 cases h2
 have hlen:(fU cells (k*2) [D.int .i64 y]).length=cells.length:=tA _ _ _ (by rw[h3];simp;omega)
 have hZ:=q9 cells (k*2) [D.int .i64 y] (by rw[h3];simp;omega)
 simp only[zaH]at hZ
 refine⟨o9 h.p0 ht (vU p _ _),o9 h.p1 ht (vU p _ _),by show(List.set _ _ _)[_]? = _;rw[zam h1];exact h.r,h.len,fun _=>⟨h1,_,Dl ht,by rw[hlen,h3],fun i hi=>?_⟩,fun hK=>?_⟩
 ·obtain⟨g1,g2⟩:=h4 i hi
  refine⟨?_, ?_⟩
  ·rw [hZ]
   by_cases e:i=k
   ·subst e
    rw[if_neg (by omega),if_pos (by omega)]
    exact⟨y,by simp⟩
   ·by_cases e2:i*2<k*2
    ·rw[if_pos e2];exact g1
    ·rw[if_neg e2,if_neg (by omega)];exact g1
  ·have e0:(fU cells (k*2) [D.int .i64 y])[i*2+1]? = cells[i*2+1]? :=by
    rw[hZ]
    by_cases e2:i*2+1<k*2
    ·rw[if_pos e2]
    ·rw[if_neg e2,if_neg (by omega)]
   rw[e0]
   refine g2.imp id fun⟨o,x,g3,g4⟩=>⟨o,x,g3,o9 g4 ht fun e=>by cases e;simp at h3;omega⟩
 ·obtain⟨g1,g2,l,g3,g4⟩:=h.Zs hK
  exact⟨g1,g2,l,g3,by show(List.set _ _ _)[_]? = _;rw[zam g2];exact g4⟩
theorem vi.J3 (h:vi p row q tr ot 0 K s) {l:List Int} (ho:s.ag[ot]? = some (xu::l.map gj)) {k:Nat} (hk:k<K) (hl:l.length=K) (y:Int):vi p row q tr ot 0 K ⟨s.ag.set ot (xu::fU (l.map gj) k [.int .i64 y]),s.au⟩:=by
 obtain⟨h1,h2,_⟩:=h.Zs (by omega)
 have hs:fU (l.map gj) k [D.int .i64 y] = (l.take k++ [y]++l.drop (k+1)).map gj:=by
  simp[fU,gj]
 refine⟨o9 h.p0 ho (vU p _ _),o9 h.p1 ho (vU p _ _),by show(List.set _ _ _)[_]? = _;rw[zam h1];exact h.r,h.len,fun h=>absurd h (by omega),fun _=>⟨h1,h2,_, ?_,by rw[hs];exact Dl ho⟩⟩
 simp;omega
end
end Go.Abs
namespace Go.Abs
def jI (id:Int):List It→It
 | []=>it0
 |x::l=>if x.s.id==id then x else jI id l
def kO (bp:Int) (aH:Bool):List It→List Int
 | []=> []
 |y::l=>if y.bp==bp && y.aH==aH then y.s.id::kO bp aH l else kO bp aH l
def ud (bp:Int) (aH:Bool) (none:Int):List It→Int
 | []=>none
 |y::l=>if y.bp==bp && y.aH==aH then y.s.id else ud bp aH none l
def Bi (id:Int):List Int→Option Int
 | []=>none
 |a::l=>if l.isEmpty then none else if a==id then l.head? else Bi id l
def vj (l:List It):Nat→Int→Option Int
 | 0,_=>none
 |n+1,id=>
  match Bi id (kO (jI id l).bp (jI id l).aH l)with
  |some b=>some b
  |none=>if(jI id l).bp==0 then some (-1)else if(jI (jI id l).bp l).s.kind==6 then some (jI id l).bp else vj l n (jI id l).bp
theorem qE (bp:Int) (aH:Bool) : ∀ a b:List It,kO bp aH (a++b)=kO bp aH a++kO bp aH b
 | [],b=>rfl
 |y::a,b=>by
  simp only[zaV,kO,qE bp aH a b]
  split<;>rfl
theorem vV {bp:Int} {aH:Bool} : ∀ {l:List It},(∀ y∈l,y.bp=bp→y.aH=aH→False)→kO bp aH l = []
 | [],_=>rfl
 |y::l,h=>by
  simp only[kO]
  rw[if_neg (fun c=>by simp only[zat,beq_iff_eq]at c;exact h y (zaz ..) c.1 c.2)]
  exact vV fun z m=>h z (zan _ m)
theorem Dm (bp:Int) (aH:Bool) (d:Int) : ∀ l:List It,ud bp aH d l=(kO bp aH l).headD d
 | []=>rfl
 |y::l=>by
  simp only[ud,kO]
  split
  ·rfl
  ·exact Dm bp aH d l
theorem H6 (l:List Sm) (d:Int):(l.map (·.id)).headD d=eR l d:=by cases l<;>rfl
theorem H7 {L:List It} {n:Nat} : ∀ {l:List It} {k i:Nat} {x:It},jP (n+k) (l.map It.s)→l[i]? = some x→jI x.s.id l=x
 | y::l,k,i,x,h,hx=>by
  have hy:y.s.id=((n+k+1:Nat):Int):=h 0 y.s rfl
  simp only[jI]
  cases i with
  |zero=>simp at hx;subst hx;rw[if_pos (by simp)]
  |succ i=>
   have hxi:x.s.id=((n+k+(i+1)+1:Nat):Int):=h (i+1) x.s (by simpa using ⟨x,by simpa using hx,rfl⟩)
   rw[if_neg (by simp;omega)]
   exact H7 (L:=L) (n:=n) (k:=k+1) (i:=i) (by have:=jP.tail (n:=n+k) (v:=y.s) (l:=l.map It.s) h;exact this) (by simpa using hx)
theorem S2 {id:Int} {r:List Int} : ∀ {a:List Int},(∀ v∈a,v≠id)→Bi id (a++id::r)=r.head?
 | [],_=>by
  cases r with
  |nil=>rfl
  |cons b r=>simp[Bi]
 |v::a,h=>by
  simp only[zaV,Bi]
  rw[if_neg (by simp),if_neg (by simpa using h v (zaz ..))]
  exact S2 fun w m=>h w (zan _ m)
mutual
theorem S3 {deep bp:Int} {aH:Bool} {m:Nat} : ∀ s:Sm,jP m s.pre→∀ y∈s.pj deep bp aH,(y.bp=bp∧y.aH=aH)∨((m:Int)<y.bp∧y.bp≤m+s.pre.length)
 | ⟨id,kind,labels,name,proc,x,has,args,aY,e⟩,h,y,my=>by
  simp only[Sm.pre]at h ⊢
  have h0:id=((m+1:Nat):Int):=h.head
  have h1:=h.tail.left
  have h2:=h.tail.right
  simp only[Sm.pj,zaq,zar]at my
  simp only[zas,zal]
  rcases my with rfl|my|my
  ·exact .inl ⟨rfl,rfl⟩
  ·rcases pb aY h1 y my with ⟨g,_⟩ | g
   ·right;omega
   ·right;omega
  ·rcases pb e h2 y my with ⟨g,_⟩ | g
   ·right;omega
   ·right;omega
theorem pb {deep bp:Int} {aH:Bool} {m:Nat} : ∀ l:List Sm,jP m (Sm.cU l)→∀ y∈Sm.iH deep bp aH l,(y.bp=bp∧y.aH=aH)∨((m:Int)<y.bp∧y.bp≤m+(Sm.cU l).length)
 | [],_,y,my=>by simp[Sm.iH]at my
 | s::l,h,y,my=>by
  simp only[Sm.cU]at h ⊢
  simp only[Sm.iH,zar]at my
  simp only[zal]
  rcases my with my|my
  ·rcases S3 s h.left y my with g | g
   ·exact .inl g
   ·right;omega
  ·rcases pb l h.right y my with g | g
   ·exact .inl g
   ·right;omega
end
theorem agU (deep bp:Int) (aH:Bool) (s:Sm):(s.pj deep bp aH).length=s.pre.length:=by rw[← NK deep bp aH s,zau]
theorem H8 (deep bp:Int) (aH:Bool) (l:List Sm):(Sm.iH deep bp aH l).length=(Sm.cU l).length:=by rw[← tt deep bp aH l,zau]
theorem acX {deep bp:Int} {aH:Bool} {m:Nat} {s:Sm} (h:jP m s.pre) (hi:bp≤(m:Int)):kO bp aH (s.pj deep bp aH) = [s.id]:=by
 rw[Sm.mO]at h
 have h0:s.id=((m+1:Nat):Int):=h.head
 have h1:=h.tail.left
 have h2:=h.tail.right
 rw[YM,kO,if_pos (by simp),qE,vV (l:=Sm.iH (deep+1) s.id false s.aY),vV (l:=Sm.iH (deep+1) s.id true s.aH)]
 ·rfl
 ·intro y my e1 e2
  rcases pb _ h2 y my with g|g<;>omega
 ·intro y my e1 e2
  rcases pb _ h1 y my with g|g<;>omega
theorem Av {deep bp:Int} {aH:Bool} : ∀ {l:List Sm} {m:Nat},jP m (Sm.cU l)→bp≤(m:Int)→kO bp aH (Sm.iH deep bp aH l)=l.map (·.id)
 | [],_,_,_=>rfl
 |s::l,m,h,hi=>by
  simp only[Sm.cU]at h
  rw[Sm.iH,qE,acX h.left hi,Av h.right (by omega)];rfl
structure Pl (L:List It) (m:Im):Prop where
 item:(jI m.s.id L).s=m.s
 beh : ∀ n,m.s.id.toNat≤n→vj L n m.s.id=some m.next
 aY : ∀ d,ud m.s.id false d L=eR m.s.aY d
 aH : ∀ d,ud m.s.id true d L=eR m.s.aH d
mutual
theorem ard {L:List It} {n:Nat} {proc loop:Int} : ∀ (s:Sm) (A C:List It) (deep bp next:Int) (aH:Bool),L=A++(s.pj deep bp aH++C)→jP n (L.map It.s)→(∀ y∈A,y.bp≤n+A.length)→
 (∀ y∈C,y.bp≤n+A.length∨(n+A.length+s.pre.length:Int)<y.bp)→bp≤n+A.length→(∀ k,s.id.toNat≤k→vj L k s.id=some next)→∀ m∈s.uw proc bp next loop,Pl L m
 | ⟨id,kind,labels,name,pc,x,has,args,aY,e⟩,A,C,deep,bp,next,aH,hL,mR,hA,hC,HC,Wm,m,mm=>by
  have nV:L[A.length]? = some ⟨⟨id,kind,labels,name,pc,x,has,args,aY,e⟩,deep,bp,aH⟩:=by rw[hL,zao (zak _)];simp[Sm.pj]
  have h0:id=((n+A.length+1:Nat):Int):=mR A.length ⟨id,kind,labels,name,pc,x,has,args,aY,e⟩ (by rw[zap,nV];rfl)
  have iG:jI id L = ⟨⟨id,kind,labels,name,pc,x,has,args,aY,e⟩,deep,bp,aH⟩:=H7 (L:=L) (n:=n) (k:=0) (i:=A.length) (x:=⟨⟨id,kind,labels,name,pc,x,has,args,aY,e⟩,deep,bp,aH⟩) mR nV
  have Wn:jP (n+A.length) ((Sm.mk id kind labels name pc x has args aY e).pre++C.map It.s):=by
   have:=mR
   rw[hL,zag,zag,NK]at this
   have:=this.right
   rwa [zau]at this
  have hp:=Wn.left
  simp only[Sm.pre]at hp
  have i1:=hp.tail.left
  have i2:=hp.tail.right
  simp only[Sm.pre,zas,zal]at hC
  have nC : ∀ b:Bool,kO id b C = []:=fun b=>vV fun y my e1 _=>by rcases hC y my with g|g<;>omega
  have nA : ∀ b:Bool,kO id b A = []:=fun b=>vV fun y my e1 _=>by have:=hA y my;omega
  have r1:kO id false L=aY.map (·.id):=by
   rw[hL,Sm.pj,qE,nA,zaV,kO,if_neg (by simp;omega),qE,qE,nC,Av i1 (by omega),vV (l:=Sm.iH (deep+1) id true e) fun y my e1 e2=>by
    rcases pb _ i2 y my with g|g
    ·rw[g.2]at e2;cases e2
    ·omega]
   simp
  have r2:kO id true L=e.map (·.id):=by
   rw[hL,Sm.pj,qE,nA,zaV,kO,if_neg (by simp;omega),qE,qE,nC,Av i2 (by omega),vV (l:=Sm.iH (deep+1) id false aY) fun y my e1 e2=>by
    rcases pb _ i1 y my with g|g
    ·rw[g.2]at e2;cases e2
    ·omega]
   simp
  have Fc : ∀ k,id.toNat≤k→((jI id L).s.kind==6)=(kind==6):=fun k _=>by rw[iG]
  have ic : ∀ k,id.toNat≤k→(if(jI id L).s.kind==6 then some id else vj L k id)=some (if kind==6 then id else next):=fun k hk=>by
   rw[Fc k hk]
   split
   ·rfl
   ·exact Wm k hk
  have ll:=H8 (deep+1) id false aY
  have le:=H8 (deep+1) id true e
  simp only[Sm.uw,zaq,zar]at mm
  rcases mm with rfl|mm|mm
  ·exact⟨by rw[iG],Wm,fun d=>by rw[Dm,r1,H6],fun d=>by rw[Dm,r2,H6]⟩
  ·refine Wo aY [] (A++ [⟨⟨id,kind,labels,name,pc,x,has,args,aY,e⟩,deep,bp,aH⟩]) (Sm.iH (deep+1) id true e++C) (deep+1) id _ false (by rw [hL];simp [Sm.pj]) mR (by rw [r1];rfl) (by simp) (fun y my=> ?_) (fun y my=> ?_) (by simp;omega) (.inr ⟨by omega,ic⟩) m mm
   ·rcases zar.1 my with my | my
    ·have:=hA y my;simp;omega
    ·rw[zaJ.1 my];simp;omega
   ·rcases zar.1 my with my | my
    ·rcases pb _ i2 y my with g | g
     ·left;simp;omega
     ·right;simp;omega
    ·rcases hC y my with g | g
     ·left;simp;omega
     ·right;simp;omega
  ·refine Wo e [] (A++⟨⟨id,kind,labels,name,pc,x,has,args,aY,e⟩,deep,bp,aH⟩::Sm.iH (deep+1) id false aY) C (deep+1) id _ true (by rw [hL];simp [Sm.pj]) mR (by rw [r2];rfl) (by simp) (fun y my=> ?_) (fun y my=> ?_) (by simp;omega) (.inr ⟨by omega,ic⟩) m mm
   ·rcases zar.1 my with my | my
    ·have:=hA y my;simp;omega
    ·rcases zaq.1 my with rfl | my
     ·simp;omega
     ·rcases pb _ i1 y my with g|g<;>simp<;>omega
   ·rcases hC y my with g | g
    ·left;simp;omega
    ·right;simp;omega
theorem Wo {L:List It} {n:Nat} {proc loop:Int} : ∀ (l l1:List Sm) (A C:List It) (deep bp next:Int) (aH:Bool),L=A++(Sm.iH deep bp aH l++C)→jP n (L.map It.s)→kO bp aH L=(l1++l).map (·.id)→(∀ v∈l1,v.id≤n+A.length)→(∀ y∈A,y.bp≤n+A.length)→
 (∀ y∈C,y.bp≤n+A.length∨(n+A.length+(Sm.cU l).length:Int)<y.bp)→bp≤n+A.length→((bp=0∧next = -1)∨(0<bp∧∀ k,bp.toNat≤k→(if(jI bp L).s.kind==6 then some bp else vj L k bp)=some next))→
 ∀ m∈Sm.iV proc bp next loop l,Pl L m
 | [],l1,A,C,deep,bp,next,aH,hL,mR,dL,h1,hA,hC,HC,Fc,m,mm=>by simp[Sm.iV]at mm
 | s::l,l1,A,C,deep,bp,next,aH,hL,mR,dL,h1,hA,hC,HC,Fc,m,mm=>by
  have nV:L[A.length]? = some ⟨s,deep,bp,aH⟩:=by rw[hL,zao (zak _)];simp[Sm.iH,YM]
  have h0:s.id=((n+A.length+1:Nat):Int):=mR A.length s (by rw[zap,nV];rfl)
  have iG:jI s.id L = ⟨s,deep,bp,aH⟩:=H7 (L:=L) (n:=n) (k:=0) (i:=A.length) (x:=⟨s,deep,bp,aH⟩) mR nV
  have Wn:jP (n+A.length) ((s.pre++Sm.cU l)++C.map It.s):=by
   have:=mR
   rw[hL,zag,zag,tt,Sm.cU]at this
   have:=this.right
   rwa [zau]at this
  have i1:=Wn.left.left
  have i2:=Wn.left.right
  have hn1:1≤s.pre.length:=by rw[Sm.mO];simp
  simp only[Sm.cU,zal]at hC
  have Wm : ∀ k,s.id.toNat≤k→vj L k s.id=some (eR l next):=fun k hk=>by
   cases k with
   |zero=>omega
   | succ k=>
    simp only[vj,iG]
    rw[dL,zag,zaf,S2 (fun v mv=>by obtain⟨w,hw,rfl⟩:=zaG.1 mv;have:=h1 w hw;omega)]
    cases l with
    |cons t l=>rfl
    | nil=>
     simp only[zaj,List.head?_nil,eR]
     rcases Fc with ⟨rfl,rfl⟩|⟨g1,g2⟩
     ·rfl
     ·rw [if_neg (by simp;omega)]
      exact g2 k (by omega)
  have ll:=agU deep bp aH s
  simp only[Sm.iH]at hL
  simp only[Sm.iV,zar]at mm
  rcases mm with mm|mm
  ·refine ard s A (Sm.iH deep bp aH l++C) deep bp _ aH (by rw [hL];simp) mR hA (fun y my=> ?_) HC Wm m mm
   rcases zar.1 my with my|my
   ·rcases pb _ i2 y my with g | g
    ·left;omega
    ·right;omega
   ·rcases hC y my with g | g
    ·left;omega
    ·right;omega
  ·refine Wo l (l1++ [s]) (A++s.pj deep bp aH) C deep bp next aH (by rw [hL];simp) mR (by rw [dL];simp) (fun v mv=> ?_) (fun y my=> ?_) (fun y my=> ?_) (by simp;omega) Fc m mm
   ·rcases zar.1 mv with mv | mv
    ·have:=h1 v mv;simp;omega
    ·rw[zaJ.1 mv];simp;omega
   ·rcases zar.1 my with my | my
    ·have:=hA y my;simp;omega
    ·rcases S3 s i1 y my with g|g<;>simp<;>omega
   ·rcases hC y my with g | g
    ·left;simp;omega
    ·right;simp;omega
end
theorem QF {p:Pg} (hb:p.may=true) {i:Nat} {f:Pc} (hf:p.procs[i]? = some f):(∀ m∈Sm.iV (i:Int) 0 (-1) 0 f.body,Pl f.flat m∧gR f.flat f.flat.length m.s.id=m.loop)∧∀ d,ud 0 false d f.flat=eR f.body d:=by
 have hm:=zad hf
 have fM:=(FK hb).1 f hm
 obtain⟨base,sA⟩ : ∃ n,jP n (Sm.cU f.body):=by
  have h:=FM hb
  obtain⟨a,c,e⟩:=List.append_of_mem hm
  unfold Pg.pre at h
  rw[e,zag,List.flatten_append,zaf,zbi]at h
  exact⟨_,h.right.left⟩
 have mR:jP base (f.flat.map It.s):=by rw[fM,tt];exact sA
 have dL:kO 0 false f.flat=f.body.map (·.id):=by rw[fM];exact Av sA (by omega)
 obtain⟨q1,q2⟩:=GN hb hm
 refine⟨fun m mm=>⟨Wo f.body [] [] [] 1 0 (-1) false (by rw[fM];simp) mR (by rw[dL];rfl) (by simp) (by simp) (by simp) (by simp) (.inl ⟨rfl,rfl⟩) m mm, ?_⟩,fun d=>by rw[Dm,dL,H6]⟩
 obtain⟨j,hj⟩:=zbM mm
 have hlen:(Sm.iV (i:Int) 0 (-1) 0 f.body).length=f.flat.length:=by rw[vO,fM,H8]
 have xG:=(zac.1 hj).1
 obtain⟨a,ha⟩ : ∃ a,f.flat[j]? = some a:=⟨_,zah (by omega)⟩
 have h1:=q2 j a ha
 rw[← HM (i:Int) f,zap,hj]at h1
 simp only[za9,Im.pair,Option.some.injEq,Prod.mk.injEq]at h1
 rw[h1.1, ← h1.2]
theorem Dn {p:Pg} (hb:p.may=true) {m:Im} (hm:m∈p.aU.L) {i:Nat} {f:Pc} (hi:m.proc=(i:Int)) (hf:p.procs[i]? = some f):Pl f.flat m∧gR f.flat f.flat.length m.s.id=m.loop:=by
 rw[E1 hb]at hm
 obtain⟨j,g,h1,h2⟩:=HV p.procs 0 hm
 rw[zaS]at h2
 have h3:=(yf (R:=fun _=>True) _ 0 (-1) 0 g.body (fun _ _=>trivial) (.inl rfl) (.inl rfl) m h2).1
 have:j=i:=by omega
 subst this
 rw[hf]at h1;cases h1
 exact(QF hb hf).1 m h2
set_option maxRecDepth 8000
open Go.Proofs
abbrev zIt:List D:= [.int .i64 0, .int .i64 0, .slice .full 0 [], .str [], .str [], .int .i64 0, .int .i64 0, .str [], .slice .full 0 [], .bool false, .slice .full 0 [], .slice .full 0 [], .slice .full 0 [], .int .i64 0, .int .i64 0, .bool false]
theorem Zt (x:It):(du x)[15]? = some (.bool x.aH):=nd rfl
attribute [go_sem] Zt
theorem QG {l:List It} (hl:l.length<4611686018427387904) (id:Int) (s:St):ay Tryz.prog 50 [.slice .shared 16 (l.map du), .int .i64 id] s (.agg (du (jI id l))) s:=by
 refine ay.pure ?_ (by simp[D.bJ,D.ok,Tag.ok,tF]) (by simp[D.ok,PB]) s
 generalize h:jI id l=R
 unfold S0
 refine ay.go Kk.h rfl fun B Q hB hQ=>?_
 have⟨hD,hZ,gC,gD⟩:=bc
 refine bT trivial ?_
 refine dg 1 0 (aJ.ind (ι:=List It×Nat) (fun i=>l.drop i.2=i.1∧jI id i.1=R) (fun i=>i.1.length)
  (fun i=> [(1, .int .i64 id),(4, .ptr 0 0),(7, .slice .shared 16 (l.map du)),(8, .int .i64 (l.length:Int)),(9, .int .i64 (i.2:Int))]) (fun i=>⟨[zIt],[]⟩) ?_ (l,0) ⟨rfl,h⟩)
 rintro⟨rest,k⟩ ⟨h1,h⟩ IH
 dsimp only at h1 h
 cases rest with
 |nil=>
  have hD:=drop_nil h1
  simp only[jI]at h
  subst h
  exact iX @ajV
 | cons a rest=>
  obtain⟨hZ,g2,hD,g4⟩:=drop_cons h1
  have aV:k<4611686018427387904:=by omega
  simp only[jI]at h
  rcases zaa (a.s.id==id)with b1|b1
  ·simp only [b1,if_true]at h
   subst h
   exact dR b1
  ·simp only [b1,zab,if_false]at h
   refine bT b1 ?_
   refine cr 1 0 ?_ ?_ (IH (rest,k+1) ⟨g2,h⟩ (zae _))
   ·(simp only[go_sem,hD,hZ,gC,gD,ak aV];try exact aQ)
   ·(simp only[go_sem,hD,hZ,gC,gD,ak aV];try exact aQ)
theorem akG {l:List It} (hl:l.length<1000000000) (x:It) (s:St):ay Tryz.prog 121 [.slice .shared 16 (l.map du), .agg (du x)] s (.slice .shared 1 ((kO x.bp x.aH l).map bl)) s:=by
 refine ay.pure ?_ (by simp[D.bJ,D.ok,Tag.ok,tF,PB]) (by simp only[D.ok,Tag.ok,gY];rfl) s
 generalize h:kO x.bp x.aH l=R
 unfold S0
 refine ay.go Ng.h rfl fun B Q hB hQ=>?_
 have⟨hD,hZ,gC,gD⟩:=bc
 refine bT trivial ?_
 refine aJ.lA 5 1 rfl ?_
 simp only[go_sem,hD,hZ,gC,gD]
 refine dg 1 1 (aJ.ind (ι:=List It×Nat×List Int×Nat) (fun i=>l.drop i.2.1=i.1∧i.2.2.1++kO x.bp x.aH i.1=R∧i.2.2.2=i.2.2.1.length∧i.2.2.1.length≤i.2.1) (fun i=>i.1.length)
  (fun i=> [(3, .ptr 0 0),(5, .slice (.tok 0) 1 (i.2.2.1.map bl)),(8, .slice .shared 16 (l.map du)),(9, .int .i64 (l.length:Int)),(10, .int .i64 (i.2.1:Int))]) (fun i=>⟨[du x],[some i.2.2.2]⟩) ?_ (l,0,[],0) ⟨rfl,by simpa using h,rfl,zak _⟩)
 clear h
 rintro⟨rest,k,acc,c⟩ ⟨h1,h,h3,h4⟩ IH
 dsimp only at h1 h h3 h4
 subst h3
 cases rest with
 |nil=>
  have hD:=drop_nil h1
  simp only[kO,zaF]at h
  subst h
  exact dR trivial
 | cons a rest=>
  obtain⟨hZ,g2,hD,g4⟩:=drop_cons h1
  have aV:k<4611686018427387904:=by omega
  have gk:(acc.length+1)*9≤aT:=by simp only[aT];omega
  simp only[kO]at h
  rcases zaa (a.bp==x.bp)with b1|b1
  ·rcases zaa (a.aH==x.aH)with b2 | b2
   ·simp only [b1,b2,Bool.and_self,if_true]at h
    refine bT (ly b1 b2 gk) ?_
    refine cr 1 1 ?_ ?_ (IH (rest,k+1,acc++ [a.s.id],acc.length+1) ⟨g2,by rw[← h];simp,by simp,by simp;omega⟩ (zae _))
    ·(simp only[go_sem,hD,hZ,gC,gD,ak aV,zag,zaf,zaj,bl];try exact aQ)
    ·(simp only[go_sem,hD,hZ,gC,gD,ak aV,zag,zaf,zaj,bl];try exact aQ)
   ·simp only [b1,b2,zbp,zab,if_false]at h
    refine bT (eK b1 b2) ?_
    refine cr 1 1 ?_ ?_ (IH (rest,k+1,acc,acc.length) ⟨g2,h,rfl,by dsimp only;omega⟩ (zae _))
    ·(simp only[go_sem,hD,hZ,gC,gD,ak aV];try exact aQ)
    ·(simp only[go_sem,hD,hZ,gC,gD,ak aV];try exact aQ)
  ·simp only [b1,zaN,zab,if_false]at h
   refine bT b1 ?_
   refine cr 1 1 ?_ ?_ (IH (rest,k+1,acc,acc.length) ⟨g2,h,rfl,by dsimp only;omega⟩ (zae _))
   ·(simp only[go_sem,hD,hZ,gC,gD,ak aV];try exact aQ)
   ·(simp only[go_sem,hD,hZ,gC,gD,ak aV];try exact aQ)
theorem Ll {l:List It} (hl:l.length<4611686018427387904) (id:Int) (aH:Bool) (d:Int) (s:St):ay Tryz.prog 47 [.slice .shared 16 (l.map du), .int .i64 id, .bool aH, .int .i64 d] s (.int .i64 (ud id aH d l)) s:=by
 refine ay.pure ?_ (by simp[D.bJ,D.ok,Tag.ok,tF]) rfl s
 generalize h:ud id aH d l=R
 unfold S0
 refine ay.go IX.h rfl fun B Q hB hQ=>?_
 have⟨hD,hZ,gC,gD⟩:=bc
 refine bT trivial ?_
 refine dg 0 0 (aJ.ind (ι:=List It×Nat) (fun i=>l.drop i.2=i.1∧ud id aH d i.1=R) (fun i=>i.1.length)
  (fun i=> [(1, .int .i64 id),(2, .bool aH),(3, .int .i64 d),(8, .int .i64 0),(11, .slice .shared 16 (l.map du)),(12, .int .i64 (l.length:Int)),(13, .int .i64 (i.2:Int))]) (fun i=>⟨[],[]⟩) ?_ (l,0) ⟨rfl,h⟩)
 clear h
 rintro⟨rest,k⟩ ⟨h1,h⟩ IH
 dsimp only at h1 h
 cases rest with
 |nil=>
  have hD:=drop_nil h1
  simp only[ud]at h
  subst h
  exact dR trivial
 | cons a rest=>
  obtain⟨hZ,g2,hD,g4⟩:=drop_cons h1
  have aV:k<4611686018427387904:=by omega
  simp only[ud]at h
  rcases zaa (a.bp==id)with b1|b1
  ·rcases zaa (a.aH==aH)with b2 | b2
   ·simp only [b1,b2,Bool.and_self,if_true]at h
    subst h
    exact dR (eK b1 b2)
   ·simp only [b1,b2,zbp,zab,if_false]at h
    refine bT (eK b1 b2) ?_
    refine cr 0 0 ?_ ?_ (IH (rest,k+1) ⟨g2,h⟩ (zae _))
    ·(simp only[go_sem,hD,hZ,gC,gD,ak aV];try exact aQ)
    ·(simp only[go_sem,hD,hZ,gC,gD,ak aV];try exact aQ)
  ·simp only [b1,zaN,zab,if_false]at h
   refine bT b1 ?_
   refine cr 0 0 ?_ ?_ (IH (rest,k+1) ⟨g2,h⟩ (zae _))
   ·(simp only[go_sem,hD,hZ,gC,gD,ak aV];try exact aQ)
   ·(simp only[go_sem,hD,hZ,gC,gD,ak aV];try exact aQ)
theorem QH (bp:Int) (aH:Bool) : ∀ l:List It,(kO bp aH l).length≤l.length
 | []=>zak _
 |y::l=>by
  have:=QH bp aH l
  simp only[kO]
  split<;>simp<;>omega
theorem acY {l:List It} (hl:l.length<1000000000) : ∀ (n:Nat) (id r:Int),vj l n id=some r→ay Tryz.prog 80 [.slice .shared 16 (l.map du), .int .i64 id] S0 (.int .i64 r) S0:=by
 intro n
 induction n with
 |zero=>intro id r h;cases h
 | succ n ih=>
  intro id r h
  have c1:=fun id s=>QG (l:=l) (by omega) id s
  have c2:=fun x s=>akG (l:=l) hl x s
  simp only[vj]at h
  have hx0:=c1 id
  generalize hx:jI id l=x at *
  have wF:=QH x.bp x.aH l
  have Gq:=c2 x
  generalize hrw:kO x.bp x.aH l=row at *
  have ht : ∀ r',(if x.bp==0 then some (-1)else if(jI x.bp l).s.kind==6 then some x.bp else vj l n x.bp)=some r'→Bi id row=none→r=r':=fun r' e1 e2=>by
   rw[e2]at h
   exact Option.some.inj (h.symm.trans e1)
  unfold S0
  refine ay.go Hu.h rfl fun B Q hB hQ=>?_
  have⟨hD,hZ,gC,gD⟩:=bc
  repeat' (first
 |simp only[go_sem,hD,hZ,gC,gD]
 |(with_reducible refine CU (hx0 _) ?_)
 |(with_reducible refine CU (Gq _) ?_)
 | (with_reducible refine aX hQ ?_;exact bK))
  refine dg 1 0 (aJ.ind (ι:=List Int×Nat) (fun i=>row.drop i.2=i.1∧Bi id i.1=Bi id row∧i.2≤row.length) (fun i=>i.1.length)
   (fun i=> [(0, .slice .shared 16 (l.map du)),(1, .int .i64 id),(5, .ptr 0 0),(6, .slice .shared 1 (row.map bl)),(7, .int .i64 (i.2:Int))]) (fun i=>⟨[du x],[]⟩) ?_ (row,0) ⟨rfl,rfl,zaA _⟩)
  rintro⟨rest,k⟩ ⟨h1,h2,h5⟩ IH
  dsimp only at h1 h2 h5
  have hw:IntKind.wrap .i64 ((k:Int)+1)=((k+1:Nat):Int):=ak (by omega)
  have anO:(∃ a b r',rest=a::b::r')∨(decide (((k+1:Nat):Int)<(row.length:Int))=false∧Bi id rest=none):=by
   have hl:=congrArg List.length h1
   rw[List.length_drop]at hl
   match rest,hl with
   | [],hl=>exact .inr ⟨by simp at hl ⊢;omega,rfl⟩
   | [a],hl=>exact .inr ⟨by simp at hl ⊢;omega,rfl⟩
   |a::b::r',_=>exact .inl ⟨a,b,r',rfl⟩
  rcases anO with ⟨a,b,r',rfl⟩|⟨hD,CA⟩
  ·obtain⟨hZ,g2,_,g4⟩:=drop_cons h1
   obtain⟨pA,_,g6,_⟩:=drop_cons g2
   have hD:decide (((k+1:Nat):Int)<(row.length:Int))=true:=by simpa using g6
   simp only[Bi,List.isEmpty_cons,zab,if_false]at h2
   rcases zaa (a==id)with b1|b1
   ·rw [if_pos b1]at h2
    have:r=b:=by
     rw[← h2]at h
     exact(Option.some.inj h).symm
    subst this
    exact dR (um hw hD hZ pA b1)
   ·rw [if_neg (by simp [b1])]at h2
    refine bT (ql hw hD hZ b1) ?_
    refine cr 1 0 ?_ ?_ (IH (b::r',k+1) ⟨g2,h2,by dsimp only;omega⟩ (zae _))
    ·(simp only[go_sem,hD,hZ,gC,gD,hw];try exact aQ)
    ·(simp only[go_sem,hD,hZ,gC,gD,hw];try exact aQ)
  ·rw [CA]at h2
   rcases zaa (x.bp==0)with b1|b1
   ·have:=ht (-1) (by rw [if_pos b1]) h2.symm
    subst this
    exact dR (ly hw hD b1)
   ·have c3:=c1 x.bp
    generalize hy:jI x.bp l=y at *
    rcases zaa (y.s.kind==6)with b2|b2
    ·have:=ht x.bp (by rw [if_neg (by simp [b1]),if_pos b2]) h2.symm
     subst this
     exact jn (ql hw hD b1 b2) c3
    ·rw [← h2]at h
     simp only[b1,b2,zab,if_false]at h
     have c4:=fun s=>ay.pure (ih x.bp r h) (by simp[D.bJ,D.ok,Tag.ok,tF]) rfl s
     exact pT (ql hw hD b1 b2) c3 c4
theorem H9 {l:List It} (hl:l.length<1000000000) {n:Nat} {id r:Int} (h:vj l n id=some r) (s:St):ay Tryz.prog 80 [.slice .shared 16 (l.map du), .int .i64 id] s (.int .i64 r) s:=
 ay.pure (acY hl n id r h) (by simp[D.bJ,D.ok,Tag.ok,tF]) rfl s
theorem agV {p:Pg} (hl:p.procs.length<1000000000) (name:aD) (s:St):ay Tryz.prog 45 [.agg (bG p), .str name] s (.agg (bP ((p.find name).getD pc0))) s:=by
 refine ay.pure ?_ (by simp[D.bJ,D.ok,fW]) (by simp[D.ok,tT]) s
 unfold Pg.find
 generalize h:iB name p.procs=q
 unfold S0
 refine ay.go Kj.h rfl fun B Q hB hQ=>?_
 have⟨hD,hZ,gC,gD⟩:=bc
 refine bT @Yy ?_
 refine dg 2 0 (aJ.ind (ι:=List Pc×Nat) (fun i=>p.procs.drop i.2=i.1∧iB name i.1=q) (fun i=>i.1.length)
  (fun i=> [(1, .str name),(4, .ptr 1 0),(8, .slice .shared 5 (p.procs.map bP)),(9, .int .i64 (p.procs.length:Int)),(10, .int .i64 (i.2:Int))]) (fun i=>⟨[bG p,[.str [], .slice .full 0 [], .slice .full 0 [], .slice .full 0 [], .slice .full 0 []]],[]⟩) ?_ (p.procs,0) ⟨rfl,h⟩)
 rintro⟨rest,k⟩ ⟨h1,h⟩ IH
 dsimp only at h1 h
 cases rest with
 |nil=>
  have hD:=drop_nil h1
  simp only[iB]at h
  subst h
  exact iX (eK @Option.getD_none.{0} @PN)
 | cons a rest=>
  obtain⟨hZ,g2,hD,g4⟩:=drop_cons h1
  have aV:k<4611686018427387904:=by omega
  simp only[iB]at h
  rcases zaa (a.name==name)with b1|b1
  ·simp only [b1,if_true]at h
   subst h
   exact iX (eK b1 @Option.getD_some.{0})
  ·simp only [b1,zab,if_false]at h
   refine bT b1 ?_
   refine cr 2 0 ?_ ?_ (IH (rest,k+1) ⟨g2,h⟩ (zae _))
   ·(simp only[go_sem,hD,hZ,gC,gD,ak aV];try exact aQ)
   ·(simp only[go_sem,hD,hZ,gC,gD,ak aV];try exact aQ)
theorem agW {l:List It} (hl:l.length<4611686018427387904) (hb : ∀ x∈l,x.s.labels.length<4611686018427387904) {fin:List aD} (hf:fin.length<4611686018427387904) (name:aD) (s:St) :
 ay Tryz.prog 128 [.slice .shared 16 (l.map du), .slice .shared 1 (fin.map encStr), .str name] s (.tuple [.int .i64 (jH fin name (l.map It.s)).1, .bool (jH fin name (l.map It.s)).2]) s:=by
 refine ay.pure ?_ (by simp[D.bJ,D.ok,Tag.ok,tF,dv]) rfl s
 have jE:=fun {x:It} (m:x∈l) s=>xm (l:=x.s.labels) (hb x m) name .shared s
 have hfi:=fun s=>xm (l:=fin) hf name .shared s
 generalize h:jH fin name (l.map It.s)=R
 unfold S0
 refine ay.go KA.h rfl fun B Q hB hQ=>?_
 have⟨hD,hZ,gC,gD⟩:=bc
 refine bT trivial ?_
 refine dg 0 0 (aJ.ind (ι:=List It×Nat) (fun i=>l.drop i.2=i.1∧jH fin name (i.1.map It.s)=R) (fun i=>i.1.length)
  (fun i=> [(1, .slice .shared 1 (fin.map encStr)),(2, .str name),(6, .int .i64 0),(7, .bool false),(10, .slice .shared 16 (l.map du)),(11, .int .i64 (l.length:Int)),(12, .int .i64 (i.2:Int))]) (fun i=>⟨[],[]⟩) ?_ (l,0) ⟨rfl,h⟩)
 clear h
 rintro⟨rest,k⟩ ⟨h1,h⟩ IH
 dsimp only at h1 h
 cases rest with
 | nil=>
  have hD:=drop_nil h1
  simp only[zaj,jH]at h
  rcases zaa (dZ fin name)with b1|b1
  ·rw [if_pos b1]at h
   subst h
   rw[b1]at hfi
   exact jn trivial hfi
  ·rw [if_neg (by simp [b1])]at h
   subst h
   rw[b1]at hfi
   exact jn trivial hfi
 | cons a rest=>
  obtain⟨hZ,g2,hD,g4⟩:=drop_cons h1
  have aV:k<4611686018427387904:=by omega
  have hi:=fun s=>jE (zad hZ) s
  simp only[zaf,jH]at h
  rcases zaa (dZ a.s.labels name)with b1|b1
  ·rw [if_pos b1]at h
   subst h
   rw[b1]at hi
   exact jn trivial hi
  ·rw [if_neg (by simp [b1])]at h
   rw[b1]at hi
   repeat' (first
 |simp only[go_sem,hD,hZ,gC,gD]
 |(with_reducible refine CU (hi _) ?_)
 | (with_reducible refine aX hQ ?_;exact bK))
   refine cr 0 0 ?_ ?_ (IH (rest,k+1) ⟨g2,h⟩ (zae _))
   ·(simp only[go_sem,hD,hZ,gC,gD,ak aV];try exact aQ)
   ·(simp only[go_sem,hD,hZ,gC,gD,ak aV];try exact aQ)
end Go.Abs
namespace Go.Abs
theorem Ia (n:Int):IntKind.wrap .u64 n=n % 18446744073709551616:=by rw[IntKind.wrap_u64]
theorem FZ (n:Nat):IntKind.wrap .u64 (n:Int)=((n % 18446744073709551616:Nat):Int):=by rw[Ia];omega
theorem vk {a:Nat} (h:a<18446744073709551616):(BitVec.ofInt IntKind.u64.bits (a:Int)).toNat=a:=by
 show(BitVec.ofInt 64 (a:Int)).toNat=a
 rw[BitVec.toNat_ofInt]
 omega
theorem S4 {k r:Nat} (hr:r<2 ^ k):r ^^^ 2 ^ k=2 ^ k+r:=by
 apply Nat.eq_of_testBit_eq
 intro j
 rw[Nat.testBit_xor,Nat.testBit_two_pow]
 rcases Nat.lt_trichotomy j k with h|h|h
 ·rw [Nat.testBit_two_pow_add_gt h]
  have:decide (k=j)=false:=by simp;omega
  rw[this,Bool.xor_false]
 ·subst h
  rw[Nat.testBit_two_pow_add_eq,Nat.testBit_lt_two_pow hr]
  simp
 ·have h0:2 ^ (k+1)≤2 ^ j:=Nat.pow_le_pow_right (by omega) h
  have h1:2 ^ (k+1)=2*2 ^ k:=by rw[Nat.pow_succ,Nat.mul_comm]
  rw[Nat.testBit_lt_two_pow (x:=r) (by omega),Nat.testBit_lt_two_pow (x:=2 ^ k+r) (by omega)]
  have:decide (k=j)=false:=by simp;omega
  rw[this];rfl
section
variable {a b:Nat} (ha:a<18446744073709551616) (hb:b<18446744073709551616)
include ha
theorem Zu:JY .u64 (a:Int) 4294967295=((a % 4294967296:Nat):Int):=by
 unfold JY
 rw[show(4294967295:Int)=((4294967295:Nat):Int)from rfl,BitVec.toNat_and,vk ha,vk (by omega),FZ,show(4294967295:Nat)=2 ^ 32 - 1 from rfl,Nat.and_two_pow_sub_one_eq_mod]
 refine congrArg (Nat.cast:Nat→Int) ?_
 omega
theorem MH:JY .u64 (a:Int) 1=((a % 2:Nat):Int):=by
 unfold JY
 rw[show(1:Int)=((1:Nat):Int)from rfl,BitVec.toNat_and,vk ha,vk (by omega),FZ,show a &&& 1=a % 2 from Nat.and_one_is_mod a]
 refine congrArg (Nat.cast:Nat→Int) ?_
 omega
theorem anP:Cq .u64 18446744073709551615 (a:Int)=((18446744073709551615 - a:Nat):Int):=by
 unfold Cq
 show IntKind.wrap .u64 ((BitVec.ofInt 64 18446744073709551615 ^^^ BitVec.ofInt 64 (a:Int)).toNat:Int)=_
 have e:BitVec.ofInt 64 (18446744073709551615:Int)=BitVec.allOnes 64:=by decide
 have h:(BitVec.ofInt 64 (a:Int)).toNat=a:=vk ha
 rw[e,BitVec.xor_comm,BitVec.xor_allOnes,BitVec.toNat_not,h,FZ]
 refine congrArg (Nat.cast:Nat→Int) ?_
 show(2 ^ 64 - 1 - a) % 18446744073709551616=_
 omega
omit ha in
theorem NO (a n:Nat) (hn:n<64):JZ .u64 (a:Int) (n:Int)=((a / 2 ^ n:Nat):Int):=by
 unfold JZ
 rw[zaW,show min n IntKind.u64.bits=n from Nat.min_eq_left (Nat.le_of_lt hn)]
 rw[show(2:Int) ^ n=((2 ^ n:Nat):Int) by simp,Int.natCast_ediv]
 exact Int.fdiv_eq_ediv_of_nonneg _ (zbU _)
omit ha in
theorem NP (a n:Nat) (hn:n<64):G6 .u64 (a:Int) (n:Int)=((a*2 ^ n % 18446744073709551616:Nat):Int):=by
 unfold G6
 rw[zaW,show min n IntKind.u64.bits=n from Nat.min_eq_left (Nat.le_of_lt hn),show(a:Int)*2 ^ n=((a*2 ^ n:Nat):Int) by simp,FZ]
omit ha in
theorem acZ {x y k:Nat} (hy:y<2 ^ k) (h:x*2 ^ k+y<18446744073709551616):bOr .u64 ((x*2 ^ k:Nat):Int) (y:Int)=((x*2 ^ k+y:Nat):Int):=by
 unfold bOr
 rw[BitVec.toNat_or,vk (by omega),vk (by omega), ← Nat.shiftLeft_eq, ← Nat.shiftLeft_add_eq_or_of_lt hy,FZ,Nat.shiftLeft_eq]
 refine congrArg (Nat.cast:Nat→Int) ?_
 omega
theorem aeI:Cq .u64 (a:Int) 9223372036854775808=(((a+9223372036854775808) % 18446744073709551616:Nat):Int):=by
 unfold Cq
 rw[show(9223372036854775808:Int)=((9223372036854775808:Nat):Int)from rfl,BitVec.toNat_xor,vk ha,vk (by omega),FZ]
 refine congrArg (Nat.cast:Nat→Int) ?_
 have k0:=S4 (k:=63) (r:=a)
 have k1:=S4 (k:=63) (r:=a - 9223372036854775808)
 rw[show(2:Nat) ^ 63=9223372036854775808 by decide]at k0 k1
 by_cases h:a<9223372036854775808
 ·rw[k0 h];omega
 ·have e:a=9223372036854775808+(a - 9223372036854775808):=by omega
  have hk:=k1 (by omega)
  have:a ^^^ 9223372036854775808=a - 9223372036854775808:=by
   generalize a - 9223372036854775808=r at *
   rw[e, ← hk,Nat.xor_assoc,Nat.xor_self,Nat.xor_zero]
  rw[this];omega
end
theorem qX (n:Int):np n=(n+9223372036854775808) % 18446744073709551616 - 9223372036854775808:=by unfold np;rw[IntKind.wrap_i64]
def fa (a:Int):Prop:= -9223372036854775808≤a∧a<9223372036854775808
theorem Fg (n:Int):fa (np n):=by unfold fa;rw[qX];omega
theorem akH {n:Int} (h:fa n):np n=n:=by unfold fa at h;rw[qX];omega
theorem agX (n:Int):np (n % 18446744073709551616)=np n:=by rw[qX,qX];omega
theorem ac0 (a b i:Nat):(a*(b % 2 ^ i)+a*2 ^ i*(b / 2 ^ i % 2))=a*(b % 2 ^ (i+1)):=by
 rw[Nat.mod_pow_succ,Nat.mul_add,Nat.mul_assoc]
theorem ac1 {A b bit:Nat} (hb:0<b) (akI:bit<2):(2*A+bit) / b=2*(A / b)+(if b≤2*(A % b)+bit then 1 else 0)∧(2*A+bit) % b=(if b≤2*(A % b)+bit then 2*(A % b)+bit - b else 2*(A % b)+bit):=by
 have h1:=Nat.div_add_mod A b
 have h2:=zb0 A hb
 generalize A / b=q at *
 generalize A % b=r at *
 have e:2*A+bit=b*(2*q)+(2*r+bit):=by rw[← h1,Nat.mul_add, ← Nat.mul_assoc,Nat.mul_comm 2 b,Nat.mul_assoc];omega
 rw[e,Nat.mul_add_div hb,Nat.mul_add_mod]
 by_cases c:b≤2*r+bit
 ·rw [if_pos c,if_pos c]
  have h4:(2*r+bit) / b=1:=Nat.div_eq_of_lt_le (by rw[Nat.one_mul];exact c) (by omega)
  have h3:=Nat.div_add_mod (2*r+bit) b
  rw[h4,zb1]at h3
  rw[h4]
  omega
 ·rw [if_neg c,if_neg c,Nat.div_eq_of_lt (by omega),Nat.mod_eq_of_lt (by omega)]
  omega
theorem ac2 (a b:Int):a.tdiv b=if(decide (a<0) != decide (b<0))=true then -((a.natAbs / b.natAbs:Nat):Int)else((a.natAbs / b.natAbs:Nat):Int):=by
 rcases(by omega:a<0∨0≤a)with h1|h1<;>rcases(by omega:b<0∨0≤b)with h2|h2
 ·obtain⟨x,rfl⟩ : ∃ x:Nat,a = -(x:Int):=⟨a.natAbs,by omega⟩
  obtain⟨y,rfl⟩ : ∃ y:Nat,b = -(y:Int):=⟨b.natAbs,by omega⟩
  rw[Int.neg_tdiv,Int.tdiv_neg,Int.neg_neg,Int.natAbs_neg,Int.natAbs_neg,zbs,zbs,if_neg (by rw[decide_eq_true h1,decide_eq_true h2];simp),Int.ofNat_tdiv]
 ·obtain⟨x,rfl⟩ : ∃ x:Nat,a = -(x:Int):=⟨a.natAbs,by omega⟩
  obtain⟨y,rfl⟩ : ∃ y:Nat,b=(y:Int):=⟨b.natAbs,by omega⟩
  rw[Int.neg_tdiv,Int.natAbs_neg,zbs,zbs,if_pos (by rw[decide_eq_true h1,decide_eq_false (show ¬ ((y:Int)<0) by omega)];rfl),Int.ofNat_tdiv]
 ·obtain⟨x,rfl⟩ : ∃ x:Nat,a=(x:Int):=⟨a.natAbs,by omega⟩
  obtain⟨y,rfl⟩ : ∃ y:Nat,b = -(y:Int):=⟨b.natAbs,by omega⟩
  rw[Int.tdiv_neg,Int.natAbs_neg,zbs,zbs,if_pos (by rw[decide_eq_false (show ¬ ((x:Int)<0) by omega),decide_eq_true h2];rfl),Int.ofNat_tdiv]
 ·obtain⟨x,rfl⟩ : ∃ x:Nat,a=(x:Int):=⟨a.natAbs,by omega⟩
  obtain⟨y,rfl⟩ : ∃ y:Nat,b=(y:Int):=⟨b.natAbs,by omega⟩
  rw[zbs,zbs,if_neg (by rw[decide_eq_false (show ¬ ((x:Int)<0) by omega),decide_eq_false (show ¬ ((y:Int)<0) by omega)];simp),Int.ofNat_tdiv]
theorem QI (a b:Int):a.tmod b=if a<0 then -((a.natAbs % b.natAbs:Nat):Int)else((a.natAbs % b.natAbs:Nat):Int):=by
 rcases(by omega:a<0∨0≤a)with h1|h1
 ·obtain⟨x,rfl⟩ : ∃ x:Nat,a = -(x:Int):=⟨a.natAbs,by omega⟩
  rw[if_pos h1,Int.neg_tmod,Int.natAbs_neg,zbs]
  rw[Int.tmod_eq_emod_of_nonneg (zbU _)]
  rcases Int.natAbs_eq b with e|e<;>rw[e]<;>simp
 ·obtain⟨x,rfl⟩ : ∃ x:Nat,a=(x:Int):=⟨a.natAbs,by omega⟩
  rw[if_neg (by omega),zbs,Int.tmod_eq_emod_of_nonneg (zbU _)]
  rcases Int.natAbs_eq b with e|e<;>rw[e]<;>simp
end Go.Abs
namespace Go.Abs
set_option maxRecDepth 8000
open Go.Proofs
abbrev ml (a:Nat):D:= .int .u64 (a:Int)
section
variable {a b:Nat} (ha:a<18446744073709551616) (hb:b<18446744073709551616) (s:St)
include ha
theorem NQ:ay Tryz.prog 149 [ml a] s (ml (a % 4294967296)) s:=by
 refine ay.pure ?_ rfl rfl s
 have e:=Zu ha
 unfold S0
 refine ay.go Pq.h rfl fun B Q hB hQ=>?_
 have⟨hD,hZ,gC,gD⟩:=bc
 exact dR e
omit ha in
theorem QJ:ay Tryz.prog 150 [ml a] s (ml (a / 4294967296)) s:=by
 refine ay.pure ?_ rfl rfl s
 have e:JZ .u64 (a:Int) 32=((a / 4294967296:Nat):Int):=NO a 32 (by omega)
 have h1:((32:Int)<0)=False:=by simp
 unfold S0
 refine ay.go Nh.h rfl fun B Q hB hQ=>?_
 have⟨hD,hZ,gC,gD⟩:=bc
 repeat' (first
 |simp only[go_sem,hD,hZ,gC,gD,e,h1,if_false]
 |(with_reducible refine aX hQ ?_;exact bK))
include hb
theorem Fh:ay Tryz.prog 124 [ml a,ml b] s (ml ((a+b) % 18446744073709551616)) s:=by
 refine ay.pure ?_ rfl rfl s
 have c1:=fun s=>NQ ha s
 have c2:=fun s=>NQ hb s
 have c3:=fun s=>QJ (a:=a) s
 have c4:=fun s=>QJ (a:=b) s
 have w1:IntKind.wrap .u64 (((a % 4294967296:Nat):Int)+((b % 4294967296:Nat):Int))=((a % 4294967296+b % 4294967296:Nat):Int):=by rw[Ia];omega
 have w2:IntKind.wrap .u64 (((a / 4294967296:Nat):Int)+((b / 4294967296:Nat):Int))=((a / 4294967296+b / 4294967296:Nat):Int):=by rw[Ia];omega
 obtain⟨l,hl⟩ : ∃ l,a % 4294967296+b % 4294967296=l:=⟨_,rfl⟩
 obtain⟨u,hh⟩ : ∃ u,a / 4294967296+b / 4294967296=u:=⟨_,rfl⟩
 rw[hl]at w1
 rw[hh]at w2
 have c5:=fun s=>NQ (a:=l) (by omega) s
 have c6:=fun s=>QJ (a:=l) s
 have w3:IntKind.wrap .u64 ((u:Int)+((l / 4294967296:Nat):Int))=((u+l / 4294967296:Nat):Int):=by rw[Ia];omega
 obtain⟨g,hg⟩ : ∃ g,u+l / 4294967296=g:=⟨_,rfl⟩
 rw[hg]at w3
 have c7:=fun s=>NQ (a:=g) (by omega) s
 have e1:G6 .u64 ((g % 4294967296:Nat):Int) 32=((g % 4294967296*4294967296 % 18446744073709551616:Nat):Int):=NP (g % 4294967296) 32 (by omega)
 rw[show g % 4294967296*4294967296 % 18446744073709551616=g % 4294967296*4294967296 by omega]at e1
 have e2:=acZ (x:=g % 4294967296) (y:=l % 4294967296) (k:=32) (by rw[show(2:Nat) ^ 32=4294967296 from rfl];omega) (by rw[show(2:Nat) ^ 32=4294967296 from rfl];omega)
 rw[show(2:Nat) ^ 32=4294967296 from rfl,show g % 4294967296*4294967296+l % 4294967296=(a+b) % 18446744073709551616 by omega]at e2
 have h1:((32:Int)<0)=False:=by simp
 generalize (a+b) % 18446744073709551616=R at *
 generalize hx:g % 4294967296*4294967296=X at *
 generalize a % 4294967296=a1 at *
 generalize b % 4294967296=b1 at *
 generalize a / 4294967296=a2 at *
 generalize b / 4294967296=b2 at *
 generalize l % 4294967296=l1 at *
 generalize l / 4294967296=l2 at *
 generalize g % 4294967296=g1 at *
 clear hx
 unfold S0
 refine ay.go Pn.h rfl fun B Q hB hQ=>?_
 have⟨hD,hZ,gC,gD⟩:=bc
 repeat' (first
 |simp only[go_sem,hD,hZ,gC,gD,w1,w2,w3,e1,e2,h1,if_false]
 |(with_reducible refine CU (c1 _) ?_)
 |(with_reducible refine CU (c2 _) ?_)
 |(with_reducible refine CU (c3 _) ?_)
 |(with_reducible refine CU (c4 _) ?_)
 |(with_reducible refine CU (c5 _) ?_)
 |(with_reducible refine CU (c6 _) ?_)
 |(with_reducible refine CU (c7 _) ?_)
 |(with_reducible refine aX hQ ?_;exact bK))
omit hb
theorem vW:ay Tryz.prog 122 [ml a] s (ml ((18446744073709551616 - a) % 18446744073709551616)) s:=by
 refine ay.pure ?_ rfl rfl s
 have e:=anP ha
 have c1 : ∀ s,ay Tryz.prog 124 [ml (18446744073709551615 - a), .int .u64 1] s (ml ((18446744073709551615 - a+1) % 18446744073709551616)) s:=fun s=>Fh (a:=18446744073709551615 - a) (b:=1) (by omega) (by omega) s
 rw[show(18446744073709551615 - a+1)=18446744073709551616 - a by omega]at c1
 have hm:IntKind.max .u64=18446744073709551615:=by decide
 have hs:IntKind.signed .u64=false:=rfl
 generalize 18446744073709551615 - a=x at *
 generalize (18446744073709551616 - a) % 18446744073709551616=y at *
 unfold S0
 refine ay.go I7.h rfl fun B Q hB hQ=>?_
 have⟨hD,hZ,gC,gD⟩:=bc
 repeat' (first
 |simp only[go_sem,hD,hZ,gC,gD,e,hm,hs,zab,if_false]
 |(with_reducible refine CU (c1 _) ?_)
 |(with_reducible refine aX hQ ?_;exact bK))
end
theorem akJ {a b:Nat} (ha:a<18446744073709551616) (hb:b<18446744073709551616) (s:St):ay Tryz.prog 125 [ml a,ml b] s (ml (a*b % 18446744073709551616)) s:=by
 refine ay.pure ?_ rfl rfl s
 generalize hR:a*b % 18446744073709551616=R
 unfold S0
 refine ay.go Po.h rfl fun B Q hB hQ=>?_
 have⟨hD,hZ,gC,gD⟩:=bc
 refine bT trivial ?_
 refine dg 0 0 (aJ.ind (ι:=Nat×Nat) (fun i=>i.1≤64∧i.2=a*(b % 2 ^ i.1) % 18446744073709551616) (fun i=>64 - i.1)
  (fun i=> [(0,ml a),(1,ml b),(5,ml i.2),(6, .int .i64 (i.1:Int))]) (fun i=>⟨[],[]⟩) ?_ (0,0) ⟨zaA _,by rw[Nat.pow_zero,Nat.mod_one,Nat.mul_zero]⟩)
 rintro⟨i,m⟩ ⟨h1,h2⟩ IH
 dsimp only at h1 h2
 by_cases hi:i<64
 ·have hD:decide ((i:Int)<64)=true:=by simp;omega
  have hk:i<4611686018427387904:=by omega
  have h0:((i:Int)<0)=False:=by simp
  have w1:IntKind.wrap .u64 (i:Int)=(i:Int):=by rw[Ia];omega
  have e1:=NO b i hi
  have hq:b / 2 ^ i<18446744073709551616:=zbV (Nat.div_le_self _ _) hb
  have e2:=MH hq
  have e3:=NP a i hi
  have Fw:=ac0 a b i
  rcases Nat.mod_two_eq_zero_or_one (b / 2 ^ i)with S5|Ix
  ·rw [S5]at e2 Fw
   have e4:((0:Int)==1)=false:=rfl
   repeat' (first
 |simp only[go_sem,hD,hZ,gC,gD,hD,h0,if_false,w1,e1,e2,e4]
 | (with_reducible refine aX hQ ?_;exact bK))
   refine cr 0 0 ?_ ?_ (IH (i+1,m) ⟨by dsimp only;omega,by rw[h2];dsimp only;rw[← Fw,Nat.mul_zero,zaP]⟩ (by dsimp only;omega))
   ·(simp only[go_sem,hD,hZ,gC,gD,ak hk];try exact aQ)
   ·(simp only[go_sem,hD,hZ,gC,gD,ak hk];try exact aQ)
  ·rw [Ix]at e2 Fw
   have e4:((1:Int)==1)=true:=rfl
   have hm:m<18446744073709551616:=by rw[h2];exact zb0 _ (by omega)
   have c1:=fun s=>Fh (a:=m) (b:=a*2 ^ i % 18446744073709551616) hm (zb0 _ (by omega)) s
   have e5:(m+a*2 ^ i % 18446744073709551616) % 18446744073709551616=a*(b % 2 ^ (i+1)) % 18446744073709551616:=by
    rw[← Fw,zb1,h2]
    generalize a*(b % 2 ^ i)=x
    generalize a*2 ^ i=y
    omega
   rw[e5]at c1
   generalize hz:a*(b % 2 ^ (i+1)) % 18446744073709551616=z at *
   generalize a*2 ^ i % 18446744073709551616=y at *
   generalize b / 2 ^ i=q at *
   repeat' (first
 |simp only[go_sem,hD,hZ,gC,gD,hD,h0,if_false,w1,e1,e2,e3,e4]
 |(with_reducible refine CU (c1 _) ?_)
 | (with_reducible refine aX hQ ?_;exact bK))
   refine cr 0 0 ?_ ?_ (IH (i+1,z) ⟨by dsimp only;omega,hz.symm⟩ (by dsimp only;omega))
   ·(simp only[go_sem,hD,hZ,gC,gD,ak hk];try exact aQ)
   ·(simp only[go_sem,hD,hZ,gC,gD,ak hk];try exact aQ)
 ·have hD:decide ((i:Int)<64)=false:=by simp;omega
  have:i=64:=by omega
  subst this
  have e:b % 2 ^ 64=b:=Nat.mod_eq_of_lt hb
  rw[e,hR]at h2
  subst h2
  exact dR hD
theorem akK {a b:Nat} (ha:a<18446744073709551616) (hb:b<18446744073709551616) (S5:0<b) (s:St):ay Tryz.prog 151 [ml a,ml b] s (.tuple [ml (a / b),ml (a % b)]) s:=by
 refine ay.pure ?_ rfl rfl s
 generalize hR1:a / b=R1
 generalize hR2:a % b=R2
 unfold S0
 refine ay.go Pr.h rfl fun B Q hB hQ=>?_
 have⟨hD,hZ,gC,gD⟩:=bc
 refine bT trivial ?_
 refine dg 0 0 (aJ.ind (ι:=Nat×Nat×Nat×Int) (fun i=>i.1≤64∧i.2.1=a / 2 ^ i.1 / b*2 ^ i.1∧i.2.2.1=a / 2 ^ i.1 % b∧i.2.2.2=(i.1:Int) - 1) (fun i=>i.1)
  (fun i=> [(0,ml a),(1,ml b),(6,ml i.2.1),(7,ml i.2.2.1),(8, .int .i64 i.2.2.2)]) (fun i=>⟨[],[]⟩) ?_ (64,0,0,63) ⟨zak _,by rw[Nat.div_eq_of_lt (show a<2 ^ 64 from ha),Nat.zero_div,Nat.zero_mul],by rw[Nat.div_eq_of_lt (show a<2 ^ 64 from ha),Nat.zero_mod],rfl⟩)
 rintro⟨n,q,r,j⟩ ⟨h1,h2,h3,h4⟩ IH
 dsimp only at h1 h2 h3 h4
 subst h4
 cases n with
 |zero=>
  have qK:decide ((0:Int) - 1≥0)=false:=rfl
  rw[Nat.pow_zero,Nat.div_one]at h2 h3
  rw[zb1,hR1]at h2
  rw[hR2]at h3
  subst h2 h3
  exact dR qK
 | succ i=>
  have hj:((i+1:Nat):Int) - 1=(i:Int):=by omega
  rw[hj]
  have qK:decide ((i:Int)≥0)=true:=by simp
  have h0:((i:Int)<0)=False:=by simp
  have wd:IntKind.wrap .i64 ((i:Int) - 1)=(i:Int) - 1:=dE (by omega) (by omega)
  have w1:IntKind.wrap .u64 (i:Int)=(i:Int):=by rw[Ia];omega
  have hrb:r<b:=by rw[h3];exact zb0 _ S5
  have hA:a / 2 ^ i=2*(a / 2 ^ (i+1))+a / 2 ^ i % 2:=by
   have e:a / 2 ^ (i+1)=a / 2 ^ i / 2:=by rw[Nat.pow_succ, ← Nat.div_div_eq_div_mul]
   rw[e];omega
  have hq:a / 2 ^ i<18446744073709551616:=zbV (Nat.div_le_self _ _) ha
  have e1:JZ .u64 (r:Int) 63=((r / 9223372036854775808:Nat):Int):=NO r 63 (by omega)
  have e2:G6 .u64 (r:Int) 1=((r*2 % 18446744073709551616:Nat):Int):=NP r 1 (by omega)
  have e3:=NO a i (by omega)
  have e4:=MH hq
  have akI:=zb0 (a / 2 ^ i) (show 0<2 by omega)
  obtain⟨d1,d2⟩:=ac1 (A:=a / 2 ^ (i+1)) S5 akI
  rw[← hA, ← h3]at d1 d2
  have hle:a / 2 ^ i / b*2 ^ i≤a:=zaZ (zaR _ (Nat.div_le_self _ _)) (Nat.div_mul_le_self _ _)
  have hp:2 ^ (i+1)=2*2 ^ i:=by rw[Nat.pow_succ,Nat.mul_comm]
  generalize hbt:a / 2 ^ i % 2=bit at *
  generalize hK:a / 2 ^ (i+1) / b=K at *
  rw[show r*2 % 18446744073709551616=r % 9223372036854775808*2 ^ 1 by rw[show(2:Nat) ^ 1=2 from rfl];omega]at e2
  have e5:=acZ (x:=r % 9223372036854775808) (y:=bit) (k:=1) (by rw[show(2:Nat) ^ 1=2 from rfl];omega) (by rw[show(2:Nat) ^ 1=2 from rfl];omega)
  rw[show(2:Nat) ^ 1=2 from rfl]at e2 e5
  have h63:((63:Int)<0)=False:=by simp
  have qk:((1:Int)<0)=False:=by simp
  generalize Py:r % 9223372036854775808*2+bit=R at *
  generalize hX:r % 9223372036854775808*2=X at *
  have c1:=fun s=>vW hb s
  have PZ:R<18446744073709551616:=by omega
  have c2:=fun s=>Fh (a:=R) (b:=(18446744073709551616 - b) % 18446744073709551616) PZ (by omega) s
  have e6:G6 .u64 1 (i:Int)=((2 ^ i:Nat):Int):=by
   have:=NP 1 i (by omega)
   rw[Nat.one_mul,Nat.mod_eq_of_lt (show 2 ^ i<18446744073709551616 from zaX (Nat.pow_lt_pow_right (by omega) (show i<64 by omega)) (zak _))]at this
   exact this
  generalize hy:(18446744073709551616 - b) % 18446744073709551616=y at *
  by_cases hc:b≤2*r+bit
  ·rw [if_pos hc]at d1 d2
   have hrn:(R+y) % 18446744073709551616=a / 2 ^ i % b:=by rw[d2];omega
   have Zv:q+2 ^ i=a / 2 ^ i / b*2 ^ i:=by rw[h2,d1,hp,zbm,Nat.one_mul,Nat.mul_comm 2 K,Nat.mul_assoc]
   have e7:=acZ (x:=K) (y:=2 ^ i) (k:=i+1) (by rw[hp];have:=Nat.two_pow_pos i;omega) (by rw[← h2,Zv];omega)
   rw[← h2]at e7
   rw[hrn]at c2
   generalize Lz:a / 2 ^ i % b=r' at *
   generalize om:q+2 ^ i=q' at *
   rcases zaE r 9223372036854775808 with hr|hr
   ·have ec:(((r / 9223372036854775808:Nat):Int)==1)=false:=by simp;omega
    have eg:decide ((R:Int)≥(b:Int))=true:=by simp;omega
    generalize r / 9223372036854775808=cy at *
    repeat' (first
 |simp only[go_sem,hD,hZ,gC,gD,qK,decide_true,h0,h63,qk,if_false,wd,w1,e1,e2,e3,e4,e5,ec,eg,e6,e7]
 |(with_reducible refine CU (c1 _) ?_)
 |(with_reducible refine CU (c2 _) ?_)
 | (with_reducible refine aX hQ ?_;exact bK))
    refine cr 0 0 ?_ ?_ (IH (i,q',r',(i:Int) - 1) ⟨by dsimp only;omega,Zv,Lz.symm,rfl⟩ (by dsimp only;omega))
    ·(simp only[go_sem,hD,hZ,gC,gD,wd];try exact aQ)
    ·(simp only[go_sem,hD,hZ,gC,gD,wd];try exact aQ)
   ·have ec:(((r / 9223372036854775808:Nat):Int)==1)=true:=by simp;omega
    generalize r / 9223372036854775808=cy at *
    repeat' (first
 |simp only[go_sem,hD,hZ,gC,gD,qK,decide_true,h0,h63,qk,if_false,wd,w1,e1,e2,e3,e4,e5,ec,e6,e7]
 |(with_reducible refine CU (c1 _) ?_)
 |(with_reducible refine CU (c2 _) ?_)
 | (with_reducible refine aX hQ ?_;exact bK))
    refine cr 0 0 ?_ ?_ (IH (i,q',r',(i:Int) - 1) ⟨by dsimp only;omega,Zv,Lz.symm,rfl⟩ (by dsimp only;omega))
    ·(simp only[go_sem,hD,hZ,gC,gD,wd];try exact aQ)
    ·(simp only[go_sem,hD,hZ,gC,gD,wd];try exact aQ)
  ·rw [if_neg hc]at d1 d2
   have ec:(((r / 9223372036854775808:Nat):Int)==1)=false:=by simp;omega
   have eg:decide ((R:Int)≥(b:Int))=false:=by simp;omega
   have hRn:R=a / 2 ^ i % b:=by rw[d2];omega
   have Zv:q=a / 2 ^ i / b*2 ^ i:=by rw[h2,d1,hp,zaP,Nat.mul_comm 2 K,Nat.mul_assoc]
   generalize r / 9223372036854775808=cy at *
   repeat' (first
 |simp only[go_sem,hD,hZ,gC,gD,qK,decide_true,h0,h63,qk,if_false,wd,w1,e1,e2,e3,e4,e5,ec,eg]
 | (with_reducible refine aX hQ ?_;exact bK))
   refine cr 0 0 ?_ ?_ (IH (i,q,R,(i:Int) - 1) ⟨by dsimp only;omega,Zv,hRn,rfl⟩ (by dsimp only;omega))
   ·(simp only[go_sem,hD,hZ,gC,gD,wd];try exact aQ)
   ·(simp only[go_sem,hD,hZ,gC,gD,wd];try exact aQ)
end Go.Abs
namespace Go.Abs
set_option maxRecDepth 8000
open Go.Proofs
def iy (a:Int):Nat:=(a % 18446744073709551616).toNat
theorem nU (a:Int):iy a<18446744073709551616:=by unfold iy;omega
theorem Cl (a:Int):IntKind.wrap .u64 a=((iy a:Nat):Int):=by rw[Ia];unfold iy;omega
theorem xa (a:Nat):IntKind.wrap .i64 (a:Int)=np a:=rfl
section
variable {a b:Int} (ha:fa a) (hb:fa b) (s:St)
include ha
theorem S6:ay Tryz.prog 152 [.int .i64 a] s (ml a.natAbs) s:=by
 refine ay.pure ?_ rfl rfl s
 have h1:=Cl a
 have c1:=fun s=>vW (nU a) s
 unfold fa at ha
 unfold S0
 rcases zaa (decide (a<0))with b1|b1
 ·have e:(18446744073709551616 - iy a) % 18446744073709551616=a.natAbs:=by
   have:a<0:=of_decide_eq_true b1
   unfold iy;omega
  rw[e]at c1
  generalize iy a=u at *
  generalize a.natAbs=r at *
  refine ay.go DN.h rfl fun B Q hB hQ=>?_
  have⟨hD,hZ,gC,gD⟩:=bc
  exact jn (eK b1 h1) c1
 ·have e:iy a=a.natAbs:=by
   have : ¬ a<0:=of_decide_eq_false b1
   unfold iy;omega
  rw[e]at h1
  generalize a.natAbs=r at *
  refine ay.go DN.h rfl fun B Q hB hQ=>?_
  have⟨hD,hZ,gC,gD⟩:=bc
  exact dR (eK b1 h1)
include hb
theorem agZ (h0:b≠0):ay Tryz.prog 126 [.int .i64 a, .int .i64 b] s (.tuple [.int .i64 (np (a.tdiv b)), .int .i64 (np (a.tmod b))]) s:=by
 refine ay.pure ?_ rfl rfl s
 have c1:=fun s=>S6 ha s
 have c2:=fun s=>S6 hb s
 unfold fa at ha hb
 have pg:a.natAbs<18446744073709551616:=by omega
 have hbl:b.natAbs<18446744073709551616:=by omega
 have c3:=fun s=>akK pg hbl (by omega) s
 have Gn:a.natAbs / b.natAbs<18446744073709551616:=zbV (Nat.div_le_self _ _) pg
 have wF:a.natAbs % b.natAbs<18446744073709551616:=zbV (Nat.mod_le _ _) pg
 have c4:=fun s=>vW Gn s
 have c5:=fun s=>vW wF s
 have hd:=ac2 a b
 have hm:=QI a b
 generalize a.tdiv b=Q1 at *
 generalize a.tmod b=Q2 at *
 generalize a.natAbs=x at *
 generalize b.natAbs=y at *
 generalize x / y=q at *
 generalize x % y=r at *
 have k1 : ∀ n:Nat,n<18446744073709551616→np (((18446744073709551616 - n) % 18446744073709551616:Nat):Int)=np (-(n:Int)):=fun n hn=>by
  rw[qX,qX];omega
 have k2:=k1 q Gn
 have k3:=k1 r wF
 generalize (18446744073709551616 - q) % 18446744073709551616=tq at *
 generalize (18446744073709551616 - r) % 18446744073709551616=tr at *
 have d1:=xa q
 have d2:=xa r
 have d3:=xa tq
 have d4:=xa tr
 rcases zaa (decide (a<0))with b1|b1
 ·rw [if_pos (of_decide_eq_true b1)]at hm
  rcases zaa (decide (b<0))with b2|b2
  ·rw [b1,b2,if_neg (by simp)]at hd
   have e:(true==true)=true:=rfl
   rw[hd,hm, ← k3]
   unfold S0
   refine ay.go pD.h rfl fun B Q hB hQ=>?_
   have⟨hD,hZ,gC,gD⟩:=bc
   exact Sc (IJ b1 b2 e @Bool.not_true @Bool.not_false d1 d2 d3 d4) c1 c2 c3 c4 c5
  ·rw [b1,b2,if_pos (by simp)]at hd
   have e:(true==false)=false:=rfl
   rw[hd,hm, ← k3, ← k2]
   unfold S0
   refine ay.go pD.h rfl fun B Q hB hQ=>?_
   have⟨hD,hZ,gC,gD⟩:=bc
   exact Sc (IJ b1 b2 e @Bool.not_true @Bool.not_false d1 d2 d3 d4) c1 c2 c3 c4 c5
 ·rw [if_neg (of_decide_eq_false b1)]at hm
  rcases zaa (decide (b<0))with b2|b2
  ·rw [b1,b2,if_pos (by simp)]at hd
   have e:(false==true)=false:=rfl
   rw[hd,hm, ← k2]
   unfold S0
   refine ay.go pD.h rfl fun B Q hB hQ=>?_
   have⟨hD,hZ,gC,gD⟩:=bc
   exact Sc (IJ b1 b2 e @Bool.not_true @Bool.not_false d1 d2 d3 d4) c1 c2 c3 c4 c5
  ·rw [b1,b2,if_neg (by simp)]at hd
   have e:(false==false)=true:=rfl
   rw[hd,hm]
   unfold S0
   refine ay.go pD.h rfl fun B Q hB hQ=>?_
   have⟨hD,hZ,gC,gD⟩:=bc
   exact Sc (IJ b1 b2 e @Bool.not_true @Bool.not_false d1 d2 d3 d4) c1 c2 c3 c4 c5
theorem Zw:ay Tryz.prog 153 [.int .i64 a, .int .i64 b] s (.bool (decide (a<b))) s:=by
 refine ay.pure ?_ rfl rfl s
 have h1:=Cl a
 have h2:=Cl b
 have x1:=aeI (nU a)
 have x2:=aeI (nU b)
 have e:decide ((((iy a+9223372036854775808) % 18446744073709551616:Nat):Int)<(((iy b+9223372036854775808) % 18446744073709551616:Nat):Int))=decide (a<b):=by
  unfold fa at ha hb
  have:(((iy a+9223372036854775808) % 18446744073709551616:Nat):Int)<(((iy b+9223372036854775808) % 18446744073709551616:Nat):Int)↔a<b:=by unfold iy;omega
  simp only[this]
 generalize (iy a+9223372036854775808) % 18446744073709551616=x at *
 generalize (iy b+9223372036854775808) % 18446744073709551616=y at *
 generalize iy a=u at *
 generalize iy b=v at *
 unfold S0
 refine ay.go Ni.h rfl fun B Q hB hQ=>?_
 have⟨hD,hZ,gC,gD⟩:=bc
 exact dR (um h1 h2 x1 x2 e)
end
theorem yh (b:Bool) (s:St):ay Tryz.prog 123 [.bool b] s (.int .i64 (o7 b)) s:=by
 refine ay.pure ?_ rfl rfl s
 generalize h:o7 b=R
 simp only[o7]at h
 unfold S0
 refine ay.go Kz.h rfl fun B Q hB hQ=>?_
 have⟨hD,hZ,gC,gD⟩:=bc
 exact iX trivial
theorem akM (op:Int) {a:Int} (s:St):ay Tryz.prog 83 [.int .i64 op, .int .i64 a] s (qc (C4 op a)) s:=by
 refine ay.pure ?_ rfl rfl s
 generalize h:C4 op a=R
 simp only[C4]at h
 have h1:=Cl a
 have c1:=fun s=>vW (nU a) s
 have e:np (((18446744073709551616 - iy a) % 18446744073709551616:Nat):Int)=np (0 - a):=by
  have:=nU a
  rw[qX,qX]
  unfold iy at *
  omega
 have d:=xa ((18446744073709551616 - iy a) % 18446744073709551616)
 rw[e]at d
 generalize (18446744073709551616 - iy a) % 18446744073709551616=x at *
 generalize iy a=u at *
 unfold S0
 refine ay.go Pf.h rfl fun B Q hB hQ=>?_
 have⟨hD,hZ,gC,gD⟩:=bc
 exact DG (eK h1 d) c1 yh
theorem Wp (op:Int) {a b:Int} (ha:fa a) (hb:fa b) (s:St):ay Tryz.prog 127 [.int .i64 op, .int .i64 a, .int .i64 b] s
 (qc (if op==16 then(o7 (!(a==0) && !(b==0)),true)else if op==17 then(o7 (!(a==0) || !(b==0)),true)else C5 op a b)) s:=by
 refine ay.pure ?_ rfl rfl s
 have c1:=fun s=>Zw ha hb s
 have c2:=fun s=>Zw hb ha s
 have e1:decide (a≤b) = !(decide (b<a)):=by
  rw[← decide_not]
  congr 1
  simp
 have e2:decide (a≥b) = !(decide (a<b)):=by
  rw[← decide_not]
  congr 1
  simp
 have e3:decide (a > b)=decide (b<a):=rfl
 have e4:(a != b) = !(a==b):=rfl
 have e5:(a != 0) = !(a==0):=rfl
 have e6:(b != 0) = !(b==0):=rfl
 generalize h:(if op==16 then(o7 (!(a==0) && !(b==0)),true)else if op==17 then(o7 (!(a==0) || !(b==0)),true)else C5 op a b)=R
 simp only[C5,e1,e2,e3]at h
 rcases zaa (op==16)with GX|GX
 ·have o:op=16:=by simpa using GX
  have Zx:(op==10)=false:=by simp[o]
  have Zy:(op==11)=false:=by simp[o]
  have Zz:(op==12)=false:=by simp[o]
  have ZA:(op==13)=false:=by simp[o]
  have ZB:(op==14)=false:=by simp[o]
  have n15:(op==15)=false:=by simp[o]
  simp only[GX,if_true]at h
  unfold S0
  rcases zaa (a==0)with z|z
  ·simp only [z,zav,zaN]at h
   refine ay.go nP.h rfl fun B Q hB hQ=>?_
   have⟨hD,hZ,gC,gD⟩:=bc
   exact wT (Vr Zx Zy Zz ZA ZB n15 GX e5 e6 z @Bool.not_true) yh
  ·simp only [z,zax,zbf]at h
   refine ay.go nP.h rfl fun B Q hB hQ=>?_
   have⟨hD,hZ,gC,gD⟩:=bc
   exact wT (Vr Zx Zy Zz ZA ZB n15 GX e5 e6 z @Bool.not_false) yh
 rcases zaa (op==17)with QK|QK
 ·have o:op=17:=by simpa using QK
  have Zx:(op==10)=false:=by simp[o]
  have Zy:(op==11)=false:=by simp[o]
  have Zz:(op==12)=false:=by simp[o]
  have ZA:(op==13)=false:=by simp[o]
  have ZB:(op==14)=false:=by simp[o]
  have n15:(op==15)=false:=by simp[o]
  simp only[GX,QK,zab,if_false,if_true]at h
  unfold S0
  rcases zaa (a==0)with z|z
  ·simp only [z,zav,zbj]at h
   refine ay.go nP.h rfl fun B Q hB hQ=>?_
   have⟨hD,hZ,gC,gD⟩:=bc
   exact wT (Vs Zx Zy Zz ZA ZB n15 GX QK e5 e6 z @Bool.not_true) yh
  ·simp only [z,zax,zbk]at h
   refine ay.go nP.h rfl fun B Q hB hQ=>?_
   have⟨hD,hZ,gC,gD⟩:=bc
   exact wT (Vs Zx Zy Zz ZA ZB n15 GX QK e5 e6 z @Bool.not_false) yh
 simp only[GX,QK,zab,if_false]at h
 unfold S0
 refine ay.go nP.h rfl fun B Q hB hQ=>?_
 have⟨hD,hZ,gC,gD⟩:=bc
 exact zf3 (ly e4 GX QK) c1 c2 yh
theorem aeJ (op:Int) (ho:op=6∨op=7) {a b:Int} (ha:fa a) (h0:b≠0):HN op a b=(if op==6 then np (a.tdiv b)else np (a.tmod b),true):=by
 have S5:(b==0)=false:=by simpa using h0
 unfold HN
 rw[S5,if_neg (by simp)]
 have hm:np (a.tmod b)=a.tmod b:=akH (by
  unfold fa at *
  rw[QI]
  have:a.natAbs % b.natAbs≤a.natAbs:=Nat.mod_le _ _
  have h2:a.natAbs % b.natAbs<b.natAbs:=zb0 _ (by omega)
  split
  ·omega
  ·omega)
 by_cases h1:(b == -1)=true
 ·have e:b = -1:=by simpa using h1
  subst e
  rw[if_pos h1]
  rcases ho with rfl|rfl
  ·rw [if_neg (by decide)]
   have ht:a.tdiv (-1) = -a:=by rw[Int.tdiv_neg,Int.tdiv_one]
   show _=(np (a.tdiv (-1)),true)
   rw[ht]
   by_cases c:(a == -9223372036854775808)=true
   ·have:a = -9223372036854775808:=by simpa using c
    subst this
    rw[if_pos c];rfl
   ·rw[if_neg c,Int.zero_sub]
  ·rw [if_pos (by decide),if_neg (by decide),hm]
   have:a.tmod (-1)=0:=by rw[Int.tmod_neg,Int.tmod_one]
   rw[this]
 ·rw [if_neg h1]
  rcases ho with rfl|rfl
  ·rw[if_neg (by decide)];rfl
  ·rw[if_pos (by decide),if_neg (by decide),hm]
end Go.Abs
namespace Go.Abs
set_option maxRecDepth 8000
open Go.Proofs
theorem ag0 (a b:Int):np (((iy a+iy b) % 18446744073709551616:Nat):Int)=np (a+b):=by
 have:=nU a;have:=nU b
 rw[qX,qX];unfold iy at *;omega
theorem ag1 (a b:Int):np (((iy a+(18446744073709551616 - iy b) % 18446744073709551616) % 18446744073709551616:Nat):Int)=np (a - b):=by
 have:=nU a;have:=nU b
 rw[qX,qX];unfold iy at *;omega
theorem S7 (a:Int):((iy a:Nat):Int)=a % 18446744073709551616:=by unfold iy;omega
theorem ag2 (a b:Int):np ((iy a*iy b % 18446744073709551616:Nat):Int)=np (a*b):=by
 rw[show((iy a*iy b % 18446744073709551616:Nat):Int)=((iy a:Nat):Int)*((iy b:Nat):Int) % 18446744073709551616 by simp,S7,S7, ← Int.mul_emod,agX]
theorem akN (op:Int) {a b:Int} (ha:fa a) (hb:fa b) (s:St):ay Tryz.prog 84 [.int .i64 op, .int .i64 a, .int .i64 b] s (qc (vP op a b)) s:=by
 refine ay.pure ?_ rfl rfl s
 have h1:=Cl a
 have h2:=Cl b
 generalize h:vP op a b=R
 rcases zaa (op==8)with b8|b8
 ·have c1:=fun s=>Fh (nU a) (nU b) s
  have d:=xa ((iy a+iy b) % 18446744073709551616)
  rw[ag0]at d
  simp only[vP,b8,if_true]at h
  generalize (iy a+iy b) % 18446744073709551616=z at *
  generalize iy a=u at *
  generalize iy b=v at *
  unfold S0
  refine ay.go l8.h rfl fun B Q hB hQ=>?_
  have⟨hD,hZ,gC,gD⟩:=bc
  exact wT (ql b8 h1 h2 d) c1
 rcases zaa (op==9)with b9|b9
 ·have c0:=fun s=>vW (nU b) s
  have c1:=fun s=>Fh (nU a) (b:=(18446744073709551616 - iy b) % 18446744073709551616) (zb0 _ (by omega)) s
  have d:=xa ((iy a+(18446744073709551616 - iy b) % 18446744073709551616) % 18446744073709551616)
  rw[ag1]at d
  simp only[vP,b8,b9,if_true,zab,if_false]at h
  generalize (iy a+(18446744073709551616 - iy b) % 18446744073709551616) % 18446744073709551616=z at *
  generalize (18446744073709551616 - iy b) % 18446744073709551616=y at *
  generalize iy a=u at *
  generalize iy b=v at *
  unfold S0
  refine ay.go l8.h rfl fun B Q hB hQ=>?_
  have⟨hD,hZ,gC,gD⟩:=bc
  exact DG (um b8 b9 h1 h2 d) c0 c1
 rcases zaa (op==5)with b5|b5
 ·have c1:=fun s=>akJ (nU a) (nU b) s
  have d:=xa (iy a*iy b % 18446744073709551616)
  rw[ag2]at d
  simp only[vP,b8,b9,b5,if_true,zab,if_false]at h
  generalize iy a*iy b % 18446744073709551616=z at *
  generalize iy a=u at *
  generalize iy b=v at *
  unfold S0
  refine ay.go l8.h rfl fun B Q hB hQ=>?_
  have⟨hD,hZ,gC,gD⟩:=bc
  exact wT (BG b8 b9 b5 h1 h2 d) c1
 clear h1 h2
 rcases zaa (op==6 ||op==7)with GY|GY
 ·simp only [vP,b8,b9,b5,GY,if_true,zab,if_false]at h
  rcases zaa (b==0)with z|z
  ·unfold HN at h
   rw[if_pos z]at h
   subst h
   rcases zaa (op==6)with b6|b6
   ·unfold S0
    refine ay.go l8.h rfl fun B Q hB hQ=>?_
    have⟨hD,hZ,gC,gD⟩:=bc
    exact dR (um b8 b9 b5 b6 z)
   ·rw [b6,zbj]at GY
    unfold S0
    refine ay.go l8.h rfl fun B Q hB hQ=>?_
    have⟨hD,hZ,gC,gD⟩:=bc
    exact dR (BG b8 b9 b5 b6 GY z)
  ·have hz:b≠0:=by simpa using z
   have c1:=fun s=>agZ ha hb s hz
   rw[aeJ op (by simpa using GY) ha hz]at h
   rcases zaa (op==6)with b6|b6
   ·rw [if_pos b6]at h
    subst h
    unfold S0
    refine ay.go l8.h rfl fun B Q hB hQ=>?_
    have⟨hD,hZ,gC,gD⟩:=bc
    exact jn (um b8 b9 b5 b6 z) c1
   ·rw [if_neg (by simp [b6])]at h
    rw[b6,zbj]at GY
    subst h
    unfold S0
    refine ay.go l8.h rfl fun B Q hB hQ=>?_
    have⟨hD,hZ,gC,gD⟩:=bc
    exact jn (BG b8 b9 b5 b6 GY z) c1
 ·simp only [vP,b8,b9,b5,GY,zab,if_false]at h
  have c1:=fun s=>Wp op ha hb s
  rw[h]at c1
  simp only[Bool.or_eq_false_iff]at GY
  obtain⟨b6,b7⟩:=GY
  unfold S0
  refine ay.go l8.h rfl fun B Q hB hQ=>?_
  have⟨hD,hZ,gC,gD⟩:=bc
  exact jn (um b8 b9 b5 b6 b7) c1
def Aw (name:aD) (bq:List Int):Nat→List aD→Int
 |_,[]=>0
 |k,s::l=>if s==name then bq.getD k 0 else Aw name bq (k+1) l
theorem MI (name:aD) (bq:List Int) : ∀ (l:List aD) (k:Nat),Aw name bq k l=if gi name k l≥0 then bq.getD (gi name k l).toNat 0 else 0
 | [],k=>rfl
 | s::l,k=>by
  rw[Aw]
  by_cases e:s=name
  ·subst e
   have h1:gi s (k:Int) (s::l)=(k:Int):=by simp[gi]
   rw[h1,if_pos (by simp),if_pos (by omega),zaW]
  ·have h1:gi name (k:Int) (s::l)=gi name ((k:Int)+1) l:=by
    have e':(name==s)=false:=by simpa using fun c=>e c.symm
    simp[gi,e']
   rw[h1,if_neg (by simpa using e)]
   have:=MI name bq l (k+1)
   rw[show((k+1:Nat):Int)=(k:Int)+1 by omega]at this
   exact this
theorem akO {names:List aD} {bq:List Int} (hn:names.length<4611686018427387904) (hv:bq.length<4611686018427387904) (name:aD) (s:St) :
 ay Tryz.prog 82 [.str name, .slice .shared 1 (names.map encStr), .slice .shared 1 (bq.map bl)] s (.int .i64 (Ai name names bq)) s:=by
 refine ay.pure ?_ (by simp[D.bJ,D.ok,Tag.ok,dv,gY]) rfl s
 have e:Ai name names bq=Aw name bq 0 names:=by rw[MI];rfl
 rw[e]
 clear e
 generalize h:Aw name bq 0 names=R
 unfold S0
 refine ay.go Kq.h rfl fun B Q hB hQ=>?_
 have⟨hD,hZ,gC,gD⟩:=bc
 refine bT trivial ?_
 refine dg 0 0 (aJ.ind (ι:=List aD×Nat) (fun i=>names.drop i.2=i.1∧Aw name bq i.2 i.1=R) (fun i=>i.1.length)
  (fun i=> [(0, .str name),(1, .slice .shared 1 (names.map encStr)),(2, .slice .shared 1 (bq.map bl)),(9, .int .i64 (names.length:Int)),(10, .int .i64 (i.2:Int))]) (fun i=>⟨[],[]⟩) ?_ (names,0) ⟨rfl,h⟩)
 clear h
 rintro⟨rest,k⟩ ⟨h1,h⟩ IH
 dsimp only at h1 h
 cases rest with
 |nil=>
  have hD:=drop_nil h1
  simp only[Aw]at h
  subst h
  exact dR trivial
 | cons a rest=>
  obtain⟨hZ,g2,hD,g4⟩:=drop_cons h1
  have aV:k<4611686018427387904:=by omega
  simp only[Aw]at h
  rcases zaa (a==name)with b1|b1
  ·rw [if_pos b1]at h
   rcases zaE k bq.length with hl|hl
   ·have b3:decide ((k:Int)<(bq.length:Int))=true:=by simp [hl]
    have hg:bq[k]? = some R:=by rw[← h,zay,zah hl];rfl
    exact dR (ly b1 b3 hg)
   ·have b3:decide ((k:Int)<(bq.length:Int))=false:=by simp;omega
    rw[zay,zbF hl,zbJ]at h
    subst h
    exact dR (eK b1 b3)
  ·rw [if_neg (by simp [b1])]at h
   refine bT b1 ?_
   refine cr 0 0 ?_ ?_ (IH (rest,k+1) ⟨g2,h⟩ (zae _))
   ·(simp only[go_sem,hD,hZ,gC,gD,ak aV];try exact aQ)
   ·(simp only[go_sem,hD,hZ,gC,gD,ak aV];try exact aQ)
theorem F0 (b:Bool):fa (o7 b):=by unfold fa o7;split<;>omega
theorem akP (op a:Int):fa (C4 op a).1:=by
 unfold C4
 split
 ·exact Fg _
 split
 ·exact F0 _
 ·unfold fa;omega
theorem akQ (op a b:Int):fa (C5 op a b).1:=by
 unfold C5
 iterate 6 (split;exact F0 _)
 unfold fa;omega
theorem akR (op:Int) {a b:Int} (ha:fa a) (hb:fa b):fa (vP op a b).1:=by
 unfold vP
 split
 ·exact Fg _
 split
 ·exact Fg _
 split
 ·exact Fg _
 split
 ·rename_i h
  by_cases h0:b=0
  ·subst h0
   exact(show fa 0 by unfold fa;omega)
  ·rw [aeJ op (by simpa using h) ha h0]
   dsimp only
   split<;>exact Fg _
 split
 ·exact F0 _
 split
 ·exact F0 _
 ·exact akQ _ _ _
theorem Dp {y:Ex} : ∀ {l:List Ex},Ex.vK l→y∈l→y.jr
 |x::l,h,m=>by
  rcases zaq.1 m with rfl|m
  ·exact h.1
  ·exact Dp h.2 m
theorem F1 {y:Ex} {n:Int} : ∀ {l:List Ex},Ex.B1 n l=true→y∈l→y.dp n=true
 | x::l,h,m=>by
  simp only[Ex.B1]at h
  split at h
  ·cases h
  ·rename_i h'
   rcases zaq.1 m with rfl|m
   ·simpa using h'
   ·exact F1 h m
theorem ag3 {name:aD} {names:List aD} {bq:List Int} (hv : ∀ v∈bq,fa v):fa (Ai name names bq):=by
 unfold Ai
 split
 ·rw [zay]
  cases e:bq[(gi name 0 names).toNat]? with
  |none=>show fa 0;unfold fa;omega
  |some v=>exact hv v (zad e)
 ·unfold fa;omega
theorem ZC {names:List aD} {bq:List Int} (hv : ∀ v∈bq,fa v) : ∀ (n:Nat) (x:Ex),x.dp (n:Int)=true→x.jr→fa (x.val names bq).1:=by
 intro n
 induction n with
 |zero=>rintro⟨op,v,name,kids⟩ h;rw[wY]at h;omega
 | succ n ih=>
  rintro⟨op,v,name,kids⟩ h hr
  rw[wY]at h
  obtain⟨_,hk,h⟩:=h
  rw[nH]
  by_cases o1:op=1
  ·subst o1
   rw[if_pos rfl]at h
   rw[if_pos (by simp)]
   have:=hr.1
   unfold fa;dsimp only;omega
  rw[if_neg o1]at h
  rw[if_neg (by simpa using o1)]
  by_cases o2:op=2
  ·rw [if_pos (by simpa using o2)]
   exact ag3 hv
  rw[if_neg o2]at h
  rw[if_neg (by simpa using o2)]
  have hd:=h.2.2
  rw[show((n+1:Nat):Int) - 1=(n:Int) by omega]at hd
  have MC : ∀ y∈kids,fa (y.val names bq).1:=fun y m=>ih y (F1 hd m) (Dp hr.2 m)
  cases kids with
  |nil=>simp only[zaj,x8];unfold fa;omega
  | cons a kids=>
   have i1:=MC a (by simp)
   cases kids with
   |nil=>
    simp only[zaf,zaj,x8]
    split
    ·exact akP _ _
    ·show fa 0;unfold fa;omega
   |cons b kids=>
    have i2:=MC b (by simp)
    simp only[zaf,x8]
    split
    ·show fa 0;unfold fa;omega
    split
    ·show fa 0;unfold fa;omega
    split
    ·show fa 1;unfold fa;omega
    split
    ·show fa 0;unfold fa;omega
    ·exact akR _ i1 i2
theorem ag4 {names:List aD} {bq:List Int} (hn:names.length<4611686018427387904) (hv:bq.length<4611686018427387904) (hr : ∀ v∈bq,fa v) : ∀ (n:Nat) (x:Ex),x.dp (n:Int)=true→x.jr→
 ay Tryz.prog 51 [.agg (bQ x), .slice .shared 1 (names.map encStr), .slice .shared 1 (bq.map bl)] S0 (qc (x.val names bq)) S0:=by
 intro n
 induction n with
 |zero=>rintro⟨op,v,name,kids⟩ h;rw[wY]at h;omega
 | succ n ih=>
  rintro⟨op,v,name,kids⟩ h hx
  rw[wY]at h
  obtain⟨_,hk,h⟩:=h
  have GG:=fun s=>akO hn hv name s
  have Ck:=fun s=>Sl op s
  generalize hR:Ex.val names bq ⟨op,v,name,kids⟩=R
  rw[nH]at hR
  unfold S0
  by_cases o1:op=1
  ·subst o1
   simp only[beq_self_eq_true,if_true]at hR
   rw[← hR]
   have e0:kJ 1=0:=rfl
   rw[e0]at Ck
   have e1:((0:Int)==0)=true:=rfl
   have e2:((1:Int)==2)=false:=rfl
   show ay Tryz.prog 51 _ _ (.tuple [.int .i64 v, .bool true]) _
   refine ay.go rm.h rfl fun B Q hB hQ=>?_
   have⟨hD,hZ,gC,gD⟩:=bc
   exact jn (eK e1 e2) Ck
  rw[if_neg o1]at h
  have b1:(op==1)=false:=by simp[o1]
  by_cases o2:op=2
  ·subst o2
   simp only[b1,zab,if_false,beq_self_eq_true,if_true]at hR
   rw[← hR]
   have e0:kJ 2=0:=rfl
   rw[e0]at Ck
   have e1:((0:Int)==0)=true:=rfl
   have e2:((2:Int)==2)=true:=rfl
   show ay Tryz.prog 51 _ _ (.tuple [.int .i64 (Ai name names bq), .bool true]) _
   refine ay.go rm.h rfl fun B Q hB hQ=>?_
   have⟨hD,hZ,gC,gD⟩:=bc
   exact DG (eK e1 e2) Ck GG
  rw[if_neg o2]at h
  have b2:(op==2)=false:=by simp[o2]
  simp only[b1,b2,zab,if_false]at hR
  have hd:=h.2.2
  rw[show((n+1:Nat):Int) - 1=(n:Int) by omega]at hd
  have MC : ∀ {y:Ex},y∈kids→∀ s,ay Tryz.prog 51 [.agg (bQ y), .slice .shared 1 (names.map encStr), .slice .shared 1 (bq.map bl)] s (qc (y.val names bq)) s:=fun {y} hy s=>
   ay.pure (ih y (F1 hd hy) (Dp hx.2 hy)) (by simp[D.bJ,D.ok,Tag.ok,je,dv,gY]) rfl s
  have jE : ∀ {y:Ex},y∈kids→fa (y.val names bq).1:=fun {y} hy=>ZC hr n y (F1 hd hy) (Dp hx.2 hy)
  clear h GG
  rename _=R=>h
  rw[← hk]at Ck
  cases kids with
  |nil=>simp[kJ]at hk;omega
  | cons a kids=>
   have c1:=fun s=>MC (y:=a) (by simp) s
   have i1:=jE (y:=a) (by simp)
   cases kids with
   |nil=>
    simp only[zaf,zaj,x8]at h
    have Ck : ∀ s,ay Tryz.prog 81 [.int .i64 op] s (.int .i64 1) s:=Ck
    have e1:((1:Int)==0)=false:=rfl
    have e2:((1:Int)==1)=true:=rfl
    generalize a.val names bq=r1 at *
    refine ay.go rm.h rfl fun B Q hB hQ=>?_
    have⟨hD,hZ,gC,gD⟩:=bc
    exact zf3 (eK e1 e2) Ck c1 akM
   | cons b kids=>
    cases kids with
    |nil=>
     have c2:=fun s=>MC (y:=b) (by simp) s
     have i2:=jE (y:=b) (by simp)
     have Ck : ∀ s,ay Tryz.prog 81 [.int .i64 op] s (.int .i64 2) s:=Ck
     have e0:((2:Int)==0)=false:=rfl
     have e2:((2:Int)==1)=false:=rfl
     have e3 : [bQ a,bQ b][Int.toNat 1]? = some (bQ b):=rfl
     simp only[zaf,zaj,x8]at h
     have c3:=fun s=>akN op i1 i2 s
     generalize a.val names bq=r1 at *
     generalize b.val names bq=r2 at *
     have n0:(r1.1 != 0) = !(r1.1==0):=rfl
     refine ay.go rm.h rfl fun B Q hB hQ=>?_
     have⟨hD,hZ,gC,gD⟩:=bc
     exact zf4 (ql e0 e2 e3 n0) Ck c1 c2 c3
    |cons c kids=>simp[kJ]at hk;omega
theorem MJ {x:Ex} {names:List aD} {bq:List Int} (hx:x.may=true) (MK:x.jr) (hn:names.length<4611686018427387904) (hv:bq.length<4611686018427387904) (hr : ∀ v∈bq,fa v) (s:St) :
 ay Tryz.prog 51 [.agg (bQ x), .slice .shared 1 (names.map encStr), .slice .shared 1 (bq.map bl)] s (qc (x.bE names bq)) s:=by
 have e:x.bE names bq=x.val names bq:=by unfold Ex.bE;rw[if_pos hx]
 rw[e]
 exact ay.pure (ag4 hn hv hr 20 x (by rw[show((20:Nat):Int)=20 from rfl,yO];exact hx) MK) (by simp[D.bJ,D.ok,Tag.ok,je,dv,gY]) rfl s
structure Ly where
 c:Nat
 mo:Nat
 gm:Nat
 more:List D
 fs:D
def Ly.own (y:Ly):List Nat:=y.c::y.mo::y.fs.arr
def fy (p:Pg) (fr:Fr):Pc:=(p.procs[fr.proc.toNat]?).getD pc0
def Bj (p:Pg) (a:Int) (fr:Fr):List D:= [.slice .shared 16 ((fy p fr).flat.map du), .slice .shared 1 ((fy p fr).fin.map encStr), .int .i64 a, .slice .shared 1 (fr.names.map encStr), .slice .shared 1 (fr.vars.map fun c:Nat=>bl (c:Int))]
def iO (p:Pg):Int→List Fr→List D
 |_,[]=> []
 |a,fr::r=>iO p fr.call r++Bj p a fr
theorem sG (p:Pg) : ∀ (a:Int) (l:List Fr),(iO p a l).length=l.length*5
 |_,[]=>rfl
 |a,fr::r=>by
  rw[iO,zal,sG p fr.call r]
  simp only[Bj,zas,zaC];omega
abbrev gF (p:Pg) (T W:List Int) (fuel:Int) (y:Ly) (m:Mc):List D:=
 [.slice .shared 1 (p.globals.map encStr), .slice .shared 5 (p.procs.map bP), .dr 1 y.mo y.gm m.mem.length,y.fs, .slice .shared 1 (T.map bl), .int .i64 fuel, .slice .shared 1 (W.map bl),
  .int .i64 m.fin, .int .i64 m.steps, .int .i64 m.reads, .slice (.tok 0) 1 (m.out.map bl), .slice (.tok 1) 2 (m.trace.map jv)]
structure fz (p:Pg) (T W:List Int) (fuel:Int) (y:Ly) (a:Int) (m:Mc) (loc:List (Nat×List D)) (s:St):Prop where
 fi:s.ag[y.c]? = some (gF p T W fuel y m)
 t0:s.au[0]? = some (some m.out.length)
 t1:s.au[1]? = some (some m.trace.length)
 mem:s.ag[y.mo]? = some (.int .i64 ((y.gm:Nat):Int)::(m.mem.map gj++y.more))
 fr:(y.fs = .ew 5∧m.st = [])∨∃ fo g more,y.fs = .dr 5 fo g m.st.length∧s.ag[fo]? = some (.int .i64 ((g:Nat):Int)::(iO p a m.st++more))
 own:y.own.Nodup
 loc : ∀ q∈loc,s.ag[q.1]? = some q.2∧q.1∉y.own
section
variable {p:Pg} {T W:List Int} {fuel:Int} {y:Ly} {a:Int} {m:Mc} {loc:List (Nat×List D)} {s:St}
theorem fz.tu (h:fz p T W fuel y a m loc s) : ∀ o∈y.own,o<s.ag.length:=by
 intro o mo
 simp only[Ly.own,zaq]at mo
 rcases mo with rfl|rfl|mo
 ·exact cY h.fi
 ·exact cY h.mem
 ·rcases h.fr with ⟨e,_⟩ | ⟨fo,g,more,e,e2⟩
  ·rw[e]at mo;cases mo
  ·rw [e]at mo
   have:o=fo:=by simpa[D.arr]using mo
   subst this;exact cY e2
theorem fz.S8 (h:fz p T W fuel y a m loc s) {y':Ly} {a':Int} {m':Mc} {s':St} (h1:s'.ag[y'.c]? = some (gF p T W fuel y' m')) (h2:s'.au[0]? = some (some m'.out.length)) (h3:s'.au[1]? = some (some m'.trace.length))
 (h4:s'.ag[y'.mo]? = some (.int .i64 ((y'.gm:Nat):Int)::(m'.mem.map gj++y'.more))) (h5:(y'.fs = .ew 5∧m'.st = [])∨∃ fo g more,y'.fs = .dr 5 fo g m'.st.length∧s'.ag[fo]? = some (.int .i64 ((g:Nat):Int)::(iO p a' m'.st++more)))
 (h6:y'.own.Nodup) (h7 : ∀ o∈y'.own,o∈y.own∨s.ag.length≤o) (k : ∀ (q:Nat) (r:List D),s.ag[q]? = some r→q∉y.own→s'.ag[q]? = some r):fz p T W fuel y' a' m' loc s':=
 ⟨h1,h2,h3,h4,h5,h6,fun q mq=>by
  obtain⟨e1,e2⟩:=h.loc q mq
  refine⟨k _ _ e1 e2,fun mo=>?_⟩
  rcases h7 _ mo with mo|mo
  ·exact e2 mo
  ·have:=cY e1;omega⟩
theorem fz.sub (h:fz p T W fuel y a m loc s) {Qo:List (Nat×List D)} (hl : ∀ q∈Qo,q∈loc):fz p T W fuel y a m Qo s:= {h with loc:=fun q m=>h.loc q (hl q m)}
theorem fz.keep (h:fz p T W fuel y a m loc s) {s':St} (k : ∀ (o:Nat) (r:List D),s.ag[o]? = some r→s'.ag[o]? = some r) (k0:s'.au[0]? = s.au[0]?) (k1:s'.au[1]? = s.au[1]?):fz p T W fuel y a m loc s':=by
 refine⟨k _ _ h.fi,by rw[k0];exact h.t0,by rw[k1];exact h.t1,k _ _ h.mem, ?_,h.own,fun q m=>⟨k _ _ (h.loc q m).1,(h.loc q m).2⟩⟩
 rcases h.fr with e|⟨fo,g,more,e,e2⟩
 ·exact .inl e
 ·exact .inr ⟨fo,g,more,e,k _ _ e2⟩
theorem fz.new (h:fz p T W fuel y a m loc s) (row:List D):fz p T W fuel y a m ((s.ag.length,row)::loc) ⟨s.ag++ [row],s.au⟩:=by
 have h':=h.keep (s':=⟨s.ag++ [row],s.au⟩) (fun o r e=>by rw[zai (cY e)];exact e) rfl rfl
 refine {h' with loc:=fun q mq=>?_}
 rcases zaq.1 mq with rfl|mq
 ·exact⟨by simp,fun mo=>zbY _ (h.tu _ mo)⟩
 ·exact h'.loc q mq
theorem fz.au (h:fz p T W fuel y a m loc s) (ts:List (Option Nat)):fz p T W fuel y a m loc ⟨s.ag,s.au++ts⟩:=
 h.keep (fun _ _ e=>e) (zai (zac.1 h.t0).1) (zai (zac.1 h.t1).1)
theorem fz.Ax (h:fz p T W fuel y a m loc s):y.c≠y.mo:=fun e=>by
 have:=h.own
 simp only[Ly.own,za4,zaq,not_or]at this
 exact this.1.1 e
theorem fz.ya (h:fz p T W fuel y a m loc s) : ∀ o∈y.fs.arr,o≠y.c∧o≠y.mo:=fun o mo=>by
 have:=h.own
 simp only[Ly.own,za4,zaq,not_or]at this
 exact⟨fun e=>this.1.2 (e ▸ mo),fun e=>this.2.1 (e ▸ mo)⟩
theorem fz.nJ (h:fz p T W fuel y a m loc s) {m':Mc} (e1:m'.st=m.st) (e2:m'.mem=m.mem) {ts:List (Option Nat)} (k0:ts[0]? = some (some m'.out.length)) (k1:ts[1]? = some (some m'.trace.length)) :
 fz p T W fuel y a m' loc ⟨s.ag.set y.c (gF p T W fuel y m'),ts⟩:=by
 refine h.S8 (by simp[cY h.fi]) k0 k1 ?_ ?_ h.own (fun o mo=> .inl mo) fun q r e hq=>?_
 ·rw [e2]
  show(s.ag.set _ _)[_]? = _
  rw[zam h.Ax];exact h.mem
 ·rw [e1]
  rcases h.fr with e|⟨fo,g,more,e,e3⟩
  ·exact .inl e
  ·refine .inr ⟨fo,g,more,e, ?_⟩
   show(s.ag.set _ _)[_]? = _
   rw[zam (Ne.symm (h.ya fo (by rw[e];simp[D.arr])).1)];exact e3
 ·show(s.ag.set _ _)[_]? = _
  rw[zam (fun e'=>hq (by rw[← e'];simp[Ly.own]))];exact e
theorem fz.K6 (h:fz p T W fuel y a m loc s) {i:Nat} (v:Int):fz p T W fuel y a {m with mem:=m.mem.set i v} loc ⟨s.ag.set y.mo (.int .i64 ((y.gm:Nat):Int)::((m.mem.set i v).map gj++y.more)),s.au⟩:=by
 refine h.S8 ?_ h.t0 h.t1 (by simp[cY h.mem]) ?_ h.own (fun o mo=> .inl mo) fun q r e hq=>?_
 ·show(s.ag.set _ _)[_]? = _
  rw[zam (Ne.symm h.Ax),h.fi]
  simp
 ·rcases h.fr with e | ⟨fo,g,more,e,e3⟩
  ·exact .inl e
  ·refine .inr ⟨fo,g,more,e, ?_⟩
   show(s.ag.set _ _)[_]? = _
   rw[zam (Ne.symm (h.ya fo (by rw[e];simp[D.arr])).2)];exact e3
 ·show(s.ag.set _ _)[_]? = _
  rw[zam (fun e'=>hq (by rw[← e'];simp[Ly.own]))];exact e
theorem fz.K7 (h:fz p T W fuel y a m loc s) (v:Int):fz p T W fuel {y with gm:=y.gm+1,more:= []} a {m with mem:=m.mem++ [v]} loc
 ⟨(s.ag.set y.mo (.int .i64 ((y.gm+1:Nat):Int)::(m.mem.map gj++ [.int .i64 v]))).set y.c (gF p T W fuel {y with gm:=y.gm+1,more:= []} {m with mem:=m.mem++ [v]}),s.au⟩:=by
 refine h.S8 ?_ h.t0 h.t1 ?_ ?_ h.own (fun o mo=> .inl mo) fun q r e hq=>?_
 ·simp[cY h.fi]
 ·show(List.set _ _ _)[_]? = _
  rw[zam h.Ax]
  simp[cY h.mem,gj]
 ·rcases h.fr with e | ⟨fo,g,more,e,e3⟩
  ·exact .inl e
  ·refine .inr ⟨fo,g,more,e, ?_⟩
   have:=h.ya fo (by rw[e];simp[D.arr])
   show(List.set _ _ _)[_]? = _
   rw[zam (Ne.symm this.1),zam (Ne.symm this.2)];exact e3
 ·show(List.set _ _ _)[_]? = _
  rw[zam (fun e'=>hq (by rw[← e'];simp[Ly.own])),zam (fun e'=>hq (by rw[← e'];simp[Ly.own]))];exact e
theorem fz.rP {q:Nat} {r r':List D} (h:fz p T W fuel y a m ((q,r)::loc) s) (hq : ∀ x∈loc,x.1≠q):fz p T W fuel y a m ((q,r')::loc) ⟨s.ag.set q r',s.au⟩:=by
 obtain⟨h1,h2⟩:=h.loc (q,r) (zaz ..)
 simp only at h1 h2
 have ne : ∀ {o:Nat} {x:List D},s.ag[o]? = some x→o≠q→(s.ag.set q r')[o]? = some x:=fun e hn=>by rw[zam (Ne.symm hn)];exact e
 have no : ∀ o∈y.own,o≠q:=fun o mo e=>h2 (e ▸ mo)
 refine⟨ne h.fi (no _ (by simp[Ly.own])),h.t0,h.t1,ne h.mem (no _ (by simp[Ly.own])), ?_,h.own,fun x mx=>?_⟩
 ·rcases h.fr with e | ⟨fo,g,more,e,e3⟩
  ·exact .inl e
  ·exact .inr ⟨fo,g,more,e,ne e3 (no _ (by rw[Ly.own,e];simp[D.arr]))⟩
 ·rcases zaq.1 mx with rfl | mx
  ·exact⟨by simp[cY h1],h2⟩
  ·obtain⟨f1,f2⟩:=h.loc x (zan _ mx)
   exact⟨ne f1 (hq x mx),f2⟩
structure rG (p:Pg) (y:Ly) (a:Int) (fr:Fr) (r:List Fr) (s:St) (fo g:Nat) (cells:List D):Prop where
 fs:y.fs = .dr 5 fo g (r.length+1)
 at_:s.ag[fo]? = some (.int .i64 ((g:Nat):Int)::cells)
 c0:cells[r.length*5]? = some (.slice .shared 16 ((fy p fr).flat.map du))
 c1:cells[r.length*5+1]? = some (.slice .shared 1 ((fy p fr).fin.map encStr))
 c2:cells[r.length*5+2]? = some (.int .i64 a)
 c3:cells[r.length*5+3]? = some (.slice .shared 1 (fr.names.map encStr))
 c4:cells[r.length*5+4]? = some (.slice .shared 1 (fr.vars.map fun c:Nat=>bl (c:Int)))
theorem fz.Dq (h:fz p T W fuel y a m loc s) {fr:Fr} {r:List Fr} (gG:m.st=fr::r) : ∃ fo g more,rG p y a fr r s fo g (iO p a (fr::r)++more):=by
 rcases h.fr with ⟨_,e⟩|⟨fo,g,more,e,e2⟩
 ·rw[gG]at e;cases e
 ·rw [gG]at e e2
  have hl:=sG p fr.call r
  have get : ∀ j,j<5→(iO p a (fr::r)++more)[r.length*5+j]? = (Bj p a fr)[j]? :=fun j hj=>by
   rw[zai (by rw[sG];simp;omega),iO,zao (by omega),hl,show r.length*5+j - r.length*5=j by omega]
  exact⟨fo,g,more,by simpa using e,e2,get 0 (by omega),get 1 (by omega),get 2 (by omega),get 3 (by omega),get 4 (by omega)⟩
theorem ag5 {A C:List D} {n:Nat} (hA:A.length=n) (x0 x1 x2 v:D):fU (A++x0::x1::x2::C) (n+2) [v] = A++x0::x1::v::C:=by
 unfold fU
 rw[List.take_append,List.drop_append,zb5 (by omega),zb6 (by simp;omega),hA,show n+2 - n=2 by omega,show n+2 + [v].length - n=3 by simp only[zaH];omega]
 simp
theorem JO (p:Pg) (a a':Int) (fr:Fr) (r:List Fr) (more:List D):fU (iO p a (fr::r)++more) (r.length*5+2) [.int .i64 a'] = iO p a' (fr::r)++more:=by
 have hl:=sG p fr.call r
 rw[iO,iO]
 generalize iO p fr.call r=A at *
 simp only[Bj,zaB,zaV,za1]
 exact ag5 hl _ _ _ _
theorem fz.setAt (h:fz p T W fuel y a m loc s) {fr:Fr} {r:List Fr} (gG:m.st=fr::r) {fo g:Nat} {more:List D} (ht:rG p y a fr r s fo g (iO p a (fr::r)++more)) (a':Int) :
 fz p T W fuel y a' m loc ⟨s.ag.set fo (.int .i64 ((g:Nat):Int)::(iO p a' (fr::r)++more)),s.au⟩:=by
 have hn:=h.ya fo (by rw[ht.fs];simp[D.arr])
 refine h.S8 ?_ h.t0 h.t1 ?_ (.inr ⟨fo,g,more,by rw[gG];exact ht.fs, ?_⟩) h.own (fun o mo=> .inl mo) fun q r e hq=>?_
 ·show(s.ag.set _ _)[_]? = _
  rw[zam hn.1];exact h.fi
 ·show(s.ag.set _ _)[_]? = _
  rw[zam hn.2];exact h.mem
 ·rw [gG]
  show(s.ag.set _ _)[_]? = _
  simp[cY ht.at_]
 ·show(s.ag.set _ _)[_]? = _
  rw[zam (fun e'=>hq (by rw[← e',Ly.own,ht.fs];simp[D.arr]))];exact e
theorem uy (h:fz p T W fuel y a m loc s) {fr:Fr} {r:List Fr} {fo g:Nat} {cells:List D} (ht:rG p y a fr r s fo g cells) (hs:r.length<1000000):ay Tryz.prog 48 [.ptr y.c 0] s (.fK fo g (r.length*5)) s:=by
 have hm:=h.fi
 rw[gF,ht.fs]at hm
 have hw:IntKind.wrap .i64 (((r.length+1:Nat):Int) - 1)=((r.length:Nat):Int):=by rw[show((r.length+1:Nat):Int) - 1=(r.length:Int) by omega];exact dE (by omega) (by omega)
 have hl:(r.length<r.length+1)=True:=by simp
 refine bk.jO BM.h rfl fun B Q hB hQ=>?_
 have⟨hD,hZ,gC,gD⟩:=bc
 refine bT (ly hm hw hl) ?_
 (refine dI hQ ?_;simp only[bZ,cd,dn,dq,go_sem])
end
end Go.Abs
namespace Go.Abs
set_option maxRecDepth 8000
open Go.Proofs
section
variable {p:Pg} {T W:List Int} {fuel:Int} {y:Ly} {a:Int} {m:Mc} {loc:List (Nat×List D)} {s:St} {fr:Fr} {r:List Fr} {fo g:Nat} {cells:List D}
theorem rG.keep (h:rG p y a fr r s fo g cells) {s':St} (k : ∀ (o:Nat) (r:List D),s.ag[o]? = some r→s'.ag[o]? = some r):rG p y a fr r s' fo g cells:= {h with at_:=k _ _ h.at_}
theorem rG.new (h:rG p y a fr r s fo g cells) (row:List D):rG p y a fr r ⟨s.ag++ [row],s.au⟩ fo g cells:=h.keep fun o r e=>by rw[zai (cY e)];exact e
theorem Wr {l:List Nat} {k:Nat} {c:Nat} {rest:List Nat} (h:l.drop k=c::rest):(l.map fun c:Nat=>bl (c:Int))[k]? = some [.int .i64 (c:Int)]:=by
 rw[zap,(drop_cons h).1];rfl
theorem ag6 {i:Nat} {v:Int} (hv:m.mem[i]? = some v) (more:List D):(m.mem.map gj++more)[i]? = some (.int .i64 v):=by
 have:=(zac.1 hv).1
 rw[zai (by simpa using this),zap,hv];rfl
theorem QL (h:fz p T W fuel y a m loc s) (gG:m.st=fr::r) (ht:rG p y a fr r s fo g cells) (hs:r.length<1000000) (hv:fr.vars.length<1000000) (hc : ∀ c∈fr.vars,c<m.mem.length) :
 ay Tryz.prog 52 [.ptr y.c 0] s (.slice (.tok s.au.length) 1 (m.bq.map bl)) ⟨s.ag,s.au++ [some m.bq.length]⟩:=by
 have c1:=uy h ht hs
 have hm:=h.fi
 rw[gF]at hm
 have h4:=ht.c4
 have gV:=ht.at_
 have rF:=h.mem
 have NL:(fr.vars.map fun c=>m.mem.getD c 0)=m.bq:=by unfold Mc.bq Mc.top;rw[gG];rfl
 rw[← NL]
 generalize qL:s.au.length=tk at *
 refine bk.jO oW.h rfl fun B Q hB hQ=>?_
 have⟨hD,hZ,gC,gD⟩:=bc
 have loop : ∀ (rest:List Nat) (k:Nat),fr.vars.drop k=rest→k≤fr.vars.length→aJ Tryz.prog B 28 Q0M (fV 0 (kp (iW Tryz.prog B 28 Q0N Q) Q))
  [(0, .ptr y.c 0),(3, .slice (.tok tk) 1 (((fr.vars.take k).map fun c=>m.mem.getD c 0).map bl)),(10, .slice .shared 1 (fr.vars.map fun c:Nat=>bl (c:Int))),(11, .int .i64 (fr.vars.length:Int)),(12, .int .i64 (k:Int))] ⟨s.ag,s.au++ [some k]⟩:=by
  intro rest
  induction rest with
  |nil=>
   intro k hd JP
   have hD:=drop_nil hd
   have hk:fr.vars.take k=fr.vars:=zb5 (zaI.1 hd)
   have:k=fr.vars.length:=by have:=zaI.1 hd;omega
   subst this
   rw[hk]
   refine aJ.fl ?_
   refine bT trivial ?_
   (refine dI hQ ?_;simp only[bZ,cd,dn,dq,go_sem,zau])
  | cons c rest ih=>
   intro k hd JP
   obtain⟨hZ,g2,hD,g4⟩:=drop_cons hd
   have aV:k<4611686018427387904:=by omega
   have zb:=hc c (zad hZ)
   have hgc:=Wr hd
   have hgv:m.mem[c]? = some (m.mem.getD c 0):=by rw[zay,zah zb];rfl
   have jS:=ag6 hgv y.more
   have SR:=ME hd m
   have IH:=ih (k+1) g2 g4
   rw[SR,zag,zaf,zaj]at IH
   generalize (fr.vars.take k).map (fun c=>m.mem.getD c 0)=acc at *
   generalize m.mem.getD c 0=v at *
   have akT:acc.length=k:=by
    have:=congrArg List.length SR
    simp at this;omega
   have dc:fS 1 8 (.slice (.tok tk) 1 (acc.map bl)) (.slice .full 1 [[.int .i64 v]]) ⟨s.ag,s.au++ [some k]⟩=some (.slice (.tok tk) 1 (acc.map bl++ [[.int .i64 v]]),⟨s.ag,s.au++ [some (k+1)]⟩):=by
    rw[kZ (size:=1) (by simp only[zau,zaH];unfold aT;omega) (by simp[← qL,akT])]
    simp[← qL,akT]
   refine aJ.fl ?_
   refine bT (Gw hm hgc zb rF jS dc @Nat.mul_one) ?_
   refine aJ.iS ?_ IH
   simp only[go_sem,ak aV,bl]
   repeat' (first|exact Ok.out|with_reducible refine ej ?_ ?_)
 have l0:=loop fr.vars 0 rfl (zaA _)
 simp only[List.take_zero,zaj]at l0
 repeat' (first
 |simp only[go_sem,hD,hZ,gC,gD,hm,gV,h4]
 |(with_reducible refine CU (c1) ?_)
 |(with_reducible refine aX hQ ?_;exact bK))
 refine aJ.lA 3 1 rfl ?_
 simp only[go_sem,hD,hZ,gC,gD]
 refine aJ.iS ?_ l0
 simp only[go_sem,qL,zau]
 repeat' (first|exact Ok.out|with_reducible refine ej ?_ ?_)
theorem S9 (h:fz p T W fuel y a m loc s) (ht:rG p y a fr r s fo g cells) (hs:r.length<1000000) (hn:fr.names.length<1000000) {name:aD} {j c:Nat} (hj:gi name 0 fr.names=(j:Int)) (hc:fr.vars[j]? = some c) (zb:c<m.mem.length) (v:Int) :
 ay Tryz.prog 79 [.ptr y.c 0, .str name, .int .i64 v] s (.tuple []) ⟨s.ag.set y.mo (.int .i64 ((y.gm:Nat):Int)::((m.mem.set c v).map gj++y.more)),s.au⟩:=by
 have c1:=uy h ht hs
 have hm:=h.fi
 rw[gF]at hm
 have h3:=ht.c3
 have h4:=ht.c4
 have gV:=ht.at_
 have rF:=h.mem
 have vX:fU (m.mem.map gj++y.more) c [.int .i64 v] = (m.mem.set c v).map gj++y.more:=by
  unfold fU
  rw[zbN (by simp;omega),List.drop_append_of_le_length (by simp;omega)]
  rw[← List.map_take, ← List.map_drop,List.set_eq_take_append_cons_drop,if_pos zb]
  simp[gj]
 have hlen:(c+1≤m.mem.length+y.more.length)=True:=by simp only[eq_iff_iff,iff_true];omega
 have hgc:(fr.vars.map fun c:Nat=>bl (c:Int))[j]? = some [.int .i64 (c:Int)]:=by rw[zap,hc];rfl
 refine bk.jO uu.h rfl fun B Q hB hQ=>?_
 have⟨hD,hZ,gC,gD⟩:=bc
 have loop : ∀ (rest:List aD) (k:Nat),fr.names.drop k=rest→gi name k rest=(j:Int)→aJ Tryz.prog B 41 Q0T (fV 0 Q)
  [(0, .ptr y.c 0),(1, .str name),(2, .int .i64 v),(6, .fK fo g (r.length*5)),(14, .int .i64 (fr.names.length:Int)),(15, .int .i64 (k:Int))] s:=by
  intro rest
  induction rest with
  |nil=>intro k _ e;simp[gi]at e
  | cons nm rest ih=>
   intro k hd e
   obtain⟨hZ,g2,hD,g4⟩:=drop_cons hd
   have aV:k<4611686018427387904:=by omega
   have hgn:(fr.names.map encStr)[k]? = some [.str nm]:=by rw[zap,hZ];rfl
   refine aJ.fl ?_
   by_cases hb:nm=name
   ·subst hb
    have b1:(nm==nm)=true:=beq_self_eq_true nm
    have:(k:Int)=(j:Int):=by simpa[gi]using e
    have:k=j:=by omega
    subst this
    repeat' (first
 |simp only[go_sem,hD,hZ,gC,gD,hm,gV,h3,h4,hgn,hc,za9,bl,b1,zb,rF,vX,hlen,zb1]
 | (with_reducible refine aX hQ ?_;exact bK))
    (refine dI hQ ?_;simp only[bZ,cd,dn,dq,go_sem])
   ·have b1:(nm==name)=false:=by simpa using hb
    have b2:(name==nm)=false:=by simpa using fun c=>hb c.symm
    simp only[gi,b2,zab,if_false]at e
    refine bT (um hm gV h3 hgn b1) ?_
    refine aJ.iS ?_ (ih (k+1) g2 (by rw[show((k+1:Nat):Int)=(k:Int)+1 by omega];exact e))
    simp only[go_sem,ak aV]
    repeat' (first|exact Ok.out|with_reducible refine ej ?_ ?_)
 have l0:=loop fr.names 0 rfl hj
 repeat' (first
 |simp only[go_sem,hD,hZ,gC,gD,hm,gV,h3]
 |(with_reducible refine CU (c1) ?_)
 |(with_reducible refine aX hQ ?_;exact bK))
 refine aJ.iS ?_ l0
 simp only[go_sem,zau]
 repeat' (first|exact Ok.out|with_reducible refine ej ?_ ?_)
theorem xb (h:fz p T W fuel y a m loc s) (hW:W.length<1000000) (ht:m.trace.length<2000000) (id:Int) (bq:List Int) :
 ∃ s',ay Tryz.prog 54 [.ptr y.c 0, .int .i64 id, .slice .shared 1 (bq.map bl)] s (.tuple []) s'∧fz p T W fuel y a (m.event W id bq) loc s':=by
 have hm:=h.fi
 have hl:=cY hm
 rw[gF]at hm
 have dc:fS 2 32 (.slice (.tok 1) 2 (m.trace.map jv)) (.slice .full 2 [[.int .i64 id, .slice .shared 1 (bq.map bl)]]) s=some (.slice (.tok 1) 2 ((m.trace++ [(id,bq)]).map jv),⟨s.ag,s.au.set 1 (some (m.trace.length+1))⟩):=by
  rw[kZ (size:=2) (bytes:=32) (by simp only[zau,zaH];unfold aT;omega) (by simpa using h.t1)]
  simp[jv]
 have he:=dV W m id bq
 cases hb:W.contains id with
 | false=>
  have e:m.event W id bq=m:=by unfold Mc.event;rw[hb];rfl
  rw[e]
  refine⟨s, ?_,h⟩
  refine bk.jO od.h rfl fun B Q hB hQ=>?_
  have⟨hD,hZ,gC,gD⟩:=bc
  have loop : ∀ (rest:List Int) (k:Nat),W.drop k=rest→rest.contains id=false→aJ Tryz.prog B 35 Q0Q (fV 0 Q)
   [(0, .ptr y.c 0),(1, .int .i64 id),(2, .slice .shared 1 (bq.map bl)),(11, .slice .shared 1 (W.map bl)),(12, .int .i64 (W.length:Int)),(13, .int .i64 (k:Int))] s:=by
   intro rest
   induction rest with
   |nil=>
    intro k hd e
    have hD:=drop_nil hd
    refine aJ.fl ?_
    refine bT trivial ?_
    (refine dI hQ ?_;simp only[bZ,cd,dn,dq,go_sem])
   |cons w rest ih=>
    intro k hd e
    obtain⟨hZ,g2,hD,g4⟩:=drop_cons hd
    have aV:k<4611686018427387904:=by omega
    rw[List.contains_cons,Bool.or_eq_false_iff]at e
    have b1:(w==id)=false:=by have:=e.1;simp at this ⊢;exact fun c=>this c.symm
    refine aJ.fl ?_
    refine bT b1 ?_
    refine aJ.iS ?_ (ih (k+1) g2 e.2)
    simp only[go_sem,ak aV]
    repeat' (first|exact Ok.out|with_reducible refine ej ?_ ?_)
  have l0:=loop W 0 rfl hb
  refine bT hm ?_
  refine aJ.iS ?_ l0
  simp only[go_sem,zau]
  repeat' (first|exact Ok.out|with_reducible refine ej ?_ ?_)
 | true=>
  have e:m.event W id bq = {m with trace:=m.trace++ [(id,bq)]}:=by unfold Mc.event;rw[hb];rfl
  rw[e]
  have q8:=h.nJ (m':= {m with trace:=m.trace++ [(id,bq)]}) (ts:=s.au.set 1 (some (m.trace.length+1))) rfl rfl (by rw[zam (by omega)];exact h.t0) (by simp[(zac.1 h.t1).1])
  refine⟨_, ?_,q8⟩
  refine bk.jO od.h rfl fun B Q hB hQ=>?_
  have⟨hD,hZ,gC,gD⟩:=bc
  have loop : ∀ (rest:List Int) (k:Nat),W.drop k=rest→rest.contains id=true→aJ Tryz.prog B 35 Q0Q (fV 0 Q)
   [(0, .ptr y.c 0),(1, .int .i64 id),(2, .slice .shared 1 (bq.map bl)),(11, .slice .shared 1 (W.map bl)),(12, .int .i64 (W.length:Int)),(13, .int .i64 (k:Int))] s:=by
   intro rest
   induction rest with
   |nil=>intro k _ e;cases e
   | cons w rest ih=>
    intro k hd e
    obtain⟨hZ,g2,hD,g4⟩:=drop_cons hd
    have aV:k<4611686018427387904:=by omega
    rw[List.contains_cons,zaD]at e
    refine aJ.fl ?_
    by_cases hw:w=id
    ·have b1:(w==id)=true:=by simpa using hw
     refine bT (ql hm b1 dc hl) ?_
     (refine dI hQ ?_;simp only[bZ,cd,dn,dq,go_sem])
     simp only[gF,zag,zaf,zaj]
    ·have b1:(w==id)=false:=by simpa using hw
     refine bT b1 ?_
     refine aJ.iS ?_ (ih (k+1) g2 (e.resolve_left (by simpa using fun c=>hw c.symm)))
     simp only[go_sem,ak aV]
     repeat' (first|exact Ok.out|with_reducible refine ej ?_ ?_)
  have l0:=loop W 0 rfl hb
  refine bT hm ?_
  refine aJ.iS ?_ l0
  simp only[go_sem,zau]
  repeat' (first|exact Ok.out|with_reducible refine ej ?_ ?_)
end
end Go.Abs
