/-
  What is proved here: part 7 of the road to the claim (Ev1, Ev2, Cp1, RunC0, RunC1, RunC2, RunC3, RunC4, RunC5, RunC6, RunC7, RunSt, R12P, Rj1, R12A, R12N, R12B, R12D, R12E, RunSz, Jm3, Rj2, Ck1, RunC8, R12I, R12M, R12O, R12Q).
  No conditions.
-/
import Derived.Test.YtpjadlleefgcpaaGreatRnL6

set_option linter.unusedSimpArgs false
set_option linter.unusedVariables false
namespace Go.Abs
set_option maxRecDepth 8000
open Go.Proofs
theorem S9 (b:Bool) (s:St):az Tryz.prog 195 [.bool b] s (.int .i64 (nZ b)) s:=by
 refine az.pure ?_ rfl rfl s
 generalize h:nZ b=R
 simp only[nZ]at h
 unfold S0
 refine az.go ME.h rfl fun B Q hB hQ=>?_
 have⟨hD,hY,hZ,gC⟩:=bb
 repeat' (first
 |simp only[go_sem,hD,hY,hZ,gC]
 |(with_reducible first|refine cf fun hc=>?_|refine cj fun hc=>?_|refine cm (fun hc=>?_) fun hc=>?_)<;>(try simp only[hc,bs,↓reduceIte]at h)<;>try simp only[hc]
 |(with_reducible refine ax hQ ?_;exact fL))
theorem ac9 (a:Int) (s:St):az Tryz.prog 177 [.int .i64 a] s (.bool (!(a==0))) s:=by
 refine az.pure ?_ rfl rfl s
 have e:(a != 0) = !(a==0):=rfl
 unfold S0
 refine az.go Ir.h rfl fun B Q hB hQ=>?_
 have⟨hD,hY,hZ,gC⟩:=bb
 repeat' (first
 |simp only[go_sem,hD,hY,hZ,gC,e]
 |(with_reducible refine ax hQ ?_;exact aB))
abbrev oY (r:Int×Bool):D:= .tuple [.int .i64 r.1, .bool r.2]
theorem ajJ (op a:Int) (s:St):az Tryz.prog 176 [.int .i64 op, .int .i64 a] s (oY (Bh op a)) s:=by
 refine az.pure ?_ rfl rfl s
 generalize h:Bh op a=R
 simp only[Bh,mh]at h
 unfold S0
 refine az.go MA.h rfl fun B Q hB hQ=>?_
 have⟨hD,hY,hZ,gC⟩:=bb
 repeat' (first
 |simp only[go_sem,hD,hY,hZ,gC]
 |(with_reducible refine CU (S9 _ _) ?_)
 |(with_reducible first|refine cf fun hc=>?_|refine cj fun hc=>?_|refine cm (fun hc=>?_) fun hc=>?_)<;>(try simp only[hc,bs,↓reduceIte]at h)<;>try simp only[hc]
 |(with_reducible refine ax hQ ?_;exact fL))
theorem Zg (op a b:Int) (s:St):az Tryz.prog 196 [.int .i64 op, .int .i64 a, .int .i64 b] s (oY (FC op a b)) s:=by
 refine az.pure ?_ rfl rfl s
 generalize h:FC op a b=R
 simp only[FC,mh]at h
 unfold S0
 rcases zaa (b==0)with b0|b0
 ·refine az.go ya.h rfl fun B Q hB hQ=> ?_
  have⟨hD,hY,hZ,gC⟩:=bb
  repeat' (first
 |simp only[go_sem,hD,hY,hZ,gC]
 |(with_reducible first|refine cf fun hc=>?_|refine cj fun hc=>?_|refine cm (fun hc=>?_) fun hc=>?_)<;>(try simp only[hc,bs,↓reduceIte]at h)<;>try simp only[hc]
 |(with_reducible refine ax hQ ?_;exact fL))
 ·have hb:b≠0:=by simpa using b0
  refine az.go ya.h rfl fun B Q hB hQ=>?_
  have⟨hD,hY,hZ,gC⟩:=bb
  repeat' (first
 |simp only[go_sem,hD,hY,hZ,gC,hb]
 |(with_reducible first|refine cf fun hc=>?_|refine cj fun hc=>?_|refine cm (fun hc=>?_) fun hc=>?_)<;>(try simp only[hc,bs,↓reduceIte]at h)<;>try simp only[hc]
 |(with_reducible refine ax hQ ?_;(try cases h);simp only[bF,bG,bZ,cb,go_sem,hD,hY,hZ,gC,hb];try exact eQ))
theorem Wb (op a b:Int) (s:St):az Tryz.prog 197 [.int .i64 op, .int .i64 a, .int .i64 b] s (oY (Bi op a b)) s:=by
 refine az.pure ?_ rfl rfl s
 have e:(a != b) = !(a==b):=rfl
 generalize h:Bi op a b=R
 simp only[Bi]at h
 unfold S0
 refine az.go Fl.h rfl fun B Q hB hQ=>?_
 have⟨hD,hY,hZ,gC⟩:=bb
 repeat' (first
 |simp only[go_sem,hD,hY,hZ,gC,e]
 |(with_reducible refine CU (S9 _ _) ?_)
 |(with_reducible first|refine cf fun hc=>?_|refine cj fun hc=>?_|refine cm (fun hc=>?_) fun hc=>?_)<;>(try simp only[hc,bs,↓reduceIte]at h)<;>try simp only[hc]
 |(with_reducible refine ax hQ ?_;(try cases h);simp only[bF,bG,bZ,cb,go_sem,hD,hY,hZ,gC,e];try exact eQ))
theorem ajK (op a b:Int) (s:St):az Tryz.prog 178 [.int .i64 op, .int .i64 a, .int .i64 b] s (oY (uE op a b)) s:=by
 refine az.pure ?_ rfl rfl s
 have e1:(a != 0) = !(a==0):=rfl
 have e2:(b != 0) = !(b==0):=rfl
 generalize h:uE op a b=R
 simp only[uE,mh]at h
 unfold S0
 refine az.go MB.h rfl fun B Q hB hQ=>?_
 have⟨hD,hY,hZ,gC⟩:=bb
 repeat' (first
 |simp only[go_sem,hD,hY,hZ,gC,e1,e2]
 |(with_reducible refine CU (S9 _ _) ?_)
 |(with_reducible refine CU (Zg _ _ _ _) ?_)
 |(with_reducible refine CU (Wb _ _ _ _) ?_)
 |(with_reducible first|refine cf fun hc=>?_|refine cj fun hc=>?_|refine cm (fun hc=>?_) fun hc=>?_)<;>(try simp only[hc,bs,↓reduceIte]at h)<;>try simp only[hc]
 |(with_reducible refine ax hQ ?_;(try cases h);simp only[bF,bG,bZ,cb,go_sem,hD,hY,hZ,gC,e1,e2];try exact eQ))
set_option maxRecDepth 8000
open Go.Proofs
def xu (x:Int) (k:Int):List Int→Int
 | []=> -1
 |s::l=>if x==s then k else xu x (k+1) l
theorem PX (x:Int) : ∀ (l:List Int) (k:Int),0≤k→(xu x k l≥0↔l.contains x=true)
 | [],k,h=>by simp[xu]
 | s::l,k,h=>by
  by_cases e:x=s
  ·simp[xu,e];omega
  ·have e':(x==s)=false:=by simp [e]
   simp only[xu,e',zab,if_false,List.contains_cons,zbg]
   exact PX x l (k+1) (by omega)
theorem Zh {l:List Int} (hl:l.length<4611686018427387904) (x:Int) (s:St):az Tryz.prog 146 [.slice .shared 1 (l.map bD), .int .i64 x] s (.int .i64 (xu x 0 l)) s:=by
 refine az.pure ?_ (by simp[D.bM,D.ok,Tag.ok,jm]) rfl s
 generalize h:xu x 0 l=p
 unfold S0
 refine az.go A3.h rfl fun B Q hB hQ=>?_
 have⟨hD,hY,hZ,gC⟩:=bb
 repeat' (first
 |simp only[go_sem,hD,hY,hZ,gC]
 |(with_reducible first|refine cf fun hc=>?_|refine cj fun hc=>?_|refine cm (fun hc=>?_) fun hc=>?_)<;>(try simp only[hc,bs,↓reduceIte]at h)<;>try simp only[hc]
 |(with_reducible refine ax hQ ?_;exact fL))
 refine di 0 0 (aN.ind (ι:=List Int×Nat) (fun i=>l.drop i.2=i.1∧xu x (i.2:Int) i.1=p) (fun i=>i.1.length)
  (fun i=> [(0, .slice .shared 1 (l.map bD)),(1, .int .i64 x),(7, .int .i64 (l.length:Int)),(8, .int .i64 (i.2:Int))]) (fun i=>⟨[],[]⟩) ?_ (l,0) ⟨rfl,h⟩)
 rintro⟨rest,k⟩ ⟨h1,h⟩ IH
 dsimp only at h1 h
 cases rest with
 |nil=>
  have hD:=drop_nil h1
  simp only[xu]at h
  repeat' (first
 |simp only[go_sem,hD,hY,hZ,gC]
 |(with_reducible first|refine cf fun hc=>?_|refine cj fun hc=>?_|refine cm (fun hc=>?_) fun hc=>?_)<;>(try simp only[hc,bs,↓reduceIte]at h)<;>try simp only[hc]
 |(with_reducible refine ax hQ ?_;exact fL))
 |cons a rest=>
  obtain⟨hY,g2,hD,g4⟩:=drop_cons h1
  have aZ:k<4611686018427387904:=by omega
  simp only[xu]at h
  repeat' (first
 |simp only[go_sem,hD,hY,hZ,gC]
 |(with_reducible first|refine cf fun hc=>?_|refine cj fun hc=>?_|refine cm (fun hc=>?_) fun hc=>?_)<;>(try simp only[hc,bs,↓reduceIte]at h)<;>try simp only[hc]
 |(with_reducible refine ax hQ ?_;exact fL))
  refine cv 0 0 ?_ ?_ (IH (rest,k+1) ⟨g2,h⟩ (zae _))
  ·(simp only[go_sem,hD,hY,hZ,gC,aw aZ];try exact aU)
  ·(simp only[go_sem,hD,hY,hZ,gC,aw aZ];try exact aU)
theorem O4 {l:List Int} (hl:l.length<4611686018427387904) (x:Int) (s:St):az Tryz.prog 113 [.slice .shared 1 (l.map bD), .int .i64 x] s (.bool (l.contains x)) s:=by
 refine az.pure ?_ (by simp[D.bM,D.ok,Tag.ok,jm]) rfl s
 have hi:=fun s=>Zh hl x s
 have e:decide (xu x 0 l≥0)=l.contains x:=by
  have:=PX x l 0 (za8 0)
  cases h:l.contains x<;>simp_all
 unfold S0
 refine az.go xJ.h rfl fun B Q hB hQ=>?_
 have⟨hD,hY,hZ,gC⟩:=bb
 repeat' (first
 |simp only[go_sem,hD,hY,hZ,gC,e]
 |(with_reducible refine CU (hi _) ?_)
 |(with_reducible refine ax hQ ?_;exact aB))
theorem mI (names:List aF) (bu:List Int) (op n:Int) (name:aF) (kids:List Ex):Ex.val names bu ⟨op,n,name,kids⟩=if op==1 then(n,true)else if op==2 then(yv name names bu,true)else wI op (kids.map (Ex.val names bu)):=by
 have e : ∀ l:List Ex,Ex.S3 names bu l=l.map (Ex.val names bu):=fun l=>by
  induction l with
  |nil=>rfl
  |cons x l ih=>simp only[Ex.S3,zaf,ih]
 simp only[Ex.val,e]
theorem agC {names:List aF} {bu:List Int} (hn:names.length<4611686018427387904) (hv:bu.length<4611686018427387904) : ∀ (n:Nat) (x:Ex),x.dp (n:Int)=true→
 az Tryz.prog 145 [.agg (bT x), .slice .shared 1 (names.map encStr), .slice .shared 1 (bu.map bD)] S0 (oY (x.val names bu)) S0:=by
 intro n
 induction n with
 |zero=>rintro⟨op,v,name,kids⟩ h;rw[vA]at h;omega
 | succ n ih=>
  rintro⟨op,v,name,kids⟩ h
  rw[vA]at h
  obtain⟨_,hk,h⟩:=h
  have EK:=fun s=>DU hn name s
  generalize hR:Ex.val names bu ⟨op,v,name,kids⟩=R
  rw[mI]at hR
  unfold S0
  by_cases o1:op=1
  ·subst o1
   simp only[beq_self_eq_true,if_true]at hR
   rw[← hR]
   show az Tryz.prog 145 _ _ (.tuple [.int .i64 v, .bool true]) _
   refine az.go p8.h rfl fun B Q hB hQ=>?_
   have⟨hD,hY,hZ,gC⟩:=bb
   repeat' (first
 |simp only[go_sem,hD,hY,hZ,gC,beq_self_eq_true]
 | (with_reducible refine ax hQ ?_;exact aB))
  rw[if_neg o1]at h
  have b1:(op==1)=false:=by simp[o1]
  by_cases o2:op=2
  ·subst o2
   simp only[b1,zab,if_false,beq_self_eq_true,if_true,yv]at hR
   by_cases hi:fS name 0 names≥0
   ·obtain⟨j,hj⟩:=Int.eq_ofNat_of_zero_le hi
    rw[if_pos hi]at hR
    have b2:decide (fS name 0 names≥0)=true:=by simpa using hi
    rw[hj]at b2 hR
    rw[hj]at EK
    rcases zaE j bu.length with hl|hl
    ·have b3:decide ((j:Int)<(bu.length:Int))=true:=by simp [hl]
     have hg:bu[j]? = some (bu.getD j 0):=by rw[zay,zah hl];rfl
     rw[zaQ]at hR
     rw[← hR]
     show az Tryz.prog 145 _ _ (.tuple [.int .i64 (bu.getD j 0), .bool true]) _
     refine az.go p8.h rfl fun B Q hB hQ=>?_
     have⟨hD,hY,hZ,gC⟩:=bb
     repeat' (first
 |simp only[go_sem,hD,hY,hZ,gC,b1,b2,b3,hg,beq_self_eq_true,decide_true]
 |(with_reducible refine CU (EK _) ?_)
 | (with_reducible refine ax hQ ?_;exact aB))
    ·have b3:decide ((j:Int)<(bu.length:Int))=false:=by simp;omega
     rw[zaQ,zay,zbC hl,zbx]at hR
     rw[← hR]
     show az Tryz.prog 145 _ _ (.tuple [.int .i64 0, .bool true]) _
     refine az.go p8.h rfl fun B Q hB hQ=>?_
     have⟨hD,hY,hZ,gC⟩:=bb
     repeat' (first
 |simp only[go_sem,hD,hY,hZ,gC,b1,b2,b3,beq_self_eq_true,decide_true]
 |(with_reducible refine CU (EK _) ?_)
 | (with_reducible refine ax hQ ?_;exact aB))
   ·rw [if_neg hi]at hR
    have b2:decide (fS name 0 names≥0)=false:=by simpa using hi
    rw[← hR]
    show az Tryz.prog 145 _ _ (.tuple [.int .i64 0, .bool true]) _
    refine az.go p8.h rfl fun B Q hB hQ=>?_
    have⟨hD,hY,hZ,gC⟩:=bb
    repeat' (first
 |simp only[go_sem,hD,hY,hZ,gC,b1,b2,beq_self_eq_true]
 |(with_reducible refine CU (EK _) ?_)
 |(with_reducible first|refine cf fun hc=>?_|refine cj fun hc=>?_|refine cm (fun hc=>?_) fun hc=>?_)<;>(try simp only[hc,bs,↓reduceIte]at h)<;>try simp only[hc]
 | (with_reducible refine ax hQ ?_;(try cases h);simp only [bF,bG,bZ,cb,go_sem,hD,hY,hZ,gC,b1,b2,beq_self_eq_true];try exact eQ))
  rw[if_neg o2]at h
  have b2:(op==2)=false:=by simp[o2]
  simp only[b1,b2,zab,if_false]at hR
  have hd:=h.2.2
  rw[show((n+1:Nat):Int) - 1=(n:Int) by omega]at hd
  have Ke : ∀ {y:Ex},y∈kids→∀ s,az Tryz.prog 145 [.agg (bT y), .slice .shared 1 (names.map encStr), .slice .shared 1 (bu.map bD)] s (oY (y.val names bu)) s:=fun {y} hy s=>by
   have:y.dp (n:Int)=true:=by
    have key : ∀ l:List Ex,Ex.Ac (n:Int) l=true→y∈l→y.dp (n:Int)=true:=fun l=>by
     induction l with
     |nil=>intro _ m;cases m
     | cons z l V0=>
      intro hz m
      simp only[Ex.Ac]at hz
      split at hz
      ·cases hz
      ·rename_i hz'
       rcases zap.1 m with rfl|m
       ·simpa using hz'
       ·exact V0 hz m
    exact key kids hd hy
   exact az.pure (ih y this) (by simp[D.bM,D.ok,Tag.ok,jM,dz,jm]) rfl s
  clear h EK
  have n1:((1:Nat):Int)=1:=rfl
  have e1:((1:Int)==1)=true:=rfl
  have e2:((2:Int)==1)=false:=rfl
  rename _=R=>h
  cases kids with
  |nil=>simp[kg]at hk;omega
  | cons a kids=>
   have c1:=fun s=>Ke (y:=a) (by simp) s
   cases kids with
   |nil=>
    simp only[zaf,zai,wI]at h
    refine az.go p8.h rfl fun B Q hB hQ=>?_
    have⟨hD,hY,hZ,gC⟩:=bb
    repeat' (first
 |simp only[go_sem,hD,hY,hZ,gC,b1,b2,e1]
 |(with_reducible refine CU (c1 _) ?_)
 |(with_reducible refine CU (ajJ _ _ _) ?_)
 |(with_reducible first|refine cf fun hc=>?_|refine cj fun hc=>?_|refine cm (fun hc=>?_) fun hc=>?_)<;>(try simp only[hc,bs,↓reduceIte]at h)<;>try simp only[hc]
 | (with_reducible refine ax hQ ?_;(try cases h);simp only [bF,bG,bZ,cb,go_sem,hD,hY,hZ,gC,b1,b2,e1];try exact eQ))
   | cons b kids=>
    cases kids with
    |nil=>
     have c2:=fun s=>Ke (y:=b) (by simp) s
     have e3 : [bT a,bT b][Int.toNat 1]? = some (bT b):=rfl
     simp only[zaf,zai,wI]at h
     refine az.go p8.h rfl fun B Q hB hQ=>?_
     have⟨hD,hY,hZ,gC⟩:=bb
     repeat' (first
 |simp only[go_sem,hD,hY,hZ,gC,b1,b2,e2,e3]
 |(with_reducible refine CU (c1 _) ?_)
 |(with_reducible refine CU (c2 _) ?_)
 |(with_reducible refine CU (ac9 _ _) ?_)
 |(with_reducible refine CU (ajK _ _ _ _) ?_)
 |(with_reducible first|refine cf fun hc=>?_|refine cj fun hc=>?_|refine cm (fun hc=>?_) fun hc=>?_)<;>(try simp only[hc,bs,↓reduceIte]at h)<;>try simp only[hc]
 | (with_reducible refine ax hQ ?_;(try cases h);simp only [bF,bG,bZ,cb,go_sem,hD,hY,hZ,gC,b1,b2,e2,e3];try exact eQ))
    |cons c kids=>simp[kg]at hk;omega
theorem Zi {x:Ex} {names:List aF} {bu:List Int} (hx:x.size<4611686018427387904) (ht:x.texts) (hn:names.length<4611686018427387904) (hv:bu.length<4611686018427387904) (s:St) :
 az Tryz.prog 112 [.agg (bT x), .slice .shared 1 (names.map encStr), .slice .shared 1 (bu.map bD)] s (oY (x.bA names bu)) s:=by
 refine az.pure ?_ (by simp[D.bM,D.ok,Tag.ok,jM,dz,jm]) rfl s
 have hm:=fun s=>A7 hx ht s
 rw[xh]at hm
 generalize h:x.bA names bu=R
 simp only[Ex.bA]at h
 unfold S0
 rcases zaa x.may with b|b
 ·rw [if_pos b]at h
  have c1:=fun s=>az.pure (agC hn hv 20 x (by rw[show((20:Nat):Int)=20 from rfl,xh];exact b)) (by simp[D.bM,D.ok,Tag.ok,jM,dz,jm]) rfl s
  rw[h]at c1
  refine az.go EG.h rfl fun B Q hB hQ=>?_
  have⟨hD,hY,hZ,gC⟩:=bb
  repeat' (first
 |simp only[go_sem,hD,hY,hZ,gC,b]
 |(with_reducible refine CU (hm _) ?_)
 |(with_reducible refine CU (c1 _) ?_)
 |(with_reducible first|refine cf fun hc=>?_|refine cj fun hc=>?_|refine cm (fun hc=>?_) fun hc=>?_)<;>(try simp only[hc,bs,↓reduceIte]at h)<;>try simp only[hc]
 |(with_reducible refine ax hQ ?_;(try cases h);simp only[bF,bG,bZ,cb,go_sem,hD,hY,hZ,gC,b];try exact eQ))
 ·rw [if_neg (by simp [b])]at h
  refine az.go EG.h rfl fun B Q hB hQ=>?_
  have⟨hD,hY,hZ,gC⟩:=bb
  repeat' (first
 |simp only[go_sem,hD,hY,hZ,gC,b]
 |(with_reducible refine CU (hm _) ?_)
 |(with_reducible first|refine cf fun hc=>?_|refine cj fun hc=>?_|refine cm (fun hc=>?_) fun hc=>?_)<;>(try simp only[hc,bs,↓reduceIte]at h)<;>try simp only[hc]
 |(with_reducible refine ax hQ ?_;(try cases h);simp only[bF,bG,bZ,cb,go_sem,hD,hY,hZ,gC,b];try exact eQ))
set_option maxRecDepth 8000
open Go.Proofs
theorem Bp {size bytes:Nat} {rows:List (List D)} (h:rows≠ []) (hl:rows.length*(bytes+1)≤aV) {z:Nat} {g:Tag} (o:List (List D)) (T:List (Option Nat)) :
 fH size bytes (.slice .full z []) (.slice g size rows) ⟨o,T⟩=some (.slice (.tok T.length) size rows,⟨o,T++ [some rows.length]⟩):=by
 cases rows with
 |nil=>exact absurd rfl h
 |cons x r=>simp only[zat]at hl;simp[fH,hl]
theorem Bq {size bytes z z':Nat} {g:Tag} (o:List (List D)) (T:List (Option Nat)) :
 fH size bytes (.slice .full z []) (.slice g z' []) ⟨o,T⟩=some (.slice .full z [],⟨o,T⟩):=by simp[fH,aV]
def Sm.bare (v:Sm):Sm:= {v with a8:= [],aK:= []}
set_option maxRecDepth 8000
open Go.Proofs
theorem az.ajL {P:Program} {f:FuncId} {args:List D} {z k:Nat} {rows:List (List D)} (h:az P f args S0 (.slice (.tok 0) z rows) ⟨[],[some k]⟩) (ha:D.bM 0 0 args=true) (hr:D.iW 0 0 rows=true) (s:St) :
 az P f args s (.slice (.tok s.ay.length) z rows) ⟨s.aq,s.ay++ [some k]⟩:=by
 refine bp.frame [] [] h List.nodup_nil List.nodup_nil (by simp) (by simp) rfl (by simp) rfl (by simp) (by rw[gf _ _ _ ha]) ha ?_
 rintro _ _ ⟨rfl,rfl⟩
 refine⟨by simp[D.back,D.dm,Tag.dm,lD,kb _ _ _ hr], ?_⟩
 simp[St.back,lJ]
theorem Ta (g:Tag) (z:Nat) (s:St):az Tryz.prog 109 [.slice g z []] s (.slice .full 1 []) s:=by
 refine bp.lU (.cons (Wk.nil _ _ 1) .nil) (az.pure ?_ rfl rfl s)
 unfold S0
 refine az.go ry.h rfl fun B Q hB hQ=>?_
 have⟨hD,hY,hZ,gC⟩:=bb
 repeat' (first
 |simp only[go_sem,hD,hY,hZ,gC]
 |(with_reducible refine ax hQ ?_;exact aB))
 refine XJ (fun _=>?_) ?_
 ·repeat' (first
 |simp only[go_sem,hD,hY,hZ,gC,fH,true_or,zaz]
 |(with_reducible refine ax hQ ?_;exact aB))
 ·repeat' (first
 |simp only[go_sem,hD,hY,hZ,gC,fH,true_or,zaz]
 |(with_reducible refine ax hQ ?_;exact aB))
theorem Tb {l:List aF} (hl:l.length<1073741824) (h0:l≠ []) (s:St):az Tryz.prog 109 [.slice .shared 1 (l.map encStr)] s (.slice (.tok s.ay.length) 1 (l.map encStr)) ⟨s.aq,s.ay++ [some l.length]⟩:=by
 refine az.ajL ?_ (by simp[D.bM,D.ok,Tag.ok,dz]) (dz l) s
 unfold S0
 refine az.goK 0 1 (zaz _) (zaz _) ry.h rfl fun B Q hB hQ=>?_
 have⟨hD,hY,hZ,gC⟩:=bb
 have ha:=fun o T=>Bp (size:=1) (bytes:=16) (rows:=l.map encStr) (by simpa using h0) (by simp only[zaw];unfold aV;omega) (z:=1) (g:= .shared) o T
 cases l with
 |nil=>exact absurd rfl h0
 |cons x l=>
  simp only[zaf,encStr]at ha
  repeat' (first
 |simp only[go_sem,hD,hY,hZ,gC,ha]
 |(with_reducible refine ax hQ ?_;exact aB))
theorem PY {a b:List aF} {n:Nat} (hn:n=a.length) (h:a.length+b.length≤1000000000) {g:Tag} {t:Nat} {s:St} (ht:s.ay[t]? = some (some n)) :
 fH 1 16 (.slice (.tok t) 1 (a.map encStr)) (.slice g 1 (b.map encStr)) s=some (.slice (.tok t) 1 ((a++b).map encStr),⟨s.aq,s.ay.set t (some (a++b).length)⟩):=by
 subst hn
 rw[kB (size:=1) (bytes:=16) (by simp only[zaw];unfold aV;omega) (by simpa using ht)]
 simp
theorem agD {p:Pg} (h:p.gu) (hb:p.may=true) {name:aF} {f:Pc} (hf:p.find name=some f) (s:St):az Tryz.prog 73 [.agg (bS p), .str name] s (.slice .shared 1 ((p.globals++f.own).map encStr)) s:=by
 refine az.pure ?_ (by simp[D.bM,D.ok,gR]) (by simp only[D.ok,Tag.ok,dz];rfl) s
 have hm:=fun s=>MS h.M3 s
 simp only[DX,hb]at hm
 obtain⟨nB,nF,lG⟩:=h.procs
 simp only[Pg.find]at hf
 unfold S0
 refine az.go Ie.h rfl fun B Q hB hQ=>?_
 have⟨hD,hY,hZ,gC⟩:=bb
 repeat' (first
 |simp only[go_sem,hD,hY,hZ,gC]
 |(with_reducible refine CU (hm _) ?_)
 |(with_reducible first|refine cf fun hc=>?_|refine cj fun hc=>?_|refine cm (fun hc=>?_) fun hc=>?_)<;>(try simp only[hc,bs,↓reduceIte]at h)<;>try simp only[hc]
 |(with_reducible refine ax hQ ?_;exact aB))
 refine di 1 0 (aN.ind (ι:=List Pc×Nat) (fun i=>p.procs.drop i.2=i.1∧gS name i.1=some f) (fun i=>i.1.length)
  (fun i=> [(1, .str name),(2, .ptr 0 0),(11, .slice .shared 5 (p.procs.map bN)),(12, .int .i64 (p.procs.length:Int)),(13, .int .i64 (i.2:Int))]) (fun i=>⟨[bS p],[]⟩) ?_ (p.procs,0) ⟨rfl,hf⟩)
 rintro⟨rest,k⟩ ⟨h1,h2⟩ IH
 dsimp only at h1 h2
 cases rest with
 |nil=>cases h2
 | cons a rest=>
  obtain⟨hY,g2,hD,g4⟩:=drop_cons h1
  have aZ:k<4611686018427387904:=by omega
  have rD:=h.small (zad hY)
  simp only[gS]at h2
  rcases zaa (a.name==name)with b1|b1
  ·simp only [b1,if_true]at h2
   cases h2
   have ho:=fun s=>aaW (f:=f) rD.par rD.vars s
   have kn:f.own.length<2000000:=by have:=rD.par;have:=rD.vars;simp[Pc.own,Pc.lx];omega
   cases e:p.globals with
   | nil=>
    simp only[zaV]at *
    have c1:=fun g z s=>Ta g z s
    cases e2:f.own with
    |nil=>
     rw[e2]at ho hQ
     have ha:=fun o T=>Bq (size:=1) (bytes:=16) (z:=1) (z':=1) (g:= .shared) o T
     repeat' (first
 |simp only[go_sem,hD,hY,hZ,gC,b1,ha,e]
 |(with_reducible refine CU (c1 _ _ _) ?_)
 |(with_reducible refine CU (ho _) ?_)
 |(with_reducible first|refine cf fun hc=>?_|refine cj fun hc=>?_|refine cm (fun hc=>?_) fun hc=>?_)<;>(try simp only[hc,bs,↓reduceIte]at h)<;>try simp only[hc]
 | (with_reducible refine ax hQ ?_;simp only [bF,bG,bZ,cb,go_sem,hD,hY,hZ,gC,b1,ha,e];try exact eQ))
    |cons x l=>
     have ha:=fun o T=>Bp (size:=1) (bytes:=16) (rows:=f.own.map encStr) (by simp[e2]) (by simp only[zaw];unfold aV;omega) (z:=1) (g:= .shared) o T
     repeat' (first
 |simp only[go_sem,hD,hY,hZ,gC,b1,ha,e]
 |(with_reducible refine CU (c1 _ _ _) ?_)
 |(with_reducible refine CU (ho _) ?_)
 |(with_reducible first|refine cf fun hc=>?_|refine cj fun hc=>?_|refine cm (fun hc=>?_) fun hc=>?_)<;>(try simp only[hc,bs,↓reduceIte]at h)<;>try simp only[hc]
 | (with_reducible refine ax hQ ?_;simp only [bF,bG,bZ,cb,go_sem,hD,hY,hZ,gC,b1,ha,e];try exact eQ))
   |cons x l=>
    have c1:=fun s=>Tb (l:=p.globals) (by omega) (by simp[e]) s
    have ha:=fun {s:St} {t:Nat} (ht:s.ay[t]? = some (some p.globals.length))=>PY (a:=p.globals) (b:=f.own) (g:= .shared) rfl (by omega) ht
    have zG:=fun o=>PY (a:=p.globals) (b:=f.own) (g:= .shared) (t:=0) (s:=⟨o,[some p.globals.length]⟩) rfl (by omega) rfl
    repeat' (first
 |simp only[go_sem,hD,hY,hZ,gC,b1,zG]
 |(with_reducible refine CU (c1 _) ?_)
 |(with_reducible refine CU (ho _) ?_)
 | (with_reducible refine ax hQ ?_;exact aB))
  ·simp only [b1,zab,if_false]at h2
   repeat' (first
 |simp only[go_sem,hD,hY,hZ,gC,b1]
 | (with_reducible refine ax hQ ?_;exact aB))
   refine cv 1 0 ?_ ?_ (IH (rest,k+1) ⟨g2,h2⟩ (zae _))
   ·(simp only[go_sem,hD,hY,hZ,gC,aw aZ];try exact aU)
   ·(simp only[go_sem,hD,hY,hZ,gC,aw aZ];try exact aU)
theorem O5 {p:Pg} (hb:p.may=true) {i:Nat} {f:Pc} (hf:p.procs[i]? = some f) : ∃ a b:Int,p.aR.lo[i]? = some a∧p.aR.hi[i]? = some b∧(if decide (a<b)=true then a else -1)=eD f.body (-1):=by
 obtain⟨a,b,e,h1,h2,h3,h4⟩:=(pd p).2 i f hf
 refine⟨_,_,h1,h2, ?_⟩
 cases DM:f.body with
 |nil=>
  rw[DM]at h3
  have:b = []:=by simpa[Sm.cZ]using h3
  subst this
  simp[eD]
 | cons s l=>
  rw[DM,Sm.cZ,Sm.oN]at h3
  cases b with
  |nil=>simp at h3
  | cons x b=>
   simp only[zaf,zaR,List.cons.injEq]at h3
   have hx:p.pre[a.length]? = some s:=by
    rw[← (pd p).1,h4]
    simp[h3.1]
   have:=G9 hb hx
   rw[if_pos (by simp;omega)]
   simp only[eD]
   rw[this];omega
theorem ada {p:Pg} (hb:p.may=true) {i:Nat} {f:Pc} (hf:p.procs[i]? = some f) (s:St):az Tryz.prog 74 [.dO (fU p) 0, .int .i64 (i:Int)] s (.int .i64 (eD f.body (-1))) s:=by
 refine az.pure ?_ (by simp[D.bM,D.ok,vQ]) rfl s
 obtain⟨a,b,h1,h2,h⟩:=O5 hb hf
 generalize eD f.body (-1)=R at h
 unfold S0
 rw[qK]
 refine az.go A2.h rfl fun B Q hB hQ=>?_
 have⟨hD,hY,hZ,gC⟩:=bb
 repeat' (first
 |simp only[go_sem,hD,hY,hZ,gC,h1,h2]
 |(with_reducible first|refine cf fun hc=>?_|refine cj fun hc=>?_|refine cm (fun hc=>?_) fun hc=>?_)<;>(try simp only[hc,bs,↓reduceIte]at h)<;>try simp only[hc]
 |(with_reducible refine ax hQ ?_;(try cases h);simp only[bF,bG,bZ,cb,go_sem,hD,hY,hZ,gC,h1,h2];try exact eQ))
set_option maxRecDepth 8000
open Go.Proofs
section
variable {p:Pg} {T W:List Int} {y:Lay} {m:Mc} {loc:List (Nat×List D)} {s:St}
theorem kG.row {s:St} {d:D} {cs:List D} (h:kG s d cs) (hn:cs≠ []) : ∃ o g more,d = .dM 1 o g cs.length∧s.aq[o]? = some (.int .i64 ((g:Nat):Int)::(cs++more)):=by
 rcases h with ⟨_,h⟩|h
 ·exact absurd h hn
 ·exact h
theorem Inv.Zj (h:Inv p T W y m loc s) {fr:Fr} {r:List Fr} (gd:m.st=fr::r) : ∃ so g cells o,y.sd = .dM 1 so g (r.length+1)∧s.aq[so]? = some (.int .i64 ((g:Nat):Int)::cells)∧cells[r.length]? = some (.ptr o 0)∧s.aq[o]? = some (qR y.κ fr)∧y.φ[0]? = some o:=by
 have fx:=h.uI
 rw[gd]at fx
 cases hφ:y.φ with
 |nil=>rw[hφ]at fx;simp at fx
 | cons o φ=>
  rw[hφ]at fx
  simp only[zat]at fx
  obtain⟨so,g,more,h1,h2⟩:=h.stack.row (by simp[hφ])
  refine⟨so,g,_,o, ?_,h2, ?_,(h.frame 0 o fr (by rw[hφ];rfl) (by rw[gd];rfl)).1,rfl⟩
  ·rw[h1];simp[hφ];omega
  ·rw [hφ,List.reverse_cons,zag,zaB,zas (by simp;omega)]
   simp[yZ,show r.length - φ.length=0 by omega]
theorem Tc (h:Inv p T W y m loc s) {fr:Fr} {r:List Fr} (gd:m.st=fr::r) (hs:r.length<1000000) : ∃ o,y.φ[0]? = some o∧s.aq[o]? = some (qR y.κ fr)∧az Tryz.prog 82 [.ptr 0 0] s (.ptr o 0) s:=by
 obtain⟨so,g,cells,o,h1,h2,h3,h4,h5⟩:=h.Zj gd
 refine⟨o,h5,h4, ?_⟩
 have hm:=h.eW
 rw[fO,h1]at hm
 have hw:IntKind.wrap .i64 (((r.length+1:Nat):Int) - 1)=((r.length:Nat):Int):=by rw[show((r.length+1:Nat):Int) - 1=(r.length:Int) by omega];exact dv (by omega) (by omega)
 have hl:(r.length<r.length+1)=True:=by simp
 refine bp.iY B7.h rfl fun B Q hB hQ=>?_
 have⟨hD,hY,hZ,gC⟩:=bb
 repeat' (first
 |simp only[go_sem,hD,hY,hZ,gC,hm,hw,h2,h3,hl,Nat.mul_one]
 |(with_reducible refine ax hQ ?_;exact aB))
 (refine dG hQ ?_;simp only[bF,bG,bZ,cb,go_sem])
theorem D8 (h:Inv p T W y m loc s) {fr:Fr} {r:List Fr} (gd:m.st=fr::r) (hs:r.length<1000000) (hn:fr.names.length<1000000) {name:aF} {j c:Nat} (hj:fS name 0 fr.names=(j:Int)) (hc:fr.vars[j]? = some c) :
 az Tryz.prog 77 [.ptr 0 0, .str name] s (.ptr (y.κ.getD c 0) 0) s:=by
 obtain⟨o,_,h1,c1⟩:=Tc h gd hs
 have c2:=fun s=>DU (l:=fr.names) (by omega) name s
 rw[hj]at c2
 rw[qR]at h1
 refine bp.iY zR.h rfl fun B Q hB hQ=>?_
 have⟨hD,hY,hZ,gC⟩:=bb
 repeat' (first
 |simp only[go_sem,hD,hY,hZ,gC,h1,hc,fZ,za3]
 |(with_reducible refine CU (c1) ?_)
 |(with_reducible refine CU (c2 _) ?_)
 |(with_reducible refine ax hQ ?_;exact aB))
 (refine dG hQ ?_;simp only[bF,bG,bZ,cb,go_sem])
abbrev Rl (p:Pg) (T W:List Int) (d:D) (m':Mc) (X:Lay→Prop) (loc:List (Nat×List D)):D→St→Prop:=fun d' s'=>d'=d∧∃ y',X y'∧Inv p T W y' m' loc s'
theorem PZ (h:Inv p T W y m loc s) (hW:W.length<1000000) (ht:m.trace.length<2000000) (id:Int) (bu:List Int) :
 bp Tryz.prog 79 [.ptr 0 0, .int .i64 id, .slice .shared 1 (bu.map bD)] s (Rl p T W (.tuple []) (m.event W id bu) (· = y) loc):=by
 have hm:=h.eW
 rw[fO]at hm
 have hl:=h.wk
 have c1:=fun s=>O4 (l:=W) (by omega) id s
 have dd:fH 2 32 (.slice (.tok 1) 2 (m.trace.map gT)) (.slice .full 2 [[.int .i64 id, .slice .shared 1 (bu.map bD)]]) s=some (.slice (.tok 1) 2 ((m.trace++ [(id,bu)]).map gT),⟨s.aq,s.ay.set 1 (some (m.trace.length+1))⟩):=by
  rw[kB (size:=2) (bytes:=32) (by simp only[zaw,zaK];unfold aV;omega) (by simpa using h.t1)]
  simp[gT]
 refine bp.iY zS.h rfl fun B Q hB hQ=>?_
 have⟨hD,hY,hZ,gC⟩:=bb
 cases hb:W.contains id
 ·repeat' (first
 |simp only[go_sem,hD,hY,hZ,gC,hm,hb]
 |(with_reducible refine CU (c1 _) ?_)
 |(with_reducible refine ax hQ ?_;exact aB))
  (refine dG hQ ?_;simp only[bF,bG,bZ,cb,go_sem])
  refine⟨rfl,y,rfl, ?_⟩
  unfold Mc.event
  rw[hb]
  exact h
 ·repeat' (first
 |simp only[go_sem,hD,hY,hZ,gC,hm,hb,dd,hl]
 |(with_reducible refine CU (c1 _) ?_)
 | (with_reducible refine ax hQ ?_;exact aB))
  (refine dG hQ ?_;simp only[bF,bG,bZ,cb,go_sem])
  refine⟨rfl,y,rfl, ?_⟩
  have:=h.lT (m':=m.event W id bu) (ts:=s.ay.set 1 (some (m.trace.length+1))) (dL W m id bu).1 (dL W m id bu).2.1 (by rw[(dL W m id bu).2.2.2.2.2,zam (by omega)];exact h.t0) (by
   unfold Mc.event
   rw[hb]
   simp[(zac.1 h.t1).1])
  unfold Mc.event at this ⊢
  rw[hb,if_pos rfl]at this ⊢
  simp only[fO,zag,zaf,zai]at this
  exact this
theorem P0 (l:List Sm) (hl:l.length<4611686018427387904) (o:Int) (s:St):az Tryz.prog 81 [.slice .shared 13 (l.map aY), .int .i64 o] s (.int .i64 (firstM l o)) s:=by
 refine az.pure ?_ (by simp[D.bM,D.ok,Tag.ok,q7]) rfl s
 unfold S0
 cases l with
 |nil=>
  have e:decide ((0:Int) > 0)=false:=rfl
  simp only[firstM,eD,zai]
  refine az.go BU.h rfl fun B Q hB hQ=>?_
  have⟨hD,hY,hZ,gC⟩:=bb
  repeat' (first
 |simp only[go_sem,hD,hY,hZ,gC,e]
 |(with_reducible refine ax hQ ?_;exact aB))
 |cons a l=>
  have e:decide (((l.length+1:Nat):Int) > 0)=true:=by simp
  simp only[firstM,eD,zaf]
  refine az.go BU.h rfl fun B Q hB hQ=>?_
  have⟨hD,hY,hZ,gC⟩:=bb
  repeat' (first
 |simp only[go_sem,hD,hY,hZ,gC,e]
 |(with_reducible refine ax hQ ?_;exact aB))
end
end Go.Abs
namespace Go.Abs
set_option maxRecDepth 8000
open Go.Proofs
section
variable {p:Pg} {T W:List Int} {y:Lay} {m:Mc} {loc:List (Nat×List D)} {s:St}
theorem Bs {s:St} {o g z bytes:Nat} {t:Tag} {cs more r:List D} {len:Nat} (hs:s.aq[o]? = some (.int .i64 (g:Int)::(cs++more))) (hl:cs.length=len*z) (hm:(len+1)*(bytes+1)≤aV) :
 AH z bytes (.dM z o g len) (.slice t z [r]) s=some (.dM z o (g+1) (len+1),⟨s.aq.set o (.int .i64 ((g+1:Nat):Int)::(cs++r)),s.ay⟩):=by
 have ha:pg s o g=some (cs++more):=by unfold pg;rw[hs];simp
 simp only[AH,ha,zaK,hm,or_true,and_self,if_true,zbi,List.flatten_nil,zaI]
 rw[if_pos (by simp;omega), ← hl,zbL (zal _),List.take_length]
theorem Wk.ajM (z z':Nat):Wk (.ek z) (.slice .shared z' []):=fun M s v h=>by
 cases h with
 |ek _ a=>cases a with
  |none=>exact .jz _ _ _ rfl trivial
  |some a=>exact .mF _ _ _
theorem az.ajN {P:Program} {f:FuncId} {a b:D} {d:D} {s:St} {v:D} {l:List Int} (hv:kG s v (l.map kl)) (h : ∀ s,az P f [a,b, .slice .shared 1 (l.map bD)] s d s) (ha:D.ok 0 0 a=true) (hb:D.ok 0 0 b=true) (hd:d.flat=true) :
 az P f [a,b,v] s d s:=by
 rcases hv with ⟨rfl,e⟩|⟨o,g,more,rfl,e⟩
 ·have:l = []:=by simpa using e
  subst this
  exact bp.lU (.cons (Wk.refl _) (.cons (Wk.refl _) (.cons (Wk.ajM 1 1) .nil))) (h s)
 ·have dX : ∀ l:List Int,(l.map bD).flatten=l.map kl:=fun l=>by
   induction l with
   |nil=>rfl
   |cons x l ih=>simp only[zaf,zbi,ih];rfl
  have hlen:(l.map kl).length=(l.map bD).length:=by simp
  rw[hlen]
  have e0:D.kC o g (l.map bD) [a,b, .dM 1 o g (l.map bD).length] = [a,b, .slice .shared 1 (l.map bD)]:=by
   simp only[D.kC,Mq _ _ _ a ha,Mq _ _ _ b hb,D.gF,and_self,if_true]
  refine az.ams (k:=2) (rows:=l.map bD) rfl (by rw[dX];exact e) (by intro r hr;obtain⟨x,_,rfl⟩:=zaF.1 hr;rfl) ?_ ?_ hd
  ·rw[e0];exact h S0
  ·rw[e0];simp[D.bM,D.ok,Tag.ok,ha,hb,jm]
structure l5 (m:Mc) (fr:Fr) (r:List Fr):Prop where
 st:m.st=fr::r
 len:r.length<1000000
 names:fr.names.length<1000000
 vars:fr.vars.length<1000000
theorem l5.top {fr:Fr} {r:List Fr} (h:l5 m fr r):m.top=fr:=by simp[Mc.top,h.st]
theorem Kf {fr:Fr} {k c:Nat} {rest:List Nat} (h:fr.vars.drop k=c::rest) (m:Mc):(fr.vars.take (k+1)).map (fun c=>m.mem.getD c 0)=(fr.vars.take k).map (fun c=>m.mem.getD c 0)++ [m.mem.getD c 0]:=by
 have:=(drop_cons h).1
 rw[List.take_add_one,this]
 simp
theorem FJ (h:Inv p T W y m loc s) {fr:Fr} {r:List Fr} (ht:l5 m fr r) {x:Ex} (hx:x.size<1000000) (htx:x.texts) :
 bp Tryz.prog 78 [.ptr 0 0, .agg (bT x)] s (fun d s'=>Rl p T W (oY (m.bA x).1) (m.bA x).2 (fun y'=>y' = {y with vd:=y'.vd}) loc d s'∧s'.ay=s.ay):=by
 have h1:=h.new (bT x)
 generalize abb:(s.aq.length,bT x)::loc=Zk at h1
 obtain⟨o,ho,hfo,c1⟩:=Tc h1 ht.st ht.len
 have hm:=h1.eW
 rw[fO]at hm
 have hl:=h1.wk
 simp only at hm hl
 rw[qR]at hfo
 have PF:=ht.vars
 have Jp:=ht.names
 refine bp.iY oM.h rfl fun B Q hB hQ=>?_
 have⟨hD,hY,hZ,gC⟩:=bb
 -- the rounds
 have loop : ∀ (n k:Nat) (rest:List Nat) (vd:D) (s2:St),s2.ay=s.ay→rest.length=n→fr.vars.drop k=rest→Inv p T W {y with vd:=vd} m Zk s2→kG s2 vd (((fr.vars.take k).map fun c=>m.mem.getD c 0).map kl)→
  aN Tryz.prog B 64 Q0I (fX 0 (kA (jJ Tryz.prog B 64 Q0J Q) Q)) [(0, .ptr 0 0),(3, .ptr s.aq.length 0),(6, .ptr o 0),(24, .slice .shared 1 (fr.vars.map fun c=>fZ (y.κ.getD c 0))),(25, .int .i64 (fr.vars.length:Int)),(26, .int .i64 (k:Int))] s2:=by
  intro n
  induction n with
  | zero=>
   intro k rest vd s2 w6 vg hd h2 ha
   have:rest = []:=zbk vg
   subst this
   have hD:=drop_nil hd
   have hk:fr.vars.take k=fr.vars:=zb0 (zaP.1 hd)
   rw[hk]at ha
   have Lc:(fr.vars.map fun c=>m.mem.getD c 0)=m.bu:=by unfold Mc.bu;rw[ht.top]
   rw[Lc]at ha
   have jr:=h2.eW
   rw[fO]at jr
   have jI:=h2.wk
   have P2:=(h2.frame 0 o fr ho (by rw[ht.st];rfl)).1
   rw[qR]at P2
   have Dr:=(h2.loc (s.aq.length,bT x) (by rw[← abb];exact zaA ..)).1
   simp only at jr P2 Dr
   have c2:az Tryz.prog 112 [.agg (bT x), .slice .shared 1 (fr.names.map encStr),vd] s2 (oY (x.bA fr.names m.bu)) s2:=
    az.ajN ha (fun s=>Zi (by omega) htx (by omega) (by rw[← Lc,zaw];omega) s) (by simp[D.ok,jM]) (by simp[D.ok,Tag.ok,dz]) (by simp[D.flat,D.Gw])
   have hw:(m.bA x).1=x.bA fr.names m.bu:=by unfold Mc.bA;rw[ht.top]
   generalize hr:x.bA fr.names m.bu=q at *
   have vy:(m.bA x).2=if q.2 then m else {m with fin:=4}:=by unfold Mc.bA;rw[ht.top,hr]
   obtain⟨q1,q2⟩:=q
   have qf:Inv p T W {y with vd:=vd} {m with fin:=4} Zk ⟨s2.aq.set 0 (fO p T W {y with vd:=vd} {m with fin:=4}),s2.ay⟩:=h2.lT (m':= {m with fin:=4}) rfl rfl h2.t0 h2.t1
   rw[fO]at qf
   have gH : ∀ q∈loc,q∈Zk:=fun q mq=>by rw[← abb];exact zan _ mq
   refine aN.fJ ?_
   cases q2
   ·repeat' (first
 |simp only[go_sem,hD,hY,hZ,gC,jr,jI,P2,Dr]
 |(with_reducible refine CU (c2) ?_)
 | (with_reducible refine ax hQ ?_;exact aB))
    (refine dG hQ ?_;simp only[bF,bG,bZ,cb,go_sem])
    refine⟨⟨by rw[hw],{y with vd:=vd},rfl, ?_⟩,w6⟩
    rw[vy]
    exact qf.sub gH
   ·repeat' (first
 |simp only[go_sem,hD,hY,hZ,gC,jr,jI,P2,Dr]
 |(with_reducible refine CU (c2) ?_)
 | (with_reducible refine ax hQ ?_;exact aB))
    (refine dG hQ ?_;simp only[bF,bG,bZ,cb,go_sem])
    refine⟨⟨by rw[hw],{y with vd:=vd},rfl, ?_⟩,w6⟩
    rw[vy]
    exact h2.sub gH
  | succ n ih=>
   intro k rest vd s2 w6 vg hd h2 ha
   cases rest with
   |nil=>cases vg
   | cons c rest=>
    obtain⟨hY,g2,hD,g4⟩:=drop_cons hd
    have aZ:k<4611686018427387904:=by omega
    have xv:c<m.mem.length:=(h2.frame 0 o fr ho (by rw[ht.st];rfl)).2.2 c (zad hY)
    have hκ:y.κ[c]? = some (y.κ.getD c 0):=by
     rw[zay,zah (by have:=h2.len;simp only at this;omega)];rfl
    have iN:=h2.cell c _ _ hκ (by rw[zah xv])
    have qD:m.mem[c] = m.mem.getD c 0:=by rw[zay,zah xv];rfl
    rw[qD]at iN
    generalize ajO:m.mem.getD c 0=v at iN
    have jr:=h2.eW
    rw[fO]at jr
    have jI:=h2.wk
    simp only at jr
    have hlen:k<1000000:=by have:=ht.vars;omega
    have P3:((fr.vars.take (k+1)).map fun c=>m.mem.getD c 0).map kl=((fr.vars.take k).map fun c=>m.mem.getD c 0).map kl++ [.int .i64 v]:=by
     rw[Kf hd m,ajO,zag];rfl
    rcases ha with ⟨rfl,e⟩|⟨vo,g,more,rfl,e⟩
    ·have dd:=Fh (z:=1) (bytes:=8) .full [.int .i64 v] s2 (by unfold aV;omega)
     have h3:=h2.S8 (vd:= .dM 1 s2.aq.length 0 1) (s1:=⟨s2.aq++ [[.int .i64 ((0:Nat):Int), .int .i64 v]],s2.ay⟩) (fun o r e _=>by rw[zak (df e)];exact e)
      ⟨[v], .inr ⟨_,0,[],rfl,by simp[kl]⟩⟩ (.inr (.inr rfl)) rfl
     rw[fO]at h3
     simp only at h3
     refine aN.fJ ?_
     have hA : ∀ e:List (List D),(s2.aq++e)[0]? = s2.aq[0]? :=fun e=>zak jI
     repeat' (first
 |simp only[go_sem,hD,hY,hZ,gC,jr,jI,iN,hY,fZ,dd,za3,hA]
 | (with_reducible refine ax hQ ?_;exact aB))
     refine aN.jx ?_ (ih (k+1) rest _ _ w6 (by simpa using vg) g2 h3 ?_)
     ·simp only [go_sem,aw aZ,fZ]
      repeat' (first|exact Ok.out|with_reducible refine ei ?_ ?_)
     ·rw [P3,e]
      refine .inr ⟨_,0,[],rfl, ?_⟩
      show((s2.aq++ [_]).set 0 _)[s2.aq.length]? = _
      rw[zam (by omega)]
      simp
    ·have ko:(((fr.vars.take k).map fun c=>m.mem.getD c 0).map kl).length=k:=by simp;omega
     have dd:=Bs (t:= .full) (bytes:=8) (r:= [.int .i64 v]) e (len:=k) (z:=1) (by rw[ko,Nat.mul_one]) (by unfold aV;omega)
     rw[ko]at jr h2
     have Ds:0≠vo:=fun e'=>(h2.xq (o:=vo) (by simp[D.arr])) e'.symm
     have du:kG ⟨s2.aq.set vo (.int .i64 ((g+1:Nat):Int)::(((fr.vars.take k).map fun c=>m.mem.getD c 0).map kl++ [.int .i64 v])),s2.ay⟩ (.dM 1 vo (g+1) (k+1)) (((fr.vars.take k).map fun c=>m.mem.getD c 0).map kl++ [.int .i64 v]):=
      .inr ⟨vo,g+1,[],by simp;omega,by simp[df e]⟩
     have h3:=h2.S8 (vd:= .dM 1 vo (g+1) (k+1)) (s1:=⟨s2.aq.set vo (.int .i64 ((g+1:Nat):Int)::(((fr.vars.take k).map fun c=>m.mem.getD c 0).map kl++ [.int .i64 v])),s2.ay⟩) (fun o r e hn=>by rw[zam (fun e'=>hn (by rw[← e'];simp[D.arr]))];exact e)
      ⟨(fr.vars.take (k+1)).map fun c=>m.mem.getD c 0,by rw[P3];exact du⟩ (.inl rfl) rfl
     rw[fO]at h3
     simp only at h3
     refine aN.fJ ?_
     have hA : ∀ e:List D,(s2.aq.set vo e)[0]? = s2.aq[0]? :=fun e=>zam (Ne.symm Ds)
     repeat' (first
 |simp only[go_sem,hD,hY,hZ,gC,jr,jI,iN,hY,fZ,dd,za3,hA]
 |(with_reducible refine ax hQ ?_;exact aB))
     refine aN.jx ?_ (ih (k+1) rest _ _ w6 (by simpa using vg) g2 h3 ?_)
     ·simp only [go_sem,aw aZ,fZ]
      repeat' (first|exact Ok.out|with_reducible refine ei ?_ ?_)
     ·rw [P3]
      exact du.keep fun o mo=>by
       have:o=vo:=by simpa[D.arr]using mo
       subst this
       show(List.set _ 0 _)[o]? = _
       rw[zam Ds]
 -- the values' slice is emptied
 obtain⟨l,hv⟩:=h1.bu
 have h0:((s.aq++ [bT x])[0]?).isSome=true:=by rw[hm];rfl
 rcases hv with ⟨e,_⟩|⟨vo,g,more,e,e2⟩
 ·rw [e]at hm
  have vU:uj (.ek 1) none (some (.int .i64 0))=some (.ek 1):=by simp[uj,ud,uf]
  have h3:=h1.S8 (vd:= .ek 1) (s1:=⟨s.aq++ [bT x],s.ay⟩) (fun _ _ e _=>e) ⟨[], .inl ⟨rfl,rfl⟩⟩ (.inl (by rw[e])) rfl
  have Ho:=(h3.frame 0 o fr ho (by rw[ht.st];rfl)).1
  rw[fO]at h3 Ho
  rw[qR]at Ho
  simp only at h3 Ho
  repeat' (first
 |simp only[go_sem,hD,hY,hZ,gC,hm,hl,hfo,vU,Ho]
 |(with_reducible refine CU (c1) ?_)
 |(with_reducible refine ax hQ ?_;exact aB))
  refine aN.jx ?_ (loop _ 0 fr.vars _ _ rfl rfl rfl h3 (.inl ⟨rfl,rfl⟩))
  simp only[go_sem,fZ]
  repeat' (first|exact Ok.out|with_reducible refine ei ?_ ?_)
 ·rw [zaw]at e
  rw[e]at hm
  have Ds:0≠vo:=fun e'=>(h1.xq (o:=vo) (by rw[e];simp[D.arr])) e'.symm
  have vU:uj (.dM 1 vo g l.length) none (some (.int .i64 0))=some (.dM 1 vo g 0):=by simp[uj,ud,uf]
  have h3:=h1.S8 (vd:= .dM 1 vo g 0) (s1:=⟨s.aq++ [bT x],s.ay⟩) (fun _ _ e _=>e) ⟨[], .inr ⟨vo,g,l.map kl++more,rfl,e2⟩⟩ (.inl (by rw[e];rfl)) rfl
  have Ho:=(h3.frame 0 o fr ho (by rw[ht.st];rfl)).1
  rw[fO]at h3 Ho
  rw[qR]at Ho
  simp only at h3 Ho
  repeat' (first
 |simp only[go_sem,hD,hY,hZ,gC,hm,hl,hfo,vU,Ho]
 |(with_reducible refine CU (c1) ?_)
 | (with_reducible refine ax hQ ?_;exact aB))
  refine aN.jx ?_ (loop _ 0 fr.vars _ _ rfl rfl rfl h3 (.inr ⟨vo,g,l.map kl++more,rfl, ?_⟩))
  ·simp only [go_sem,fZ]
   repeat' (first|exact Ok.out|with_reducible refine ei ?_ ?_)
  ·show(List.set _ 0 _)[vo]? = _
   rw[zam Ds];exact e2
end
end Go.Abs
namespace Go.Abs
set_option maxRecDepth 8000
open Go.Proofs
section
variable {p:Pg} {T W:List Int} {y:Lay} {m:Mc} {loc:List (Nat×List D)} {s:St}
theorem yK:Wk (.slice .full 0 []) (.slice .shared 1 (([] : List Int).map bD)):=Wk.nil _ _ _
theorem xw (h:Inv p T W y m loc s) (hW:W.length<1000000) (ht:m.trace.length<2000000) (id:Int) :
 bp Tryz.prog 79 [.ptr 0 0, .int .i64 id, .slice .full 0 []] s (Rl p T W (.tuple []) (m.event W id []) (· = y) loc):=
 bp.lU (.cons (Wk.refl _) (.cons (Wk.refl _) (.cons yK .nil))) (PZ h hW ht id [])
theorem FK (h:Inv p T W y m loc s) (hW:W.length<1000000) (ht:m.trace.length<2000000) (id n:Int) :
 bp Tryz.prog 79 [.ptr 0 0, .int .i64 id, .slice .full 1 [[.int .i64 n]]] s (Rl p T W (.tuple []) (m.event W id [n]) (· = y) loc):=
 bp.lU (.cons (Wk.refl _) (.cons (Wk.refl _) (.cons (Wk.shared _ _ _) .nil))) (PZ h hW ht id [n])
theorem adb (h:Inv p T W y m loc s) {fr:Fr} {r:List Fr} (ht:l5 m fr r) {v:Sm} (hv:v.lP) (hW:W.length<1000000) (NG:m.trace.length<2000000) :
 bp Tryz.prog 47 [.ptr 0 0, .agg (aY v)] s (Rl p T W (.int .i64 (m.fA W v).1) (m.fA W v).2 (fun y'=>y' = {y with vd:=y'.vd}) loc):=by
 have h1:=h.new (aY v)
 have hx:(s.aq++ [aY v])[s.aq.length]? = some (aY v):=by simp
 have gH : ∀ q∈loc,q∈(s.aq.length,aY v)::loc:=fun q mq=>zan _ mq
 refine bp.iY zP.h rfl fun B Q hB hQ=>?_
 have⟨hD,hY,hZ,gC⟩:=bb
 rcases zaa v.has with b|b
 ·have c1:=FJ h1 ht (x:=v.x) (by have:=hv.2.2;omega) hv.1
  repeat' (first
 |simp only[go_sem,hD,hY,hZ,gC,hx,b]
 | (with_reducible refine ax hQ ?_;exact aB))
  refine CR c1 fun d s2 h2=>?_
  obtain⟨⟨rfl,y2,qS,h2⟩,_⟩:=h2
  have Dr:=(h2.loc (s.aq.length,aY v) (zaA ..)).1
  have hw:=gL m v.x
  simp only at Dr
  rcases zaa (m.bA v.x).1.2 with b2|b2
  ·have c2:=FK h2 hW (by rw [hw.2.2.2.2.2];exact NG) v.id (m.bA v.x).1.1
   repeat' (first
 |simp only[go_sem,hD,hY,hZ,gC,Dr,b2]
 | (with_reducible refine ax hQ ?_;exact aB))
   refine CR c2 fun d s3 h3=>?_
   obtain⟨rfl,y3,rfl,h3⟩:=h3
   repeat' (first
 |simp only[go_sem,hD,hY,hZ,gC]
 | (with_reducible refine ax hQ ?_;exact aB))
   (refine dG hQ ?_;simp only[bF,bG,bZ,cb,go_sem])
   refine⟨by simp only[Mc.fA,b,if_true],y3,qS, ?_⟩
   simp only[Mc.fA,b,b2,if_true]
   exact h3.sub gH
  ·repeat' (first
 |simp only[go_sem,hD,hY,hZ,gC,Dr,b2]
 | (with_reducible refine ax hQ ?_;exact aB))
   (refine dG hQ ?_;simp only[bF,bG,bZ,cb,go_sem])
   refine⟨by simp only[Mc.fA,b,if_true],y2,qS, ?_⟩
   simp only[Mc.fA,b,b2,if_true,zab,if_false]
   exact h2.sub gH
 ·have c1:=xw h1 hW NG v.id
  repeat' (first
 |simp only[go_sem,hD,hY,hZ,gC,hx,b]
 |(with_reducible refine ax hQ ?_;exact aB))
  refine CR c1 fun d s2 h2=>?_
  obtain⟨rfl,y2,rfl,h2⟩:=h2
  repeat' (first
 |simp only[go_sem,hD,hY,hZ,gC]
 |(with_reducible refine ax hQ ?_;exact aB))
  (refine dG hQ ?_;simp only[bF,bG,bZ,cb,go_sem])
  refine⟨by simp only[Mc.fA,b,zab,if_false],y2,rfl, ?_⟩
  simp only[Mc.fA,b,zab,if_false]
  exact h2.sub gH
end
end Go.Abs
namespace Go.Abs
set_option maxRecDepth 8000
open Go.Proofs
section
variable {p:Pg} {T W:List Int} {y:Lay} {m:Mc} {loc:List (Nat×List D)} {s:St}
theorem ie.setAt : ∀ {l:List (List D)} {i:Nat} {r r':List D},l[i]? = some r→jh r r'→ie l (l.set i r')
 |a::l,0,r,r',h,w=>by simp at h;subst h;exact .cons w (ie.refl l)
 |a::l,i+1,r,r',h,w=> .cons (jh.refl a) (ie.setAt (l:=l) (by simpa using h) w)
def Lay.push (y:Lay) (n K:Nat) (sd:D):Lay:= {y with κ:=y.κ++(List.range K).map (n+2 + ·),φ:=(n+1)::y.φ,sd:=sd}
theorem Zl {κ:List Nat} {n K j:Nat} (hj:j<K):(κ++(List.range K).map (n+2 + ·)).getD (κ.length+j) 0=n+2+j:=by
 rw[zay,zas (by omega),show κ.length+j - κ.length=j by omega]
 simp[hj]
theorem FM {κ e:List Nat} {c:Nat} (hc:c<κ.length):(κ++e).getD c 0=κ.getD c 0:=by
 rw[zay,zay,zak hc]
theorem Td {κ:List Nat} {n:Nat} (h:n≤κ.length):(List.range n).map (fun c=>κ.getD c 0)=κ.take n:=by
 apply zbV
 intro i
 simp only[zao]
 by_cases hi:i<n
 ·rw [zbX hi,zbn hi,zah (show i<κ.length by omega)]
  simp[zay,zah (show i<κ.length by omega)]
 ·rw[zbC (by simp;omega),zbC (by simp;omega)];rfl
theorem Inv.push (h:Inv p T W y m loc s) {K:Nat} {sd:D} {fr:Fr} {s':St} (hg:p.globals.length≤m.mem.length) (Vv : ∀ c∈fr.vars,c<m.mem.length+K)
 (k : ∀ (o:Nat) (r:List D),s.aq[o]? = some r→o≠0→o∉y.sd.arr→s'.aq[o]? = some r)
 (k0:s'.aq[0]? = some (fO p T W (y.push s.aq.length K sd) m)) (kc : ∀ j,j<K→s'.aq[s.aq.length+2+j]? = some [.int .i64 0])
 (kf:s'.aq[s.aq.length+1]? = some (qR (y.push s.aq.length K sd).κ fr)) (ks:kG s' sd ((y.push s.aq.length K sd).φ.reverse.map yZ)) (qi:sd.arr=y.sd.arr∨sd.arr = [s.aq.length+2+K])
 (t0:s'.ay[0]? = s.ay[0]?) (t1:s'.ay[1]? = s.ay[1]?) :
 Inv p T W (y.push s.aq.length K sd) {m with st:=fr::m.st,mem:=m.mem++List.replicate K 0} loc s':=by
 have zN:=h.own
 rw[Lay.own,za4,zba,zba]at zN
 obtain⟨n0,nκ,⟨ns,nv,nsv⟩,ND⟩:=zN
 have lt:=h.rZ
 have ltκ : ∀ c∈y.κ,c<s.aq.length:=fun c mc=>lt c (by simp[Lay.own,mc])
 have lts : ∀ c∈y.sd.arr,c<s.aq.length:=fun c mc=>lt c (by simp[Lay.own,mc])
 have ltv : ∀ c∈y.vd.arr,c<s.aq.length:=fun c mc=>lt c (by simp[Lay.own,mc])
 have wk:=h.wk
 have NF : ∀ o,o∈(y.push s.aq.length K sd).own→o∈y.own∨(s.aq.length+2≤o∧o≤s.aq.length+2+K):=fun o mo=>by
  simp only[Lay.own,Lay.push,zap,zaq,zaF,zbN]at mo ⊢
  rcases mo with rfl|(mo|⟨j,hj,rfl⟩)|mo|mo
  ·exact .inl (.inl rfl)
  ·exact .inl (.inr (.inl mo))
  ·exact .inr ⟨by omega,by omega⟩
  ·rcases qi with e | e
   ·rw[e]at mo;exact .inl (.inr (.inr (.inl mo)))
   ·rw[e]at mo;have:=zaG.1 mo;exact .inr ⟨by omega,by omega⟩
  ·exact .inl (.inr (.inr (.inr mo)))
 have g : ∀ {o:Nat} {r:List D},s.aq[o]? = some r→o∉y.own→s'.aq[o]? = some r∧o∉(y.push s.aq.length K sd).own:=fun {o r} e hn=>by
  refine⟨k o r e (fun e0=>hn (by rw[e0];simp[Lay.own])) (fun ms=>hn (by simp[Lay.own,ms])),fun mo=>?_⟩
  rcases NF o mo with mo|mo
  ·exact hn mo
  ·have:=df e;omega
 have hlen:=h.len
 refine⟨k0,by rw[t0];exact h.t0,by rw[t1];exact h.t1,by simp[Lay.push,hlen],fun i c v e1 e2=>?_,by simp[Lay.push,h.uI],fun i o yy e1 e2=>?_,ks, ?_, ?_,fun q mq=>g (h.loc q mq).1 (h.loc q mq).2⟩
 ·simp only [Lay.push]at e1
  dsimp only at e2
  rcases zaE i y.κ.length with hi|hi
  ·rw [zak hi]at e1
   rw[zak (by omega)]at e2
   have hc:=zad e1
   exact k c _ (h.cell i c v e1 e2) (h.xq (by simp[hc])) (fun ms=>ND c hc c (zaJ _ ms) rfl)
  ·rw [zas hi]at e1
   rw[zas (by omega)]at e2
   have hD:=(zac.1 e1).1
   simp only[zaw,List.length_range]at hD
   rw[zao,zbX hD]at e1
   rw[zbM (by omega)]at e2
   simp only[za3,Option.some.injEq]at e1 e2
   subst e1 e2
   exact kc _ hD
 ·cases i with
  |zero=>
   simp only[Lay.push,zbe,Option.some.injEq]at e1 e2
   subst e1 e2
   refine⟨kf,fun mo=>?_,fun c mc=>by simp only[zaj,List.length_replicate];exact Vv c mc⟩
   rcases NF _ mo with mo|mo
   ·have:=lt _ mo;omega
   ·omega
  |succ i=>
   simp only[Lay.push,za2]at e1 e2
   obtain⟨f1,f2,f3⟩:=h.frame i o yy e1 e2
   obtain⟨f4,f5⟩:=g f1 f2
   exact⟨by simp only[Lay.push];rw[Kd (by rw[hlen];exact f3)];exact f4,f5,fun c mc=>by have:=f3 c mc;simp only[zaj];omega⟩
 ·obtain⟨l,hl⟩:=h.bu
  refine⟨l,hl.keep fun o mo=>?_⟩
  rw[zah (ltv o mo)]
  exact k o _ (zah _) (h.xq (by simp[mo])) (fun ms=>nsv o ms o mo rfl)
 ·have Wd:((List.range K).map (s.aq.length+2 + ·)).Nodup:=by
   rw[zby,List.pairwise_map]
   exact List.Pairwise.imp (fun h=>by omega) (zby.1 List.nodup_range)
  have H2 : ∀ o∈(List.range K).map (s.aq.length+2 + ·),s.aq.length+2≤o∧o<s.aq.length+2+K:=fun o mo=>by
   obtain⟨j,hj,rfl⟩:=zaF.1 mo
   have:=zbN.1 hj;exact⟨by omega,by omega⟩
  have Te : ∀ o∈sd.arr,(o∈y.sd.arr)∨o=s.aq.length+2+K:=fun o mo=>by
   rcases qi with e|e
   ·rw[e]at mo;exact .inl mo
   ·rw[e]at mo;exact .inr (zaG.1 mo)
  simp only[Lay.own,Lay.push]
  rw[za4,zba,zba,zba]
  refine⟨fun mo=>?_,⟨nκ,Wd,fun a ma b mb e=>?_⟩,⟨?_,nv,fun a ma b mb e=>?_⟩,fun a ma b mb e=>?_⟩
  ·simp only [zaq]at mo
   rcases mo with (mo|mo)|mo|mo
   ·exact n0 (by simp[mo])
   ·have:=H2 _ mo;omega
   ·rcases Te _ mo with mo | mo
    ·exact n0 (by simp[mo])
    ·omega
   ·exact n0 (by simp[mo])
  ·have:=ltκ a ma;have:=H2 b mb;omega
  ·rcases qi with e | e <;> rw [e]
   ·exact ns
   ·simp
  ·rcases Te a ma with ma | ma
   ·exact nsv a ma b mb e
   ·have:=ltv b mb;omega
  ·rcases zaq.1 ma with ma | ma
   ·rcases zaq.1 mb with mb | mb
    ·rcases Te b mb with mb | mb
     ·exact ND a ma b (zaJ _ mb) e
     ·have:=ltκ a ma;omega
    ·exact ND a ma b (za7 _ mb) e
   ·have:=H2 a ma
    rcases zaq.1 mb with mb|mb
    ·rcases Te b mb with mb | mb
     ·have:=lts b mb;omega
     ·omega
    ·have:=ltv b mb;omega
theorem ade {gl ps:List (List D)} {bytes:Nat} (hb:(gl.length+ps.length)*(bytes+1)≤aV) (ts:List (Option Nat)) : ∃ (g1 g2:Tag) (z1 z2:Nat) (t1 t2:List (Option Nat)),(∀ os,fH 1 bytes (.slice .full 0 []) (.slice .shared 1 gl) ⟨os,ts⟩=some (.slice g1 z1 gl,⟨os,t1⟩))∧
 (∀ os,fH 1 bytes (.slice g1 z1 gl) (.slice .shared 1 ps) ⟨os,t1⟩=some (.slice g2 z2 (gl++ps),⟨os,t2⟩))∧
 ((g2 = .full∧t2=ts∧gl++ps = [])∨(g2 = .tok ts.length∧z2=1∧t2=ts++ [some (gl++ps).length])):=by
 have h1:gl.length*(bytes+1)≤aV:=zaW (zaO _ (Nat.le_add_right _ _)) hb
 have h2:ps.length*(bytes+1)≤aV:=zaW (zaO _ (Nat.le_add_left _ _)) hb
 cases gl with
 |nil=>
  cases ps with
  |nil=>exact⟨.full, .full,0,0,ts,ts,fun os=>Bq os ts,fun os=>Bq os ts, .inl ⟨rfl,rfl,rfl⟩⟩
  |cons a ps=>exact⟨.full, .tok ts.length,0,1,ts,_,fun os=>Bq os ts,fun os=>Bp (by simp) h2 os ts, .inr ⟨rfl,rfl,rfl⟩⟩
 |cons a gl=>
  refine⟨.tok ts.length, .tok ts.length,1,1,ts++ [some (a::gl).length],ts++ [some (a::gl++ps).length],fun os=>Bp (by simp) h1 os ts,fun os=>?_, .inr ⟨rfl,rfl,rfl⟩⟩
  rw[kB (size:=1) hb (by simp)]
  simp;omega
theorem P4 (h:Inv p T W y m loc s) (hp:p.gu) (hb:p.may=true) {i:Nat} {f:Pc} (hf:p.procs[i]? = some f) (ajQ:p.find f.name=some f) (gd:m.st.length<1000000) {l:List Nat} (hl : ∀ c∈l,c<m.mem.length) (JW:l.length<1000000)
 (hg:p.globals.length≤m.mem.length) (call:Int) :
 ∃ y' s',az Tryz.prog 44 [.ptr 0 0, .int .i64 (i:Int), .slice .shared 1 (l.map fun c=>fZ (y.κ.getD c 0)), .int .i64 call] s (.int .i64 (m.open p (i:Int) l call).1) s'∧Inv p T W y' (m.open p (i:Int) l call).2 loc s':=by
 have hm:=h.eW
 rw[fO]at hm
 have vZ:=h.wk
 obtain⟨nB,nF,lG⟩:=hp.procs
 have rD:=hp.small (zad hf)
 have cV:=fun s=>agD hp hb ajQ s
 have cF:=fun s=>ada hb hf s
 have hi:i<p.procs.length:=(zac.1 hf).1
 obtain⟨g1,g2,z1,z2,t1,t2,a1,a2,a3⟩:=ade (gl:=(y.κ.take p.globals.length).map fZ) (ps:=l.map fun c=>fZ (y.κ.getD c 0)) (bytes:=8) (by simp only[zaw,zbO];unfold aV;omega) s.ay
 have hA : ∀ e:List (List D),(s.aq++e)[0]? = s.aq[0]? :=fun e=>zak vZ
 have n0 : ∀ e1 e2:List (List D),(s.aq++e1++e2)[0]? = s.aq[0]? :=fun e1 e2=>by rw[zaB];exact hA _
 have n1 : ∀ a b:List D,(s.aq++ [a]++ [b])[s.aq.length+1]? = some b:=fun a b=>by simp
 have n2 : ∀ a b:List D,(s.aq++ [a]++ [b])[s.aq.length]? = some a:=fun a b=>by simp
 have n3 : ∀ a b c:List D,(s.aq++ [a]++ [b]).set (s.aq.length+1) c=s.aq++ [a]++ [c]:=fun a b c=>by simp[zaB,List.set_append_right]
 have n4 : ∀ a:List D,(s.aq++ [a])[s.aq.length]? = some a:=fun a=>by simp
 have n5 : ∀ a b:List D,(s.aq++ [a]).set s.aq.length b=s.aq++ [b]:=fun a b=>by simp
 have Wf:bN f = [.str f.name, .slice .shared 2 (f.params.map fz), .slice .shared 1 (f.vars.map encStr), .slice .shared 13 (f.body.map aY), .slice .shared 1 (f.fin.map encStr)]:=rfl
 generalize hn:s.aq.length=n at *
 have Pj:(m.open p (i:Int) l call).1=eD f.body (-1)∧(m.open p (i:Int) l call).2 = {m with st:=⟨(i:Int),p.globals++f.own,List.range p.globals.length++l++(List.range f.vars.length).map (m.mem.length + ·),call⟩::m.st,mem:=m.mem++List.replicate f.vars.length 0}:=by
  unfold Mc.open
  rw[zaQ,hf]
  exact⟨rfl,rfl⟩
 rw[Pj.1,Pj.2]
 generalize k8:(y.κ.take p.globals.length).map fZ++l.map (fun c=>fZ (y.κ.getD c 0))=lb at *
 have hgr:lb.length<2000000:=by rw[← k8];simp only[zaj,zaw,zbO];omega
 have PF:=rD.vars
 -- the states of the rounds
 let fr:Nat→List D:=fun k=> [.int .i64 (i:Int), .slice .shared 1 ((p.globals++f.own).map encStr), .slice (.tok s.ay.length) 1 (lb++(List.range k).map (fun j=>fZ (n+2+j))), .int .i64 call]
 obtain⟨O,hO⟩ : ∃ O:Nat→List (List D),∀ k,O k=s.aq++ [bN f]++ [fr k]++List.replicate k [.int .i64 0]:=⟨_,fun _=>rfl⟩
 have oL : ∀ k,(O k).length=n+2+k:=fun k=>by rw[hO];simp[hn];omega
 have Zm : ∀ k o,o<n→(O k)[o]? = s.aq[o]? :=fun k o ho=>by rw[hO,zaB,zaB,zak (by omega)]
 have oF : ∀ k,(O k)[n+1]? = some (fr k):=fun k=>by rw[hO,zak (by simp[hn])];simp[hn]
 have oC : ∀ k j,j<k→(O k)[n+2+j]? = some [.int .i64 0]:=fun k j hj=>by
  rw[hO,zas (by simp only[zaj,zaK,hn];omega)]
  simp only[zaj,zaK,hn]
  rw[show n+2+j - (n+1+1)=j by omega,zbM hj]
 have oF' : ∀ k e,(O k++e)[n+1]? = some (fr k):=fun k e=>by rw[zak (by rw[oL];omega)];exact oF k
 have o0 : ∀ k,(O k)[0]? = s.aq[0]? :=fun k=>Zm k 0 vZ
 have o0' : ∀ k e,(O k++e)[0]? = s.aq[0]? :=fun k e=>by rw[zak (by rw[oL];omega)];exact o0 k
 have oS : ∀ k,(O k++ [[D.int .i64 0]]).set (n+1) (fr (k+1))=O (k+1):=fun k=>by
  rw[hO,hO,List.replicate_succ']
  simp only[zaB]
  rw[List.set_append_right _ _ (by omega),hn,show n+1 - n=1 by omega]
  rfl
 have Bt:(List.range p.globals.length++l++(List.range f.vars.length).map (m.mem.length + ·)).map (fun c=>fZ ((y.push n f.vars.length .fv).κ.getD c 0))=lb++(List.range f.vars.length).map (fun j=>fZ (n+2+j)):=by
  simp only[zag,List.map_map,Lay.push, ← k8]
  congr 1
  ·congr 1
   ·rw [← Td (by rw [h.len];exact hg),List.map_map]
    exact zbo fun c mc=>by simp only[Function.comp];rw[FM (by rw[h.len];have:=zbN.1 mc;omega)]
   ·exact zbo fun c mc=>by rw[FM (by rw[h.len];exact hl c mc)]
  ·exact zbo fun j mj=>by simp only[Function.comp];rw[← h.len,Zl (zbN.1 mj)]
 have am0:jh (fr f.vars.length) (qR (y.push n f.vars.length .fv).κ ⟨(i:Int),p.globals++f.own,List.range p.globals.length++l++(List.range f.vars.length).map (m.mem.length + ·),call⟩):=by
  unfold qR
  dsimp only
  rw[Bt]
  exact .cons (Wk.refl _) (.cons (Wk.refl _) (.cons (Wk.shared _ _ _) (.cons (Wk.refl _) .nil)))
 -- the stack
 generalize hK:f.vars.length=K at *
 obtain⟨sd,O',e1,e3,e4,e5,e6⟩ : ∃ (sd:D) (O':List (List D)),(∀ tm:Tm,tm.get 70=y.sd→tm.get 72 = .slice .full 1 [[.ptr (n+1) 0]]→aS (.app 1 8 (.s 70) (.s 72)) tm ⟨O K,s.ay++ [some (lb.length+K)]⟩=some (sd,⟨O',s.ay++ [some (lb.length+K)]⟩))∧
  (∀ (o:Nat) (r:List D),(O K)[o]? = some r→o∉y.sd.arr→O'[o]? = some r)∧kG ⟨O',s.ay⟩ sd (((n+1)::y.φ).reverse.map yZ)∧(sd.arr=y.sd.arr∨sd.arr = [n+2+K])∧sd.row=some [sd]:=by
  rcases h.stack with ⟨e,e2⟩|⟨so,g,more,e,e2⟩
  ·have hφ:y.φ = []:=by simpa using e2
   refine⟨.dM 1 (n+2+K) 0 1,O K++ [[.int .i64 ((0:Nat):Int), .ptr (n+1) 0]],fun tm h1 h2=>?_,fun o r e _=>by rw[zak (df (s:=⟨O K,[]⟩) e)];exact e, .inr ⟨n+2+K,0,[],by simp[hφ], ?_⟩, .inr rfl,rfl⟩
   ·simp only [aS,X.ev,h1,h2,e]
    rw[Fh _ _ _ (by unfold aV;omega)]
    simp only[oL]
   ·rw [hφ]
    show(O K++ [_])[n+2+K]? = _
    rw[← oL K]
    simp[yZ]
  ·have am1:so<n:=by have:=df e2;omega
   have hlen:(y.φ.reverse.map yZ).length=m.st.length:=by simp[h.uI]
   have e2':(O K)[so]? = some (.int .i64 ((g:Nat):Int)::(y.φ.reverse.map yZ++more)):=by rw[Zm K so am1];exact e2
   rw[hlen]at e
   refine⟨.dM 1 so (g+1) (m.st.length+1),(O K).set so (.int .i64 ((g+1:Nat):Int)::(y.φ.reverse.map yZ++ [.ptr (n+1) 0])),fun tm h1 h2=>?_,fun o r e hn=>?_, .inr ⟨so,g+1,[],by simp[h.uI], ?_⟩, .inl (by rw[e];rfl),rfl⟩
   ·simp only [aS,X.ev,h1,h2,e]
    rw[Bs (s:=⟨O K,_⟩) e2' (by rw[hlen,Nat.mul_one]) (by unfold aV;omega)]
   ·rw[zam (fun e'=>hn (by rw[‹y.sd=_›, ← e'];simp[D.arr]))];exact e
   ·simp[oL,show so<n+2+K by omega,yZ]
 have o'0:O'[0]? = s.aq[0]? :=by
  rw[hm]
  exact e3 0 _ (by rw[o0];exact hm) (fun mo=>(h.xq (by simp[mo])) rfl)
 have o'l:0<O'.length:=df (s:=⟨O',[]⟩) (o'0.trans hm)
 have o'f:O'[n+1]? = some (fr K):=e3 _ _ (oF K) (fun mo=>by have:=h.rZ (n+1) (by simp[Lay.own,mo]);omega)
 let row:=fO p T W (y.push n K sd) {m with st:=⟨(i:Int),p.globals++f.own,List.range p.globals.length++l++(List.range K).map (m.mem.length + ·),call⟩::m.st,mem:=m.mem++List.replicate K 0}
 refine⟨y.push n K sd,⟨(O'.set 0 row).set (n+1) (qR (y.push n K sd).κ ⟨(i:Int),p.globals++f.own,List.range p.globals.length++l++(List.range K).map (m.mem.length + ·),call⟩),s.ay++ [some (lb.length+K)]⟩, ?_, ?_⟩
 case refine_2=>
  subst hn
  have gO : ∀ (o:Nat) (r:List D),O'[o]? = some r→o≠0→o≠s.aq.length+1→((O'.set 0 row).set (s.aq.length+1) (qR (y.push s.aq.length K sd).κ ⟨(i:Int),p.globals++f.own,List.range p.globals.length++l++(List.range K).map (m.mem.length + ·),call⟩))[o]? = some r:=fun o r e h1 h2=>by
   rw[zam (Ne.symm h2),zam (Ne.symm h1)];exact e
  refine h.push (K:=K) (sd:=sd) hg (fun c mc=>?_) (fun o r e h1 h2=>?_) ?_ (fun j hj=>?_) ?_ (e4.keep fun o mo=>?_) e5 ?_ ?_
  ·simp only [zaq,zbN,zaF]at mc
   rcases mc with (mc|mc)|⟨x,mc,rfl⟩
   ·omega
   ·have:=hl c mc;omega
   ·omega
  ·have:=df e
   exact gO o r (e3 o r (by rw[Zm K o this];exact e) h2) h1 (by omega)
  ·rw [zam (by omega)]
   simp[o'l,row]
  ·refine gO _ _ (e3 _ _ (oC K j hj) fun mo=> ?_) (by omega) (by omega)
   have:=h.rZ _ (show s.aq.length+2+j∈y.own by simp[Lay.own,mo]);omega
  ·have:=df (s:=⟨O',[]⟩) o'f
   rw[zaM (by rw[zbr];exact this)]
  ·have:o≠0∧o≠s.aq.length+1:=by
    rcases e5 with e|e
    ·rw [e]at mo
     have h1:=h.rZ o (by simp[Lay.own,mo])
     exact⟨h.xq (by simp[mo]),by omega⟩
    ·rw [e]at mo
     have:=zaG.1 mo
     exact⟨by omega,by omega⟩
   show(List.set _ _ _)[o]? = _
   rw[zam (Ne.symm this.2),zam (Ne.symm this.1)]
  ·exact zak (zac.1 h.t0).1
  ·exact zak (zac.1 h.t1).1
 refine bp.up ?_
 refine bp.iY pz.h rfl fun B Q hB hQ=>?_
 have⟨hD,hY,hZ,gC⟩:=bb
 have loop : ∀ d k:Nat,k+d=K→aN Tryz.prog B 82 Q08 (fX 0 (kA (jJ Tryz.prog B 82 Q09 Q) Q))
  [(0, .ptr 0 0),(1, .int .i64 (i:Int)),(10, .ptr (n+1) 0),(52, .int .i64 (K:Int)),(53, .int .i64 (k:Int))] ⟨O k,s.ay++ [some (lb.length+k)]⟩:=by
  intro d
  induction d with
  |zero=>
   intro k hk
   have vX:k=K:=by omega
   subst vX
   have hD:decide ((k:Int)<(k:Int))=false:=by simp
   have jr:=o'0.trans hm
   have P2:=o'f
   have v7 : ∀ r,(O'.set 0 r)[0]? = some r:=fun r=>zaM o'l
   refine aN.fJ ?_
   repeat' (first
 |simp only[go_sem,hD,hY,hZ,gC,hm,o0,e1,e6,jr,o'l,v7]
 |(with_reducible refine CU (cF _) ?_)
 | (with_reducible refine ax hQ ?_;exact aB))
   (refine dG hQ ?_;simp only[bF,bG,bZ,cb,go_sem])
   have dX:row = [.dO (fU p) 0, .slice .shared 1 ((y.κ.take p.globals.length).map fZ), .slice .shared 1 (T.map bD), .slice .shared 1 (W.map bD),sd,y.vd,
    .int .i64 m.fin, .int .i64 m.steps, .int .i64 m.reads, .slice (.tok 0) 1 (m.out.map bD), .slice (.tok 1) 2 (m.trace.map gT)]:=by
    simp only[row,fO,Lay.push]
    rw[zbL (by rw[h.len];exact hg)]
   refine⟨_,⟨(O'.set 0 row).set (n+1) _,_⟩,Wk.refl _, ?_,rfl,rfl,rfl⟩
   rw[dX]
   exact ie.setAt (by rw[zam (by omega)];exact P2) am0
  | succ d ih=>
   intro k hk
   have hD:decide ((k:Int)<(K:Int))=true:=by simp;omega
   have aZ:k<4611686018427387904:=by omega
   have hfk:=oF k
   have agH:=oF' k [[.int .i64 0]]
   have dd:fH 1 8 (.slice (.tok s.ay.length) 1 (lb++(List.range k).map (fun j=>fZ (n+2+j)))) (.slice .full 1 [[.ptr (n+2+k) 0]]) ⟨O k++ [[.int .i64 0]],s.ay++ [some (lb.length+k)]⟩ =
    some (.slice (.tok s.ay.length) 1 (lb++(List.range (k+1)).map (fun j=>fZ (n+2+j))),⟨O k++ [[.int .i64 0]],s.ay++ [some (lb.length+(k+1))]⟩):=by
    rw[kB (size:=1) (by simp only[zaj,zaw,List.length_range,zaK];unfold aV;omega) (by simp)]
    simp[zbZ,fZ,Nat.add_assoc]
   have oSk:=oS k
   simp only[fr,zag,zbZ,zaf,zai]at hfk agH oSk
   refine aN.fJ ?_
   repeat' (first
 |simp only[go_sem,hD,hY,hZ,gC,hfk,agH,oL,dd,oSk]
 | (with_reducible refine ax hQ ?_;exact aB))
   refine aN.jx ?_ (ih (k+1) (by omega))
   simp only[go_sem,aw aZ]
   repeat' (first|exact Ok.out|with_reducible refine ei ?_ ?_)
 have l0:=loop K 0 (by omega)
 have hO0:O 0=s.aq++ [bN f]++ [fr 0]:=by rw[hO];simp
 rw[hO0]at l0
 repeat' (first
 |simp only[go_sem,hD,hY,hZ,gC,hm,hA,n0,n1,n2,n3,n4,n5,hf,a1,a2,qK, ← MJ,hn]
 |(with_reducible refine CU (cV _) ?_)
 |(with_reducible refine ax hQ ?_;exact aB))
 simp only[fr,List.range_zero,zai,zaI,zag]at l0
 rcases a3 with ⟨rfl,rfl,rfl⟩|⟨rfl,rfl,rfl⟩
 ·refine aN.vM (n+1) 2 1 (n1 _ _) rfl ?_
  simp only[n3,zbu,zbQ]
  refine aN.jx ?_ l0
  simp only[go_sem,hK]
  repeat' (first|exact Ok.out|with_reducible refine ei ?_ ?_)
 ·refine aN.jx ?_ l0
  simp only[go_sem,hK]
  repeat' (first|exact Ok.out|with_reducible refine ei ?_ ?_)
end
end Go.Abs
namespace Go.Abs
set_option maxRecDepth 8000
open Go.Proofs
section
variable {p:Pg} {T W:List Int} {y:Lay} {m:Mc} {loc:List (Nat×List D)} {s:St}
def sa (fr:Fr) (name:aF) (c:Nat):Prop:=∃ j:Nat,fS name 0 fr.names=(j:Int)∧fr.vars[j]? = some c
theorem sa.cell {fr:Fr} {name:aF} {c:Nat} (h:sa fr name c) (ht:m.top=fr):m.cell name=c:=by
 obtain⟨j,h1,h2⟩:=h
 unfold Mc.cell
 rw[ht,h1,zaQ,zay,h2];rfl
theorem Inv.pop (h:Inv p T W y m loc s) {fr:Fr} {r:List Fr} (gd:m.st=fr::r) {so g:Nat} (qi:y.sd = .dM 1 so g (r.length+1)) :
 Inv p T W {y with φ:=y.φ.tail,sd:= .dM 1 so g r.length} {m with st:=r} loc ⟨s.aq.set 0 (fO p T W {y with φ:=y.φ.tail,sd:= .dM 1 so g r.length} {m with st:=r}),s.ay⟩:=by
 have jg:(D.dM 1 so g r.length).arr=y.sd.arr:=by rw[qi];rfl
 have Tf:Lay.own {y with φ:=y.φ.tail,sd:= .dM 1 so g r.length} = y.own:=by simp only[Lay.own,jg]
 have fx:=h.uI
 rw[gd]at fx
 have ne : ∀ {q:Nat} {r':List D},s.aq[q]? = some r'→q≠0→(s.aq.set 0 (fO p T W {y with φ:=y.φ.tail,sd:= .dM 1 so g r.length} {m with st:=r}))[q]? = some r':=fun e hn=>by
  rw[zam (Ne.symm hn)];exact e
 have nf : ∀ {q:Nat},q∉y.own→q≠0:=fun hq e=>hq (by rw[e];simp[Lay.own])
 obtain⟨l,hl⟩:=h.bu
 refine⟨by simp[h.wk],h.t0,h.t1,h.len,fun i c v e1 e2=>ne (h.cell i c v e1 e2) (h.xq (by simp[zad e1])),by simp[fx],fun i o yy e1 e2=>?_, ?_,⟨l,hl.keep fun o mo=>?_⟩,by rw[Tf];exact h.own,fun q mq=>?_⟩
 ·obtain⟨f1,f2,f3⟩:=h.frame (i+1) o yy (by simpa [List.getElem?_tail]using e1) (by rw [gd];simpa using e2)
  exact⟨ne f1 (nf f2),by rw[Tf];exact f2,f3⟩
 ·cases hφ:y.φ with
  |nil=>rw[hφ]at fx;simp at fx
  | cons o φ=>
   rw[hφ]at fx
   rcases h.stack with ⟨e,_⟩|⟨so',g',more,e,e2⟩
   ·rw[e]at qi;cases qi
   ·have e':=e
    rw[qi,D.dM.injEq]at e'
    obtain⟨_,rfl,rfl,_⟩:=e'
    refine .inr ⟨so,g,[.ptr o 0]++more,by simp at fx ⊢;omega,ne ?_ (h.xq (by rw[qi];simp[D.arr]))⟩
    rw[e2,hφ]
    simp[yZ]
 ·show(s.aq.set 0 _)[o]? = _
  rw[zam (Ne.symm (h.xq (by simp[mo])))]
 ·obtain⟨f1,f2⟩:=h.loc q mq
  exact⟨ne f1 (nf f2),by rw[Tf];exact f2⟩
theorem NH {L:List Im} {c:Nat} {it:Im} (h:L[c]? = some it) {a:Int} (ha:a=(c:Int)+1):ff L a=it:=by
 unfold ff
 rw[ha,show((c:Int)+1 - 1).toNat=c by omega,zay,h];rfl
theorem adi (h:Inv p T W y m loc s) {fr:Fr} {r:List Fr} (ht:l5 m fr r) (hL:p.aR.L.length<1000000)
 (hc:fr.call=0∨∃ (c:Nat) (it:Im) (jK:Fr) (r2:List Fr),fr.call=(c:Int)+1∧p.aR.L[c]? = some it∧l5 {m with st:=r} jK r2∧(it.s.name≠ []→∃ k,sa jK it.s.name k)) (n6:Int) :
 bp Tryz.prog 49 [.ptr 0 0, .int .i64 n6] s (Rl p T W (.int .i64 (m.close p.aR.L n6).1) (m.close p.aR.L n6).2 (fun y'=>∃ sd,y' = {y with φ:=y.φ.tail,sd:=sd}) loc):=by
 obtain⟨so,g,cells,o,h1,h2,h3,h4,h5⟩:=h.Zj ht.st
 obtain⟨o',_,P5,c1⟩:=Tc h ht.st ht.len
 have ho:o'=o:=by rw[h5]at *;cases ‹some o=some o'›;rfl
 subst ho
 have hm:=h.eW
 rw[fO,h1]at hm
 have hl:=h.wk
 have hp:=h.pop ht.st h1
 have hpf:=hp.eW
 have hlen:=ht.len
 have hw:IntKind.wrap .i64 (((r.length+1:Nat):Int) - 1)=((r.length:Nat):Int):=by rw[show((r.length+1:Nat):Int) - 1=(r.length:Int) by omega];exact dv (by omega) (by omega)
 have vU:uj (.dM 1 so g (r.length+1)) none (some (.int .i64 (r.length:Int)))=some (.dM 1 so g r.length):=by simp[uj,ud,uf];omega
 have v7 : ∀ r,(s.aq.set 0 r)[0]? = some r:=fun r=>zaM hl
 rw[qR]at P5
 have ko:m.close p.aR.L n6=if fr.call==0 then(-1,{{m with st:=r}with fin:=1})else((ff p.aR.L fr.call).next,if(ff p.aR.L fr.call).s.name == []then {m with st:=r}else({m with st:=r} : Mc).set (ff p.aR.L fr.call).s.name n6):=by
  unfold Mc.close
  rw[ht.top,ht.st];rfl
 rw[ko]
 rcases hc with hc|⟨c,it,jK,r2,hc,iD,iZ,hn⟩
 ·rw [hc]at P5
  have e0:((0:Int)==0)=true:=rfl
  have h5:=hp.lT (m':= {{m with st:=r}with fin:=1}) rfl rfl hp.t0 hp.t1
  rw[fO]at h5
  simp only[zbz]at h5
  rw[hc,if_pos e0]
  refine bp.iY sI.h rfl fun B Q hB hQ=>?_
  have⟨hD,hY,hZ,gC⟩:=bb
  repeat' (first
 |simp only[go_sem,hD,hY,hZ,gC,hm,hl,hw,vU,v7,P5,e0,zbz]
 |(with_reducible refine CU (c1) ?_)
 |(with_reducible refine ax hQ ?_;exact aB))
  (refine dG hQ ?_;simp only[bF,bG,bZ,cb,go_sem])
  exact⟨rfl,_,⟨_,rfl⟩,h5⟩
 ·rw [hc]at P5
  have P6:IntKind.wrap .i64 ((c:Int)+1 - 1)=(c:Int):=by
   have:=(zac.1 iD).1
   rw[show(c:Int)+1 - 1=(c:Int) by omega];exact dv (by omega) (by omega)
  have e0:((c:Int)+1==0)=false:=by simp;omega
  have am2:=NH iD hc
  have hz : ∀ (z:List D) (e:List D),(s.aq.set 0 e++ [z]).set s.aq.length (dK it)=s.aq.set 0 e++ [dK it]:=fun z e=>by simp
  have hg : ∀ z e:List D,(s.aq.set 0 e++ [z])[s.aq.length]? = some z:=fun z e=>by simp
  have cS:(fU p)[2]? = some (.slice .shared 17 (p.aR.L.map dK)):=rfl
  have JW : ∀ e:List D,(s.aq.set 0 e).length=s.aq.length:=fun e=>zbr
  have du:=hp.new (dK it)
  rw[fO]at du
  simp only[JW]at du
  have xk:dK it = [.int .i64 it.s.id, .int .i64 it.s.kind, .slice .shared 1 (it.s.labels.map encStr), .str it.s.name, .str it.s.proc, .int .i64 it.s.x.op, .int .i64 it.s.x.n, .str it.s.x.name, .slice .shared 4 (it.s.x.kids.map bT), .bool it.s.has, .slice .shared 6 (it.s.args.map dE), .slice .shared 13 (it.s.a8.map aY), .slice .shared 13 (it.s.aK.map aY), .int .i64 it.proc, .int .i64 it.up, .int .i64 it.next, .int .i64 it.loop]:=rfl
  have c3:(dK it)[3]? = some (.str it.s.name):=rfl
  rw[hc,if_neg (by rw[e0];simp),show ff p.aR.L ((c:Int)+1)=it from hc ▸ am2]
  refine bp.iY sI.h rfl fun B Q hB hQ=>?_
  have⟨hD,hY,hZ,gC⟩:=bb
  rcases zaa (it.s.name == [])with b|b
  ·repeat' (first
 |simp only[go_sem,hD,hY,hZ,gC,hm,hl,hw,vU,v7,P5,e0,P6,iD,hz,hg,JW,c3,b,cS]
 |(with_reducible refine CU (c1) ?_)
 | (with_reducible refine ax hQ ?_;exact aB))
   (refine dG hQ ?_;simp only[bF,bG,bZ,cb,go_sem])
   refine⟨rfl,{y with φ:=y.φ.tail,sd:= .dM 1 so g r.length},⟨_,rfl⟩, ?_⟩
   simp only[b,if_true]
   exact du.sub fun q mq=>zan _ mq
  ·obtain⟨k,hk⟩:=hn (by intro e;rw [e]at b;cases b)
   have Ap:=hk.cell iZ.top
   obtain⟨j,hj,rz⟩:=hk
   have c2:=D8 du iZ.st iZ.len iZ.names hj rz
   have Wg:k<m.mem.length:=by
    have hlp:=hp.uI
    rw[iZ.st]at hlp
    cases hφ:y.φ.tail with
    |nil=>simp[hφ]at hlp
    |cons o2 φ2=>exact(hp.frame 0 o2 jK (by simp[hφ]) (by rw[iZ.st];rfl)).2.2 k (zad rz)
   have hκ:y.κ[k]? = some (y.κ.getD k 0):=by
    rw[zay,zah (by have:=h.len;omega)];rfl
   have iN:=du.cell k _ _ hκ (zah Wg)
   have qf:=du.IX hκ n6
   have ky:=(qf.loc (s.aq.length,dK it) (zaA ..)).1
   simp only at iN qf ky c2
   have hb:(it.s.name != [])=true:=by simp[bne,b]
   repeat' (first
 |simp only[go_sem,hD,hY,hZ,gC,hm,hl,hw,vU,v7,P5,e0,P6,iD,hz,hg,JW,c3,b,cS,iN,ky]
 |(with_reducible refine CU (c1) ?_)
 |(with_reducible refine CU (c2) ?_)
 | (with_reducible refine ax hQ ?_;exact aB))
   (refine dG hQ ?_;simp only[bF,bG,bZ,cb,go_sem])
   refine⟨rfl,{y with φ:=y.φ.tail,sd:= .dM 1 so g r.length},⟨_,rfl⟩, ?_⟩
   simp only[b,zab,if_false,Mc.set,Ap]
   exact qf.sub fun q mq=>zan _ mq
end
end Go.Abs
namespace Go.Abs
set_option maxRecDepth 8000
open Go.Proofs
section
variable {p:Pg} {T W:List Int} {y:Lay} {m:Mc} {loc:List (Nat×List D)} {s:St}
structure agI (p:Pg) (fr:Fr) (it:Im):Prop where
 said:it.s.lP
 brk:it.s.kind=7→∃ (c:Nat) (it2:Im),it.loop=(c:Int)+1∧p.aR.L[c]? = some it2
 S5:it.s.kind=10→∃ (i:Nat) (f:Pc),it.proc=(i:Int)∧p.procs[i]? = some f
 name:it.s.kind=1∨it.s.kind=2→∃ k,sa fr it.s.name k
 a8:it.s.a8.length<1000000
 aK:it.s.aK.length<1000000
structure Ld (p:Pg) (T W:List Int) (m:Mc):Prop where
 W:W.length<1000000
 T:T.length<1000000
 trace:m.trace.length<2000000
 out:m.out.length<2000000
 L:p.aR.L.length<1000000
 P:Pc.bq p.procs<1000000000
 reads:0≤m.reads∧m.reads<2000000
theorem cell_of (h:Inv p T W y m loc s) {fr:Fr} {r:List Fr} (gd:m.st=fr::r) {c j:Nat} (hc:fr.vars[j]? = some c):y.κ[c]? = some (y.κ.getD c 0)∧∃ v,m.mem[c]? = some v∧s.aq[y.κ.getD c 0]? = some [.int .i64 v]:=by
 have fx:=h.uI
 rw[gd]at fx
 cases hφ:y.φ with
 |nil=>simp[hφ]at fx
 | cons o φ=>
  have xv:=(h.frame 0 o fr (by simp[hφ]) (by rw[gd];rfl)).2.2 c (zad hc)
  have hκ:y.κ[c]? = some (y.κ.getD c 0):=by
   rw[zay,zah (by have:=h.len;omega)];rfl
  exact⟨hκ,_,zah xv,h.cell c _ _ hκ (zah xv)⟩
set_option maxHeartbeats 1600000 in
theorem am3 (hp : p.gu) (xx : p.may = true) (h : Inv p T W y m loc s) {fr : Fr} {r : List Fr} (ht : l5 m fr r) (hz : Ld p T W m) {it : Im} (hd : agI p fr it) :
   bp Tryz.prog 48 [.ptr 0 0, .agg (dK it)] s (Rl p T W (.int .i64 (m.do p p.aR.L T W it).1) (m.do p p.aR.L T W it).2 (fun y' => ∃ vd, y' = { y with vd := vd }) loc) := by
 have h1 := (h.new (dK it)).new (aY it.s)
 simp only[zaj, zaK]at h1
 have z0 : ∀ z : List D, (s.aq ++ [z])[s.aq.length]? = some z := fun z => by simp
 have z1 : ∀ z : List D, (s.aq ++ [dK it] ++ [z]).set (s.aq.length + 1) (aY it.s) = s.aq ++ [dK it] ++ [aY it.s] := fun z => by simp[zaB, List.set_append_right]
 have z2 : ∀ a z : List D, (s.aq ++ [a] ++ [z])[s.aq.length + 1]? = some z := fun a z => by simp
 have z3 : ∀ a z : List D, (s.aq ++ [a] ++ [z])[s.aq.length]? = some a := fun a z => by simp
 have z4 := h1.eW
 rw[fO]at z4
 have Ad := h1.wk
 simp only at z4 Ad
 have cS : (fU p)[2]? = some (.slice .shared 17 (p.aR.L.map dK)) := rfl
 have gH : ∀ q ∈ loc, q ∈ (s.aq.length + 1, aY it.s) :: (s.aq.length, dK it) :: loc := fun q mq => zan _ (zan _ mq)
 generalize hn : s.aq.length = n at *
 have ky : ∀ {y2 : Lay} {m2 : Mc} {s2 : St}, Inv p T W y2 m2 ((n + 1, aY it.s) :: (n, dK it) :: loc) s2 → s2.aq[n]? = some (dK it) ∧ s2.aq[n + 1]? = some (aY it.s) ∧ 0 < s2.aq.length := fun h2 =>
   ⟨(h2.loc (n, dK it) (by simp)).1, (h2.loc (n + 1, aY it.s) (by simp)).1, h2.wk⟩
 rcases zaa (it.s.kind == 7) with b7|b7
 · have c1 := xw h1 hz.W hz.trace it.s.id
   obtain ⟨c, it2, e1, e2⟩ := hd.brk (by simpa using b7)
   have hw : IntKind.wrap .i64 ((c : Int) + 1 - 1) = (c : Int) := by
     have := (zac.1 e2).1
     have := hz.L
     rw[show (c : Int) + 1 - 1 = (c : Int) by omega]; exact dv (by omega) (by omega)
   have Aq : m.do p p.aR.L T W it = (it2.next, m.event W it.s.id []) := by
     unfold Mc.do
     dsimp only
     rw[if_pos b7, NH e2 e1]
   rw[Aq]
   refine bp.iY jl.h rfl fun B Q hB hQ =>?_
   have ⟨hD, hY, hZ, gC⟩ := bb
   repeat' (first
 |simp only[go_sem, hD, hY, hZ, gC, z0, z1, z2, z3, hn, b7]
 | (with_reducible refine ax hQ ?_; exact aB))
   refine CR c1 fun d s2 h2 =>?_
   obtain ⟨rfl, y2, rfl, h2⟩ := h2
   obtain ⟨x1, x2, x3⟩ := ky h2
   have jr := h2.eW
   rw[fO]at jr
   repeat' (first
 |simp only[go_sem, hD, hY, hZ, gC, x1, x2, jr, cS, e1, hw, e2]
 | (with_reducible refine ax hQ ?_; exact aB))
   (refine dG hQ ?_; simp only[bF, bG, bZ, cb, go_sem])
   exact ⟨rfl, _, ⟨_, rfl⟩, h2.sub gH⟩
 rcases zaa (it.s.kind == 8) with b8|b8
 · have c1 := xw h1 hz.W hz.trace it.s.id
   have Aq : m.do p p.aR.L T W it = (it.loop, m.event W it.s.id []) := by
     unfold Mc.do
     dsimp only
     rw[if_neg (by simp[b7]), if_pos b8]
   rw[Aq]
   refine bp.iY jl.h rfl fun B Q hB hQ =>?_
   have ⟨hD, hY, hZ, gC⟩ := bb
   repeat' (first
 |simp only[go_sem, hD, hY, hZ, gC, z0, z1, z2, z3, hn, b7, b8]
 | (with_reducible refine ax hQ ?_; exact aB))
   refine CR c1 fun d s2 h2 =>?_
   obtain ⟨rfl, y2, rfl, h2⟩ := h2
   obtain ⟨x1, x2, x3⟩ := ky h2
   repeat' (first
 |simp only[go_sem, hD, hY, hZ, gC, x1, x2]
 | (with_reducible refine ax hQ ?_; exact aB))
   (refine dG hQ ?_; simp only[bF, bG, bZ, cb, go_sem])
   exact ⟨rfl, _, ⟨_, rfl⟩, h2.sub gH⟩
 rcases zaa (it.s.kind == 10) with oZ|oZ
 · have c1 := xw h1 hz.W hz.trace it.s.id
   obtain ⟨i, f, e1, e2⟩ := hd.S5 (by simpa using oZ)
   have cA := fun s => agb hp xx e2 it.s.name s
   have Aq : m.do p p.aR.L T W it = ((jb f.fin it.s.name (Sm.cZ f.body)).1, m.event W it.s.id []) := by
     unfold Mc.do
     dsimp only
     rw[if_neg (by simp[b7]), if_neg (by simp[b8]), if_pos oZ, e1, zaQ, e2]
   rw[Aq]
   refine bp.iY jl.h rfl fun B Q hB hQ =>?_
   have ⟨hD, hY, hZ, gC⟩ := bb
   repeat' (first
 |simp only[go_sem, hD, hY, hZ, gC, z0, z1, z2, z3, hn, b7, b8, oZ]
 | (with_reducible refine ax hQ ?_; exact aB))
   refine CR c1 fun d s2 h2 =>?_
   obtain ⟨rfl, y2, rfl, h2⟩ := h2
   obtain ⟨x1, x2, x3⟩ := ky h2
   have jr := h2.eW
   rw[fO]at jr
   repeat' (first
 |simp only[go_sem, hD, hY, hZ, gC, x1, x2, jr, e1]
 |(with_reducible refine CU (cA _) ?_)
 | (with_reducible refine ax hQ ?_; exact aB))
   (refine dG hQ ?_; simp only[bF, bG, bZ, cb, go_sem])
   exact ⟨rfl, _, ⟨_, rfl⟩, h2.sub gH⟩
 rcases zaa (it.s.kind == 2) with b2|b2
 · obtain ⟨k, hk⟩ := hd.name (.inr (by simpa using b2))
   have jG := hz.reads
   have hTl := hz.T
   have Ew := jG.1
   have arl : ∀ r, ((s.aq ++ [dK it] ++ [aY it.s]).set 0 r)[0]? = some r := fun r => zaM Ad
   cases e : T[m.reads.toNat]? with
   | none =>
     have o7 : decide (m.reads ≥ (T.length : Int)) = true := by have := zbA.1 e; simp; omega
     have Aq : m.do p p.aR.L T W it = (-1, { m with fin := 3 }) := by
       unfold Mc.do
       dsimp only
       rw[if_neg (by simp[b7]), if_neg (by simp[b8]), if_neg (by simp[oZ]), if_pos b2, e]
     rw[Aq]
     have h2 := h1.lT (m' := { m with fin := 3 }) rfl rfl h1.t0 h1.t1
     rw[fO]at h2
     simp only at h2
     refine bp.iY jl.h rfl fun B Q hB hQ =>?_
     have ⟨hD, hY, hZ, gC⟩ := bb
     repeat' (first
 |simp only[go_sem, hD, hY, hZ, gC, z0, z1, z2, z3, z4, hn, b7, b8, oZ, b2, o7, Ad]
 | (with_reducible refine ax hQ ?_; exact aB))
     (refine dG hQ ?_; simp only[bF, bG, bZ, cb, go_sem])
     exact ⟨rfl, _, ⟨_, rfl⟩, h2.sub gH⟩
   | some v =>
     have o7 : decide (m.reads ≥ (T.length : Int)) = false := by have := (zac.1 e).1; simp; omega
     have xy : IntKind.wrap .i64 (m.reads + 1) = m.reads + 1 := dv (by omega) (by omega)
     have Ap := hk.cell ht.top
     obtain ⟨j, hj, rz⟩ := hk
     have Aq : m.do p p.aR.L T W it = (it.next, (({ m with reads := m.reads + 1, mem := m.mem.set k v } : Mc).event W it.s.id [v])) := by
       unfold Mc.do
       dsimp only
       rw[if_neg (by simp[b7]), if_neg (by simp[b8]), if_neg (by simp[oZ]), if_pos b2, e]
       have : ({ m with reads := m.reads + 1 } : Mc).cell it.s.name = k := Ap
       simp only[Mc.set, this]
     rw[Aq]
     have h2 := h1.lT (m' := { m with reads := m.reads + 1 }) rfl rfl h1.t0 h1.t1
     have iZ : l5 ({ m with reads := m.reads + 1 } : Mc) fr r := ⟨ht.st, ht.len, ht.names, ht.vars⟩
     have c2 := D8 h2 iZ.st iZ.len iZ.names hj rz
     obtain ⟨hκ, v0, g1, g2⟩ := cell_of h2 iZ.st rz
     have h3 := h2.IX hκ v
     have c3 := FK h3 hz.W hz.trace it.s.id v
     obtain ⟨x1, x2, x3⟩ := ky h3
     obtain ⟨x4, x5, x6⟩ := ky h2
     rw[fO]at c2 g2 c3 x1 x2 x4 x5
     simp only at c2 g2 c3 x1 x2 x4 x5
     refine bp.iY jl.h rfl fun B Q hB hQ =>?_
     have ⟨hD, hY, hZ, gC⟩ := bb
     repeat' (first
 |simp only[go_sem, hD, hY, hZ, gC, z0, z1, z2, z3, z4, hn, b7, b8, oZ, b2, o7, Ad, e, xy, Ew, x1, x2, x4, x5, g2]
 |(with_reducible refine CU (c2) ?_)
 |(with_reducible refine ax hQ ?_; exact aB))
     refine CR c3 fun d s2 h4 =>?_
     obtain ⟨rfl, y2, rfl, h4⟩ := h4
     obtain ⟨x1, x2, x3⟩ := ky h4
     repeat' (first
 |simp only[go_sem, hD, hY, hZ, gC, x1, x2]
 |(with_reducible refine ax hQ ?_; exact aB))
     (refine dG hQ ?_; simp only[bF, bG, bZ, cb, go_sem])
     exact ⟨rfl, _, ⟨_, rfl⟩, h4.sub gH⟩
 -- an expression is reckoned
 have hx : it.s.x.size < 1000000 := by have := hd.said.2.2; omega
 have c1 := FJ h1 ht hx hd.said.1
 rcases zaa (m.bA it.s.x).1.2 with bw|bw
 case inr =>
   have Aq : m.do p p.aR.L T W it = (-1, (m.bA it.s.x).2) := by
     unfold Mc.do
     dsimp only
     rw[if_neg (by simp[b7]), if_neg (by simp[b8]), if_neg (by simp[oZ]), if_neg (by simp[b2]), if_neg (by simp[bw])]
   rw[Aq]
   refine bp.iY jl.h rfl fun B Q hB hQ =>?_
   have ⟨hD, hY, hZ, gC⟩ := bb
   repeat' (first
 |simp only[go_sem, hD, hY, hZ, gC, z0, z1, z2, z3, hn, b7, b8, oZ, b2]
 | (with_reducible refine ax hQ ?_; exact aB))
   refine CR c1 fun d s2 h2 =>?_
   obtain ⟨⟨rfl, y2, qS, h2⟩, _⟩ := h2
   repeat' (first
 |simp only[go_sem, hD, hY, hZ, gC, bw]
 | (with_reducible refine ax hQ ?_; exact aB))
   (refine dG hQ ?_; simp only[bF, bG, bZ, cb, go_sem])
   exact ⟨rfl, y2, ⟨_, qS⟩, h2.sub gH⟩
 have NK : (m.bA it.s.x).2 = m := by
   unfold Mc.bA
   dsimp only
   rw[if_pos (show (it.s.x.bA m.top.names m.bu).2 = true from bw)]
 have Aq : m.do p p.aR.L T W it = (let m1 := m.event W it.s.id [(m.bA it.s.x).1.1]; let n := (m.bA it.s.x).1.1
     if it.s.kind == 1 then (it.next, m1.set it.s.name n) else if it.s.kind == 3 then (it.next, { m1 with out := m1.out ++ [n] })
     else if it.s.kind == 5 then (if n == 0 then firstM it.s.aK it.next else firstM it.s.a8 it.next, m1) else if it.s.kind == 6 then (if n == 0 then it.next else firstM it.s.a8 it.s.id, m1) else (it.next, m1)) := by
   unfold Mc.do
   dsimp only
   rw[if_neg (by simp[b7]), if_neg (by simp[b8]), if_neg (by simp[oZ]), if_neg (by simp[b2]), if_pos bw, NK]
 rw[Aq]
 rw[NK]at c1
 generalize hR : (m.bA it.s.x).1 = R at *
 obtain ⟨v, ok⟩ := R
 subst bw
 dsimp only
 have he := dL W m it.s.id [v]
 have sN : l5 (m.event W it.s.id [v]) fr r := ⟨by rw[he.1]; exact ht.st, ht.len, ht.names, ht.vars⟩
 have nb : (v != 0) = !(v == 0) := rfl
 have fT := fun o s => P0 it.s.a8 (by have := hd.a8; omega) o s
 have fE := fun o s => P0 it.s.aK (by have := hd.aK; omega) o s
 refine bp.iY jl.h rfl fun B Q hB hQ =>?_
 have ⟨hD, hY, hZ, gC⟩ := bb
 repeat' (first
 |simp only[go_sem, hD, hY, hZ, gC, z0, z1, z2, z3, hn, b7, b8, oZ, b2]
 |(with_reducible refine ax hQ ?_; exact aB))
 refine CR c1 fun d s2 h2 =>?_
 obtain ⟨⟨rfl, y2, qS, h2⟩, _⟩ := h2
 obtain ⟨x1, x2, x3⟩ := ky h2
 have c2 := FK h2 hz.W hz.trace it.s.id v
 repeat' (first
 |simp only[go_sem, hD, hY, hZ, gC, x1, x2]
 |(with_reducible refine ax hQ ?_; exact aB))
 refine CR c2 fun d s3 h3 =>?_
 obtain ⟨rfl, y3, rfl, h3⟩ := h3
 obtain ⟨x1, x2, x3⟩ := ky h3
 have qU := h3.eW
 rw[fO]at qU
 rcases zaa (it.s.kind == 1) with b1|b1
 · obtain ⟨k, hk⟩ := hd.name (.inl (by simpa using b1))
   have Ap := hk.cell sN.top
   obtain ⟨j, hj, rz⟩ := hk
   have c3 := D8 h3 sN.st sN.len sN.names hj rz
   obtain ⟨hκ, v0, g1, g2⟩ := cell_of h3 sN.st rz
   have h4 := h3.IX hκ v
   obtain ⟨x4, x5, x6⟩ := ky h4
   simp only at x4 x5
   repeat' (first
 |simp only[go_sem, hD, hY, hZ, gC, x1, x2, b1, g2, x4, x5]
 |(with_reducible refine CU (c3) ?_)
 | (with_reducible refine ax hQ ?_; exact aB))
   (refine dG hQ ?_; simp only[bF, bG, bZ, cb, go_sem])
   rw[if_pos b1]
   refine ⟨rfl, y3, ⟨_, qS⟩, ?_⟩
   simp only[Mc.set, Ap]
   exact h4.sub gH
 rw[if_neg (by simp[b1])]at hQ
 rcases zaa (it.s.kind == 3) with b3|b3
 · rw [if_pos b3] at hQ
   have dd : fH 1 8 (.slice (.tok 0) 1 ((m.event W it.s.id [v]).out.map bD)) (.slice .full 1 [[.int .i64 v]]) s3 = some (.slice (.tok 0) 1 (((m.event W it.s.id [v]).out ++ [v]).map bD), ⟨s3.aq, s3.ay.set 0 (some ((m.event W it.s.id [v]).out.length + 1))⟩) := by
     rw[kB (size := 1) (by simp only[zaw, zaK, he.2.2.2.2.2]; have := hz.out; unfold aV; omega) (by simpa using h3.t0)]
     simp[bD]
   have h4 := h3.lT (m' := { m.event W it.s.id [v] with out := (m.event W it.s.id [v]).out ++ [v] }) (ts := s3.ay.set 0 (some ((m.event W it.s.id [v]).out.length + 1))) rfl rfl (by simp[(zac.1 h3.t0).1]) (by rw[zam (by omega)]; exact h3.t1)
   obtain ⟨x4, x5, x6⟩ := ky h4
   rw[fO]at h4 x4 x5
   simp only[zag, zaf, zai, bD]at h4 x4 x5 dd
   repeat' (first
 |simp only[go_sem, hD, hY, hZ, gC, x1, x2, b1, b3, qU, dd, x3, x4, x5]
 | (with_reducible refine ax hQ ?_; exact aB))
   (refine dG hQ ?_; simp only[bF, bG, bZ, cb, go_sem])
   exact ⟨rfl, y3, ⟨_, qS⟩, h4.sub gH⟩
 rw[if_neg (by simp[b3])]at hQ
 rcases zaa (it.s.kind == 5) with b5|b5
 · rw [if_pos b5] at hQ
   rcases zaa (v == 0) with bv|bv
   · rw [if_pos bv] at hQ
     repeat' (first
 |simp only[go_sem, hD, hY, hZ, gC, x1, x2, b1, b3, b5, nb, bv]
 |(with_reducible refine CU (fT _ _) ?_)
 |(with_reducible refine CU (fE _ _) ?_)
 | (with_reducible refine ax hQ ?_; exact aB))
     (refine dG hQ ?_; simp only[bF, bG, bZ, cb, go_sem])
     exact ⟨rfl, y3, ⟨_, qS⟩, h3.sub gH⟩
   · rw [if_neg (by simp [bv])] at hQ
     repeat' (first
 |simp only[go_sem, hD, hY, hZ, gC, x1, x2, b1, b3, b5, nb, bv]
 |(with_reducible refine CU (fT _ _) ?_)
 |(with_reducible refine CU (fE _ _) ?_)
 |(with_reducible refine ax hQ ?_; exact aB))
     (refine dG hQ ?_; simp only[bF, bG, bZ, cb, go_sem])
     exact ⟨rfl, y3, ⟨_, qS⟩, h3.sub gH⟩
 rw[if_neg (by simp[b5])]at hQ
 rcases zaa (it.s.kind == 6) with b6|b6
 · rw [if_pos b6] at hQ
   rcases zaa (v == 0) with bv|bv
   · rw [if_pos bv] at hQ
     repeat' (first
 |simp only[go_sem, hD, hY, hZ, gC, x1, x2, b1, b3, b5, b6, nb, bv]
 |(with_reducible refine CU (fT _ _) ?_)
 |(with_reducible refine CU (fE _ _) ?_)
 | (with_reducible refine ax hQ ?_; exact aB))
     (refine dG hQ ?_; simp only[bF, bG, bZ, cb, go_sem])
     exact ⟨rfl, y3, ⟨_, qS⟩, h3.sub gH⟩
   · rw [if_neg (by simp [bv])] at hQ
     repeat' (first
 |simp only[go_sem, hD, hY, hZ, gC, x1, x2, b1, b3, b5, b6, nb, bv]
 |(with_reducible refine CU (fT _ _) ?_)
 |(with_reducible refine CU (fE _ _) ?_)
 |(with_reducible refine ax hQ ?_; exact aB))
     (refine dG hQ ?_; simp only[bF, bG, bZ, cb, go_sem])
     exact ⟨rfl, y3, ⟨_, qS⟩, h3.sub gH⟩
 rw[if_neg (by simp[b6])]at hQ
 repeat' (first
 |simp only[go_sem, hD, hY, hZ, gC, x1, x2, b1, b3, b5, b6]
 |(with_reducible refine ax hQ ?_; exact aB))
 (refine dG hQ ?_; simp only[bF, bG, bZ, cb, go_sem])
 exact ⟨rfl, y3, ⟨_, qS⟩, h3.sub gH⟩
end
end Go.Abs
namespace Go.Abs
set_option maxRecDepth 8000
open Go.Proofs
section
variable {p:Pg} {T W:List Int} {y:Lay} {m:Mc} {loc:List (Nat×List D)} {s:St}
theorem Bu : ∀ (l:List Ar) (m:Mc) (out:List Nat),(Mc.args l m out).2.out=m.out∧(Mc.args l m out).2.trace=m.trace
 | [],m,out=>⟨rfl,rfl⟩
 | a::l,m,out=>by
  have hw:=gL m a.x
  simp only[Mc.args]
  by_cases c:a.ref=true
  ·rw[if_pos c];exact Bu l m _
  ·rw [if_neg c]
   by_cases c2:(m.bA a.x).1.2=true
   ·rw [if_pos c2]
    obtain⟨h1,h2⟩:=Bu l {(m.bA a.x).2 with mem:=(m.bA a.x).2.mem++ [(m.bA a.x).1.1]} (out++ [(m.bA a.x).2.mem.length])
    exact⟨h1.trans hw.2.2.2.2.1,h2.trans hw.2.2.2.2.2⟩
   ·rw[if_neg c2];exact⟨hw.2.2.2.2.1,hw.2.2.2.2.2⟩
structure Wh (p:Pg) (fr:Fr) (v:Sm):Prop where
 said:v.lP
 args : ∀ a∈v.args,a.x.texts∧a.x.size<1000000∧(a.ref=true→∃ k,sa fr a.name k)
 proc : ∃ (j:Nat) (q:Pc),p.at v.proc=(j:Int)∧p.procs[j]? = some q∧p.find q.name=some q
theorem Wi (hp:p.gu) (xx:p.may=true) (h:Inv p T W y m loc s) {fr:Fr} {r:List Fr} (ht:l5 m fr r) (hz:Ld p T W m) (hg:p.globals.length≤m.mem.length) {v:Sm} (hd:Wh p fr v) :
 bp Tryz.prog 46 [.ptr 0 0, .agg (aY v)] s (Rl p T W (.int .i64 (m.call p W v).1) (m.call p W v).2 (fun _=>True) loc):=by
 have h1:=h.new (aY v)
 have pP:2≤s.ay.length:=by have:=(zac.1 h.t1).1;omega
 generalize hn:s.aq.length=n at h1
 generalize Pp:s.ay.length=tk at pP
 have qk:v.args.length<1000000:=by have:=hd.said.2.2;have:=Ar.dI v.args;omega
 have am4:=ht.st
 refine bp.iY pA.h rfl fun B Q hB hQ=>?_
 have⟨hD,hY,hZ,gC⟩:=bb
 have loop : ∀ (rest:List Ar) (k:Nat) (m1:Mc) (out:List Nat) (y1:Lay) (s1:St),v.args.drop k=rest→Mc.args v.args m [] = Mc.args rest m1 out→m1.st=m.st→m1.trace=m.trace∧m1.out=m.out→m.mem.length≤m1.mem.length→out.length=k∧k≤v.args.length→(∀ c∈out,c<m1.mem.length)→
  Inv p T W y1 m1 ((n,aY v)::loc) s1→s1.ay[tk]? = some (some out.length)→
  aN Tryz.prog B 67 Q0A (fX 0 (kA (jJ Tryz.prog B 67 Q0B Q) Q))
   [(0, .ptr 0 0),(3, .ptr n 0),(5, .slice (.tok tk) 1 (out.map fun c=>fZ (y1.κ.getD c 0))),(12, .slice .shared 6 (v.args.map dE)),(13, .int .i64 (v.args.length:Int)),(14, .int .i64 (k:Int))] s1:=by
  intro rest
  induction rest with
  | nil=>
   intro k m1 out y1 s1 JX jq nz Cv Ad xO rm h2 FN
   have hD:=drop_nil JX
   have wj:l5 m1 fr r:=⟨by rw[nz];exact ht.st,ht.len,ht.names,ht.vars⟩
   obtain⟨so,g,cells,o,e1,e2,e3,e4,e5⟩:=h2.Zj wj.st
   have jr:=h2.eW
   rw[fO,e1]at jr
   have Dr:=(h2.loc (n,aY v) (by simp)).1
   have jI:=h2.wk
   have BM:m.call p W v=if m1.st.length > 100 then(-1,{m1 with fin:=5})else(m1.event W v.id []).open p (p.at v.proc) out v.id:=by
    unfold Mc.call
    rw[jq]
    rfl
   have hlen:m1.st.length=r.length+1:=by rw[wj.st];rfl
   rw[BM,hlen]at hQ
   simp only at Dr
   refine aN.fJ ?_
   by_cases II:r.length+1 > 100
   ·have Bv:decide (((r.length+1:Nat):Int) > 100)=true:=by simp;omega
    rw[if_pos II]at hQ
    have h3:=h2.lT (m':= {m1 with fin:=5}) rfl rfl h2.t0 h2.t1
    rw[fO,e1]at h3
    simp only at h3
    repeat' (first
 |simp only[go_sem,hD,hY,hZ,gC,jr,Dr,Bv,jI]
 | (with_reducible refine ax hQ ?_;exact aB))
    (refine dG hQ ?_;simp only[bF,bG,bZ,cb,go_sem])
    exact⟨rfl,y1,trivial,h3.sub fun q mq=>zan _ mq⟩
   ·have Bv:decide (((r.length+1:Nat):Int) > 100)=false:=by simp;omega
    rw[if_neg II]at hQ
    have c1:=xw h2 hz.W (by rw[Cv.1];exact hz.trace) v.id
    repeat' (first
 |simp only[go_sem,hD,hY,hZ,gC,jr,Dr,Bv,jI]
 | (with_reducible refine ax hQ ?_;exact aB))
    refine CR c1 fun d s3 h3=>?_
    obtain⟨rfl,y3,rfl,h3⟩:=h3
    have he:=dL W m1 v.id []
    obtain⟨j,q,j1,j2,j3⟩:=hd.proc
    obtain⟨y4,s4,hF,h4⟩:=P4 h3 hp xx j2 j3 (by rw[he.1,hlen];have:=ht.len;omega) (l:=out) (by rw[he.2.1];exact rm) (by omega) (by rw[he.2.1];omega) v.id
    have hF':=fun g:Tag=>bp.lU (.cons (Wk.refl _) (.cons (Wk.refl _) (.cons (Wk.shared g 1 _) (jh.refl _)))) hF
    have Hq:az Tryz.prog 44 [.ptr 0 0, .int .i64 (j:Int), .slice (.tok tk) 1 (out.map fun c=>fZ (y3.κ.getD c 0)), .int .i64 v.id] s3 _ s4:=hF' _
    have cP:=fun s=>GX (p:=p) (by have:=hp.procs.1;omega) v.proc s
    have qU:=h3.eW
    rw[fO]at qU
    have hx3:=(h3.loc (n,aY v) (by simp)).1
    simp only at hx3
    rw[j1]at hQ cP
    repeat' (first
 |simp only[go_sem,hD,hY,hZ,gC,qU,hx3]
 |(with_reducible refine CU (cP _) ?_)
 |(with_reducible refine CU (Hq) ?_)
 | (with_reducible refine ax hQ ?_;exact aB))
    (refine dG hQ ?_;simp only[bF,bG,bZ,cb,go_sem])
    exact⟨rfl,y4,trivial,h4.sub fun q mq=>zan _ mq⟩
  | cons a rest ih=>
   intro k m1 out y1 s1 JX jq nz Cv Ad xO rm h2 FN
   obtain⟨hY,g2,hD,g4⟩:=drop_cons JX
   have aZ:k<4611686018427387904:=by omega
   obtain⟨a1,a2,a3⟩:=hd.args a (zad hY)
   have wj:l5 m1 fr r:=⟨by rw[nz];exact ht.st,ht.len,ht.names,ht.vars⟩
   have h3:=h2.new (dE a)
   have zq : ∀ z:List D,(s1.aq++ [z]).set s1.aq.length (dE a)=s1.aq++ [dE a]:=fun z=>by simp
   have zg : ∀ z:List D,(s1.aq++ [z])[s1.aq.length]? = some z:=fun z=>by simp
   have dd : ∀ (x:Nat) (os:List (List D)),fH 1 8 (.slice (.tok tk) 1 (out.map fun c=>fZ (y1.κ.getD c 0))) (.slice .full 1 [[.ptr x 0]]) ⟨os,s1.ay⟩=some (.slice (.tok tk) 1 ((out.map fun c=>fZ (y1.κ.getD c 0))++ [fZ x]),⟨os,s1.ay.set tk (some (out.length+1))⟩):=fun x os=>by
    rw[kB (size:=1) (by simp only[zaw,zaK];unfold aV;omega) (by simpa using FN)]
    simp[fZ]
   have FP : ∀ k':Nat,(s1.ay.set tk (some k'))[0]? = s1.ay[0]? ∧(s1.ay.set tk (some k'))[1]? = s1.ay[1]? ∧(s1.ay.set tk (some k'))[tk]? = some (some k'):=fun k'=>
    ⟨zam (by omega),zam (by omega),by simp[(zac.1 FN).1]⟩
   refine aN.fJ ?_
   rcases zaa a.ref with b|b
   ·obtain⟨c,hc⟩:=a3 b
    have Ap:=hc.cell wj.top
    obtain⟨j,hj,rz⟩:=hc
    have c1:=D8 h3 wj.st wj.len wj.names hj rz
    obtain⟨hκ,v0,gm,_⟩:=cell_of h2 wj.st rz
    have zJ:=(zac.1 gm).1
    repeat' (first
 |simp only[go_sem,hD,hY,hZ,gC,hY,zq,zg,b,dd]
 |(with_reducible refine CU (c1) ?_)
 | (with_reducible refine ax hQ ?_;exact aB))
    have:=ih (k+1) m1 (out++ [c]) y1 ⟨s1.aq++ [dE a],s1.ay.set tk (some (out.length+1))⟩ g2 (by rw[jq];simp only[Mc.args,b,if_true,Ap]) nz Cv Ad ⟨by simp[xO.1],g4⟩ (fun x mx=>by
     rcases zaq.1 mx with mx|mx
     ·exact rm x mx
     ·rw[zaG.1 mx];exact zJ) ((h3.sub fun q mq=>zan _ mq).keep (fun _ _ e=>e) (FP _).1 (FP _).2.1) (by simpa using (FP _).2.2)
    refine aN.jx ?_ this
    simp only[go_sem,aw aZ,zag,zaf,zai]
    repeat' (first|exact Ok.out|with_reducible refine ei ?_ ?_)
   ·have c1:=FJ h3 wj a2 a1
    repeat' (first
 |simp only[go_sem,hD,hY,hZ,gC,hY,zq,zg,b]
 | (with_reducible refine ax hQ ?_;exact aB))
    refine CR c1 fun d s2 h4=>?_
    obtain⟨⟨rfl,y2,qS,h4⟩,w6⟩:=h4
    have hw:=gL m1 a.x
    simp only at w6
    rcases zaa (m1.bA a.x).1.2 with bw|bw
    ·have NK:(m1.bA a.x).2=m1:=by
      unfold Mc.bA
      dsimp only
      rw[if_pos (show(a.x.bA m1.top.names m1.bu).2=true from bw)]
     rw[NK]at h4
     have yq : ∀ z:List D,(s2.aq++ [z]).set s2.aq.length [.int .i64 (m1.bA a.x).1.1] = s2.aq++ [[.int .i64 (m1.bA a.x).1.1]]:=fun z=>by simp
     have yg : ∀ z:List D,(s2.aq++ [z])[s2.aq.length]? = some z:=fun z=>by simp
     rw[← w6]at dd FP
     have h5:=h4.IY (m1.bA a.x).1.1 (by omega)
     have hyκ:y2.κ=y1.κ:=by rw[qS]
     have wG:y1.κ.length=m1.mem.length:=h2.len
     repeat' (first
 |simp only[go_sem,hD,hY,hZ,gC,bw,yq,yg,dd]
 | (with_reducible refine ax hQ ?_;exact aB))
     have:=ih (k+1) {m1 with mem:=m1.mem++ [(m1.bA a.x).1.1]} (out++ [m1.mem.length]) {y2 with κ:=y2.κ++ [s2.aq.length]} ⟨s2.aq++ [[.int .i64 (m1.bA a.x).1.1]],s2.ay.set tk (some (out.length+1))⟩ g2
      (by rw [jq];simp only [Mc.args,b,zab,if_false,bw,if_true,NK]) nz Cv (by simp;omega) ⟨by simp [xO.1],g4⟩ (fun x mx=>by
       simp only[zaj,zaK]
       rcases zaq.1 mx with mx|mx
       ·have:=rm x mx;omega
       ·rw[zaG.1 mx];omega) ((h5.sub fun q mq=>zan _ mq).keep (fun _ _ e=>e) (FP _).1 (FP _).2.1) (by simpa using (FP _).2.2)
     refine aN.jx ?_ this
     have am5:(out.map fun c=>fZ ((y2.κ++ [s2.aq.length]).getD c 0))=out.map fun c=>fZ (y1.κ.getD c 0):=zbo fun c mc=>by rw[hyκ,FM (by have:=rm c mc;omega)]
     have du:(y2.κ++ [s2.aq.length]).getD m1.mem.length 0=s2.aq.length:=by rw[hyκ, ← wG];simp[zay]
     simp only[go_sem,aw aZ,zag,zaf,zai,am5,du]
     repeat' (first|exact Ok.out|with_reducible refine ei ?_ ?_)
    ·repeat' (first
 |simp only[go_sem,hD,hY,hZ,gC,bw]
 |(with_reducible refine ax hQ ?_;exact aB))
     (refine dG hQ ?_;simp only[bF,bG,bZ,cb,go_sem])
     have BM:m.call p W v=(-1,(m1.bA a.x).2):=by
      unfold Mc.call
      rw[jq]
      simp only[Mc.args,b,zab,if_false,bw]
     rw[BM]
     exact⟨rfl,y2,trivial,h4.sub fun q mq=>zan _ (zan _ mq)⟩
 have hz0:(s.aq++ [aY v])[n]? = some (aY v):=by simp[← hn]
 have l0:=loop v.args 0 m [] y ⟨s.aq++ [aY v],s.ay++ [some 0]⟩ rfl rfl rfl ⟨rfl,rfl⟩ (zal _) ⟨rfl,zaz _⟩ (by simp) (h1.ay _) (by simp[← Pp])
 repeat' (first
 |simp only[go_sem,hD,hY,hZ,gC,hz0,hn]
 |(with_reducible refine ax hQ ?_;exact aB))
 refine aN.ln 5 1 rfl ?_
 simp only[go_sem,hD,hY,hZ,gC]
 refine aN.jx ?_ l0
 simp only[go_sem,Pp,zai]
 repeat' (first|exact Ok.out|with_reducible refine ei ?_ ?_)
end
end Go.Abs
namespace Go.Abs
theorem NL {v:Sm} (h:v.one=true) (hk:v.kind=1∨v.kind=2):v.name≠ []:=by
 intro e
 have hn:v.hasName=true:=by unfold Sm.hasName;rcases hk with hk|hk<;>simp[hk]
 unfold Sm.one at h
 split at h
 ·cases h
 ·rw [e,hn]at h
  simp[isName]at h
theorem Du {v:Sm} (hk:v.kind≠10) (hn:v.name≠ []):v.name∈v.said:=by
 unfold Sm.said Sm.sg
 refine tT (.inl ?_)
 rw[if_pos (by simp[hk,hn])]
 simp
theorem Bw {name:aF} {f:Pc} : ∀ {l:List Pc},gS name l=some f→f.name=name
 |g::l,h=>by
  simp only[gS]at h
  split at h
  ·rename_i e;cases h;simpa using e
  ·exact Bw h
mutual
theorem agN : ∀ s:Sm,∀ v∈s.pre,v.size≤s.size
 | ⟨id,kind,labels,name,proc,x,has,args,a8,aK⟩,v,m=>by
  rw[Sm.oN]at m
  rcases zap.1 m with rfl|m
  ·exact zal _
  ·simp only [Sm.size]
   rcases zaq.1 m with m|m
   ·have:=As a8 v m;omega
   ·have:=As aK v m;omega
theorem As : ∀ l:List Sm,∀ v∈Sm.cZ l,v.size≤Sm.bq l
 | [],v,m=>by simp[Sm.cZ]at m
 |s::l,v,m=>by
  simp only[Sm.cZ,zaq]at m
  simp only[Sm.bq]
  rcases m with m|m
  ·have:=agN s v m;omega
  ·have:=As l v m;omega
end
theorem I2 : ∀ l:List Sm,l.length≤Sm.bq l
 | []=>zal _
 |s::l=>by
  have:=I2 l
  have h1:1≤s.size:=by cases s;simp only[Sm.size];omega
  simp only[Sm.bq,zat];omega
section
variable {p:Pg} {m:Mc} {a:Int}
theorem Hr (hO:p.gu) (h:mS p p.aR.L a m) (hl:m.st.length≤1000) : ∃ fr r f,l5 m fr r∧p.procs[fr.proc.toNat]? = some f∧fr.names=p.globals++f.own∧fr.vars.length=fr.names.length∧m.top=fr:=by
 obtain⟨fr,r,e⟩:=h.st.ne
 have ht:m.top=fr:=by simp[Mc.top,e]
 obtain⟨f,h1,h2,h3,h4,h5⟩:=h.fr fr (by rw[e];exact zaA ..)
 have hf:=zad h1
 have s1:=Pc.cq hf
 have s2:=hO.sz
 simp only[Pg.size]at s2
 have hn:fr.names.length<1000000:=by
  rw[h3]
  have s3:=hO.small hf
  simp only[Pc.size]at s1
  simp only[zaj,Pc.own,Pc.lx,zaw]
  have:=s3.par;have:=s3.vars
  omega
 rw[e]at hl
 exact⟨fr,r,f,⟨e,by simp at hl;omega,hn,by omega⟩,h1,h3,h4,ht⟩
theorem Au {fr:Fr} (hv:fr.vars.length=fr.names.length) {n:aF} (hn:n∈fr.names) : ∃ k,sa fr n k:=by
 obtain⟨j,h1,h2⟩:=Nz (k:=0) hn
 exact⟨_,j,by simpa using h1,zah (by omega)⟩
theorem I3 {fr:Fr} (h:mS p p.aR.L a m) (ht:m.top=fr) (hR:p.Right) (ha:a≠ -1) {f:Pc} (hf:p.procs[fr.proc.toNat]? = some f):xp p p.aR.L (ff p.aR.L a) f∧(ff p.aR.L a).proc=fr.proc∧ff p.aR.L a∈p.aR.L∧
 ∃ c:Nat,a=(c:Int)+1∧p.aR.L[c]? = some (ff p.aR.L a):=by
 have hm:=h.at_.resolve_left ha
 have ij:=Bj (L:=p.aR.L) (.inr ⟨hm.1,hm.2.1⟩) ha
 obtain⟨f',o⟩:=(pe hR).im _ ij
 have hp:(ff p.aR.L a).proc=fr.proc:=by rw[← ht];exact hm.2.2
 have:f'=f:=by have:=o.proc.1;rw[hp,hf]at this;exact(Option.some.inj this).symm
 subst this
 have h1:=hm.1
 have h2:=hm.2.1
 refine⟨o,hp,ij,(a - 1).toNat,by omega, ?_⟩
 unfold ff
 rw[zay,zah (show(a - 1).toNat<p.aR.L.length by omega)];rfl
theorem P7 (hO:p.gu) (hR:p.Right) {x:Im} {f:Pc} {fr:Fr} (hx:xp p p.aR.L x f) (hn:fr.names=p.globals++f.own) (hv:fr.vars.length=fr.names.length):agI p fr x:=by
 have hf:=zad hx.proc.1
 have kj:x.s∈p.pre:=by
  simp only[Pg.pre,zbE,zaF];exact⟨_,⟨f,hf,rfl⟩,hx.mem⟩
 have dT:=As f.body x.s hx.mem
 have s1:=Pc.cq hf
 have s2:=hO.sz
 simp only[Pg.size]at s2
 simp only[Pc.size]at s1
 have hs:Sm.bq x.s.a8+Sm.bq x.s.aK≤x.s.size:=by
  cases x with
  |mk s _ _ _ _=>cases s;simp only[Sm.size];omega
 refine⟨hO.said hf _ hx.mem,fun hk=>?_,fun hk=>?_,fun hk=>?_, ?_, ?_⟩
 ·have hl:=hx.loop (.inl hk)
  have h1:=hl.1
  have h2:=hl.2.1
  exact⟨(x.loop - 1).toNat,_,by omega,zah (by omega)⟩
 ·obtain⟨i,hi⟩:=Int.eq_ofNat_of_zero_le hx.proc.2
  exact⟨i,f,hi,by have:=hx.proc.1;rwa [hi,zaQ]at this⟩
 ·refine Au hv ?_
  rw[hn]
  exact uH hR hx (Du (by rcases hk with hk|hk<;>omega) (NL (An hR.may _ kj) hk))
 ·have:=I2 x.s.a8;omega
 ·have:=I2 x.s.aK;omega
theorem Wj (hO:p.gu) (hR:p.Right) {x:Im} {f:Pc} {fr:Fr} (hx:xp p p.aR.L x f) (hk:x.s.kind=4) (hn:fr.names=p.globals++f.own) (hv:fr.vars.length=fr.names.length):Wh p fr x.s:=by
 have hf:=zad hx.proc.1
 have qi:=hO.said hf _ hx.mem
 have kj:x.s∈p.pre:=by
  simp only[Pg.pre,zbE,zaF];exact⟨_,⟨f,hf,rfl⟩,hx.mem⟩
 refine⟨qi,fun b mb=>⟨qi.2.1 b mb, ?_,fun hr=>?_⟩, ?_⟩
 ·have:=qi.2.2
  have key : ∀ l:List Ar,b∈l→b.x.size≤Ar.bq l:=fun l=>by
   induction l with
   |nil=>intro m;cases m
   |cons c l ih=>
    intro m
    simp only[Ar.bq]
    rcases zap.1 m with rfl|m
    ·omega
    ·have:=ih m;omega
  have:=key _ mb
  omega
 ·refine Au hv ?_
  rw[hn]
  exact uH hR hx (tT (.inr ⟨b,mb,hr,rfl⟩))
 ·have iB:=hR.fits _ kj (by simp [hk])
  obtain⟨q,hq⟩:=yw iB
  obtain⟨j,h1,h2⟩:=Bo (k:=0) hq
  exact⟨j,q,by simpa[Pg.at]using h1,h2,by rw[Bw hq];exact hq⟩
theorem Hs (hO:p.gu) (hR:p.Right) (h:mS p p.aR.L a m) (hl:m.st.length≤1000) {fr:Fr} {r:List Fr} (ht:l5 m fr r) :
 fr.call=0∨∃ (c:Nat) (it:Im) (jK:Fr) (r2:List Fr),fr.call=(c:Int)+1∧p.aR.L[c]? = some it∧l5 {m with st:=r} jK r2∧(it.s.name≠ []→∃ k,sa jK it.s.name k):=by
 have hs:=h.st
 have gd:=ht.st
 rw[gd]at hs
 cases r with
 |nil=>exact .inl hs
 | cons jK r2=>
  obtain⟨⟨h1,vC⟩,h2⟩:=hs
  have e1:=h1.1
  have e2:=h1.2.1
  refine .inr ⟨(fr.call - 1).toNat,ff p.aR.L fr.call,jK,r2,by omega, ?_, ?_,fun hn=>?_⟩
  ·unfold ff
   rw[zay,zah (show(fr.call - 1).toNat<p.aR.L.length by omega)];rfl
  ·have h3:mS p p.aR.L (-1) {m with st:=jK::r2}:=⟨h2,fun q hq=>h.fr q (by rw [gd];exact zan _ hq), .inl rfl,h.rJ⟩
   obtain⟨yy,r',f',t,_⟩:=Hr hO h3 (by rw[gd]at hl;simp at hl ⊢;omega)
   have:=t.st
   cases this
   exact t
  ·obtain⟨f,g1,g2,g3,g4,g5⟩:=h.fr jK (by rw [gd];simp)
   have ij:ff p.aR.L fr.call∈p.aR.L:=Bj (.inr ⟨e1,e2⟩) (by omega)
   obtain⟨f',o⟩:=(pe hR).im _ ij
   have:f'=f:=by have:=o.proc.1;rw[h1.2.2,g1]at this;exact(Option.some.inj this).symm
   subst this
   refine Au g4 ?_
   rw[g3]
   exact uH hR o (Du (by omega) hn)
end
end Go.Abs
namespace Go.Abs
def jc (id:Int):List It→It
 | []=>it0
 |x::l=>if x.s.id==id then x else jc id l
def km (a7:Int) (aK:Bool):List It→List Int
 | []=> []
 |y::l=>if y.a7==a7 && y.aK==aK then y.s.id::km a7 aK l else km a7 aK l
def sC (a7:Int) (aK:Bool) (none:Int):List It→Int
 | []=>none
 |y::l=>if y.a7==a7 && y.aK==aK then y.s.id else sC a7 aK none l
def zb (id:Int):List Int→Option Int
 | []=>none
 |a::l=>if l.isEmpty then none else if a==id then l.head? else zb id l
def tU (l:List It):Nat→Int→Option Int
 | 0,_=>none
 |n+1,id=>
  match zb id (km (jc id l).a7 (jc id l).aK l)with
  |some b=>some b
  |none=>if(jc id l).a7==0 then some (-1)else if(jc (jc id l).a7 l).s.kind==6 then some (jc id l).a7 else tU l n (jc id l).a7
theorem pI (a7:Int) (aK:Bool) : ∀ a b:List It,km a7 aK (a++b)=km a7 aK a++km a7 aK b
 | [],b=>rfl
 |y::a,b=>by
  simp only[zaR,km,pI a7 aK a b]
  split<;>rfl
theorem uK {a7:Int} {aK:Bool} : ∀ {l:List It},(∀ y∈l,y.a7=a7→y.aK=aK→False)→km a7 aK l = []
 | [],_=>rfl
 |y::l,h=>by
  simp only[km]
  rw[if_neg (fun c=>by simp only[zar,beq_iff_eq]at c;exact h y (zaA ..) c.1 c.2)]
  exact uK fun z m=>h z (zan _ m)
theorem Bx (a7:Int) (aK:Bool) (d:Int) : ∀ l:List It,sC a7 aK d l=(km a7 aK l).headD d
 | []=>rfl
 |y::l=>by
  simp only[sC,km]
  split
  ·rfl
  ·exact Bx a7 aK d l
theorem FQ (l:List Sm) (d:Int):(l.map (·.id)).headD d=eD l d:=by cases l<;>rfl
theorem FR {L:List It} {n:Nat} : ∀ {l:List It} {k i:Nat} {x:It},jo (n+k) (l.map It.s)→l[i]? = some x→jc x.s.id l=x
 | y::l,k,i,x,h,hx=>by
  have hy:y.s.id=((n+k+1:Nat):Int):=h 0 y.s rfl
  simp only[jc]
  cases i with
  |zero=>simp at hx;subst hx;rw[if_pos (by simp)]
  |succ i=>
   have hxi:x.s.id=((n+k+(i+1)+1:Nat):Int):=h (i+1) x.s (by simpa using ⟨x,by simpa using hx,rfl⟩)
   rw[if_neg (by simp;omega)]
   exact FR (L:=L) (n:=n) (k:=k+1) (i:=i) (by have:=jo.tail (n:=n+k) (v:=y.s) (l:=l.map It.s) h;exact this) (by simpa using hx)
theorem P8 {id:Int} {r:List Int} : ∀ {a:List Int},(∀ v∈a,v≠id)→zb id (a++id::r)=r.head?
 | [],_=>by
  cases r with
  |nil=>rfl
  |cons b r=>simp[zb]
 |v::a,h=>by
  simp only[zaR,zb]
  rw[if_neg (by simp),if_neg (by simpa using h v (zaA ..))]
  exact P8 fun w m=>h w (zan _ m)
mutual
theorem P9 {deep a7:Int} {aK:Bool} {m:Nat} : ∀ s:Sm,jo m s.pre→∀ y∈s.og deep a7 aK,(y.a7=a7∧y.aK=aK)∨((m:Int)<y.a7∧y.a7≤m+s.pre.length)
 | ⟨id,kind,labels,name,proc,x,has,args,a8,e⟩,h,y,my=>by
  simp only[Sm.pre]at h ⊢
  have h0:id=((m+1:Nat):Int):=h.head
  have h1:=h.tail.left
  have h2:=h.tail.right
  simp only[Sm.og,zap,zaq]at my
  simp only[zat,zaj]
  rcases my with rfl|my|my
  ·exact .inl ⟨rfl,rfl⟩
  ·rcases n8 a8 h1 y my with ⟨g,_⟩ | g
   ·right;omega
   ·right;omega
  ·rcases n8 e h2 y my with ⟨g,_⟩ | g
   ·right;omega
   ·right;omega
theorem n8 {deep a7:Int} {aK:Bool} {m:Nat} : ∀ l:List Sm,jo m (Sm.cZ l)→∀ y∈Sm.gZ deep a7 aK l,(y.a7=a7∧y.aK=aK)∨((m:Int)<y.a7∧y.a7≤m+(Sm.cZ l).length)
 | [],_,y,my=>by simp[Sm.gZ]at my
 | s::l,h,y,my=>by
  simp only[Sm.cZ]at h ⊢
  simp only[Sm.gZ,zaq]at my
  simp only[zaj]
  rcases my with my|my
  ·rcases P9 s h.left y my with g | g
   ·exact .inl g
   ·right;omega
  ·rcases n8 l h.right y my with g | g
   ·exact .inl g
   ·right;omega
end
theorem adj (deep a7:Int) (aK:Bool) (s:Sm):(s.og deep a7 aK).length=s.pre.length:=by rw[← La deep a7 aK s,zaw]
theorem FT (deep a7:Int) (aK:Bool) (l:List Sm):(Sm.gZ deep a7 aK l).length=(Sm.cZ l).length:=by rw[← rY deep a7 aK l,zaw]
theorem Zn {deep a7:Int} {aK:Bool} {m:Nat} {s:Sm} (h:jo m s.pre) (hi:a7≤(m:Int)):km a7 aK (s.og deep a7 aK) = [s.id]:=by
 rw[Sm.oN]at h
 have h0:s.id=((m+1:Nat):Int):=h.head
 have h1:=h.tail.left
 have h2:=h.tail.right
 rw[VU,km,if_pos (by simp),pI,uK (l:=Sm.gZ (deep+1) s.id false s.a8),uK (l:=Sm.gZ (deep+1) s.id true s.aK)]
 ·rfl
 ·intro y my e1 e2
  rcases n8 _ h2 y my with g|g<;>omega
 ·intro y my e1 e2
  rcases n8 _ h1 y my with g|g<;>omega
theorem yz {deep a7:Int} {aK:Bool} : ∀ {l:List Sm} {m:Nat},jo m (Sm.cZ l)→a7≤(m:Int)→km a7 aK (Sm.gZ deep a7 aK l)=l.map (·.id)
 | [],_,_,_=>rfl
 |s::l,m,h,hi=>by
  simp only[Sm.cZ]at h
  rw[Sm.gZ,pI,Zn h.left hi,yz h.right (by omega)];rfl
structure Pl (L:List It) (m:Im):Prop where
 item:(jc m.s.id L).s=m.s
 beh : ∀ n,m.s.id.toNat≤n→tU L n m.s.id=some m.next
 a8 : ∀ d,sC m.s.id false d L=eD m.s.a8 d
 aK : ∀ d,sC m.s.id true d L=eD m.s.aK d
mutual
theorem am6 {L:List It} {n:Nat} {proc loop:Int} : ∀ (s:Sm) (A C:List It) (deep a7 next:Int) (aK:Bool),L=A++(s.og deep a7 aK++C)→jo n (L.map It.s)→(∀ y∈A,y.a7≤n+A.length)→
 (∀ y∈C,y.a7≤n+A.length∨(n+A.length+s.pre.length:Int)<y.a7)→a7≤n+A.length→(∀ k,s.id.toNat≤k→tU L k s.id=some next)→∀ m∈s.sM proc a7 next loop,Pl L m
 | ⟨id,kind,labels,name,pc,x,has,args,a8,e⟩,A,C,deep,a7,next,aK,hL,lQ,hA,hC,Fs,Tg,m,mm=>by
  have mU:L[A.length]? = some ⟨⟨id,kind,labels,name,pc,x,has,args,a8,e⟩,deep,a7,aK⟩:=by rw[hL,zas (zal _)];simp[Sm.og]
  have h0:id=((n+A.length+1:Nat):Int):=lQ A.length ⟨id,kind,labels,name,pc,x,has,args,a8,e⟩ (by rw[zao,mU];rfl)
  have iD:jc id L = ⟨⟨id,kind,labels,name,pc,x,has,args,a8,e⟩,deep,a7,aK⟩:=FR (L:=L) (n:=n) (k:=0) (i:=A.length) (x:=⟨⟨id,kind,labels,name,pc,x,has,args,a8,e⟩,deep,a7,aK⟩) lQ mU
  have Ti:jo (n+A.length) ((Sm.mk id kind labels name pc x has args a8 e).pre++C.map It.s):=by
   have:=lQ
   rw[hL,zag,zag,La]at this
   have:=this.right
   rwa [zaw]at this
  have hp:=Ti.left
  simp only[Sm.pre]at hp
  have i1:=hp.tail.left
  have i2:=hp.tail.right
  simp only[Sm.pre,zat,zaj]at hC
  have nC : ∀ b:Bool,km id b C = []:=fun b=>uK fun y my e1 _=>by rcases hC y my with g|g<;>omega
  have nA : ∀ b:Bool,km id b A = []:=fun b=>uK fun y my e1 _=>by have:=hA y my;omega
  have r1:km id false L=a8.map (·.id):=by
   rw[hL,Sm.og,pI,nA,zaR,km,if_neg (by simp;omega),pI,pI,nC,yz i1 (by omega),uK (l:=Sm.gZ (deep+1) id true e) fun y my e1 e2=>by
    rcases n8 _ i2 y my with g|g
    ·rw[g.2]at e2;cases e2
    ·omega]
   simp
  have r2:km id true L=e.map (·.id):=by
   rw[hL,Sm.og,pI,nA,zaR,km,if_neg (by simp;omega),pI,pI,nC,yz i2 (by omega),uK (l:=Sm.gZ (deep+1) id false a8) fun y my e1 e2=>by
    rcases n8 _ i1 y my with g|g
    ·rw[g.2]at e2;cases e2
    ·omega]
   simp
  have Dv : ∀ k,id.toNat≤k→((jc id L).s.kind==6)=(kind==6):=fun k _=>by rw[iD]
  have gH : ∀ k,id.toNat≤k→(if(jc id L).s.kind==6 then some id else tU L k id)=some (if kind==6 then id else next):=fun k hk=>by
   rw[Dv k hk]
   split
   ·rfl
   ·exact Tg k hk
  have ll:=FT (deep+1) id false a8
  have le:=FT (deep+1) id true e
  simp only[Sm.sM,zap,zaq]at mm
  rcases mm with rfl|mm|mm
  ·exact⟨by rw[iD],Tg,fun d=>by rw[Bx,r1,FQ],fun d=>by rw[Bx,r2,FQ]⟩
  ·refine Tj a8 [] (A++ [⟨⟨id,kind,labels,name,pc,x,has,args,a8,e⟩,deep,a7,aK⟩]) (Sm.gZ (deep+1) id true e++C) (deep+1) id _ false (by rw [hL];simp [Sm.og]) lQ (by rw [r1];rfl) (by simp) (fun y my=> ?_) (fun y my=> ?_) (by simp;omega) (.inr ⟨by omega,gH⟩) m mm
   ·rcases zaq.1 my with my | my
    ·have:=hA y my;simp;omega
    ·rw[zaG.1 my];simp;omega
   ·rcases zaq.1 my with my | my
    ·rcases n8 _ i2 y my with g | g
     ·left;simp;omega
     ·right;simp;omega
    ·rcases hC y my with g | g
     ·left;simp;omega
     ·right;simp;omega
  ·refine Tj e [] (A++⟨⟨id,kind,labels,name,pc,x,has,args,a8,e⟩,deep,a7,aK⟩::Sm.gZ (deep+1) id false a8) C (deep+1) id _ true (by rw [hL];simp [Sm.og]) lQ (by rw [r2];rfl) (by simp) (fun y my=> ?_) (fun y my=> ?_) (by simp;omega) (.inr ⟨by omega,gH⟩) m mm
   ·rcases zaq.1 my with my | my
    ·have:=hA y my;simp;omega
    ·rcases zap.1 my with rfl | my
     ·simp;omega
     ·rcases n8 _ i1 y my with g|g<;>simp<;>omega
   ·rcases hC y my with g | g
    ·left;simp;omega
    ·right;simp;omega
theorem Tj {L:List It} {n:Nat} {proc loop:Int} : ∀ (l l1:List Sm) (A C:List It) (deep a7 next:Int) (aK:Bool),L=A++(Sm.gZ deep a7 aK l++C)→jo n (L.map It.s)→km a7 aK L=(l1++l).map (·.id)→(∀ v∈l1,v.id≤n+A.length)→(∀ y∈A,y.a7≤n+A.length)→
 (∀ y∈C,y.a7≤n+A.length∨(n+A.length+(Sm.cZ l).length:Int)<y.a7)→a7≤n+A.length→((a7=0∧next = -1)∨(0<a7∧∀ k,a7.toNat≤k→(if(jc a7 L).s.kind==6 then some a7 else tU L k a7)=some next))→
 ∀ m∈Sm.iE proc a7 next loop l,Pl L m
 | [],l1,A,C,deep,a7,next,aK,hL,lQ,dX,h1,hA,hC,Fs,Dv,m,mm=>by simp[Sm.iE]at mm
 | s::l,l1,A,C,deep,a7,next,aK,hL,lQ,dX,h1,hA,hC,Fs,Dv,m,mm=>by
  have mU:L[A.length]? = some ⟨s,deep,a7,aK⟩:=by rw[hL,zas (zal _)];simp[Sm.gZ,VU]
  have h0:s.id=((n+A.length+1:Nat):Int):=lQ A.length s (by rw[zao,mU];rfl)
  have iD:jc s.id L = ⟨s,deep,a7,aK⟩:=FR (L:=L) (n:=n) (k:=0) (i:=A.length) (x:=⟨s,deep,a7,aK⟩) lQ mU
  have Ti:jo (n+A.length) ((s.pre++Sm.cZ l)++C.map It.s):=by
   have:=lQ
   rw[hL,zag,zag,rY,Sm.cZ]at this
   have:=this.right
   rwa [zaw]at this
  have i1:=Ti.left.left
  have i2:=Ti.left.right
  have hn1:1≤s.pre.length:=by rw[Sm.oN];simp
  simp only[Sm.cZ,zaj]at hC
  have Tg : ∀ k,s.id.toNat≤k→tU L k s.id=some (eD l next):=fun k hk=>by
   cases k with
   |zero=>omega
   | succ k=>
    simp only[tU,iD]
    rw[dX,zag,zaf,P8 (fun v mv=>by obtain⟨w,hw,rfl⟩:=zaF.1 mv;have:=h1 w hw;omega)]
    cases l with
    |cons t l=>rfl
    | nil=>
     simp only[zai,List.head?_nil,eD]
     rcases Dv with ⟨rfl,rfl⟩|⟨g1,g2⟩
     ·rfl
     ·rw [if_neg (by simp;omega)]
      exact g2 k (by omega)
  have ll:=adj deep a7 aK s
  simp only[Sm.gZ]at hL
  simp only[Sm.iE,zaq]at mm
  rcases mm with mm|mm
  ·refine am6 s A (Sm.gZ deep a7 aK l++C) deep a7 _ aK (by rw [hL];simp) lQ hA (fun y my=> ?_) Fs Tg m mm
   rcases zaq.1 my with my|my
   ·rcases n8 _ i2 y my with g | g
    ·left;omega
    ·right;omega
   ·rcases hC y my with g | g
    ·left;omega
    ·right;omega
  ·refine Tj l (l1++ [s]) (A++s.og deep a7 aK) C deep a7 next aK (by rw [hL];simp) lQ (by rw [dX];simp) (fun v mv=> ?_) (fun y my=> ?_) (fun y my=> ?_) (by simp;omega) Dv m mm
   ·rcases zaq.1 mv with mv | mv
    ·have:=h1 v mv;simp;omega
    ·rw[zaG.1 mv];simp;omega
   ·rcases zaq.1 my with my | my
    ·have:=hA y my;simp;omega
    ·rcases P9 s i1 y my with g|g<;>simp<;>omega
   ·rcases hC y my with g | g
    ·left;simp;omega
    ·right;simp;omega
end
theorem NM {p:Pg} (hb:p.may=true) {i:Nat} {f:Pc} (hf:p.procs[i]? = some f):(∀ m∈Sm.iE (i:Int) 0 (-1) 0 f.body,Pl f.flat m∧gy f.flat f.flat.length m.s.id=m.loop)∧∀ d,sC 0 false d f.flat=eD f.body d:=by
 have hm:=zad hf
 have fx:=(D0 hb).1 f hm
 obtain⟨base,q8⟩ : ∃ n,jo n (Sm.cZ f.body):=by
  have h:=D1 hb
  obtain⟨a,c,e⟩:=List.append_of_mem hm
  unfold Pg.pre at h
  rw[e,zag,List.flatten_append,zaf,zbi]at h
  exact⟨_,h.right.left⟩
 have lQ:jo base (f.flat.map It.s):=by rw[fx,rY];exact q8
 have dX:km 0 false f.flat=f.body.map (·.id):=by rw[fx];exact yz q8 (by omega)
 obtain⟨q1,q2⟩:=EO hb hm
 refine⟨fun m mm=>⟨Tj f.body [] [] [] 1 0 (-1) false (by rw[fx];simp) lQ (by rw[dX];rfl) (by simp) (by simp) (by simp) (by simp) (.inl ⟨rfl,rfl⟩) m mm, ?_⟩,fun d=>by rw[Bx,dX,FQ]⟩
 obtain⟨j,hj⟩:=List.getElem?_of_mem mm
 have hlen:(Sm.iE (i:Int) 0 (-1) 0 f.body).length=f.flat.length:=by rw[uD,fx,FT]
 have CK:=(zac.1 hj).1
 obtain⟨a,ha⟩ : ∃ a,f.flat[j]? = some a:=⟨_,zah (by omega)⟩
 have h1:=q2 j a ha
 rw[← FB (i:Int) f,zao,hj]at h1
 simp only[za3,Im.pair,Option.some.injEq,Prod.mk.injEq]at h1
 rw[h1.1, ← h1.2]
theorem By {p:Pg} (hb:p.may=true) {m:Im} (hm:m∈p.aR.L) {i:Nat} {f:Pc} (hi:m.proc=(i:Int)) (hf:p.procs[i]? = some f):Pl f.flat m∧gy f.flat f.flat.length m.s.id=m.loop:=by
 rw[Dj hb]at hm
 obtain⟨j,g,h1,h2⟩:=FH p.procs 0 hm
 rw[zaZ]at h2
 have h3:=(wO (R:=fun _=>True) _ 0 (-1) 0 g.body (fun _ _=>trivial) (.inl rfl) (.inl rfl) m h2).1
 have:j=i:=by omega
 subst this
 rw[hf]at h1;cases h1
 exact(NM hb hf).1 m h2
set_option maxRecDepth 8000
open Go.Proofs
theorem Zo (x:It):(dn x)[2]? = some (.slice .shared 1 (x.s.labels.map encStr)):=nd rfl
theorem Wl (x:It):(dn x)[14]? = some (.int .i64 x.a7):=nd rfl
attribute [go_sem] Zo Wl
theorem NN {l:List It} (hl:l.length≤1000000) (id:Int) (s:St):az Tryz.prog 156 [.slice .shared 16 (l.map dn), .int .i64 id] s (.tuple [.int .i64 (gy l l.length id), .bool (gy l l.length id != 0)]) s:=by
 refine az.pure ?_ (by simp[D.bM,D.ok,Tag.ok,sf]) rfl s
 obtain⟨R,hR⟩ : ∃ R,gy l l.length id=R:=⟨_,rfl⟩
 rw[hR]
 have w0:IntKind.wrap .i64 ((l.length:Int) - 1)=(l.length:Int) - 1:=by rw[dv]<;>omega
 unfold S0
 refine az.go GG.h rfl fun B Q hB hQ=>?_
 have⟨hD,hY,hZ,gC⟩:=bb
 repeat' (first
 |simp only[go_sem,hD,hY,hZ,gC,w0]
 |(with_reducible first|refine cf fun hc=>?_|refine cj fun hc=>?_|refine cm (fun hc=>?_) fun hc=>?_)<;>(try simp only[hc,bs,↓reduceIte]at h)<;>try simp only[hc]
 |(with_reducible refine ax hQ ?_;simp only[bF,bG,bZ,cb,go_sem,hD,hY,hZ,gC,w0];try exact eQ))
 refine di 0 0 (aN.ind (ι:=Nat×Int) (fun i=>i.1≤l.length∧i.2=(i.1:Int) - 1∧gy l i.1 id=R) (fun i=>i.1)
  (fun i=> [(0, .slice .shared 16 (l.map dn)),(1, .int .i64 id),(6, .int .i64 i.2)]) (fun i=>⟨[],[]⟩) ?_ (l.length,(l.length:Int) - 1) ⟨zal _,rfl,hR⟩)
 clear hR
 rintro⟨n,j⟩ ⟨h1,h2,hR⟩ IH
 dsimp only at h1 h2 hR
 cases n with
 |zero=>
  have o7:decide (j≥0)=false:=by simp;omega
  simp only[gy]at hR
  subst hR
  have w1:((0:Int) != 0)=false:=rfl
  repeat' (first
 |simp only[go_sem,hD,hY,hZ,gC,o7,w1]
 |(with_reducible first|refine cf fun hc=>?_|refine cj fun hc=>?_|refine cm (fun hc=>?_) fun hc=>?_)<;>(try simp only[hc,bs,↓reduceIte]at h)<;>try simp only[hc]
 |(with_reducible refine ax hQ ?_;simp only[bF,bG,bZ,cb,go_sem,hD,hY,hZ,gC,o7,w1];try exact eQ))
 | succ n=>
  have hj:j=(n:Int):=by omega
  subst hj
  have o7:decide ((n:Int)≥0)=true:=by simp
  obtain⟨x,hx⟩ : ∃ x,l[n]? = some x:=⟨_,zah (by omega)⟩
  have wn:IntKind.wrap .i64 ((n:Int) - 1)=(n:Int) - 1:=by rw[dv]<;>omega
  simp only[gy,hx]at hR
  have b0:(x.s.id != id) = !(x.s.id==id):=rfl
  rcases zaa (x.s.id==id)with c1|c1
  case inr=>
   rw[c1]at b0
   simp only[b0,zax,if_true]at hR
   repeat' (first
 |simp only[go_sem,hD,hY,hZ,gC,decide_true,o7,hx,b0,wn,zax]
 | (with_reducible refine ax hQ ?_;exact aB))
   refine di 0 0 (IH (n,(n:Int) - 1) ⟨by dsimp only;omega,rfl,hR⟩ (zae _))
  rw[c1]at b0
  simp only[b0,zau,zab,if_false]at hR
  obtain⟨U,hU⟩ : ∃ U,tM l n x.a7=U:=⟨_,rfl⟩
  rw[hU]at hR
  repeat' (first
 |simp only[go_sem,hD,hY,hZ,gC,decide_true,o7,hx,b0,wn,zau]
 | (with_reducible refine ax hQ ?_;exact aB))
  refine di 0 0 (aN.ind (ι:=Nat×Int×Int) (fun i=>i.1≤n∧i.2.1=(i.1:Int) - 1∧tM l i.1 i.2.2=U) (fun i=>i.1)
   (fun i=> [(0, .slice .shared 16 (l.map dn)),(1, .int .i64 id),(6, .int .i64 (n:Int)),(7, .int .i64 i.2.2),(8, .int .i64 i.2.1)]) (fun i=>⟨[],[]⟩) ?_ (n,(n:Int) - 1,x.a7) ⟨zal _,rfl,hU⟩)
  clear hU
  rintro⟨m,k,a7⟩ ⟨j1,j2,hU⟩ qM
  dsimp only at j1 j2 hU
  have E8:U=0→gy l n id=R:=fun e=>by rw[e]at hR;simpa using hR
  cases m with
  |zero=>
   have Dw:decide (k≥0)=false:=by simp;omega
   have MK:=E8 (by simpa[tM]using hU.symm)
   repeat' (first
 |simp only[go_sem,hD,hY,hZ,gC,Dw,wn]
 | (with_reducible refine ax hQ ?_;exact aB))
   refine di 0 0 (IH (n,(n:Int) - 1) ⟨by dsimp only;omega,rfl,MK⟩ (zae _))
  | succ m=>
   have hk:k=(m:Int):=by omega
   subst hk
   have Dw:decide ((m:Int)≥0)=true:=by simp
   obtain⟨y,hy⟩ : ∃ y,l[m]? = some y:=⟨_,zah (by omega)⟩
   have wm:IntKind.wrap .i64 ((m:Int) - 1)=(m:Int) - 1:=by rw[dv]<;>omega
   simp only[tM,hy]at hU
   have d0:(a7 != 0) = !(a7==0):=rfl
   rcases zaa (a7==0)with e1|e1
   ·rw [e1]at d0
    simp only[e1,if_true]at hU
    have MK:=E8 hU.symm
    repeat' (first
 |simp only[go_sem,hD,hY,hZ,gC,decide_true,Dw,d0,zau,wn]
 | (with_reducible refine ax hQ ?_;exact aB))
    refine di 0 0 (IH (n,(n:Int) - 1) ⟨by dsimp only;omega,rfl,MK⟩ (zae _))
   rw[e1]at d0
   simp only[e1,zab,if_false]at hU
   have d1:(y.s.id != a7) = !(y.s.id==a7):=rfl
   rcases zaa (y.s.id==a7)with e2|e2
   case inr=>
    rw[e2]at d1
    simp only[d1,zax,if_true]at hU
    repeat' (first
 |simp only[go_sem,hD,hY,hZ,gC,decide_true,Dw,d0,hy,d1,wm,zax]
 |(with_reducible first|refine cf fun hc=>?_|refine cj fun hc=>?_|refine cm (fun hc=>?_) fun hc=>?_)<;>(try simp only[hc,bs,↓reduceIte]at h)<;>try simp only[hc]
 | (with_reducible refine ax hQ ?_;simp only [bF,bG,bZ,cb,go_sem,hD,hY,hZ,gC,decide_true,Dw,d0,hy,d1,wm,zax];try exact eQ))
    refine di 0 0 (qM (m,(m:Int) - 1,a7) ⟨by dsimp only;omega,rfl,hU⟩ (zae _))
   rw[e2]at d1
   simp only[d1,zau,zab,if_false]at hU
   rcases zaa (y.s.kind==6)with e3|e3
   ·simp only [e3,if_true]at hU
    subst hU
    simp only[d0,zax,if_true]at hR
    subst hR
    repeat' (first
 |simp only[go_sem,hD,hY,hZ,gC,decide_true,Dw,d0,hy,d1,e3,zax,zau]
 |(with_reducible first|refine cf fun hc=>?_|refine cj fun hc=>?_|refine cm (fun hc=>?_) fun hc=>?_)<;>(try simp only[hc,bs,↓reduceIte]at h)<;>try simp only[hc]
 | (with_reducible refine ax hQ ?_;simp only [bF,bG,bZ,cb,go_sem,hD,hY,hZ,gC,decide_true,Dw,d0,hy,d1,e3,zax,zau];try exact eQ))
   ·simp only [e3,zab,if_false]at hU
    repeat' (first
 |simp only[go_sem,hD,hY,hZ,gC,decide_true,Dw,d0,hy,d1,e3,wm,zax,zau]
 | (with_reducible refine ax hQ ?_;exact aB))
    refine di 0 0 (qM (m,(m:Int) - 1,y.a7) ⟨by dsimp only;omega,rfl,hU⟩ (zae _))
theorem Wm {f:Pc} (hs:Sm.bq f.body<4611686018427387000) (hl:(fp (f.flat.map It.s)).length+f.fin.length≤10000000) (s:St) :
 az Tryz.prog 157 [.agg (bN f)] s (.slice .shared 1 ((fp (f.flat.map It.s)++f.fin).map encStr)) s:=by
 refine az.pure ?_ (by simp[D.bM,D.ok,sw]) (by simp only[D.ok,Tag.ok,dz];rfl) s
 have fx:=fun s=>xg (f:=f) hs s
 have am8:=Pc.sy f
 obtain⟨R,hR⟩ : ∃ R,fp (f.flat.map It.s)=R:=⟨_,rfl⟩
 rw[hR]at hl ⊢
 unfold S0
 refine az.go GH.h rfl fun B Q hB hQ=>?_
 have⟨hD,hY,hZ,gC⟩:=bb
 repeat' (first
 |simp only[go_sem,hD,hY,hZ,gC]
 |(with_reducible refine CU (fx _) ?_)
 |(with_reducible refine ax hQ ?_;exact aB))
 refine aN.ln 3 1 rfl ?_
 simp only[go_sem,hD,hY,hZ,gC]
 refine di 1 1 (aN.ind (ι:=List It×Nat×List aF×Nat) (fun i=>f.flat.drop i.2.1=i.1∧i.2.2.1++fp (i.1.map It.s)=R∧i.2.2.2=i.2.2.1.length) (fun i=>i.1.length)
  (fun i=> [(1, .ptr 0 0),(3, .slice (.tok 0) 1 (i.2.2.1.map encStr)),(7, .slice .shared 16 (f.flat.map dn)),(8, .int .i64 (f.flat.length:Int)),(9, .int .i64 (i.2.1:Int))]) (fun i=>⟨[bN f],[some i.2.2.2]⟩) ?_ (f.flat,0,[],0) ⟨rfl,hR,rfl⟩)
 clear hR
 rintro⟨rest,k,out,n⟩ ⟨h1,h2,h3⟩ IH
 dsimp only at h1 h2 h3
 subst h3
 have hlen:=congrArg List.length h2
 rw[zaj]at hlen
 cases rest with
 |nil=>
  have hD:=drop_nil h1
  simp only[zai,fp,zaI]at h2
  subst h2
  have dd:=fm (l:=out) (nx:=f.fin) rfl (by omega) (g:= .shared)
  repeat' (first
 |simp only[go_sem,hD,hY,hZ,gC,dd]
 |(with_reducible refine ax hQ ?_;exact aB))
 |cons a rest=>
  obtain⟨hY,g2,hD,g4⟩:=drop_cons h1
  have aZ:k<4611686018427387904:=by omega
  simp only[zaf,fp]at h2
  simp only[zaf,fp,zaj]at hlen
  have dd:=fm (l:=out) (nx:=a.s.labels) rfl (by omega) (g:= .shared)
  repeat' (first
 |simp only[go_sem,hD,hY,hZ,gC,dd]
 |(with_reducible refine ax hQ ?_;exact aB))
  refine cv 1 1 ?_ ?_ (IH (rest,k+1,out++a.s.labels,out.length+a.s.labels.length) ⟨g2,by rw[← h2];simp,by simp⟩ (zae _))
  ·(simp only[go_sem,hD,hY,hZ,gC,aw aZ];try exact aU)
  ·(simp only[go_sem,hD,hY,hZ,gC,aw aZ];try exact aU)
end Go.Abs
namespace Go.Abs
set_option maxRecDepth 8000
open Go.Proofs
abbrev zIt:List D:= [.int .i64 0, .int .i64 0, .slice .full 0 [], .str [], .str [], .int .i64 0, .int .i64 0, .str [], .slice .full 0 [], .bool false, .slice .full 0 [], .slice .full 0 [], .slice .full 0 [], .int .i64 0, .int .i64 0, .bool false]
theorem Wn (x:It):(dn x)[15]? = some (.bool x.aK):=nd rfl
attribute [go_sem] Wn
theorem NO {l:List It} (hl:l.length<4611686018427387904) (id:Int) (s:St):az Tryz.prog 89 [.slice .shared 16 (l.map dn), .int .i64 id] s (.agg (dn (jc id l))) s:=by
 refine az.pure ?_ (by simp[D.bM,D.ok,Tag.ok,sf]) (by simp[D.ok,MO]) s
 generalize h:jc id l=R
 unfold S0
 refine az.go Ih.h rfl fun B Q hB hQ=>?_
 have⟨hD,hY,hZ,gC⟩:=bb
 repeat' (first
 |simp only[go_sem,hD,hY,hZ,gC]
 |(with_reducible first|refine cf fun hc=>?_|refine cj fun hc=>?_|refine cm (fun hc=>?_) fun hc=>?_)<;>(try simp only[hc,bs,↓reduceIte]at h)<;>try simp only[hc]
 |(with_reducible refine ax hQ ?_;exact aB))
 refine di 1 0 (aN.ind (ι:=List It×Nat) (fun i=>l.drop i.2=i.1∧jc id i.1=R) (fun i=>i.1.length)
  (fun i=> [(1, .int .i64 id),(4, .ptr 0 0),(7, .slice .shared 16 (l.map dn)),(8, .int .i64 (l.length:Int)),(9, .int .i64 (i.2:Int))]) (fun i=>⟨[zIt],[]⟩) ?_ (l,0) ⟨rfl,h⟩)
 rintro⟨rest,k⟩ ⟨h1,h⟩ IH
 dsimp only at h1 h
 cases rest with
 |nil=>
  have hD:=drop_nil h1
  simp only[jc]at h
  subst h
  repeat' (first
 |simp only[go_sem,hD,hY,hZ,gC,V4]
 |(with_reducible first|refine cf fun hc=>?_|refine cj fun hc=>?_|refine cm (fun hc=>?_) fun hc=>?_)<;>(try simp only[hc,bs,↓reduceIte]at h)<;>try simp only[hc]
 |(with_reducible refine ax hQ ?_;simp only[bF,bG,bZ,cb,go_sem,hD,hY,hZ,gC,V4];try exact eQ))
 | cons a rest=>
  obtain⟨hY,g2,hD,g4⟩:=drop_cons h1
  have aZ:k<4611686018427387904:=by omega
  simp only[jc]at h
  rcases zaa (a.s.id==id)with b1|b1
  ·simp only [b1,if_true]at h
   subst h
   repeat' (first
 |simp only[go_sem,hD,hY,hZ,gC,b1]
 | (with_reducible refine ax hQ ?_;exact aB))
  ·simp only [b1,zab,if_false]at h
   repeat' (first
 |simp only[go_sem,hD,hY,hZ,gC,b1]
 | (with_reducible refine ax hQ ?_;exact aB))
   refine cv 1 0 ?_ ?_ (IH (rest,k+1) ⟨g2,h⟩ (zae _))
   ·(simp only[go_sem,hD,hY,hZ,gC,aw aZ];try exact aU)
   ·(simp only[go_sem,hD,hY,hZ,gC,aw aZ];try exact aU)
theorem agP {l:List It} (hl:l.length<1000000000) (x:It) (s:St):az Tryz.prog 159 [.slice .shared 16 (l.map dn), .agg (dn x)] s (.slice .shared 1 ((km x.a7 x.aK l).map bD)) s:=by
 refine az.pure ?_ (by simp[D.bM,D.ok,Tag.ok,sf,MO]) (by simp only[D.ok,Tag.ok,jm];rfl) s
 generalize h:km x.a7 x.aK l=R
 unfold S0
 refine az.go KF.h rfl fun B Q hB hQ=>?_
 have⟨hD,hY,hZ,gC⟩:=bb
 repeat' (first
 |simp only[go_sem,hD,hY,hZ,gC]
 |(with_reducible refine ax hQ ?_;exact aB))
 refine aN.ln 5 1 rfl ?_
 simp only[go_sem,hD,hY,hZ,gC]
 refine di 1 1 (aN.ind (ι:=List It×Nat×List Int×Nat) (fun i=>l.drop i.2.1=i.1∧i.2.2.1++km x.a7 x.aK i.1=R∧i.2.2.2=i.2.2.1.length∧i.2.2.1.length≤i.2.1) (fun i=>i.1.length)
  (fun i=> [(3, .ptr 0 0),(5, .slice (.tok 0) 1 (i.2.2.1.map bD)),(8, .slice .shared 16 (l.map dn)),(9, .int .i64 (l.length:Int)),(10, .int .i64 (i.2.1:Int))]) (fun i=>⟨[dn x],[some i.2.2.2]⟩) ?_ (l,0,[],0) ⟨rfl,by simpa using h,rfl,zal _⟩)
 clear h
 rintro⟨rest,k,acc,c⟩ ⟨h1,h,h3,h4⟩ IH
 dsimp only at h1 h h3 h4
 subst h3
 cases rest with
 |nil=>
  have hD:=drop_nil h1
  simp only[km,zaI]at h
  subst h
  repeat' (first
 |simp only[go_sem,hD,hY,hZ,gC]
 |(with_reducible refine ax hQ ?_;exact aB))
 | cons a rest=>
  obtain⟨hY,g2,hD,g4⟩:=drop_cons h1
  have aZ:k<4611686018427387904:=by omega
  have iF:(acc.length+1)*9≤aV:=by simp only[aV];omega
  simp only[km]at h
  rcases zaa (a.a7==x.a7)with b1|b1
  ·rcases zaa (a.aK==x.aK)with b2 | b2
   ·simp only [b1,b2,Bool.and_self,if_true]at h
    repeat' (first
 |simp only[go_sem,hD,hY,hZ,gC,b1,b2,iF]
 | (with_reducible refine ax hQ ?_;exact aB))
    refine cv 1 1 ?_ ?_ (IH (rest,k+1,acc++ [a.s.id],acc.length+1) ⟨g2,by rw[← h];simp,by simp,by simp;omega⟩ (zae _))
    ·(simp only[go_sem,hD,hY,hZ,gC,aw aZ,zag,zaf,zai,bD];try exact aU)
    ·(simp only[go_sem,hD,hY,hZ,gC,aw aZ,zag,zaf,zai,bD];try exact aU)
   ·simp only [b1,b2,zbt,zab,if_false]at h
    repeat' (first
 |simp only[go_sem,hD,hY,hZ,gC,b1,b2]
 | (with_reducible refine ax hQ ?_;exact aB))
    refine cv 1 1 ?_ ?_ (IH (rest,k+1,acc,acc.length) ⟨g2,h,rfl,by dsimp only;omega⟩ (zae _))
    ·(simp only[go_sem,hD,hY,hZ,gC,aw aZ];try exact aU)
    ·(simp only[go_sem,hD,hY,hZ,gC,aw aZ];try exact aU)
  ·simp only [b1,zaN,zab,if_false]at h
   repeat' (first
 |simp only[go_sem,hD,hY,hZ,gC,b1]
 | (with_reducible refine ax hQ ?_;exact aB))
   refine cv 1 1 ?_ ?_ (IH (rest,k+1,acc,acc.length) ⟨g2,h,rfl,by dsimp only;omega⟩ (zae _))
   ·(simp only[go_sem,hD,hY,hZ,gC,aw aZ];try exact aU)
   ·(simp only[go_sem,hD,hY,hZ,gC,aw aZ];try exact aU)
theorem I4 {l:List It} (hl:l.length<4611686018427387904) (id:Int) (aK:Bool) (d:Int) (s:St):az Tryz.prog 86 [.slice .shared 16 (l.map dn), .int .i64 id, .bool aK, .int .i64 d] s (.int .i64 (sC id aK d l)) s:=by
 refine az.pure ?_ (by simp[D.bM,D.ok,Tag.ok,sf]) rfl s
 generalize h:sC id aK d l=R
 unfold S0
 refine az.go GD.h rfl fun B Q hB hQ=>?_
 have⟨hD,hY,hZ,gC⟩:=bb
 repeat' (first
 |simp only[go_sem,hD,hY,hZ,gC]
 |(with_reducible refine ax hQ ?_;exact aB))
 refine di 0 0 (aN.ind (ι:=List It×Nat) (fun i=>l.drop i.2=i.1∧sC id aK d i.1=R) (fun i=>i.1.length)
  (fun i=> [(1, .int .i64 id),(2, .bool aK),(3, .int .i64 d),(8, .int .i64 0),(11, .slice .shared 16 (l.map dn)),(12, .int .i64 (l.length:Int)),(13, .int .i64 (i.2:Int))]) (fun i=>⟨[],[]⟩) ?_ (l,0) ⟨rfl,h⟩)
 clear h
 rintro⟨rest,k⟩ ⟨h1,h⟩ IH
 dsimp only at h1 h
 cases rest with
 |nil=>
  have hD:=drop_nil h1
  simp only[sC]at h
  subst h
  repeat' (first
 |simp only[go_sem,hD,hY,hZ,gC]
 |(with_reducible refine ax hQ ?_;exact aB))
 | cons a rest=>
  obtain⟨hY,g2,hD,g4⟩:=drop_cons h1
  have aZ:k<4611686018427387904:=by omega
  simp only[sC]at h
  rcases zaa (a.a7==id)with b1|b1
  ·rcases zaa (a.aK==aK)with b2 | b2
   ·simp only [b1,b2,Bool.and_self,if_true]at h
    subst h
    repeat' (first
 |simp only[go_sem,hD,hY,hZ,gC,b1,b2]
 | (with_reducible refine ax hQ ?_;exact aB))
   ·simp only [b1,b2,zbt,zab,if_false]at h
    repeat' (first
 |simp only[go_sem,hD,hY,hZ,gC,b1,b2]
 | (with_reducible refine ax hQ ?_;exact aB))
    refine cv 0 0 ?_ ?_ (IH (rest,k+1) ⟨g2,h⟩ (zae _))
    ·(simp only[go_sem,hD,hY,hZ,gC,aw aZ];try exact aU)
    ·(simp only[go_sem,hD,hY,hZ,gC,aw aZ];try exact aU)
  ·simp only [b1,zaN,zab,if_false]at h
   repeat' (first
 |simp only[go_sem,hD,hY,hZ,gC,b1]
 | (with_reducible refine ax hQ ?_;exact aB))
   refine cv 0 0 ?_ ?_ (IH (rest,k+1) ⟨g2,h⟩ (zae _))
   ·(simp only[go_sem,hD,hY,hZ,gC,aw aZ];try exact aU)
   ·(simp only[go_sem,hD,hY,hZ,gC,aw aZ];try exact aU)
theorem NP (a7:Int) (aK:Bool) : ∀ l:List It,(km a7 aK l).length≤l.length
 | []=>zal _
 |y::l=>by
  have:=NP a7 aK l
  simp only[km]
  split<;>simp<;>omega
theorem Zp {l:List It} (hl:l.length<1000000000) : ∀ (n:Nat) (id r:Int),tU l n id=some r→az Tryz.prog 122 [.slice .shared 16 (l.map dn), .int .i64 id] S0 (.int .i64 r) S0:=by
 intro n
 induction n with
 |zero=>intro id r h;cases h
 | succ n ih=>
  intro id r h
  have c1:=fun id s=>NO (l:=l) (by omega) id s
  have c2:=fun x s=>agP (l:=l) hl x s
  simp only[tU]at h
  have hx0:=c1 id
  generalize hx:jc id l=x at *
  have vg:=NP x.a7 x.aK l
  have Ew:=c2 x
  generalize hrw:km x.a7 x.aK l=row at *
  have ht : ∀ r',(if x.a7==0 then some (-1)else if(jc x.a7 l).s.kind==6 then some x.a7 else tU l n x.a7)=some r'→zb id row=none→r=r':=fun r' e1 e2=>by
   rw[e2]at h
   exact Option.some.inj (h.symm.trans e1)
  unfold S0
  refine az.go Fo.h rfl fun B Q hB hQ=>?_
  have⟨hD,hY,hZ,gC⟩:=bb
  repeat' (first
 |simp only[go_sem,hD,hY,hZ,gC]
 |(with_reducible refine CU (hx0 _) ?_)
 |(with_reducible refine CU (Ew _) ?_)
 | (with_reducible refine ax hQ ?_;exact aB))
  refine di 1 0 (aN.ind (ι:=List Int×Nat) (fun i=>row.drop i.2=i.1∧zb id i.1=zb id row∧i.2≤row.length) (fun i=>i.1.length)
   (fun i=> [(0, .slice .shared 16 (l.map dn)),(1, .int .i64 id),(5, .ptr 0 0),(6, .slice .shared 1 (row.map bD)),(7, .int .i64 (i.2:Int))]) (fun i=>⟨[dn x],[]⟩) ?_ (row,0) ⟨rfl,rfl,zaz _⟩)
  rintro⟨rest,k⟩ ⟨h1,h2,h5⟩ IH
  dsimp only at h1 h2 h5
  have hw:IntKind.wrap .i64 ((k:Int)+1)=((k+1:Nat):Int):=aw (by omega)
  have ajV:(∃ a b r',rest=a::b::r')∨(decide (((k+1:Nat):Int)<(row.length:Int))=false∧zb id rest=none):=by
   have hl:=congrArg List.length h1
   rw[List.length_drop]at hl
   match rest,hl with
   | [],hl=>exact .inr ⟨by simp at hl ⊢;omega,rfl⟩
   | [a],hl=>exact .inr ⟨by simp at hl ⊢;omega,rfl⟩
   |a::b::r',_=>exact .inl ⟨a,b,r',rfl⟩
  rcases ajV with ⟨a,b,r',rfl⟩|⟨hD,AV⟩
  ·obtain⟨hY,g2,_,g4⟩:=drop_cons h1
   obtain⟨mV,_,g6,_⟩:=drop_cons g2
   have hD:decide (((k+1:Nat):Int)<(row.length:Int))=true:=by simpa using g6
   simp only[zb,List.isEmpty_cons,zab,if_false]at h2
   rcases zaa (a==id)with b1|b1
   ·rw [if_pos b1]at h2
    have:r=b:=by
     rw[← h2]at h
     exact(Option.some.inj h).symm
    subst this
    repeat' (first
 |simp only[go_sem,hD,hY,hZ,gC,hw,hD,hY,mV,b1]
 | (with_reducible refine ax hQ ?_;exact aB))
   ·rw [if_neg (by simp [b1])]at h2
    repeat' (first
 |simp only[go_sem,hD,hY,hZ,gC,hw,hD,hY,b1]
 | (with_reducible refine ax hQ ?_;exact aB))
    refine cv 1 0 ?_ ?_ (IH (b::r',k+1) ⟨g2,h2,by dsimp only;omega⟩ (zae _))
    ·(simp only[go_sem,hD,hY,hZ,gC,hw];try exact aU)
    ·(simp only[go_sem,hD,hY,hZ,gC,hw];try exact aU)
  ·rw [AV]at h2
   rcases zaa (x.a7==0)with b1|b1
   ·have:=ht (-1) (by rw [if_pos b1]) h2.symm
    subst this
    repeat' (first
 |simp only[go_sem,hD,hY,hZ,gC,hw,hD,b1]
 | (with_reducible refine ax hQ ?_;exact aB))
   ·have c3:=c1 x.a7
    generalize hy:jc x.a7 l=y at *
    rcases zaa (y.s.kind==6)with b2|b2
    ·have:=ht x.a7 (by rw [if_neg (by simp [b1]),if_pos b2]) h2.symm
     subst this
     repeat' (first
 |simp only[go_sem,hD,hY,hZ,gC,hw,hD,b1,b2]
 |(with_reducible refine CU (c3 _) ?_)
 | (with_reducible refine ax hQ ?_;exact aB))
    ·rw [← h2]at h
     simp only[b1,b2,zab,if_false]at h
     have c4:=fun s=>az.pure (ih x.a7 r h) (by simp[D.bM,D.ok,Tag.ok,sf]) rfl s
     repeat' (first
 |simp only[go_sem,hD,hY,hZ,gC,hw,hD,b1,b2]
 |(with_reducible refine CU (c3 _) ?_)
 |(with_reducible refine CU (c4 _) ?_)
 |(with_reducible refine ax hQ ?_;exact aB))
theorem FU {l:List It} (hl:l.length<1000000000) {n:Nat} {id r:Int} (h:tU l n id=some r) (s:St):az Tryz.prog 122 [.slice .shared 16 (l.map dn), .int .i64 id] s (.int .i64 r) s:=
 az.pure (Zp hl n id r h) (by simp[D.bM,D.ok,Tag.ok,sf]) rfl s
theorem adk {p:Pg} (hl:p.procs.length<1000000000) (name:aF) (s:St):az Tryz.prog 84 [.agg (bS p), .str name] s (.agg (bN ((p.find name).getD pc0))) s:=by
 refine az.pure ?_ (by simp[D.bM,D.ok,gR]) (by simp[D.ok,sw]) s
 unfold Pg.find
 generalize h:gS name p.procs=q
 unfold S0
 refine az.go Ig.h rfl fun B Q hB hQ=>?_
 have⟨hD,hY,hZ,gC⟩:=bb
 repeat' (first
 |simp only[go_sem,hD,hY,hZ,gC,G8]
 |(with_reducible first|refine cf fun hc=>?_|refine cj fun hc=>?_|refine cm (fun hc=>?_) fun hc=>?_)<;>(try simp only[hc,bs,↓reduceIte]at h)<;>try simp only[hc]
 |(with_reducible refine ax hQ ?_;simp only[bF,bG,bZ,cb,go_sem,hD,hY,hZ,gC,G8];try exact eQ))
 refine di 2 0 (aN.ind (ι:=List Pc×Nat) (fun i=>p.procs.drop i.2=i.1∧gS name i.1=q) (fun i=>i.1.length)
  (fun i=> [(1, .str name),(4, .ptr 1 0),(8, .slice .shared 5 (p.procs.map bN)),(9, .int .i64 (p.procs.length:Int)),(10, .int .i64 (i.2:Int))]) (fun i=>⟨[bS p,[.str [], .slice .full 0 [], .slice .full 0 [], .slice .full 0 [], .slice .full 0 []]],[]⟩) ?_ (p.procs,0) ⟨rfl,h⟩)
 rintro⟨rest,k⟩ ⟨h1,h⟩ IH
 dsimp only at h1 h
 cases rest with
 |nil=>
  have hD:=drop_nil h1
  simp only[gS]at h
  subst h
  repeat' (first
 |simp only[go_sem,hD,hY,hZ,gC,zbx,G7]
 |(with_reducible first|refine cf fun hc=>?_|refine cj fun hc=>?_|refine cm (fun hc=>?_) fun hc=>?_)<;>(try simp only[hc,bs,↓reduceIte]at h)<;>try simp only[hc]
 |(with_reducible refine ax hQ ?_;simp only[bF,bG,bZ,cb,go_sem,hD,hY,hZ,gC,zbx,G7];try exact eQ))
 | cons a rest=>
  obtain⟨hY,g2,hD,g4⟩:=drop_cons h1
  have aZ:k<4611686018427387904:=by omega
  simp only[gS]at h
  rcases zaa (a.name==name)with b1|b1
  ·simp only [b1,if_true]at h
   subst h
   repeat' (first
 |simp only[go_sem,hD,hY,hZ,gC,b1,zbh]
 |(with_reducible first|refine cf fun hc=>?_|refine cj fun hc=>?_|refine cm (fun hc=>?_) fun hc=>?_)<;>(try simp only[hc,bs,↓reduceIte]at h)<;>try simp only[hc]
 | (with_reducible refine ax hQ ?_;simp only [bF,bG,bZ,cb,go_sem,hD,hY,hZ,gC,b1,zbh];try exact eQ))
  ·simp only [b1,zab,if_false]at h
   repeat' (first
 |simp only[go_sem,hD,hY,hZ,gC,b1]
 | (with_reducible refine ax hQ ?_;exact aB))
   refine cv 2 0 ?_ ?_ (IH (rest,k+1) ⟨g2,h⟩ (zae _))
   ·(simp only[go_sem,hD,hY,hZ,gC,aw aZ];try exact aU)
   ·(simp only[go_sem,hD,hY,hZ,gC,aw aZ];try exact aU)
theorem adl {l:List It} (hl:l.length<4611686018427387904) (hb : ∀ x∈l,x.s.labels.length<4611686018427387904) {fin:List aF} (hf:fin.length<4611686018427387904) (name:aF) (s:St) :
 az Tryz.prog 166 [.slice .shared 16 (l.map dn), .slice .shared 1 (fin.map encStr), .str name] s (.tuple [.int .i64 (jb fin name (l.map It.s)).1, .bool (jb fin name (l.map It.s)).2]) s:=by
 refine az.pure ?_ (by simp[D.bM,D.ok,Tag.ok,sf,dz]) rfl s
 have ja:=fun {x:It} (m:x∈l) s=>vR (l:=x.s.labels) (hb x m) name .shared s
 have hfi:=fun s=>vR (l:=fin) hf name .shared s
 generalize h:jb fin name (l.map It.s)=R
 unfold S0
 refine az.go Io.h rfl fun B Q hB hQ=>?_
 have⟨hD,hY,hZ,gC⟩:=bb
 repeat' (first
 |simp only[go_sem,hD,hY,hZ,gC]
 |(with_reducible refine ax hQ ?_;exact aB))
 refine di 0 0 (aN.ind (ι:=List It×Nat) (fun i=>l.drop i.2=i.1∧jb fin name (i.1.map It.s)=R) (fun i=>i.1.length)
  (fun i=> [(1, .slice .shared 1 (fin.map encStr)),(2, .str name),(6, .int .i64 0),(7, .bool false),(10, .slice .shared 16 (l.map dn)),(11, .int .i64 (l.length:Int)),(12, .int .i64 (i.2:Int))]) (fun i=>⟨[],[]⟩) ?_ (l,0) ⟨rfl,h⟩)
 clear h
 rintro⟨rest,k⟩ ⟨h1,h⟩ IH
 dsimp only at h1 h
 cases rest with
 | nil=>
  have hD:=drop_nil h1
  simp only[zai,jb]at h
  rcases zaa (dS fin name)with b1|b1
  ·rw [if_pos b1]at h
   subst h
   rw[b1]at hfi
   repeat' (first
 |simp only[go_sem,hD,hY,hZ,gC]
 |(with_reducible refine CU (hfi _) ?_)
 | (with_reducible refine ax hQ ?_;exact aB))
  ·rw [if_neg (by simp [b1])]at h
   subst h
   rw[b1]at hfi
   repeat' (first
 |simp only[go_sem,hD,hY,hZ,gC]
 |(with_reducible refine CU (hfi _) ?_)
 |(with_reducible refine ax hQ ?_;exact aB))
 | cons a rest=>
  obtain⟨hY,g2,hD,g4⟩:=drop_cons h1
  have aZ:k<4611686018427387904:=by omega
  have hi:=fun s=>ja (zad hY) s
  simp only[zaf,jb]at h
  rcases zaa (dS a.s.labels name)with b1|b1
  ·rw [if_pos b1]at h
   subst h
   rw[b1]at hi
   repeat' (first
 |simp only[go_sem,hD,hY,hZ,gC]
 |(with_reducible refine CU (hi _) ?_)
 | (with_reducible refine ax hQ ?_;exact aB))
  ·rw [if_neg (by simp [b1])]at h
   rw[b1]at hi
   repeat' (first
 |simp only[go_sem,hD,hY,hZ,gC]
 |(with_reducible refine CU (hi _) ?_)
 | (with_reducible refine ax hQ ?_;exact aB))
   refine cv 0 0 ?_ ?_ (IH (rest,k+1) ⟨g2,h⟩ (zae _))
   ·(simp only[go_sem,hD,hY,hZ,gC,aw aZ];try exact aU)
   ·(simp only[go_sem,hD,hY,hZ,gC,aw aZ];try exact aU)
end Go.Abs
namespace Go.Abs
theorem FV (n:Int):IntKind.wrap .u64 n=n % 18446744073709551616:=by rw[IntKind.wrap_u64]
theorem D9 (n:Nat):IntKind.wrap .u64 (n:Int)=((n % 18446744073709551616:Nat):Int):=by rw[FV];omega
theorem tV {a:Nat} (h:a<18446744073709551616):(BitVec.ofInt IntKind.u64.bits (a:Int)).toNat=a:=by
 show(BitVec.ofInt 64 (a:Int)).toNat=a
 rw[BitVec.toNat_ofInt]
 omega
theorem Qa {k r:Nat} (hr:r<2 ^ k):r ^^^ 2 ^ k=2 ^ k+r:=by
 apply Nat.eq_of_testBit_eq
 intro j
 rw[Nat.testBit_xor,Nat.testBit_two_pow]
 rcases Nat.lt_trichotomy j k with h|h|h
 ·rw [Nat.testBit_two_pow_add_gt h]
  have:decide (k=j)=false:=by simp;omega
  rw[this,Bool.xor_false]
 ·subst h
  rw[Nat.testBit_two_pow_add_eq,Nat.testBit_lt_two_pow hr]
  simp
 ·have h0:2 ^ (k+1)≤2 ^ j:=Nat.pow_le_pow_right (by omega) h
  have h1:2 ^ (k+1)=2*2 ^ k:=by rw[Nat.pow_succ,Nat.mul_comm]
  rw[Nat.testBit_lt_two_pow (x:=r) (by omega),Nat.testBit_lt_two_pow (x:=2 ^ k+r) (by omega)]
  have:decide (k=j)=false:=by simp;omega
  rw[this];rfl
section
variable {a b:Nat} (ha:a<18446744073709551616) (hb:b<18446744073709551616)
include ha
theorem Wo:HQ .u64 (a:Int) 4294967295=((a % 4294967296:Nat):Int):=by
 unfold HQ
 rw[show(4294967295:Int)=((4294967295:Nat):Int)from rfl,BitVec.toNat_and,tV ha,tV (by omega),D9,show(4294967295:Nat)=2 ^ 32 - 1 from rfl,Nat.and_two_pow_sub_one_eq_mod]
 refine congrArg (Nat.cast:Nat→Int) ?_
 omega
theorem Kg:HQ .u64 (a:Int) 1=((a % 2:Nat):Int):=by
 unfold HQ
 rw[show(1:Int)=((1:Nat):Int)from rfl,BitVec.toNat_and,tV ha,tV (by omega),D9,show a &&& 1=a % 2 from Nat.and_one_is_mod a]
 refine congrArg (Nat.cast:Nat→Int) ?_
 omega
theorem ajW:AB .u64 18446744073709551615 (a:Int)=((18446744073709551615 - a:Nat):Int):=by
 unfold AB
 show IntKind.wrap .u64 ((BitVec.ofInt 64 18446744073709551615 ^^^ BitVec.ofInt 64 (a:Int)).toNat:Int)=_
 have e:BitVec.ofInt 64 (18446744073709551615:Int)=BitVec.allOnes 64:=by decide
 have h:(BitVec.ofInt 64 (a:Int)).toNat=a:=tV ha
 rw[e,BitVec.xor_comm,BitVec.xor_allOnes,BitVec.toNat_not,h,D9]
 refine congrArg (Nat.cast:Nat→Int) ?_
 show(2 ^ 64 - 1 - a) % 18446744073709551616=_
 omega
omit ha in
theorem Lf (a n:Nat) (hn:n<64):HR .u64 (a:Int) (n:Int)=((a / 2 ^ n:Nat):Int):=by
 unfold HR
 rw[zaQ,show min n IntKind.u64.bits=n from Nat.min_eq_left (Nat.le_of_lt hn)]
 rw[show(2:Int) ^ n=((2 ^ n:Nat):Int) by simp,Int.natCast_ediv]
 exact Int.fdiv_eq_ediv_of_nonneg _ (zbR _)
omit ha in
theorem Lg (a n:Nat) (hn:n<64):E0 .u64 (a:Int) (n:Int)=((a*2 ^ n % 18446744073709551616:Nat):Int):=by
 unfold E0
 rw[zaQ,show min n IntKind.u64.bits=n from Nat.min_eq_left (Nat.le_of_lt hn),show(a:Int)*2 ^ n=((a*2 ^ n:Nat):Int) by simp,D9]
omit ha in
theorem Zq {x y k:Nat} (hy:y<2 ^ k) (h:x*2 ^ k+y<18446744073709551616):Z2 .u64 ((x*2 ^ k:Nat):Int) (y:Int)=((x*2 ^ k+y:Nat):Int):=by
 unfold Z2
 rw[BitVec.toNat_or,tV (by omega),tV (by omega), ← Nat.shiftLeft_eq, ← Nat.shiftLeft_add_eq_or_of_lt hy,D9,Nat.shiftLeft_eq]
 refine congrArg (Nat.cast:Nat→Int) ?_
 omega
theorem abe:AB .u64 (a:Int) 9223372036854775808=(((a+9223372036854775808) % 18446744073709551616:Nat):Int):=by
 unfold AB
 rw[show(9223372036854775808:Int)=((9223372036854775808:Nat):Int)from rfl,BitVec.toNat_xor,tV ha,tV (by omega),D9]
 refine congrArg (Nat.cast:Nat→Int) ?_
 have k0:=Qa (k:=63) (r:=a)
 have k1:=Qa (k:=63) (r:=a - 9223372036854775808)
 rw[show(2:Nat) ^ 63=9223372036854775808 by decide]at k0 k1
 by_cases h:a<9223372036854775808
 ·rw[k0 h];omega
 ·have e:a=9223372036854775808+(a - 9223372036854775808):=by omega
  have hk:=k1 (by omega)
  have:a ^^^ 9223372036854775808=a - 9223372036854775808:=by
   generalize a - 9223372036854775808=r at *
   rw[e, ← hk,Nat.xor_assoc,Nat.xor_self,Nat.xor_zero]
  rw[this];omega
end
theorem pY (n:Int):mh n=(n+9223372036854775808) % 18446744073709551616 - 9223372036854775808:=by unfold mh;rw[IntKind.wrap_i64]
def eZ (a:Int):Prop:= -9223372036854775808≤a∧a<9223372036854775808
theorem Dx (n:Int):eZ (mh n):=by unfold eZ;rw[pY];omega
theorem agQ {n:Int} (h:eZ n):mh n=n:=by unfold eZ at h;rw[pY];omega
theorem adn (n:Int):mh (n % 18446744073709551616)=mh n:=by rw[pY,pY];omega
theorem YtpjadlleefgcpaaGreat (a b i:Nat):(a*(b % 2 ^ i)+a*2 ^ i*(b / 2 ^ i % 2))=a*(b % 2 ^ (i+1)):=by
 rw[Nat.mod_pow_succ,Nat.mul_add,Nat.mul_assoc]
theorem Zs {A b bit:Nat} (hb:0<b) (agR:bit<2):(2*A+bit) / b=2*(A / b)+(if b≤2*(A % b)+bit then 1 else 0)∧(2*A+bit) % b=(if b≤2*(A % b)+bit then 2*(A % b)+bit - b else 2*(A % b)+bit):=by
 have h1:=Nat.div_add_mod A b
 have h2:=zbW A hb
 generalize A / b=q at *
 generalize A % b=r at *
 have e:2*A+bit=b*(2*q)+(2*r+bit):=by rw[← h1,Nat.mul_add, ← Nat.mul_assoc,Nat.mul_comm 2 b,Nat.mul_assoc];omega
 rw[e,Nat.mul_add_div hb,Nat.mul_add_mod]
 by_cases c:b≤2*r+bit
 ·rw [if_pos c,if_pos c]
  have h4:(2*r+bit) / b=1:=Nat.div_eq_of_lt_le (by rw[Nat.one_mul];exact c) (by omega)
  have h3:=Nat.div_add_mod (2*r+bit) b
  rw[h4,Nat.mul_one]at h3
  rw[h4]
  omega
 ·rw [if_neg c,if_neg c,Nat.div_eq_of_lt (by omega),Nat.mod_eq_of_lt (by omega)]
  omega
theorem Zt (a b:Int):a.tdiv b=if(decide (a<0) != decide (b<0))=true then -((a.natAbs / b.natAbs:Nat):Int)else((a.natAbs / b.natAbs:Nat):Int):=by
 rcases(by omega:a<0∨0≤a)with h1|h1<;>rcases(by omega:b<0∨0≤b)with h2|h2
 ·obtain⟨x,rfl⟩ : ∃ x:Nat,a = -(x:Int):=⟨a.natAbs,by omega⟩
  obtain⟨y,rfl⟩ : ∃ y:Nat,b = -(y:Int):=⟨b.natAbs,by omega⟩
  rw[Int.neg_tdiv,Int.tdiv_neg,Int.neg_neg,Int.natAbs_neg,Int.natAbs_neg,zbs,zbs,if_neg (by rw[decide_eq_true h1,decide_eq_true h2];simp),Int.ofNat_tdiv]
 ·obtain⟨x,rfl⟩ : ∃ x:Nat,a = -(x:Int):=⟨a.natAbs,by omega⟩
  obtain⟨y,rfl⟩ : ∃ y:Nat,b=(y:Int):=⟨b.natAbs,by omega⟩
  rw[Int.neg_tdiv,Int.natAbs_neg,zbs,zbs,if_pos (by rw[decide_eq_true h1,decide_eq_false (show ¬ ((y:Int)<0) by omega)];rfl),Int.ofNat_tdiv]
 ·obtain⟨x,rfl⟩ : ∃ x:Nat,a=(x:Int):=⟨a.natAbs,by omega⟩
  obtain⟨y,rfl⟩ : ∃ y:Nat,b = -(y:Int):=⟨b.natAbs,by omega⟩
  rw[Int.tdiv_neg,Int.natAbs_neg,zbs,zbs,if_pos (by rw[decide_eq_false (show ¬ ((x:Int)<0) by omega),decide_eq_true h2];rfl),Int.ofNat_tdiv]
 ·obtain⟨x,rfl⟩ : ∃ x:Nat,a=(x:Int):=⟨a.natAbs,by omega⟩
  obtain⟨y,rfl⟩ : ∃ y:Nat,b=(y:Int):=⟨b.natAbs,by omega⟩
  rw[zbs,zbs,if_neg (by rw[decide_eq_false (show ¬ ((x:Int)<0) by omega),decide_eq_false (show ¬ ((y:Int)<0) by omega)];simp),Int.ofNat_tdiv]
theorem NQ (a b:Int):a.tmod b=if a<0 then -((a.natAbs % b.natAbs:Nat):Int)else((a.natAbs % b.natAbs:Nat):Int):=by
 rcases(by omega:a<0∨0≤a)with h1|h1
 ·obtain⟨x,rfl⟩ : ∃ x:Nat,a = -(x:Int):=⟨a.natAbs,by omega⟩
  rw[if_pos h1,Int.neg_tmod,Int.natAbs_neg,zbs]
  rw[Int.tmod_eq_emod_of_nonneg (zbR _)]
  rcases Int.natAbs_eq b with e|e<;>rw[e]<;>simp
 ·obtain⟨x,rfl⟩ : ∃ x:Nat,a=(x:Int):=⟨a.natAbs,by omega⟩
  rw[if_neg (by omega),zbs,Int.tmod_eq_emod_of_nonneg (zbR _)]
  rcases Int.natAbs_eq b with e|e<;>rw[e]<;>simp
end Go.Abs
namespace Go.Abs
set_option maxRecDepth 8000
open Go.Proofs
abbrev lz (a:Nat):D:= .int .u64 (a:Int)
section
variable {a b:Nat} (ha:a<18446744073709551616) (hb:b<18446744073709551616) (s:St)
include ha
theorem Lh:az Tryz.prog 184 [lz a] s (lz (a % 4294967296)) s:=by
 refine az.pure ?_ rfl rfl s
 have e:=Wo ha
 unfold S0
 refine az.go MC.h rfl fun B Q hB hQ=>?_
 have⟨hD,hY,hZ,gC⟩:=bb
 repeat' (first
 |simp only[go_sem,hD,hY,hZ,gC,e]
 |(with_reducible refine ax hQ ?_;exact aB))
omit ha in
theorem NR:az Tryz.prog 185 [lz a] s (lz (a / 4294967296)) s:=by
 refine az.pure ?_ rfl rfl s
 have e:HR .u64 (a:Int) 32=((a / 4294967296:Nat):Int):=Lf a 32 (by omega)
 have h1:((32:Int)<0)=False:=by simp
 unfold S0
 refine az.go KI.h rfl fun B Q hB hQ=>?_
 have⟨hD,hY,hZ,gC⟩:=bb
 repeat' (first
 |simp only[go_sem,hD,hY,hZ,gC,e,h1,if_false]
 |(with_reducible refine ax hQ ?_;exact aB))
include hb
theorem Dy:az Tryz.prog 162 [lz a,lz b] s (lz ((a+b) % 18446744073709551616)) s:=by
 refine az.pure ?_ rfl rfl s
 have c1:=fun s=>Lh ha s
 have c2:=fun s=>Lh hb s
 have c3:=fun s=>NR (a:=a) s
 have c4:=fun s=>NR (a:=b) s
 have w1:IntKind.wrap .u64 (((a % 4294967296:Nat):Int)+((b % 4294967296:Nat):Int))=((a % 4294967296+b % 4294967296:Nat):Int):=by rw[FV];omega
 have w2:IntKind.wrap .u64 (((a / 4294967296:Nat):Int)+((b / 4294967296:Nat):Int))=((a / 4294967296+b / 4294967296:Nat):Int):=by rw[FV];omega
 obtain⟨l,hl⟩ : ∃ l,a % 4294967296+b % 4294967296=l:=⟨_,rfl⟩
 obtain⟨u,hh⟩ : ∃ u,a / 4294967296+b / 4294967296=u:=⟨_,rfl⟩
 rw[hl]at w1
 rw[hh]at w2
 have c5:=fun s=>Lh (a:=l) (by omega) s
 have c6:=fun s=>NR (a:=l) s
 have w3:IntKind.wrap .u64 ((u:Int)+((l / 4294967296:Nat):Int))=((u+l / 4294967296:Nat):Int):=by rw[FV];omega
 obtain⟨g,hg⟩ : ∃ g,u+l / 4294967296=g:=⟨_,rfl⟩
 rw[hg]at w3
 have c7:=fun s=>Lh (a:=g) (by omega) s
 have e1:E0 .u64 ((g % 4294967296:Nat):Int) 32=((g % 4294967296*4294967296 % 18446744073709551616:Nat):Int):=Lg (g % 4294967296) 32 (by omega)
 rw[show g % 4294967296*4294967296 % 18446744073709551616=g % 4294967296*4294967296 by omega]at e1
 have e2:=Zq (x:=g % 4294967296) (y:=l % 4294967296) (k:=32) (by rw[show(2:Nat) ^ 32=4294967296 from rfl];omega) (by rw[show(2:Nat) ^ 32=4294967296 from rfl];omega)
 rw[show(2:Nat) ^ 32=4294967296 from rfl,show g % 4294967296*4294967296+l % 4294967296=(a+b) % 18446744073709551616 by omega]at e2
 have h1:((32:Int)<0)=False:=by simp
 generalize (a+b) % 18446744073709551616=R at *
 generalize hx:g % 4294967296*4294967296=X at *
 generalize a % 4294967296=a1 at *
 generalize b % 4294967296=b1 at *
 generalize a / 4294967296=a2 at *
 generalize b / 4294967296=b2 at *
 generalize l % 4294967296=l1 at *
 generalize l / 4294967296=l2 at *
 generalize g % 4294967296=g1 at *
 clear hx
 unfold S0
 refine az.go My.h rfl fun B Q hB hQ=>?_
 have⟨hD,hY,hZ,gC⟩:=bb
 repeat' (first
 |simp only[go_sem,hD,hY,hZ,gC,w1,w2,w3,e1,e2,h1,if_false]
 |(with_reducible refine CU (c1 _) ?_)
 |(with_reducible refine CU (c2 _) ?_)
 |(with_reducible refine CU (c3 _) ?_)
 |(with_reducible refine CU (c4 _) ?_)
 |(with_reducible refine CU (c5 _) ?_)
 |(with_reducible refine CU (c6 _) ?_)
 |(with_reducible refine CU (c7 _) ?_)
 |(with_reducible refine ax hQ ?_;exact aB))
omit hb
theorem uL:az Tryz.prog 160 [lz a] s (lz ((18446744073709551616 - a) % 18446744073709551616)) s:=by
 refine az.pure ?_ rfl rfl s
 have e:=ajW ha
 have c1 : ∀ s,az Tryz.prog 162 [lz (18446744073709551615 - a), .int .u64 1] s (lz ((18446744073709551615 - a+1) % 18446744073709551616)) s:=fun s=>Dy (a:=18446744073709551615 - a) (b:=1) (by omega) (by omega) s
 rw[show(18446744073709551615 - a+1)=18446744073709551616 - a by omega]at c1
 have hm:IntKind.max .u64=18446744073709551615:=by decide
 have hs:IntKind.signed .u64=false:=rfl
 generalize 18446744073709551615 - a=x at *
 generalize (18446744073709551616 - a) % 18446744073709551616=y at *
 unfold S0
 refine az.go GK.h rfl fun B Q hB hQ=>?_
 have⟨hD,hY,hZ,gC⟩:=bb
 repeat' (first
 |simp only[go_sem,hD,hY,hZ,gC,e,hm,hs,zab,if_false]
 |(with_reducible refine CU (c1 _) ?_)
 |(with_reducible refine ax hQ ?_;exact aB))
end
theorem agS {a b:Nat} (ha:a<18446744073709551616) (hb:b<18446744073709551616) (s:St):az Tryz.prog 163 [lz a,lz b] s (lz (a*b % 18446744073709551616)) s:=by
 refine az.pure ?_ rfl rfl s
 generalize hR:a*b % 18446744073709551616=R
 unfold S0
 refine az.go Mz.h rfl fun B Q hB hQ=>?_
 have⟨hD,hY,hZ,gC⟩:=bb
 repeat' (first
 |simp only[go_sem,hD,hY,hZ,gC]
 |(with_reducible refine ax hQ ?_;exact aB))
 refine di 0 0 (aN.ind (ι:=Nat×Nat) (fun i=>i.1≤64∧i.2=a*(b % 2 ^ i.1) % 18446744073709551616) (fun i=>64 - i.1)
  (fun i=> [(0,lz a),(1,lz b),(5,lz i.2),(6, .int .i64 (i.1:Int))]) (fun i=>⟨[],[]⟩) ?_ (0,0) ⟨zaz _,by rw[Nat.pow_zero,Nat.mod_one,Nat.mul_zero]⟩)
 rintro⟨i,m⟩ ⟨h1,h2⟩ IH
 dsimp only at h1 h2
 by_cases hi:i<64
 ·have hD:decide ((i:Int)<64)=true:=by simp;omega
  have hk:i<4611686018427387904:=by omega
  have h0:((i:Int)<0)=False:=by simp
  have w1:IntKind.wrap .u64 (i:Int)=(i:Int):=by rw[FV];omega
  have e1:=Lf b i hi
  have hq:b / 2 ^ i<18446744073709551616:=zbS (Nat.div_le_self _ _) hb
  have e2:=Kg hq
  have e3:=Lg a i hi
  have DK:=YtpjadlleefgcpaaGreat a b i
  rcases Nat.mod_two_eq_zero_or_one (b / 2 ^ i)with Qb|Gk
  ·rw [Qb]at e2 DK
   have e4:((0:Int)==1)=false:=rfl
   repeat' (first
 |simp only[go_sem,hD,hY,hZ,gC,hD,h0,if_false,w1,e1,e2,e4]
 | (with_reducible refine ax hQ ?_;exact aB))
   refine cv 0 0 ?_ ?_ (IH (i+1,m) ⟨by dsimp only;omega,by rw[h2];dsimp only;rw[← DK,Nat.mul_zero,zaS]⟩ (by dsimp only;omega))
   ·(simp only[go_sem,hD,hY,hZ,gC,aw hk];try exact aU)
   ·(simp only[go_sem,hD,hY,hZ,gC,aw hk];try exact aU)
  ·rw [Gk]at e2 DK
   have e4:((1:Int)==1)=true:=rfl
   have hm:m<18446744073709551616:=by rw[h2];exact zbW _ (by omega)
   have c1:=fun s=>Dy (a:=m) (b:=a*2 ^ i % 18446744073709551616) hm (zbW _ (by omega)) s
   have e5:(m+a*2 ^ i % 18446744073709551616) % 18446744073709551616=a*(b % 2 ^ (i+1)) % 18446744073709551616:=by
    rw[← DK,Nat.mul_one,h2]
    generalize a*(b % 2 ^ i)=x
    generalize a*2 ^ i=y
    omega
   rw[e5]at c1
   generalize hz:a*(b % 2 ^ (i+1)) % 18446744073709551616=z at *
   generalize a*2 ^ i % 18446744073709551616=y at *
   generalize b / 2 ^ i=q at *
   repeat' (first
 |simp only[go_sem,hD,hY,hZ,gC,hD,h0,if_false,w1,e1,e2,e3,e4]
 |(with_reducible refine CU (c1 _) ?_)
 | (with_reducible refine ax hQ ?_;exact aB))
   refine cv 0 0 ?_ ?_ (IH (i+1,z) ⟨by dsimp only;omega,hz.symm⟩ (by dsimp only;omega))
   ·(simp only[go_sem,hD,hY,hZ,gC,aw hk];try exact aU)
   ·(simp only[go_sem,hD,hY,hZ,gC,aw hk];try exact aU)
 ·have hD:decide ((i:Int)<64)=false:=by simp;omega
  have:i=64:=by omega
  subst this
  have e:b % 2 ^ 64=b:=Nat.mod_eq_of_lt hb
  rw[e,hR]at h2
  subst h2
  repeat' (first
 |simp only[go_sem,hD,hY,hZ,gC,hD]
 |(with_reducible refine ax hQ ?_;exact aB))
theorem agT {a b:Nat} (ha:a<18446744073709551616) (hb:b<18446744073709551616) (Qb:0<b) (s:St):az Tryz.prog 186 [lz a,lz b] s (.tuple [lz (a / b),lz (a % b)]) s:=by
 refine az.pure ?_ rfl rfl s
 generalize hR1:a / b=R1
 generalize hR2:a % b=R2
 unfold S0
 refine az.go MD.h rfl fun B Q hB hQ=>?_
 have⟨hD,hY,hZ,gC⟩:=bb
 repeat' (first
 |simp only[go_sem,hD,hY,hZ,gC]
 |(with_reducible refine ax hQ ?_;exact aB))
 refine di 0 0 (aN.ind (ι:=Nat×Nat×Nat×Int) (fun i=>i.1≤64∧i.2.1=a / 2 ^ i.1 / b*2 ^ i.1∧i.2.2.1=a / 2 ^ i.1 % b∧i.2.2.2=(i.1:Int) - 1) (fun i=>i.1)
  (fun i=> [(0,lz a),(1,lz b),(6,lz i.2.1),(7,lz i.2.2.1),(8, .int .i64 i.2.2.2)]) (fun i=>⟨[],[]⟩) ?_ (64,0,0,63) ⟨zal _,by rw[Nat.div_eq_of_lt (show a<2 ^ 64 from ha),Nat.zero_div,Nat.zero_mul],by rw[Nat.div_eq_of_lt (show a<2 ^ 64 from ha),Nat.zero_mod],rfl⟩)
 rintro⟨n,q,r,j⟩ ⟨h1,h2,h3,h4⟩ IH
 dsimp only at h1 h2 h3 h4
 subst h4
 cases n with
 |zero=>
  have o7:decide ((0:Int) - 1≥0)=false:=rfl
  rw[Nat.pow_zero,Nat.div_one]at h2 h3
  rw[Nat.mul_one,hR1]at h2
  rw[hR2]at h3
  subst h2 h3
  repeat' (first
 |simp only[go_sem,hD,hY,hZ,gC,o7]
 |(with_reducible refine ax hQ ?_;exact aB))
 | succ i=>
  have hj:((i+1:Nat):Int) - 1=(i:Int):=by omega
  rw[hj]
  have o7:decide ((i:Int)≥0)=true:=by simp
  have h0:((i:Int)<0)=False:=by simp
  have wd:IntKind.wrap .i64 ((i:Int) - 1)=(i:Int) - 1:=dv (by omega) (by omega)
  have w1:IntKind.wrap .u64 (i:Int)=(i:Int):=by rw[FV];omega
  have hrb:r<b:=by rw[h3];exact zbW _ Qb
  have hA:a / 2 ^ i=2*(a / 2 ^ (i+1))+a / 2 ^ i % 2:=by
   have e:a / 2 ^ (i+1)=a / 2 ^ i / 2:=by rw[Nat.pow_succ, ← Nat.div_div_eq_div_mul]
   rw[e];omega
  have hq:a / 2 ^ i<18446744073709551616:=zbS (Nat.div_le_self _ _) ha
  have e1:HR .u64 (r:Int) 63=((r / 9223372036854775808:Nat):Int):=Lf r 63 (by omega)
  have e2:E0 .u64 (r:Int) 1=((r*2 % 18446744073709551616:Nat):Int):=Lg r 1 (by omega)
  have e3:=Lf a i (by omega)
  have e4:=Kg hq
  have agR:=zbW (a / 2 ^ i) (show 0<2 by omega)
  obtain⟨d1,d2⟩:=Zs (A:=a / 2 ^ (i+1)) Qb agR
  rw[← hA, ← h3]at d1 d2
  have hle:a / 2 ^ i / b*2 ^ i≤a:=zaW (zaO _ (Nat.div_le_self _ _)) (Nat.div_mul_le_self _ _)
  have hp:2 ^ (i+1)=2*2 ^ i:=by rw[Nat.pow_succ,Nat.mul_comm]
  generalize hbt:a / 2 ^ i % 2=bit at *
  generalize hK:a / 2 ^ (i+1) / b=K at *
  rw[show r*2 % 18446744073709551616=r % 9223372036854775808*2 ^ 1 by rw[show(2:Nat) ^ 1=2 from rfl];omega]at e2
  have e5:=Zq (x:=r % 9223372036854775808) (y:=bit) (k:=1) (by rw[show(2:Nat) ^ 1=2 from rfl];omega) (by rw[show(2:Nat) ^ 1=2 from rfl];omega)
  rw[show(2:Nat) ^ 1=2 from rfl]at e2 e5
  have h63:((63:Int)<0)=False:=by simp
  have o9:((1:Int)<0)=False:=by simp
  generalize MK:r % 9223372036854775808*2+bit=R at *
  generalize hX:r % 9223372036854775808*2=X at *
  have c1:=fun s=>uL hb s
  have PK:R<18446744073709551616:=by omega
  have c2:=fun s=>Dy (a:=R) (b:=(18446744073709551616 - b) % 18446744073709551616) PK (by omega) s
  have e6:E0 .u64 1 (i:Int)=((2 ^ i:Nat):Int):=by
   have:=Lg 1 i (by omega)
   rw[Nat.one_mul,Nat.mod_eq_of_lt (show 2 ^ i<18446744073709551616 from zaX (Nat.pow_lt_pow_right (by omega) (show i<64 by omega)) (zal _))]at this
   exact this
  generalize hy:(18446744073709551616 - b) % 18446744073709551616=y at *
  by_cases hc:b≤2*r+bit
  ·rw [if_pos hc]at d1 d2
   have hrn:(R+y) % 18446744073709551616=a / 2 ^ i % b:=by rw[d2];omega
   have Wp:q+2 ^ i=a / 2 ^ i / b*2 ^ i:=by rw[h2,d1,hp,zbm,Nat.one_mul,Nat.mul_comm 2 K,Nat.mul_assoc]
   have e7:=Zq (x:=K) (y:=2 ^ i) (k:=i+1) (by rw[hp];have:=Nat.two_pow_pos i;omega) (by rw[← h2,Wp];omega)
   rw[← h2]at e7
   rw[hrn]at c2
   generalize Jl:a / 2 ^ i % b=r' at *
   generalize nq:q+2 ^ i=q' at *
   rcases zaE r 9223372036854775808 with hr|hr
   ·have ec:(((r / 9223372036854775808:Nat):Int)==1)=false:=by simp;omega
    have eg:decide ((R:Int)≥(b:Int))=true:=by simp;omega
    generalize r / 9223372036854775808=cy at *
    repeat' (first
 |simp only[go_sem,hD,hY,hZ,gC,o7,decide_true,h0,h63,o9,if_false,wd,w1,e1,e2,e3,e4,e5,ec,eg,e6,e7]
 |(with_reducible refine CU (c1 _) ?_)
 |(with_reducible refine CU (c2 _) ?_)
 | (with_reducible refine ax hQ ?_;exact aB))
    refine cv 0 0 ?_ ?_ (IH (i,q',r',(i:Int) - 1) ⟨by dsimp only;omega,Wp,Jl.symm,rfl⟩ (by dsimp only;omega))
    ·(simp only[go_sem,hD,hY,hZ,gC,wd];try exact aU)
    ·(simp only[go_sem,hD,hY,hZ,gC,wd];try exact aU)
   ·have ec:(((r / 9223372036854775808:Nat):Int)==1)=true:=by simp;omega
    generalize r / 9223372036854775808=cy at *
    repeat' (first
 |simp only[go_sem,hD,hY,hZ,gC,o7,decide_true,h0,h63,o9,if_false,wd,w1,e1,e2,e3,e4,e5,ec,e6,e7]
 |(with_reducible refine CU (c1 _) ?_)
 |(with_reducible refine CU (c2 _) ?_)
 | (with_reducible refine ax hQ ?_;exact aB))
    refine cv 0 0 ?_ ?_ (IH (i,q',r',(i:Int) - 1) ⟨by dsimp only;omega,Wp,Jl.symm,rfl⟩ (by dsimp only;omega))
    ·(simp only[go_sem,hD,hY,hZ,gC,wd];try exact aU)
    ·(simp only[go_sem,hD,hY,hZ,gC,wd];try exact aU)
  ·rw [if_neg hc]at d1 d2
   have ec:(((r / 9223372036854775808:Nat):Int)==1)=false:=by simp;omega
   have eg:decide ((R:Int)≥(b:Int))=false:=by simp;omega
   have hRn:R=a / 2 ^ i % b:=by rw[d2];omega
   have Wp:q=a / 2 ^ i / b*2 ^ i:=by rw[h2,d1,hp,zaS,Nat.mul_comm 2 K,Nat.mul_assoc]
   generalize r / 9223372036854775808=cy at *
   repeat' (first
 |simp only[go_sem,hD,hY,hZ,gC,o7,decide_true,h0,h63,o9,if_false,wd,w1,e1,e2,e3,e4,e5,ec,eg]
 | (with_reducible refine ax hQ ?_;exact aB))
   refine cv 0 0 ?_ ?_ (IH (i,q,R,(i:Int) - 1) ⟨by dsimp only;omega,Wp,hRn,rfl⟩ (by dsimp only;omega))
   ·(simp only[go_sem,hD,hY,hZ,gC,wd];try exact aU)
   ·(simp only[go_sem,hD,hY,hZ,gC,wd];try exact aU)
end Go.Abs
namespace Go.Abs
set_option maxRecDepth 8000
open Go.Proofs
def gQ (a:Int):Nat:=(a % 18446744073709551616).toNat
theorem mT (a:Int):gQ a<18446744073709551616:=by unfold gQ;omega
theorem Av (a:Int):IntKind.wrap .u64 a=((gQ a:Nat):Int):=by rw[FV];unfold gQ;omega
theorem vE (a:Nat):IntKind.wrap .i64 (a:Int)=mh a:=rfl
section
variable {a b:Int} (ha:eZ a) (hb:eZ b) (s:St)
include ha
theorem Qc:az Tryz.prog 187 [.int .i64 a] s (lz a.natAbs) s:=by
 refine az.pure ?_ rfl rfl s
 have h1:=Av a
 have c1:=fun s=>uL (mT a) s
 unfold eZ at ha
 unfold S0
 rcases zaa (decide (a<0))with b1|b1
 ·have e:(18446744073709551616 - gQ a) % 18446744073709551616=a.natAbs:=by
   have:a<0:=of_decide_eq_true b1
   unfold gQ;omega
  rw[e]at c1
  generalize gQ a=u at *
  generalize a.natAbs=r at *
  refine az.go BX.h rfl fun B Q hB hQ=>?_
  have⟨hD,hY,hZ,gC⟩:=bb
  repeat' (first
 |simp only[go_sem,hD,hY,hZ,gC,b1,h1]
 |(with_reducible refine CU (c1 _) ?_)
 |(with_reducible refine ax hQ ?_;exact aB))
 ·have e:gQ a=a.natAbs:=by
   have : ¬ a<0:=of_decide_eq_false b1
   unfold gQ;omega
  rw[e]at h1
  generalize a.natAbs=r at *
  refine az.go BX.h rfl fun B Q hB hQ=>?_
  have⟨hD,hY,hZ,gC⟩:=bb
  repeat' (first
 |simp only[go_sem,hD,hY,hZ,gC,b1,h1]
 |(with_reducible refine ax hQ ?_;exact aB))
include hb
theorem adp (h0:b≠0):az Tryz.prog 164 [.int .i64 a, .int .i64 b] s (.tuple [.int .i64 (mh (a.tdiv b)), .int .i64 (mh (a.tmod b))]) s:=by
 refine az.pure ?_ rfl rfl s
 have c1:=fun s=>Qc ha s
 have c2:=fun s=>Qc hb s
 unfold eZ at ha hb
 have qk:a.natAbs<18446744073709551616:=by omega
 have hbl:b.natAbs<18446744073709551616:=by omega
 have c3:=fun s=>agT qk hbl (by omega) s
 have Eu:a.natAbs / b.natAbs<18446744073709551616:=zbS (Nat.div_le_self _ _) qk
 have vg:a.natAbs % b.natAbs<18446744073709551616:=zbS (Nat.mod_le _ _) qk
 have c4:=fun s=>uL Eu s
 have c5:=fun s=>uL vg s
 have hd:=Zt a b
 have hm:=NQ a b
 generalize a.tdiv b=Q1 at *
 generalize a.tmod b=Q2 at *
 generalize a.natAbs=x at *
 generalize b.natAbs=y at *
 generalize x / y=q at *
 generalize x % y=r at *
 have k1 : ∀ n:Nat,n<18446744073709551616→mh (((18446744073709551616 - n) % 18446744073709551616:Nat):Int)=mh (-(n:Int)):=fun n hn=>by
  rw[pY,pY];omega
 have k2:=k1 q Eu
 have k3:=k1 r vg
 generalize (18446744073709551616 - q) % 18446744073709551616=tq at *
 generalize (18446744073709551616 - r) % 18446744073709551616=tr at *
 have d1:=vE q
 have d2:=vE r
 have d3:=vE tq
 have d4:=vE tr
 rcases zaa (decide (a<0))with b1|b1
 ·rw [if_pos (of_decide_eq_true b1)]at hm
  rcases zaa (decide (b<0))with b2|b2
  ·rw [b1,b2,if_neg (by simp)]at hd
   have e:(true==true)=true:=rfl
   rw[hd,hm, ← k3]
   unfold S0
   refine az.go ox.h rfl fun B Q hB hQ=>?_
   have⟨hD,hY,hZ,gC⟩:=bb
   repeat' (first
 |simp only[go_sem,hD,hY,hZ,gC,b1,b2,e,zau,zax,d1,d2,d3,d4]
 |(with_reducible refine CU (c1 _) ?_)
 |(with_reducible refine CU (c2 _) ?_)
 |(with_reducible refine CU (c3 _) ?_)
 |(with_reducible refine CU (c4 _) ?_)
 |(with_reducible refine CU (c5 _) ?_)
 | (with_reducible refine ax hQ ?_;exact aB))
  ·rw [b1,b2,if_pos (by simp)]at hd
   have e:(true==false)=false:=rfl
   rw[hd,hm, ← k3, ← k2]
   unfold S0
   refine az.go ox.h rfl fun B Q hB hQ=>?_
   have⟨hD,hY,hZ,gC⟩:=bb
   repeat' (first
 |simp only[go_sem,hD,hY,hZ,gC,b1,b2,e,zau,zax,d1,d2,d3,d4]
 |(with_reducible refine CU (c1 _) ?_)
 |(with_reducible refine CU (c2 _) ?_)
 |(with_reducible refine CU (c3 _) ?_)
 |(with_reducible refine CU (c4 _) ?_)
 |(with_reducible refine CU (c5 _) ?_)
 |(with_reducible refine ax hQ ?_;exact aB))
 ·rw [if_neg (of_decide_eq_false b1)]at hm
  rcases zaa (decide (b<0))with b2|b2
  ·rw [b1,b2,if_pos (by simp)]at hd
   have e:(false==true)=false:=rfl
   rw[hd,hm, ← k2]
   unfold S0
   refine az.go ox.h rfl fun B Q hB hQ=>?_
   have⟨hD,hY,hZ,gC⟩:=bb
   repeat' (first
 |simp only[go_sem,hD,hY,hZ,gC,b1,b2,e,zau,zax,d1,d2,d3,d4]
 |(with_reducible refine CU (c1 _) ?_)
 |(with_reducible refine CU (c2 _) ?_)
 |(with_reducible refine CU (c3 _) ?_)
 |(with_reducible refine CU (c4 _) ?_)
 |(with_reducible refine CU (c5 _) ?_)
 | (with_reducible refine ax hQ ?_;exact aB))
  ·rw [b1,b2,if_neg (by simp)]at hd
   have e:(false==false)=true:=rfl
   rw[hd,hm]
   unfold S0
   refine az.go ox.h rfl fun B Q hB hQ=>?_
   have⟨hD,hY,hZ,gC⟩:=bb
   repeat' (first
 |simp only[go_sem,hD,hY,hZ,gC,b1,b2,e,zau,zax,d1,d2,d3,d4]
 |(with_reducible refine CU (c1 _) ?_)
 |(with_reducible refine CU (c2 _) ?_)
 |(with_reducible refine CU (c3 _) ?_)
 |(with_reducible refine CU (c4 _) ?_)
 |(with_reducible refine CU (c5 _) ?_)
 |(with_reducible refine ax hQ ?_;exact aB))
theorem Wq:az Tryz.prog 188 [.int .i64 a, .int .i64 b] s (.bool (decide (a<b))) s:=by
 refine az.pure ?_ rfl rfl s
 have h1:=Av a
 have h2:=Av b
 have x1:=abe (mT a)
 have x2:=abe (mT b)
 have e:decide ((((gQ a+9223372036854775808) % 18446744073709551616:Nat):Int)<(((gQ b+9223372036854775808) % 18446744073709551616:Nat):Int))=decide (a<b):=by
  unfold eZ at ha hb
  have:(((gQ a+9223372036854775808) % 18446744073709551616:Nat):Int)<(((gQ b+9223372036854775808) % 18446744073709551616:Nat):Int)↔a<b:=by unfold gQ;omega
  simp only[this]
 generalize (gQ a+9223372036854775808) % 18446744073709551616=x at *
 generalize (gQ b+9223372036854775808) % 18446744073709551616=y at *
 generalize gQ a=u at *
 generalize gQ b=v at *
 unfold S0
 refine az.go KK.h rfl fun B Q hB hQ=>?_
 have⟨hD,hY,hZ,gC⟩:=bb
 repeat' (first
 |simp only[go_sem,hD,hY,hZ,gC,h1,h2,x1,x2,e]
 |(with_reducible refine ax hQ ?_;exact aB))
end
theorem wP (b:Bool) (s:St):az Tryz.prog 161 [.bool b] s (.int .i64 (nZ b)) s:=by
 refine az.pure ?_ rfl rfl s
 generalize h:nZ b=R
 simp only[nZ]at h
 unfold S0
 refine az.go Il.h rfl fun B Q hB hQ=>?_
 have⟨hD,hY,hZ,gC⟩:=bb
 repeat' (first
 |simp only[go_sem,hD,hY,hZ,gC]
 |(with_reducible first|refine cf fun hc=>?_|refine cj fun hc=>?_|refine cm (fun hc=>?_) fun hc=>?_)<;>(try simp only[hc,bs,↓reduceIte]at h)<;>try simp only[hc]
 |(with_reducible refine ax hQ ?_;exact fL))
theorem agW (op:Int) {a:Int} (s:St):az Tryz.prog 125 [.int .i64 op, .int .i64 a] s (oY (Bh op a)) s:=by
 refine az.pure ?_ rfl rfl s
 generalize h:Bh op a=R
 simp only[Bh]at h
 have h1:=Av a
 have c1:=fun s=>uL (mT a) s
 have e:mh (((18446744073709551616 - gQ a) % 18446744073709551616:Nat):Int)=mh (0 - a):=by
  have:=mT a
  rw[pY,pY]
  unfold gQ at *
  omega
 have d:=vE ((18446744073709551616 - gQ a) % 18446744073709551616)
 rw[e]at d
 generalize (18446744073709551616 - gQ a) % 18446744073709551616=x at *
 generalize gQ a=u at *
 unfold S0
 refine az.go MH.h rfl fun B Q hB hQ=>?_
 have⟨hD,hY,hZ,gC⟩:=bb
 repeat' (first
 |simp only[go_sem,hD,hY,hZ,gC,h1,d]
 |(with_reducible refine CU (c1 _) ?_)
 |(with_reducible refine CU (wP _ _) ?_)
 |(with_reducible first|refine cf fun hc=>?_|refine cj fun hc=>?_|refine cm (fun hc=>?_) fun hc=>?_)<;>(try simp only[hc,bs,↓reduceIte]at h)<;>try simp only[hc]
 |(with_reducible refine ax hQ ?_;(try cases h);simp only[bF,bG,bZ,cb,go_sem,hD,hY,hZ,gC,h1,d];try exact eQ))
theorem Tl (op:Int) {a b:Int} (ha:eZ a) (hb:eZ b) (s:St):az Tryz.prog 165 [.int .i64 op, .int .i64 a, .int .i64 b] s
 (oY (if op==16 then(nZ (!(a==0) && !(b==0)),true)else if op==17 then(nZ (!(a==0) || !(b==0)),true)else Bi op a b)) s:=by
 refine az.pure ?_ rfl rfl s
 have c1:=fun s=>Wq ha hb s
 have c2:=fun s=>Wq hb ha s
 have e1:decide (a≤b) = !(decide (b<a)):=by
  rw[← decide_not]
  congr 1
  simp
 have e2:decide (a≥b) = !(decide (a<b)):=by
  rw[← decide_not]
  congr 1
  simp
 have e3:decide (a > b)=decide (b<a):=rfl
 have e4:(a != b) = !(a==b):=rfl
 have e5:(a != 0) = !(a==0):=rfl
 have e6:(b != 0) = !(b==0):=rfl
 generalize h:(if op==16 then(nZ (!(a==0) && !(b==0)),true)else if op==17 then(nZ (!(a==0) || !(b==0)),true)else Bi op a b)=R
 simp only[Bi,e1,e2,e3]at h
 rcases zaa (op==16)with xA|xA
 ·have o:op=16:=by simpa using xA
  have Ht:(op==10)=false:=by simp[o]
  have Hu:(op==11)=false:=by simp[o]
  have Hv:(op==12)=false:=by simp[o]
  have Hw:(op==13)=false:=by simp[o]
  have Hx:(op==14)=false:=by simp[o]
  have n15:(op==15)=false:=by simp[o]
  simp only[xA,if_true]at h
  unfold S0
  rcases zaa (a==0)with z|z
  ·simp only [z,zau,zaN]at h
   refine az.go mP.h rfl fun B Q hB hQ=>?_
   have⟨hD,hY,hZ,gC⟩:=bb
   repeat' (first
 |simp only[go_sem,hD,hY,hZ,gC,Ht,Hu,Hv,Hw,Hx,n15,xA,e5,e6,z,zau]
 |(with_reducible refine CU (wP _ _) ?_)
 |(with_reducible first|refine cf fun hc=>?_|refine cj fun hc=>?_|refine cm (fun hc=>?_) fun hc=>?_)<;>(try simp only[hc,bs,↓reduceIte]at h)<;>try simp only[hc]
 |(with_reducible refine ax hQ ?_;(try cases h);simp only[bF,bG,bZ,cb,go_sem,hD,hY,hZ,gC,Ht,Hu,Hv,Hw,Hx,n15,xA,e5,e6,z,zau];try exact eQ)
 | (cases h;done))
  ·simp only [z,zax,zbf]at h
   refine az.go mP.h rfl fun B Q hB hQ=>?_
   have⟨hD,hY,hZ,gC⟩:=bb
   repeat' (first
 |simp only[go_sem,hD,hY,hZ,gC,Ht,Hu,Hv,Hw,Hx,n15,xA,e5,e6,z,zax]
 |(with_reducible refine CU (wP _ _) ?_)
 |(with_reducible first|refine cf fun hc=>?_|refine cj fun hc=>?_|refine cm (fun hc=>?_) fun hc=>?_)<;>(try simp only[hc,bs,↓reduceIte]at h)<;>try simp only[hc]
 |(with_reducible refine ax hQ ?_;(try cases h);simp only[bF,bG,bZ,cb,go_sem,hD,hY,hZ,gC,Ht,Hu,Hv,Hw,Hx,n15,xA,e5,e6,z,zax];try exact eQ)
 |(cases h;done))
 rcases zaa (op==17)with ES|ES
 ·have o:op=17:=by simpa using ES
  have Ht:(op==10)=false:=by simp[o]
  have Hu:(op==11)=false:=by simp[o]
  have Hv:(op==12)=false:=by simp[o]
  have Hw:(op==13)=false:=by simp[o]
  have Hx:(op==14)=false:=by simp[o]
  have n15:(op==15)=false:=by simp[o]
  simp only[xA,ES,zab,if_false,if_true]at h
  unfold S0
  rcases zaa (a==0)with z|z
  ·simp only [z,zau,zbg]at h
   refine az.go mP.h rfl fun B Q hB hQ=>?_
   have⟨hD,hY,hZ,gC⟩:=bb
   repeat' (first
 |simp only[go_sem,hD,hY,hZ,gC,Ht,Hu,Hv,Hw,Hx,n15,xA,ES,e5,e6,z,zau]
 |(with_reducible refine CU (wP _ _) ?_)
 |(with_reducible first|refine cf fun hc=>?_|refine cj fun hc=>?_|refine cm (fun hc=>?_) fun hc=>?_)<;>(try simp only[hc,bs,↓reduceIte]at h)<;>try simp only[hc]
 |(with_reducible refine ax hQ ?_;(try cases h);simp only[bF,bG,bZ,cb,go_sem,hD,hY,hZ,gC,Ht,Hu,Hv,Hw,Hx,n15,xA,ES,e5,e6,z,zau];try exact eQ)
 | (cases h;done))
  ·simp only [z,zax,zbj]at h
   refine az.go mP.h rfl fun B Q hB hQ=>?_
   have⟨hD,hY,hZ,gC⟩:=bb
   repeat' (first
 |simp only[go_sem,hD,hY,hZ,gC,Ht,Hu,Hv,Hw,Hx,n15,xA,ES,e5,e6,z,zax]
 |(with_reducible refine CU (wP _ _) ?_)
 |(with_reducible first|refine cf fun hc=>?_|refine cj fun hc=>?_|refine cm (fun hc=>?_) fun hc=>?_)<;>(try simp only[hc,bs,↓reduceIte]at h)<;>try simp only[hc]
 |(with_reducible refine ax hQ ?_;(try cases h);simp only[bF,bG,bZ,cb,go_sem,hD,hY,hZ,gC,Ht,Hu,Hv,Hw,Hx,n15,xA,ES,e5,e6,z,zax];try exact eQ)
 |(cases h;done))
 simp only[xA,ES,zab,if_false]at h
 unfold S0
 refine az.go mP.h rfl fun B Q hB hQ=>?_
 have⟨hD,hY,hZ,gC⟩:=bb
 repeat' (first
 |simp only[go_sem,hD,hY,hZ,gC,e4,xA,ES]
 |(with_reducible refine CU (c1 _) ?_)
 |(with_reducible refine CU (c2 _) ?_)
 |(with_reducible refine CU (wP _ _) ?_)
 |(with_reducible first|refine cf fun hc=>?_|refine cj fun hc=>?_|refine cm (fun hc=>?_) fun hc=>?_)<;>(try simp only[hc,bs,↓reduceIte]at h)<;>try simp only[hc]
 |(with_reducible refine ax hQ ?_;(try cases h);simp only[bF,bG,bZ,cb,go_sem,hD,hY,hZ,gC,e4,xA,ES];try exact eQ)
 |(cases h;done))
theorem abf (op:Int) (ho:op=6∨op=7) {a b:Int} (ha:eZ a) (h0:b≠0):FC op a b=(if op==6 then mh (a.tdiv b)else mh (a.tmod b),true):=by
 have Qb:(b==0)=false:=by simpa using h0
 unfold FC
 rw[Qb,if_neg (by simp)]
 have hm:mh (a.tmod b)=a.tmod b:=agQ (by
  unfold eZ at *
  rw[NQ]
  have:a.natAbs % b.natAbs≤a.natAbs:=Nat.mod_le _ _
  have h2:a.natAbs % b.natAbs<b.natAbs:=zbW _ (by omega)
  split
  ·omega
  ·omega)
 by_cases h1:(b == -1)=true
 ·have e:b = -1:=by simpa using h1
  subst e
  rw[if_pos h1]
  rcases ho with rfl|rfl
  ·rw [if_neg (by decide)]
   have ht:a.tdiv (-1) = -a:=by rw[Int.tdiv_neg,Int.tdiv_one]
   show _=(mh (a.tdiv (-1)),true)
   rw[ht]
   by_cases c:(a == -9223372036854775808)=true
   ·have:a = -9223372036854775808:=by simpa using c
    subst this
    rw[if_pos c];rfl
   ·rw[if_neg c,Int.zero_sub]
  ·rw [if_pos (by decide),if_neg (by decide),hm]
   have:a.tmod (-1)=0:=by rw[Int.tmod_neg,Int.tmod_one]
   rw[this]
 ·rw [if_neg h1]
  rcases ho with rfl|rfl
  ·rw[if_neg (by decide)];rfl
  ·rw[if_pos (by decide),if_neg (by decide),hm]
end Go.Abs
namespace Go.Abs
set_option maxRecDepth 8000
open Go.Proofs
theorem adq (a b:Int):mh (((gQ a+gQ b) % 18446744073709551616:Nat):Int)=mh (a+b):=by
 have:=mT a;have:=mT b
 rw[pY,pY];unfold gQ at *;omega
theorem adr (a b:Int):mh (((gQ a+(18446744073709551616 - gQ b) % 18446744073709551616) % 18446744073709551616:Nat):Int)=mh (a - b):=by
 have:=mT a;have:=mT b
 rw[pY,pY];unfold gQ at *;omega
theorem Qd (a:Int):((gQ a:Nat):Int)=a % 18446744073709551616:=by unfold gQ;omega
theorem ads (a b:Int):mh ((gQ a*gQ b % 18446744073709551616:Nat):Int)=mh (a*b):=by
 rw[show((gQ a*gQ b % 18446744073709551616:Nat):Int)=((gQ a:Nat):Int)*((gQ b:Nat):Int) % 18446744073709551616 by simp,Qd,Qd, ← Int.mul_emod,adn]
theorem agX (op:Int) {a b:Int} (ha:eZ a) (hb:eZ b) (s:St):az Tryz.prog 126 [.int .i64 op, .int .i64 a, .int .i64 b] s (oY (uE op a b)) s:=by
 refine az.pure ?_ rfl rfl s
 have h1:=Av a
 have h2:=Av b
 generalize h:uE op a b=R
 rcases zaa (op==8)with b8|b8
 ·have c1:=fun s=>Dy (mT a) (mT b) s
  have d:=vE ((gQ a+gQ b) % 18446744073709551616)
  rw[adq]at d
  simp only[uE,b8,if_true]at h
  generalize (gQ a+gQ b) % 18446744073709551616=z at *
  generalize gQ a=u at *
  generalize gQ b=v at *
  unfold S0
  refine az.go lr.h rfl fun B Q hB hQ=>?_
  have⟨hD,hY,hZ,gC⟩:=bb
  repeat' (first
 |simp only[go_sem,hD,hY,hZ,gC,b8,h1,h2,d]
 |(with_reducible refine CU (c1 _) ?_)
 |(with_reducible first|refine cf fun hc=>?_|refine cj fun hc=>?_|refine cm (fun hc=>?_) fun hc=>?_)<;>(try simp only[hc,bs,↓reduceIte]at h)<;>try simp only[hc]
 |(with_reducible refine ax hQ ?_;(try cases h);simp only[bF,bG,bZ,cb,go_sem,hD,hY,hZ,gC,b8,h1,h2,d];try exact eQ))
 rcases zaa (op==9)with b9|b9
 ·have c0:=fun s=>uL (mT b) s
  have c1:=fun s=>Dy (mT a) (b:=(18446744073709551616 - gQ b) % 18446744073709551616) (zbW _ (by omega)) s
  have d:=vE ((gQ a+(18446744073709551616 - gQ b) % 18446744073709551616) % 18446744073709551616)
  rw[adr]at d
  simp only[uE,b8,b9,if_true,zab,if_false]at h
  generalize (gQ a+(18446744073709551616 - gQ b) % 18446744073709551616) % 18446744073709551616=z at *
  generalize (18446744073709551616 - gQ b) % 18446744073709551616=y at *
  generalize gQ a=u at *
  generalize gQ b=v at *
  unfold S0
  refine az.go lr.h rfl fun B Q hB hQ=>?_
  have⟨hD,hY,hZ,gC⟩:=bb
  repeat' (first
 |simp only[go_sem,hD,hY,hZ,gC,b8,b9,h1,h2,d]
 |(with_reducible refine CU (c0 _) ?_)
 |(with_reducible refine CU (c1 _) ?_)
 |(with_reducible first|refine cf fun hc=>?_|refine cj fun hc=>?_|refine cm (fun hc=>?_) fun hc=>?_)<;>(try simp only[hc,bs,↓reduceIte]at h)<;>try simp only[hc]
 |(with_reducible refine ax hQ ?_;(try cases h);simp only[bF,bG,bZ,cb,go_sem,hD,hY,hZ,gC,b8,b9,h1,h2,d];try exact eQ))
 rcases zaa (op==5)with b5|b5
 ·have c1:=fun s=>agS (mT a) (mT b) s
  have d:=vE (gQ a*gQ b % 18446744073709551616)
  rw[ads]at d
  simp only[uE,b8,b9,b5,if_true,zab,if_false]at h
  generalize gQ a*gQ b % 18446744073709551616=z at *
  generalize gQ a=u at *
  generalize gQ b=v at *
  unfold S0
  refine az.go lr.h rfl fun B Q hB hQ=>?_
  have⟨hD,hY,hZ,gC⟩:=bb
  repeat' (first
 |simp only[go_sem,hD,hY,hZ,gC,b8,b9,b5,h1,h2,d]
 |(with_reducible refine CU (c1 _) ?_)
 |(with_reducible first|refine cf fun hc=>?_|refine cj fun hc=>?_|refine cm (fun hc=>?_) fun hc=>?_)<;>(try simp only[hc,bs,↓reduceIte]at h)<;>try simp only[hc]
 |(with_reducible refine ax hQ ?_;(try cases h);simp only[bF,bG,bZ,cb,go_sem,hD,hY,hZ,gC,b8,b9,b5,h1,h2,d];try exact eQ))
 clear h1 h2
 rcases zaa (op==6 ||op==7)with ET|ET
 ·simp only [uE,b8,b9,b5,ET,if_true,zab,if_false]at h
  rcases zaa (b==0)with z|z
  ·unfold FC at h
   rw[if_pos z]at h
   subst h
   rcases zaa (op==6)with b6|b6
   ·unfold S0
    refine az.go lr.h rfl fun B Q hB hQ=>?_
    have⟨hD,hY,hZ,gC⟩:=bb
    repeat' (first
 |simp only[go_sem,hD,hY,hZ,gC,b8,b9,b5,b6,z]
 | (with_reducible refine ax hQ ?_;exact aB))
   ·rw [b6,zbg]at ET
    unfold S0
    refine az.go lr.h rfl fun B Q hB hQ=>?_
    have⟨hD,hY,hZ,gC⟩:=bb
    repeat' (first
 |simp only[go_sem,hD,hY,hZ,gC,b8,b9,b5,b6,ET,z]
 | (with_reducible refine ax hQ ?_;exact aB))
  ·have hz:b≠0:=by simpa using z
   have c1:=fun s=>adp ha hb s hz
   rw[abf op (by simpa using ET) ha hz]at h
   rcases zaa (op==6)with b6|b6
   ·rw [if_pos b6]at h
    subst h
    unfold S0
    refine az.go lr.h rfl fun B Q hB hQ=>?_
    have⟨hD,hY,hZ,gC⟩:=bb
    repeat' (first
 |simp only[go_sem,hD,hY,hZ,gC,b8,b9,b5,b6,z]
 |(with_reducible refine CU (c1 _) ?_)
 | (with_reducible refine ax hQ ?_;exact aB))
   ·rw [if_neg (by simp [b6])]at h
    rw[b6,zbg]at ET
    subst h
    unfold S0
    refine az.go lr.h rfl fun B Q hB hQ=>?_
    have⟨hD,hY,hZ,gC⟩:=bb
    repeat' (first
 |simp only[go_sem,hD,hY,hZ,gC,b8,b9,b5,b6,ET,z]
 |(with_reducible refine CU (c1 _) ?_)
 |(with_reducible refine ax hQ ?_;exact aB))
 ·simp only [uE,b8,b9,b5,ET,zab,if_false]at h
  have c1:=fun s=>Tl op ha hb s
  rw[h]at c1
  simp only[Bool.or_eq_false_iff]at ET
  obtain⟨b6,b7⟩:=ET
  unfold S0
  refine az.go lr.h rfl fun B Q hB hQ=>?_
  have⟨hD,hY,hZ,gC⟩:=bb
  repeat' (first
 |simp only[go_sem,hD,hY,hZ,gC,b8,b9,b5,b6,b7]
 |(with_reducible refine CU (c1 _) ?_)
 |(with_reducible refine ax hQ ?_;exact aB))
def yA (name:aF) (bu:List Int):Nat→List aF→Int
 |_,[]=>0
 |k,s::l=>if s==name then bu.getD k 0 else yA name bu (k+1) l
theorem Kh (name:aF) (bu:List Int) : ∀ (l:List aF) (k:Nat),yA name bu k l=if fS name k l≥0 then bu.getD (fS name k l).toNat 0 else 0
 | [],k=>rfl
 | s::l,k=>by
  rw[yA]
  by_cases e:s=name
  ·subst e
   have h1:fS s (k:Int) (s::l)=(k:Int):=by simp[fS]
   rw[h1,if_pos (by simp),if_pos (by omega),zaQ]
  ·have h1:fS name (k:Int) (s::l)=fS name ((k:Int)+1) l:=by
    have e':(name==s)=false:=by simpa using fun c=>e c.symm
    simp[fS,e']
   rw[h1,if_neg (by simpa using e)]
   have:=Kh name bu l (k+1)
   rw[show((k+1:Nat):Int)=(k:Int)+1 by omega]at this
   exact this
theorem agY {names:List aF} {bu:List Int} (hn:names.length<4611686018427387904) (hv:bu.length<4611686018427387904) (name:aF) (s:St) :
 az Tryz.prog 124 [.str name, .slice .shared 1 (names.map encStr), .slice .shared 1 (bu.map bD)] s (.int .i64 (yv name names bu)) s:=by
 refine az.pure ?_ (by simp[D.bM,D.ok,Tag.ok,dz,jm]) rfl s
 have e:yv name names bu=yA name bu 0 names:=by rw[Kh];rfl
 rw[e]
 clear e
 generalize h:yA name bu 0 names=R
 unfold S0
 refine az.go IC.h rfl fun B Q hB hQ=>?_
 have⟨hD,hY,hZ,gC⟩:=bb
 repeat' (first
 |simp only[go_sem,hD,hY,hZ,gC]
 |(with_reducible refine ax hQ ?_;exact aB))
 refine di 0 0 (aN.ind (ι:=List aF×Nat) (fun i=>names.drop i.2=i.1∧yA name bu i.2 i.1=R) (fun i=>i.1.length)
  (fun i=> [(0, .str name),(1, .slice .shared 1 (names.map encStr)),(2, .slice .shared 1 (bu.map bD)),(9, .int .i64 (names.length:Int)),(10, .int .i64 (i.2:Int))]) (fun i=>⟨[],[]⟩) ?_ (names,0) ⟨rfl,h⟩)
 clear h
 rintro⟨rest,k⟩ ⟨h1,h⟩ IH
 dsimp only at h1 h
 cases rest with
 |nil=>
  have hD:=drop_nil h1
  simp only[yA]at h
  subst h
  repeat' (first
 |simp only[go_sem,hD,hY,hZ,gC]
 |(with_reducible refine ax hQ ?_;exact aB))
 | cons a rest=>
  obtain⟨hY,g2,hD,g4⟩:=drop_cons h1
  have aZ:k<4611686018427387904:=by omega
  simp only[yA]at h
  rcases zaa (a==name)with b1|b1
  ·rw [if_pos b1]at h
   rcases zaE k bu.length with hl|hl
   ·have b3:decide ((k:Int)<(bu.length:Int))=true:=by simp [hl]
    have hg:bu[k]? = some R:=by rw[← h,zay,zah hl];rfl
    repeat' (first
 |simp only[go_sem,hD,hY,hZ,gC,b1,b3,hg]
 | (with_reducible refine ax hQ ?_;exact aB))
   ·have b3:decide ((k:Int)<(bu.length:Int))=false:=by simp;omega
    rw[zay,zbC hl,zbx]at h
    subst h
    repeat' (first
 |simp only[go_sem,hD,hY,hZ,gC,b1,b3]
 | (with_reducible refine ax hQ ?_;exact aB))
  ·rw [if_neg (by simp [b1])]at h
   repeat' (first
 |simp only[go_sem,hD,hY,hZ,gC,b1]
 | (with_reducible refine ax hQ ?_;exact aB))
   refine cv 0 0 ?_ ?_ (IH (rest,k+1) ⟨g2,h⟩ (zae _))
   ·(simp only[go_sem,hD,hY,hZ,gC,aw aZ];try exact aU)
   ·(simp only[go_sem,hD,hY,hZ,gC,aw aZ];try exact aU)
theorem Ea (b:Bool):eZ (nZ b):=by unfold eZ nZ;split<;>omega
theorem agZ (op a:Int):eZ (Bh op a).1:=by
 unfold Bh
 split
 ·exact Dx _
 split
 ·exact Ea _
 ·unfold eZ;omega
theorem ag0 (op a b:Int):eZ (Bi op a b).1:=by
 unfold Bi
 iterate 6 (split;exact Ea _)
 unfold eZ;omega
theorem ag1 (op:Int) {a b:Int} (ha:eZ a) (hb:eZ b):eZ (uE op a b).1:=by
 unfold uE
 split
 ·exact Dx _
 split
 ·exact Dx _
 split
 ·exact Dx _
 split
 ·rename_i h
  by_cases h0:b=0
  ·subst h0
   exact(show eZ 0 by unfold eZ;omega)
  ·rw [abf op (by simpa using h) ha h0]
   dsimp only
   split<;>exact Dx _
 split
 ·exact Ea _
 split
 ·exact Ea _
 ·exact ag0 _ _ _
theorem Bz {y:Ex} : ∀ {l:List Ex},Ex.uz l→y∈l→y.jn
 |x::l,h,m=>by
  rcases zap.1 m with rfl|m
  ·exact h.1
  ·exact Bz h.2 m
theorem Eb {y:Ex} {n:Int} : ∀ {l:List Ex},Ex.Ac n l=true→y∈l→y.dp n=true
 | x::l,h,m=>by
  simp only[Ex.Ac]at h
  split at h
  ·cases h
  ·rename_i h'
   rcases zap.1 m with rfl|m
   ·simpa using h'
   ·exact Eb h m
theorem adt {name:aF} {names:List aF} {bu:List Int} (hv : ∀ v∈bu,eZ v):eZ (yv name names bu):=by
 unfold yv
 split
 ·rw [zay]
  cases e:bu[(fS name 0 names).toNat]? with
  |none=>show eZ 0;unfold eZ;omega
  |some v=>exact hv v (zad e)
 ·unfold eZ;omega
theorem Wr {names:List aF} {bu:List Int} (hv : ∀ v∈bu,eZ v) : ∀ (n:Nat) (x:Ex),x.dp (n:Int)=true→x.jn→eZ (x.val names bu).1:=by
 intro n
 induction n with
 |zero=>rintro⟨op,v,name,kids⟩ h;rw[vA]at h;omega
 | succ n ih=>
  rintro⟨op,v,name,kids⟩ h hr
  rw[vA]at h
  obtain⟨_,hk,h⟩:=h
  rw[mI]
  by_cases o1:op=1
  ·subst o1
   rw[if_pos rfl]at h
   rw[if_pos (by simp)]
   have:=hr.1
   unfold eZ;dsimp only;omega
  rw[if_neg o1]at h
  rw[if_neg (by simpa using o1)]
  by_cases o2:op=2
  ·rw [if_pos (by simpa using o2)]
   exact adt hv
  rw[if_neg o2]at h
  rw[if_neg (by simpa using o2)]
  have hd:=h.2.2
  rw[show((n+1:Nat):Int) - 1=(n:Int) by omega]at hd
  have Ke : ∀ y∈kids,eZ (y.val names bu).1:=fun y m=>ih y (Eb hd m) (Bz hr.2 m)
  cases kids with
  |nil=>simp only[zai,wI];unfold eZ;omega
  | cons a kids=>
   have i1:=Ke a (by simp)
   cases kids with
   |nil=>
    simp only[zaf,zai,wI]
    split
    ·exact agZ _ _
    ·show eZ 0;unfold eZ;omega
   |cons b kids=>
    have i2:=Ke b (by simp)
    simp only[zaf,wI]
    split
    ·show eZ 0;unfold eZ;omega
    split
    ·show eZ 0;unfold eZ;omega
    split
    ·show eZ 1;unfold eZ;omega
    split
    ·show eZ 0;unfold eZ;omega
    ·exact ag1 _ i1 i2
theorem adu {names:List aF} {bu:List Int} (hn:names.length<4611686018427387904) (hv:bu.length<4611686018427387904) (hr : ∀ v∈bu,eZ v) : ∀ (n:Nat) (x:Ex),x.dp (n:Int)=true→x.jn→
 az Tryz.prog 90 [.agg (bT x), .slice .shared 1 (names.map encStr), .slice .shared 1 (bu.map bD)] S0 (oY (x.val names bu)) S0:=by
 intro n
 induction n with
 |zero=>rintro⟨op,v,name,kids⟩ h;rw[vA]at h;omega
 | succ n ih=>
  rintro⟨op,v,name,kids⟩ h hx
  rw[vA]at h
  obtain⟨_,hk,h⟩:=h
  have EK:=fun s=>agY hn hv name s
  have Aw:=fun s=>Py op s
  generalize hR:Ex.val names bu ⟨op,v,name,kids⟩=R
  rw[mI]at hR
  unfold S0
  by_cases o1:op=1
  ·subst o1
   simp only[beq_self_eq_true,if_true]at hR
   rw[← hR]
   have e0:kg 1=0:=rfl
   rw[e0]at Aw
   have e1:((0:Int)==0)=true:=rfl
   have e2:((1:Int)==2)=false:=rfl
   show az Tryz.prog 90 _ _ (.tuple [.int .i64 v, .bool true]) _
   refine az.go qn.h rfl fun B Q hB hQ=>?_
   have⟨hD,hY,hZ,gC⟩:=bb
   repeat' (first
 |simp only[go_sem,hD,hY,hZ,gC,e1,e2]
 |(with_reducible refine CU (Aw _) ?_)
 | (with_reducible refine ax hQ ?_;exact aB))
  rw[if_neg o1]at h
  have b1:(op==1)=false:=by simp[o1]
  by_cases o2:op=2
  ·subst o2
   simp only[b1,zab,if_false,beq_self_eq_true,if_true]at hR
   rw[← hR]
   have e0:kg 2=0:=rfl
   rw[e0]at Aw
   have e1:((0:Int)==0)=true:=rfl
   have e2:((2:Int)==2)=true:=rfl
   show az Tryz.prog 90 _ _ (.tuple [.int .i64 (yv name names bu), .bool true]) _
   refine az.go qn.h rfl fun B Q hB hQ=>?_
   have⟨hD,hY,hZ,gC⟩:=bb
   repeat' (first
 |simp only[go_sem,hD,hY,hZ,gC,e1,e2]
 |(with_reducible refine CU (Aw _) ?_)
 |(with_reducible refine CU (EK _) ?_)
 |(with_reducible first|refine cf fun hc=>?_|refine cj fun hc=>?_|refine cm (fun hc=>?_) fun hc=>?_)<;>(try simp only[hc,bs,↓reduceIte]at h)<;>try simp only[hc]
 | (with_reducible refine ax hQ ?_;(try cases h);simp only [bF,bG,bZ,cb,go_sem,hD,hY,hZ,gC,e1,e2];try exact eQ))
  rw[if_neg o2]at h
  have b2:(op==2)=false:=by simp[o2]
  simp only[b1,b2,zab,if_false]at hR
  have hd:=h.2.2
  rw[show((n+1:Nat):Int) - 1=(n:Int) by omega]at hd
  have Ke : ∀ {y:Ex},y∈kids→∀ s,az Tryz.prog 90 [.agg (bT y), .slice .shared 1 (names.map encStr), .slice .shared 1 (bu.map bD)] s (oY (y.val names bu)) s:=fun {y} hy s=>
   az.pure (ih y (Eb hd hy) (Bz hx.2 hy)) (by simp[D.bM,D.ok,Tag.ok,jM,dz,jm]) rfl s
  have ja : ∀ {y:Ex},y∈kids→eZ (y.val names bu).1:=fun {y} hy=>Wr hr n y (Eb hd hy) (Bz hx.2 hy)
  clear h EK
  rename _=R=>h
  rw[← hk]at Aw
  cases kids with
  |nil=>simp[kg]at hk;omega
  | cons a kids=>
   have c1:=fun s=>Ke (y:=a) (by simp) s
   have i1:=ja (y:=a) (by simp)
   cases kids with
   |nil=>
    simp only[zaf,zai,wI]at h
    have Aw : ∀ s,az Tryz.prog 123 [.int .i64 op] s (.int .i64 1) s:=Aw
    have e1:((1:Int)==0)=false:=rfl
    have e2:((1:Int)==1)=true:=rfl
    generalize a.val names bu=r1 at *
    refine az.go qn.h rfl fun B Q hB hQ=>?_
    have⟨hD,hY,hZ,gC⟩:=bb
    repeat' (first
 |simp only[go_sem,hD,hY,hZ,gC,e1,e2]
 |(with_reducible refine CU (Aw _) ?_)
 |(with_reducible refine CU (c1 _) ?_)
 |(with_reducible refine CU (agW _ _) ?_)
 |(with_reducible first|refine cf fun hc=>?_|refine cj fun hc=>?_|refine cm (fun hc=>?_) fun hc=>?_)<;>(try simp only[hc,bs,↓reduceIte]at h)<;>try simp only[hc]
 | (with_reducible refine ax hQ ?_;(try cases h);simp only [bF,bG,bZ,cb,go_sem,hD,hY,hZ,gC,e1,e2];try exact eQ))
   | cons b kids=>
    cases kids with
    |nil=>
     have c2:=fun s=>Ke (y:=b) (by simp) s
     have i2:=ja (y:=b) (by simp)
     have Aw : ∀ s,az Tryz.prog 123 [.int .i64 op] s (.int .i64 2) s:=Aw
     have e0:((2:Int)==0)=false:=rfl
     have e2:((2:Int)==1)=false:=rfl
     have e3 : [bT a,bT b][Int.toNat 1]? = some (bT b):=rfl
     simp only[zaf,zai,wI]at h
     have c3:=fun s=>agX op i1 i2 s
     generalize a.val names bu=r1 at *
     generalize b.val names bu=r2 at *
     have n0:(r1.1 != 0) = !(r1.1==0):=rfl
     refine az.go qn.h rfl fun B Q hB hQ=>?_
     have⟨hD,hY,hZ,gC⟩:=bb
     repeat' (first
 |simp only[go_sem,hD,hY,hZ,gC,e0,e2,e3,n0]
 |(with_reducible refine CU (Aw _) ?_)
 |(with_reducible refine CU (c1 _) ?_)
 |(with_reducible refine CU (c2 _) ?_)
 |(with_reducible refine CU (c3 _) ?_)
 |(with_reducible first|refine cf fun hc=>?_|refine cj fun hc=>?_|refine cm (fun hc=>?_) fun hc=>?_)<;>(try simp only[hc,bs,↓reduceIte]at h)<;>try simp only[hc]
 | (with_reducible refine ax hQ ?_;(try cases h);simp only [bF,bG,bZ,cb,go_sem,hD,hY,hZ,gC,e0,e2,e3,n0];try exact eQ))
    |cons c kids=>simp[kg]at hk;omega
theorem Ki {x:Ex} {names:List aF} {bu:List Int} (hx:x.may=true) (Kj:x.jn) (hn:names.length<4611686018427387904) (hv:bu.length<4611686018427387904) (hr : ∀ v∈bu,eZ v) (s:St) :
 az Tryz.prog 90 [.agg (bT x), .slice .shared 1 (names.map encStr), .slice .shared 1 (bu.map bD)] s (oY (x.bA names bu)) s:=by
 have e:x.bA names bu=x.val names bu:=by unfold Ex.bA;rw[if_pos hx]
 rw[e]
 exact az.pure (adu hn hv hr 20 x (by rw[show((20:Nat):Int)=20 from rfl,xh];exact hx) Kj) (by simp[D.bM,D.ok,Tag.ok,jM,dz,jm]) rfl s
structure vV (m:Mc):Prop where
 steps:0≤m.steps
 trace:(m.trace.length:Int)≤m.steps
 out:(m.out.length:Int)≤m.steps
 reads:0≤m.reads∧m.reads≤m.steps
 st:m.st.length≤101
structure zc (m m':Mc):Prop where
 trace:m'.trace.length≤m.trace.length+1
 out:m'.out.length≤m.out.length+1
 reads:m'.reads=m.reads∨m'.reads=m.reads+1
 steps:m'.steps=m.steps
theorem Ws (W:List Int) (m:Mc) (id:Int) (bu:List Int):(m.event W id bu).trace.length≤m.trace.length+1:=by
 unfold Mc.event
 split<;>simp
theorem nM (W:List Int) (m:Mc) (id:Int) (bu:List Int):zc m (m.event W id bu):=by
 have h:=dL W m id bu
 exact⟨Ws W m id bu,by rw[h.2.2.2.2.2];omega, .inl h.2.2.2.2.1,h.2.2.2.1⟩
theorem Hy (m:Mc) (x:Ex):zc m (m.bA x).2:=by
 have h:=gL m x
 exact⟨by rw[h.2.2.2.2.2];omega,by rw[h.2.2.2.2.1];omega, .inl h.2.2.2.1,h.2.2.1⟩
theorem vF (p:Pg) (m:Mc) (i:Int) (l:List Nat) (c:Int):(m.open p i l c).2.trace=m.trace∧(m.open p i l c).2.out=m.out∧(m.open p i l c).2.reads=m.reads∧(m.open p i l c).2.steps=m.steps:=by
 unfold Mc.open
 split<;>exact⟨rfl,rfl,rfl,rfl⟩
theorem yB : ∀ (l:List Ar) (m:Mc) (out:List Nat),(Mc.args l m out).2.reads=m.reads∧(Mc.args l m out).2.steps=m.steps
 | [],m,out=>⟨rfl,rfl⟩
 | a::l,m,out=>by
  have hw:=gL m a.x
  simp only[Mc.args]
  by_cases c:a.ref=true
  ·rw[if_pos c];exact yB l m _
  ·rw [if_neg c]
   by_cases c2:(m.bA a.x).1.2=true
   ·rw [if_pos c2]
    obtain⟨h1,h2⟩:=yB l {(m.bA a.x).2 with mem:=(m.bA a.x).2.mem++ [(m.bA a.x).1.1]} (out++ [(m.bA a.x).2.mem.length])
    exact⟨h1.trans hw.2.2.2.1,h2.trans hw.2.2.1⟩
   ·rw[if_neg c2];exact⟨hw.2.2.2.1,hw.2.2.1⟩
theorem Dz (p:Pg) (W:List Int) (m:Mc) (v:Sm):zc m (m.call p W v).2∧((m.call p W v).2.st.length≤m.st.length∨(m.call p W v).2.st.length≤101):=by
 have h1:=Bu v.args m []
 have h2:=yB v.args m []
 have h3:=(Am v.args m []).1
 unfold Mc.call
 generalize Mc.args v.args m [] = r at *
 obtain⟨o,m1⟩:=r
 dsimp only at h1 h2 h3
 cases o with
 |none=>exact⟨⟨by simp[h1.2],by simp[h1.1], .inl h2.1,h2.2⟩, .inl (by simp[h3])⟩
 | some l=>
  dsimp only
  by_cases c:m1.st.length > 100
  ·rw[if_pos c];exact⟨⟨by simp[h1.2],by simp[h1.1], .inl h2.1,h2.2⟩, .inl (by simp[h3])⟩
  ·rw [if_neg c]
   have e1:=nM W m1 v.id []
   have e2:=vF p (m1.event W v.id []) (p.at v.proc) l v.id
   have e3:=(D3 p (m1.event W v.id []) (p.at v.proc) l v.id).1
   have e4:=(dL W m1 v.id []).1
   refine⟨⟨by rw[e2.1, ← h1.2];exact e1.trace,by rw[e2.2.1, ← h1.1];exact e1.out, ?_,by rw[e2.2.2.2,e1.steps,h2.2]⟩, .inr (by rw[e4]at e3;omega)⟩
   rw[e2.2.2.1, ← h2.1];exact e1.reads
theorem BA (W:List Int) (m:Mc) (v:Sm):zc m (m.fA W v).2:=by
 have hw:=gL m v.x
 unfold Mc.fA
 split
 ·dsimp only
  split
  ·have e:=nM W (m.bA v.x).2 v.id [(m.bA v.x).1.1]
   exact⟨by rw[← hw.2.2.2.2.2];exact e.trace,by rw[← hw.2.2.2.2.1];exact e.out,by rw[← hw.2.2.2.1];exact e.reads,e.steps.trans hw.2.2.1⟩
  ·exact Hy m v.x
 ·exact nM W m v.id []
theorem I5 (p:Pg) (L:List Im) (T W:List Int) (m:Mc) (it:Im):zc m (m.do p L T W it).2:=by
 have hw:=gL m it.s.x
 unfold Mc.do
 dsimp only
 split
 ·exact nM W m _ _
 split
 ·exact nM W m _ _
 split
 ·exact nM W m _ _
 split
 ·split
  ·exact⟨by simp,by simp, .inl rfl,rfl⟩
  ·rename_i n _
   have e:=nM W (({m with reads:=m.reads+1} : Mc).set it.s.name n) it.s.id [n]
   have e2:=(dL W (({m with reads:=m.reads+1} : Mc).set it.s.name n) it.s.id [n])
   exact⟨e.trace,e.out, .inr e2.2.2.2.2.1,e2.2.2.2.1⟩
 split
 ·have e:=nM W (m.bA it.s.x).2 it.s.id [(m.bA it.s.x).1.1]
  have e2:=dL W (m.bA it.s.x).2 it.s.id [(m.bA it.s.x).1.1]
  have k:zc m ((m.bA it.s.x).2.event W it.s.id [(m.bA it.s.x).1.1]):=⟨by rw[← hw.2.2.2.2.2];exact e.trace,by rw[← hw.2.2.2.2.1];exact e.out,by rw[← hw.2.2.2.1];exact e.reads,e.steps.trans hw.2.2.1⟩
  split
  ·exact⟨k.trace,k.out,k.reads,k.steps⟩
  split
  ·exact⟨k.trace,by simp[e2.2.2.2.2.2,hw.2.2.2.2.1],k.reads,k.steps⟩
  split
  ·exact k
  split
  ·exact k
  ·exact k
 ·exact Hy m it.s.x
theorem tW (L:List Im) (m:Mc) (g:Int):(m.close L g).2.trace=m.trace∧(m.close L g).2.out=m.out∧(m.close L g).2.reads=m.reads∧(m.close L g).2.steps=m.steps∧(m.close L g).2.st=m.st.tail:=by
 unfold Mc.close
 dsimp only
 split
 ·exact⟨rfl,rfl,rfl,rfl,rfl⟩
 ·split<;>exact⟨rfl,rfl,rfl,rfl,rfl⟩
theorem vV.less {m m1:Mc} (h:vV m) (k:zc {m with steps:=m.steps+1} m1) (hs:m1.st.length≤101):vV m1:=by
 have h1:=h.steps;have h2:=h.trace;have h3:=h.out;have h4:=h.reads
 have k1:=k.trace;have k2:=k.out;have k3:=k.reads;have k4:=k.steps
 dsimp only at k1 k2 k3 k4
 exact⟨by omega,by omega,by omega,by omega,hs⟩
theorem vV.close {L:List Im} {m:Mc} (h:vV m) (g:Int):vV (m.close L g).2:=by
 obtain⟨h1,h2,h3,h4,h5⟩:=tW L m g
 exact⟨by rw[h4];exact h.steps,by rw[h1,h4];exact h.trace,by rw[h2,h4];exact h.out,by rw[h3,h4];exact h.reads,by rw[h5];have:=h.st;simp;omega⟩
theorem vV.run {p:Pg} {T W:List Int} {m:Mc} (h:vV m) (hs:m.steps≤1000000) (hO:p.gu) (hW:W.length<1000000) (hT:T.length<1000000):Ld p T W m:=by
 obtain⟨nB,nF,lG⟩:=hO.procs
 have:=qL p
 have h2:=h.trace;have h3:=h.out;have h4:=h.reads
 exact⟨hW,hT,by omega,by omega,by omega,by omega,by omega⟩
theorem adv {p:Pg} (h:p.gu) (ki:(p.scope.1==0)=true) (s:St):az Tryz.prog 133 [.agg (bS p)] s (.dO (fU p) 0) s:=by
 refine az.pure ?_ (by simp[D.bM,D.ok,gR]) (by simp[D.ok,vQ]) s
 obtain⟨nB,nF,lG⟩:=h.procs
 have rm:=fun s=>xj h s
 have du:=fun s=>DT (p:=p) (by omega) s
 have b0:(p.scope.1 != 0) = !(p.scope.1==0):=rfl
 rw[ki]at b0
 unfold S0
 refine az.go z6.h rfl fun B Q hB hQ=>?_
 have⟨hD,hY,hZ,gC⟩:=bb
 repeat' (first
 |simp only[go_sem,hD,hY,hZ,gC,b0,zau]
 |(with_reducible refine CU (rm _) ?_)
 |(with_reducible refine CU (du _) ?_)
 |(with_reducible refine ax hQ ?_;exact aB))
theorem adw {p:Pg} (h:p.gu) (ki:(p.scope.1==0)=false) (s:St):az Tryz.prog 133 [.agg (bS p)] s .fv s:=by
 refine az.pure ?_ (by simp[D.bM,D.ok,gR]) rfl s
 have rm:=fun s=>xj h s
 have b0:(p.scope.1 != 0) = !(p.scope.1==0):=rfl
 rw[ki]at b0
 unfold S0
 refine az.go z6.h rfl fun B Q hB hQ=>?_
 have⟨hD,hY,hZ,gC⟩:=bb
 repeat' (first
 |simp only[go_sem,hD,hY,hZ,gC,b0,zax]
 |(with_reducible refine CU (rm _) ?_)
 |(with_reducible refine ax hQ ?_;exact aB))
mutual
theorem Zu {pr up next loop:Int} : ∀ (s:Sm) (m:Im),m∈s.sM pr up next loop→m.proc=pr
 | ⟨id,kind,labels,name,pc,x,has,args,a8,aK⟩,m,h=>by
  simp only[Sm.sM]at h
  rcases zap.1 h with rfl|h
  ·rfl
  ·rcases zaq.1 h with h | h
   ·exact yC a8 m h
   ·exact yC aK m h
theorem yC {pr up next loop:Int} : ∀ (l:List Sm) (m:Im),m∈Sm.iE pr up next loop l→m.proc=pr
 |s::l,m,h=>by
  simp only[Sm.iE]at h
  rcases zaq.1 h with h|h
  ·exact Zu s m h
  ·exact yC l m h
end
theorem ze : ∀ a b:List Sm,fp (a++b)=fp a++fp b
 | [],b=>rfl
 |v::a,b=>by simp only[zaR,fp,ze a b,zaB]
mutual
theorem O8 : ∀ s:Sm,(fp s.pre).length≤s.size
 |⟨id,kind,labels,name,pc,x,has,args,a8,aK⟩=>by
  have:=qV a8;have:=qV aK
  simp only[Sm.pre,fp,ze,zaj,Sm.size];omega
theorem qV : ∀ l:List Sm,(fp (Sm.cZ l)).length≤Sm.bq l
 | []=>zal _
 |s::l=>by
  have:=O8 s;have:=qV l
  simp only[Sm.cZ,ze,zaj,Sm.bq];omega
end
theorem Wt (seen l:List aF):(jw seen l).1.length≤seen.length+l.length:=(J8 l seen).2
theorem Zv {p:Pg} (h:p.gu) (s:St):az Tryz.prog 97 [.agg (bS p)] s (.agg [.int .i64 p.jump.1, .int .i64 p.jump.2]) s:=by
 refine az.pure ?_ (by simp[D.bM,D.ok,gR]) rfl s
 obtain⟨nB,nF,lG⟩:=h.procs
 obtain⟨R,hR⟩ : ∃ R,p.jump=R:=⟨_,rfl⟩
 rw[hR]
 unfold Pg.jump at hR
 unfold S0
 rcases zaa (p.scope.1==0)with ki|ki
 case inr=>
  have hs:=fun s=>adw h ki s
  simp only[ki,zab,if_false]at hR
  subst hR
  refine az.go zU.h rfl fun B Q hB hQ=>?_
  have⟨hD,hY,hZ,gC⟩:=bb
  repeat' (first
 |simp only[go_sem,hD,hY,hZ,gC]
 |(with_reducible refine CU (hs _) ?_)
 |(with_reducible refine ax hQ ?_;exact aB))
 have hs:=fun s=>adv h ki s
 have hb:=nI ki
 simp only[ki,if_true]at hR
 refine az.go zU.h rfl fun B Q hB hQ=>?_
 have⟨hD,hY,hZ,gC⟩:=bb
 repeat' (first
 |simp only[go_sem,hD,hY,hZ,gC]
 |(with_reducible refine CU (hs _) ?_)
 |(with_reducible refine ax hQ ?_;exact aB))
 refine di 2 0 (aN.ind (ι:=List Pc×Nat) (fun i=>p.procs.drop i.2=i.1∧mR 7 (nK i.1)=R) (fun i=>i.1.length)
  (fun i=> [(1, .ptr 0 0),(2, .ptr 1 0),(3, .dO (fU p) 0),(16, .slice .shared 5 (p.procs.map bN)),(17, .int .i64 (p.procs.length:Int)),(18, .int .i64 (i.2:Int))]) (fun i=>⟨[bS p,[.int .i64 0, .int .i64 0]],[]⟩) ?_ (p.procs,0) ⟨rfl,hR⟩)
 clear hR
 rintro⟨rest,k⟩ ⟨h1,hR⟩ IH
 dsimp only at h1 hR
 cases rest with
 |nil=>
  have hD:=drop_nil h1
  simp only[nK,mR]at hR
  subst hR
  repeat' (first
 |simp only[go_sem,hD,hY,hZ,gC]
 |(with_reducible refine ax hQ ?_;exact aB))
 | cons f rest=>
  obtain⟨hY,g2,hD,g4⟩:=drop_cons h1
  have aZ:k<4611686018427387904:=by omega
  have oP:=zad hY
  have C7:=fun s=>af9 hb hY (by omega) s
  have kj:=tL (k:Int) 0 (-1) 0 f.body
  have sL:=FB (k:Int) f
  have SL:=fun m=>yC (pr:=(k:Int)) (up:=0) (next:= -1) (loop:=0) f.body m
  have Nn:=Hg h oP
  have qf:=Dl h oP
  have Tn:(fp (Sm.cZ f.body)).length≤900000:=by
   have h1:=qV f.body
   have h2:=Pc.cq oP
   simp only[Pc.size]at h2
   omega
  rw[← kj]at Tn
  generalize hI:Sm.iE (k:Int) 0 (-1) 0 f.body=I at *
  have hIl:I.length≤900000:=by rw[← kj,zaw]at Nn;exact Nn
  simp only[nK, ← sL]at hR
  obtain⟨J,hJ⟩ : ∃ J,pH f.labels f.fin [] (I.map Im.pair)=J:=⟨_,rfl⟩
  rw[hJ]at hR
  have hld:=fun(m:Im) (hm:m∈I) s=>ac0 h hb hY m (SL m hm) s
  repeat' (first
 |simp only[go_sem,hD,hY,hZ,gC]
 |(with_reducible refine CU (C7 _) ?_)
 | (with_reducible refine ax hQ ?_;exact aB))
  refine aN.ln 6 1 rfl ?_
  simp only[go_sem,hD,hY,hZ,gC]
  refine di 3 1 (aN.ind (ι:=List Im×Nat×List aF×Nat) (fun i=>I.drop i.2.1=i.1∧pH f.labels f.fin i.2.2.1 (i.1.map Im.pair)=J∧i.2.2.2=i.2.2.1.length∧i.2.2.1.length+(fp (i.1.map Im.s)).length≤900000) (fun i=>i.1.length)
   (fun i=> [(1, .ptr 0 0),(2, .ptr 1 0),(3, .dO (fU p) 0),(5, .ptr 2 0),(6, .slice (.tok 0) 1 (i.2.2.1.map encStr)),(16, .slice .shared 5 (p.procs.map bN)),(17, .int .i64 (p.procs.length:Int)),(18, .int .i64 (k:Int)),
    (25, .slice .shared 17 (I.map dK)),(26, .int .i64 (I.length:Int)),(27, .int .i64 (i.2.1:Int))]) (fun i=>⟨[bS p,[.int .i64 0, .int .i64 0],bN f],[some i.2.2.2]⟩) ?_ (I,0,[],0) ⟨rfl,hJ,rfl,by simpa using Tn⟩)
  clear hJ
  rintro⟨kP,k2,seen,n2⟩ ⟨j1,j2,j3,j4⟩ qM
  dsimp only at j1 j2 j3 j4
  subst j3
  cases kP with
  | nil=>
   have NS:=drop_nil j1
   simp only[zai,pH]at j2
   simp only[zai,fp,zaD,zaS]at j4
   have Kk:=fun {s:St} {t:Nat} (ht:s.ay[t]? = some (some seen.length))=>VY (seen:=seen) (l:=f.fin) (by omega) ht
   obtain⟨P1,hP1⟩ : ∃ P1,jw seen f.fin=P1:=⟨_,rfl⟩
   rw[hP1]at j2 Kk
   rcases zaa P1.2 with c1|c1
   ·simp only [c1,if_true]at j2
    subst j2
    simp only at hR
    repeat' (first
 |simp only[go_sem,hD,hY,hZ,gC,NS,c1,zau]
 |(with_reducible refine CU (Kk (by with_unfolding_all rfl)) ?_)
 | (with_reducible refine ax hQ ?_;exact aB))
    refine cv 2 0 ?_ ?_ (IH (rest,k+1) ⟨g2,hR⟩ (zae _))
    ·(simp only[go_sem,hD,hY,hZ,gC,aw aZ];try exact aU)
    ·(simp only[go_sem,hD,hY,hZ,gC,aw aZ];try exact aU)
   ·simp only [c1,zab,if_false]at j2
    subst j2
    simp only[mR]at hR
    subst hR
    repeat' (first
 |simp only[go_sem,hD,hY,hZ,gC,NS,c1,zax]
 |(with_reducible refine CU (Kk (by with_unfolding_all rfl)) ?_)
 | (with_reducible refine ax hQ ?_;exact aB))
  | cons m kP=>
   obtain⟨fe,j5,iQ,j6⟩:=drop_cons j1
   have gn:k2<4611686018427387904:=by omega
   have qu:=zad fe
   have PG:=fun s=>hld m qu s
   simp only[zaf,Im.pair,pH]at j2
   simp only[zaf,fp,zaj]at j4
   have Kk:=fun {s:St} {t:Nat} (ht:s.ay[t]? = some (some seen.length))=>VY (seen:=seen) (l:=m.s.labels) (by omega) ht
   have CK:=Wt seen m.s.labels
   obtain⟨P1,hP1⟩ : ∃ P1,jw seen m.s.labels=P1:=⟨_,rfl⟩
   rw[hP1]at j2 Kk CK
   rcases zaa P1.2 with c1|c1
   ·rcases zaa (oy f.labels m.s m.loop)with c2 | c2
    ·simp only [c1,c2,if_true]at j2
     repeat' (first
 |simp only[go_sem,hD,hY,hZ,gC,fe,iQ,c1,c2,zau]
 |(with_reducible refine CU (Kk (by with_unfolding_all rfl)) ?_)
 |(with_reducible refine CU (PG _) ?_)
 | (with_reducible refine ax hQ ?_;exact aB))
     refine cv 3 1 ?_ ?_ (qM (kP,k2+1,P1.1,P1.1.length) ⟨j5,j2,rfl,by dsimp only;omega⟩ (zae _))
     ·(simp only[go_sem,hD,hY,hZ,gC,aw gn];try exact aU)
     ·(simp only[go_sem,hD,hY,hZ,gC,aw gn];try exact aU)
    ·simp only [c1,c2,if_true,zab,if_false]at j2
     subst j2
     simp only[mR]at hR
     subst hR
     repeat' (first
 |simp only[go_sem,hD,hY,hZ,gC,fe,iQ,c1,c2,zau,zax]
 |(with_reducible refine CU (Kk (by with_unfolding_all rfl)) ?_)
 |(with_reducible refine CU (PG _) ?_)
 | (with_reducible refine ax hQ ?_;exact aB))
   ·simp only [c1,zab,if_false]at j2
    subst j2
    simp only[mR]at hR
    subst hR
    repeat' (first
 |simp only[go_sem,hD,hY,hZ,gC,fe,iQ,c1,zax]
 |(with_reducible refine CU (Kk (by with_unfolding_all rfl)) ?_)
 |(with_reducible refine CU (PG _) ?_)
 |(with_reducible refine ax hQ ?_;exact aB))
theorem Tp {p:Pg} (hb:p.may=true) {f:Pc} (hf:f∈p.procs):f.oz=f.flat.map fun x=>(x.s,gy f.flat f.flat.length x.s.id):=by
 obtain⟨h1,h2⟩:=EO hb hf
 apply zbV
 intro i
 rw[zao]
 cases e:f.flat[i]? with
 |some a=>rw[h2 i a e];rfl
 |none=>
  have:=zbA.1 e
  rw[zbA.2 (by omega)];rfl
set_option maxHeartbeats 4000000 in
theorem Zx {p : Pg} (h : p.gu) (hb : p.may = true) (s : St) : az Tryz.prog 118 [.agg (bS p)] s (.agg [.int .i64 (mR 7 (nK p.procs)).1, .int .i64 (mR 7 (nK p.procs)).2]) s := by
 refine az.pure ?_ (by simp[D.bM, D.ok, gR]) rfl s
 obtain ⟨nB, nF, lG⟩ := h.procs
 obtain ⟨R, hR⟩ : ∃ R, mR 7 (nK p.procs) = R := ⟨_, rfl⟩
 rw[hR]
 unfold S0
 refine az.go IA.h rfl fun B Q hB hQ =>?_
 have ⟨hD, hY, hZ, gC⟩ := bb
 repeat' (first
 |simp only[go_sem, hD, hY, hZ, gC]
 |(with_reducible refine ax hQ ?_; exact aB))
 refine di 2 0 (aN.ind (ι := List Pc × Nat) (fun i => p.procs.drop i.2 = i.1 ∧ mR 7 (nK i.1) = R) (fun i => i.1.length)
   (fun i => [(1, .ptr 0 0), (2, .ptr 1 0), (13, .slice .shared 5 (p.procs.map bN)), (14, .int .i64 (p.procs.length : Int)), (15, .int .i64 (i.2 : Int))]) (fun i => ⟨[bS p, [.int .i64 0, .int .i64 0]], []⟩) ?_ (p.procs, 0) ⟨rfl, hR⟩)
 clear hR
 rintro ⟨rest, k⟩ ⟨h1, hR⟩ IH
 dsimp only at h1 hR
 cases rest with
 | nil =>
   have hD := drop_nil h1
   simp only[nK, mR]at hR
   subst hR
   repeat' (first
 |simp only[go_sem, hD, hY, hZ, gC]
 |(with_reducible refine ax hQ ?_; exact aB))
 | cons f rest =>
   obtain ⟨hY, g2, hD, g4⟩ := drop_cons h1
   have aZ : k < 4611686018427387904 := by omega
   have oP := zad hY
   have dT : Sm.bq f.body ≤ 900000 := by have := Pc.cq oP; simp only[Pc.size]at this; omega
   have fx := fun s => xg (f := f) (by omega) s
   have am8 := Pc.sy f
   have qf := Dl h oP
   have kj := (qP hb).1 f oP
   have Tn : (fp (f.flat.map It.s)).length ≤ 900000 := by rw[kj]; have := qV f.body; omega
   have NT := fun s => Wm (f := f) (by omega) (by omega) s
   have ag4 : fp (f.flat.map It.s) ++ f.fin = f.labels := by rw[kj]; rfl
   have ana : f.labels.length < 4611686018427387904 := by rw[← ag4, zaj]; omega
   rw[ag4]at NT
   have Aw := fun id s => NN (l := f.flat) (by omega) id s
   have ja := fun x s => vR (l := f.labels) ana x .shared s
   have hpp := Tp hb oP
   simp only[nK, hpp]at hR
   generalize hFL : f.flat = FL at *
   obtain ⟨J, hJ⟩ : ∃ J, pH f.labels f.fin [] (FL.map fun x => (x.s, gy FL FL.length x.s.id)) = J := ⟨_, rfl⟩
   rw[hJ]at hR
   repeat' (first
 |simp only[go_sem, hD, hY, hZ, gC]
 |(with_reducible refine CU (fx _) ?_)
 | (with_reducible refine ax hQ ?_; exact aB))
   refine aN.ln 5 1 rfl ?_
   simp only[go_sem, hD, hY, hZ, gC]
   refine di 3 1 (aN.ind (ι := List It × Nat × List aF × Nat) (fun i => FL.drop i.2.1 = i.1 ∧ pH f.labels f.fin i.2.2.1 (i.1.map fun x => (x.s, gy FL FL.length x.s.id)) = J ∧ i.2.2.2 = i.2.2.1.length ∧ i.2.2.1.length + (fp (i.1.map It.s)).length ≤ 900000 ∧ er i.2.2.1 = false) (fun i => i.1.length)
     (fun i => [(1, .ptr 0 0), (2, .ptr 1 0), (4, .ptr 2 0), (5, .slice (.tok 0) 1 (i.2.2.1.map encStr)), (6, .slice .shared 16 (FL.map dn)), (13, .slice .shared 5 (p.procs.map bN)), (14, .int .i64 (p.procs.length : Int)), (15, .int .i64 (k : Int)),
       (21, .slice .shared 16 (FL.map dn)), (22, .int .i64 (FL.length : Int)), (23, .int .i64 (i.2.1 : Int))]) (fun i => ⟨[bS p, [.int .i64 0, .int .i64 0], bN f], [some i.2.2.2]⟩) ?_ (FL, 0, [], 0) ⟨rfl, hJ, rfl, by simpa using Tn, rfl⟩)
   clear hJ
   rintro ⟨kP, k2, seen, n2⟩ ⟨j1, j2, j3, j4, j5⟩ qM
   dsimp only at j1 j2 j3 j4 j5
   subst j3
   cases kP with
   | nil =>
     have NS := drop_nil j1
     simp only[zai, pH]at j2
     simp only[zai, fp, zaD, zaS]at j4
     have dd := fm (l := seen) (nx := f.fin) rfl (by omega) (g := .shared)
     have qp := fun g s => xi (l := seen ++ f.fin) (by simp; omega) g s
     simp only[zag]at qp
     rw[EN j5]at j2
     rcases zaa (er (seen ++ f.fin)) with c1|c1
     · simp only [c1, zab, if_false, if_true] at j2
       subst j2
       simp only[mR]at hR
       subst hR
       repeat' (first
 |simp only[go_sem, hD, hY, hZ, gC, NS, dd, c1]
 |(with_reducible refine CU (qp _ _) ?_)
 |(with_reducible refine CU (gw _ _ _) ?_)
 |(with_reducible refine ax hQ ?_; exact aB))
     · simp only [c1, zab, if_false, if_true] at j2
       subst j2
       simp only at hR
       repeat' (first
 |simp only[go_sem, hD, hY, hZ, gC, NS, dd, c1]
 |(with_reducible refine CU (qp _ _) ?_)
 | (with_reducible refine ax hQ ?_; exact aB))
       refine cv 2 0 ?_ ?_ (IH (rest, k + 1) ⟨g2, hR⟩ (zae _))
       · (simp only[go_sem, hD, hY, hZ, gC, aw aZ]; try exact aU)
       · (simp only[go_sem, hD, hY, hZ, gC, aw aZ]; try exact aU)
   | cons m kP =>
     obtain ⟨fe, j6, iQ, j7⟩ := drop_cons j1
     have gn : k2 < 4611686018427387904 := by omega
     simp only[zaf, pH]at j2
     simp only[zaf, fp, zaj]at j4
     have dd := fm (l := seen) (nx := m.s.labels) rfl (by omega) (g := .shared)
     have qp := fun g s => xi (l := seen ++ m.s.labels) (by simp; omega) g s
     simp only[zag]at qp
     rw[EN j5]at j2
     have I6 := fun s => Aw m.s.id s
     generalize gy FL FL.length m.s.id = lp at *
     have b0 : (lp != 0) = !(lp == 0) := rfl
     rcases zaa (er (seen ++ m.s.labels)) with c1|c1
     · simp only [c1, zab, if_false, if_true] at j2
       subst j2
       simp only[mR]at hR
       subst hR
       rcases zaa (m.s.kind == 7) with c2|c2
       · have c4 : (m.s.kind == 10) = false := by simp at c2 ⊢; omega
         repeat' (first
 |simp only[go_sem, hD, hY, hZ, gC, fe, iQ, dd, c1, c2, c4]
 |(with_reducible refine CU (qp _ _) ?_)
 |(with_reducible refine CU (I6 _) ?_)
 |(with_reducible refine CU (gw _ _ _) ?_)
 |(with_reducible refine ax hQ ?_; exact aB))
       rcases zaa (m.s.kind == 8) with c3|c3
       · have c4 : (m.s.kind == 10) = false := by simp at c3 ⊢; omega
         repeat' (first
 |simp only[go_sem, hD, hY, hZ, gC, fe, iQ, dd, c1, c2, c3, c4]
 |(with_reducible refine CU (qp _ _) ?_)
 |(with_reducible refine CU (I6 _) ?_)
 |(with_reducible refine CU (gw _ _ _) ?_)
 |(with_reducible refine ax hQ ?_; exact aB))
       rcases zaa (m.s.kind == 10) with c4|c4
       · rcases zaa (dS f.labels m.s.name) with c5 | c5
         · repeat' (first
 |simp only[go_sem, hD, hY, hZ, gC, fe, iQ, dd, c1, c2, c3, c4, c5, zau, zax]
 |(with_reducible refine CU (qp _ _) ?_)
 |(with_reducible refine CU (NT _) ?_)
 |(with_reducible refine CU (ja _ _) ?_)
 |(with_reducible refine CU (gw _ _ _) ?_)
 |(with_reducible refine ax hQ ?_; exact aB))
         · repeat' (first
 |simp only[go_sem, hD, hY, hZ, gC, fe, iQ, dd, c1, c2, c3, c4, c5, zau, zax]
 |(with_reducible refine CU (qp _ _) ?_)
 |(with_reducible refine CU (NT _) ?_)
 |(with_reducible refine CU (ja _ _) ?_)
 |(with_reducible refine CU (gw _ _ _) ?_)
 |(with_reducible refine ax hQ ?_; exact aB))
       · repeat' (first
 |simp only[go_sem, hD, hY, hZ, gC, fe, iQ, dd, c1, c2, c3, c4]
 |(with_reducible refine CU (qp _ _) ?_)
 |(with_reducible refine CU (gw _ _ _) ?_)
 |(with_reducible refine ax hQ ?_; exact aB))
     simp only[c1, zab, if_false, if_true]at j2
     have JQ : oy f.labels m.s lp = true → pH f.labels f.fin (seen ++ m.s.labels) (kP.map fun x => (x.s, gy FL FL.length x.s.id)) = J := fun e => by simpa only[e, if_true] using j2
     have C1 : oy f.labels m.s lp = false → R = (7, m.s.id) := fun e => by
       simp only[e, zab, if_false]at j2
       subst j2
       simpa only[mR] using hR.symm
     have zf : ∀ e : oy f.labels m.s lp = true, _ := fun e => qM (kP, k2 + 1, seen ++ m.s.labels, seen.length + m.s.labels.length) ⟨j6, JQ e, by simp, by simp; omega, c1⟩ (zae _)
     clear qM j2 JQ
     unfold oy at C1 zf
     rcases zaa (m.s.kind == 7) with c2|c2
     · have c4 : (m.s.kind == 10) = false := by simp at c2 ⊢; omega
       simp only[c2, zbj, if_true]at C1 zf
       rcases zaa (lp == 0) with c6|c6
       · rw [c6] at b0
         have := C1 b0
         subst this
         repeat' (first
 |simp only[go_sem, hD, hY, hZ, gC, fe, iQ, dd, c1, c2, c4, b0, zau, zax]
 |(with_reducible refine CU (qp _ _) ?_)
 |(with_reducible refine CU (I6 _) ?_)
 |(with_reducible refine CU (gw _ _ _) ?_)
 |(with_reducible refine ax hQ ?_; exact aB))
       · rw [c6] at b0
         have Al := zf b0
         repeat' (first
 |simp only[go_sem, hD, hY, hZ, gC, fe, iQ, dd, c1, c2, c4, b0, zau, zax]
 |(with_reducible refine CU (qp _ _) ?_)
 |(with_reducible refine CU (I6 _) ?_)
 |(with_reducible refine ax hQ ?_; exact aB))
         refine cv 3 1 ?_ ?_ (Al)
         · (simp only[go_sem, hD, hY, hZ, gC, aw gn]; try exact aU)
         · (simp only[go_sem, hD, hY, hZ, gC, aw gn]; try exact aU)
     rcases zaa (m.s.kind == 8) with c3|c3
     · have c4 : (m.s.kind == 10) = false := by simp at c3 ⊢; omega
       simp only[c2, c3, zbI, if_true]at C1 zf
       rcases zaa (lp == 0) with c6|c6
       · rw [c6] at b0
         have := C1 b0
         subst this
         repeat' (first
 |simp only[go_sem, hD, hY, hZ, gC, fe, iQ, dd, c1, c2, c3, c4, b0, zau, zax]
 |(with_reducible refine CU (qp _ _) ?_)
 |(with_reducible refine CU (I6 _) ?_)
 |(with_reducible refine CU (gw _ _ _) ?_)
 |(with_reducible refine ax hQ ?_; exact aB))
       · rw [c6] at b0
         have Al := zf b0
         repeat' (first
 |simp only[go_sem, hD, hY, hZ, gC, fe, iQ, dd, c1, c2, c3, c4, b0, zau, zax]
 |(with_reducible refine CU (qp _ _) ?_)
 |(with_reducible refine CU (I6 _) ?_)
 |(with_reducible refine ax hQ ?_; exact aB))
         refine cv 3 1 ?_ ?_ (Al)
         · (simp only[go_sem, hD, hY, hZ, gC, aw gn]; try exact aU)
         · (simp only[go_sem, hD, hY, hZ, gC, aw gn]; try exact aU)
     simp only[c2, c3, Bool.or_false, zab, if_false]at C1 zf
     rcases zaa (m.s.kind == 10) with c4|c4
     · simp only [c4, if_true] at C1 zf
       rcases zaa (dS f.labels m.s.name) with c5|c5
       · have Al := zf c5
         repeat' (first
 |simp only[go_sem, hD, hY, hZ, gC, fe, iQ, dd, c1, c2, c3, c4, c5, zau, zax]
 |(with_reducible refine CU (qp _ _) ?_)
 |(with_reducible refine CU (NT _) ?_)
 |(with_reducible refine CU (ja _ _) ?_)
 |(with_reducible refine ax hQ ?_; exact aB))
         refine cv 3 1 ?_ ?_ (Al)
         · (simp only[go_sem, hD, hY, hZ, gC, aw gn]; try exact aU)
         · (simp only[go_sem, hD, hY, hZ, gC, aw gn]; try exact aU)
       · have := C1 c5
         subst this
         repeat' (first
 |simp only[go_sem, hD, hY, hZ, gC, fe, iQ, dd, c1, c2, c3, c4, c5, zau, zax]
 |(with_reducible refine CU (qp _ _) ?_)
 |(with_reducible refine CU (NT _) ?_)
 |(with_reducible refine CU (ja _ _) ?_)
 |(with_reducible refine CU (gw _ _ _) ?_)
 |(with_reducible refine ax hQ ?_; exact aB))
     · simp only [c4, zab, if_false] at C1 zf
       have Al := zf trivial
       repeat' (first
 |simp only[go_sem, hD, hY, hZ, gC, fe, iQ, dd, c1, c2, c3, c4]
 |(with_reducible refine CU (qp _ _) ?_)
 |(with_reducible refine ax hQ ?_; exact aB))
       refine cv 3 1 ?_ ?_ (Al)
       · (simp only[go_sem, hD, hY, hZ, gC, aw gn]; try exact aU)
       · (simp only[go_sem, hD, hY, hZ, gC, aw gn]; try exact aU)
def Pc.anb:List Pc→Nat
 | []=>0
 |f::l=>Sm.jV f.body+Pc.anb l
theorem Zy {p:Pg} (h:p.may=false):p.scope=(1,0):=by unfold Pg.scope;rw[h];rfl
theorem ag5 {p:Pg} (h:p.gu) (s:St):az Tryz.prog 53 [.agg (bS p)] s (.agg [.int .i64 p.check.1, .int .i64 p.check.2]) s:=by
 refine az.pure ?_ (by simp[D.bM,D.ok,gR]) rfl s
 have h1:=fun s=>MS h.M3 s
 rw[DX]at h1
 have h2:=fun s=>xj h s
 have h3:=fun s=>M6 h s
 have h4:=fun s=>Zv h s
 have h5:=fun s=>V3 h s
 obtain⟨R,hR⟩ : ∃ R,p.check=R:=⟨_,rfl⟩
 rw[hR]
 unfold Pg.check at hR
 unfold S0
 rcases zaa p.may with b0|b0
 case inr=>
  have e:((1:Int)==0)=false:=rfl
  rw[Zy b0]at hR
  simp only[e,zab,if_false]at hR
  subst hR
  refine az.go pV.h rfl fun B Q hB hQ=>?_
  have⟨hD,hY,hZ,gC⟩:=bb
  repeat' (first
 |simp only[go_sem,hD,hY,hZ,gC,b0,zax]
 |(with_reducible refine CU (h1 _) ?_)
 |(with_reducible refine ax hQ ?_;exact aB))
 rcases zaa (p.scope.1==0)with b1|b1
 case inr=>
  simp only[b1,zab,if_false]at hR
  subst hR
  refine az.go pV.h rfl fun B Q hB hQ=>?_
  have⟨hD,hY,hZ,gC⟩:=bb
  repeat' (first
 |simp only[go_sem,hD,hY,hZ,gC,b0,b1,zau]
 |(with_reducible refine CU (h1 _) ?_)
 |(with_reducible refine CU (h2 _) ?_)
 |(with_reducible refine ax hQ ?_;exact aB))
 simp only[b1,if_true]at hR
 rcases zaa (p.arity.1==0)with b2|b2
 case inr=>
  simp only[b2,zab,if_false]at hR
  subst hR
  refine az.go pV.h rfl fun B Q hB hQ=>?_
  have⟨hD,hY,hZ,gC⟩:=bb
  repeat' (first
 |simp only[go_sem,hD,hY,hZ,gC,b0,b1,b2,zau]
 |(with_reducible refine CU (h1 _) ?_)
 |(with_reducible refine CU (h2 _) ?_)
 |(with_reducible refine CU (h3 _) ?_)
 |(with_reducible refine ax hQ ?_;exact aB))
 simp only[b2,if_true]at hR
 rcases zaa (p.jump.1==0)with b3|b3
 case inr=>
  simp only[b3,zab,if_false]at hR
  subst hR
  refine az.go pV.h rfl fun B Q hB hQ=>?_
  have⟨hD,hY,hZ,gC⟩:=bb
  repeat' (first
 |simp only[go_sem,hD,hY,hZ,gC,b0,b1,b2,b3,zau]
 |(with_reducible refine CU (h1 _) ?_)
 |(with_reducible refine CU (h2 _) ?_)
 |(with_reducible refine CU (h3 _) ?_)
 |(with_reducible refine CU (h4 _) ?_)
 |(with_reducible refine ax hQ ?_;exact aB))
 simp only[b3,if_true]at hR
 subst hR
 refine az.go pV.h rfl fun B Q hB hQ=>?_
 have⟨hD,hY,hZ,gC⟩:=bb
 repeat' (first
 |simp only[go_sem,hD,hY,hZ,gC,b0,b1,b2,b3,zau]
 |(with_reducible refine CU (h1 _) ?_)
 |(with_reducible refine CU (h2 _) ?_)
 |(with_reducible refine CU (h3 _) ?_)
 |(with_reducible refine CU (h4 _) ?_)
 |(with_reducible refine CU (h5 _) ?_)
 |(with_reducible refine ax hQ ?_;exact aB))
theorem ag6 {p:Pg} (h:p.gu) (s:St):az Tryz.prog 20 [.agg (bS p)] s (.bool (p.check.1==0)) s:=by
 refine az.pure ?_ (by simp[D.bM,D.ok,gR]) rfl s
 have h1:=fun s=>ag5 h s
 unfold S0
 refine az.go Kw.h rfl fun B Q hB hQ=>?_
 have⟨hD,hY,hZ,gC⟩:=bb
 repeat' (first
 |simp only[go_sem,hD,hY,hZ,gC]
 |(with_reducible refine CU (h1 _) ?_)
 |(with_reducible refine ax hQ ?_;exact aB))
theorem ag7 {p:Pg} (h:p.gu) (s:St):az Tryz.prog 83 [.agg (bS p)] s (.agg [.int .i64 p.check.1, .int .i64 p.check.2]) s:=by
 refine az.pure ?_ (by simp[D.bM,D.ok,gR]) rfl s
 have h2:=fun s=>YW h s
 obtain⟨R,hR⟩ : ∃ R,p.check=R:=⟨_,rfl⟩
 rw[hR]
 unfold Pg.check at hR
 unfold S0
 rcases zaa (p.scope.1==0)with b1|b1
 case inr=>
  simp only[b1,zab,if_false]at hR
  subst hR
  refine az.go tx.h rfl fun B Q hB hQ=>?_
  have⟨hD,hY,hZ,gC⟩:=bb
  repeat' (first
 |simp only[go_sem,hD,hY,hZ,gC,b1]
 |(with_reducible refine CU (h2 _) ?_)
 |(with_reducible refine ax hQ ?_;exact aB))
 have hb:=nI b1
 have h3:=fun s=>YX h hb s
 have e3:p.arity=iS 6 (yn p p.pre):=by unfold Pg.arity;rw[if_pos b1]
 rw[← e3]at h3
 have h4:=fun s=>Zx h hb s
 have e4:p.jump=mR 7 (nK p.procs):=by unfold Pg.jump;rw[if_pos b1]
 rw[← e4]at h4
 simp only[b1,if_true]at hR
 rcases zaa (p.arity.1==0)with b2|b2
 case inr=>
  simp only[b2,zab,if_false]at hR
  subst hR
  refine az.go tx.h rfl fun B Q hB hQ=>?_
  have⟨hD,hY,hZ,gC⟩:=bb
  repeat' (first
 |simp only[go_sem,hD,hY,hZ,gC,b1,b2]
 |(with_reducible refine CU (h2 _) ?_)
 |(with_reducible refine CU (h3 _) ?_)
 |(with_reducible refine ax hQ ?_;exact aB))
 simp only[b2,if_true]at hR
 have h5:=fun s=>agk h b1 s
 have e5:p.alias=iS 8 (ER p p.pre):=by unfold Pg.alias;rw[if_pos b2,ac5 hb (FF b2).2]
 rw[← e5]at h5
 rcases zaa (p.jump.1==0)with b3|b3
 case inr=>
  simp only[b3,zab,if_false]at hR
  subst hR
  refine az.go tx.h rfl fun B Q hB hQ=>?_
  have⟨hD,hY,hZ,gC⟩:=bb
  repeat' (first
 |simp only[go_sem,hD,hY,hZ,gC,b1,b2,b3]
 |(with_reducible refine CU (h2 _) ?_)
 |(with_reducible refine CU (h3 _) ?_)
 |(with_reducible refine CU (h4 _) ?_)
 |(with_reducible refine ax hQ ?_;exact aB))
 simp only[b3,if_true]at hR
 subst hR
 refine az.go tx.h rfl fun B Q hB hQ=>?_
 have⟨hD,hY,hZ,gC⟩:=bb
 repeat' (first
 |simp only[go_sem,hD,hY,hZ,gC,b1,b2,b3]
 |(with_reducible refine CU (h2 _) ?_)
 |(with_reducible refine CU (h3 _) ?_)
 |(with_reducible refine CU (h4 _) ?_)
 |(with_reducible refine CU (h5 _) ?_)
 |(with_reducible refine ax hQ ?_;exact aB))
theorem Zz {p:Pg} (h:p.gu) (s:St):az Tryz.prog 50 [.agg (bS p)] s (.bool (p.check.1==0)) s:=by
 refine az.pure ?_ (by simp[D.bM,D.ok,gR]) rfl s
 have h1:=fun s=>ag7 h s
 unfold S0
 refine az.go Ib.h rfl fun B Q hB hQ=>?_
 have⟨hD,hY,hZ,gC⟩:=bb
 repeat' (first
 |simp only[go_sem,hD,hY,hZ,gC]
 |(with_reducible refine CU (h1 _) ?_)
 |(with_reducible refine ax hQ ?_;exact aB))
theorem bp.ajX {P:Program} {f:FuncId} {args:List D} {s:St} {aq:List (List D)} {Q:D→St→Prop} (hw:ie s.aq aq) (h:bp P f args ⟨aq,s.ay⟩ Q):bp P f args s Q:=by
 intro M w fN r hl dT ha
 obtain⟨r',le⟩:=r.lU hw
 have hlen:=hw.len
 refine(h M w fN r' (fun g cs hg=>⟨(hl g cs hg).1,fun o ho=>(hl g cs hg).2.1 o (by rw[hlen];exact ho),(hl g cs hg).2.2⟩) dT fun i d v e1 e2=>(ha i d v e1 e2).mono le).mono ?_
 rintro e w' ⟨M',d,v,s2,h1,hq,hx,r2,rd⟩
 refine⟨M',d,v,s2,h1,hq,Ext.trans ⟨le,fun _ _ _ _=>rfl,fun o h1 h2=>?_,fun t b c z hl e=> .inl ⟨hl,c,z,e⟩,fun _ _ h=>(h rfl).elim,zal _,rfl,rfl,rfl⟩ hx,r2,rd⟩
 rw[← hlen]at h2
 exact h1.elim (fun h1=>absurd h2 (Nat.not_lt.2 h1)) fun h1=>(h1 rfl).elim
def eK (m:Mc):List D:= [.int .i64 m.fin, .int .i64 m.steps, .int .i64 m.reads, .slice .shared 1 (m.out.map bD), .slice .shared 2 (m.trace.map gT)]
theorem ag8 (e:Int×List Int):D.bM 0 0 (gT e)=true:=by simp[gT,D.bM,D.ok,Tag.ok,jm]
theorem abg (l:List (Int×List Int)):D.iW 0 0 (l.map gT)=true:=iX ag8 l
theorem ajY (n m:Nat) (l:List (Int×List Int)):D.lB n m (l.map gT)=l.map gT:=ng ag8 n m l
attribute [go_sem] ajY
abbrev runT (m:Mc):List D:= [.int .i64 m.fin, .int .i64 m.steps, .int .i64 m.reads, .slice (.tok 0) 1 (m.out.map bD), .slice (.tok 1) 2 (m.trace.map gT)]
section
variable {p:Pg} {T W:List Int} {fuel:Int} {B:gY} {Q:Exit→Tm→St→Prop} {mf:Mc}
theorem Inv.qB {y:Lay} {m:Mc} {s:St} {q:Nat} {r r':List D} {loc:List (Nat×List D)} (h:Inv p T W y m ((q,r)::loc) s) (hq : ∀ x∈loc,x.1≠q) (hr:r.length≠4):Inv p T W y m ((q,r')::loc) ⟨s.aq.set q r',s.ay⟩:=by
 obtain⟨h1,h2⟩:=h.loc (q,r) (zaA ..)
 simp only at h1 h2
 have ne : ∀ {o:Nat} {x:List D},s.aq[o]? = some x→o≠q→(s.aq.set q r')[o]? = some x:=fun e hn=>by rw[zam (Ne.symm hn)];exact e
 have no : ∀ o∈y.own,o≠q:=fun o mo e=>h2 (e ▸ mo)
 have ka : ∀ {d:D} {cs:List D},(∀ o∈d.arr,o∈y.own)→kG s d cs→kG ⟨s.aq.set q r',s.ay⟩ d cs:=fun hd ha=>ha.keep fun o mo=>by
  show(s.aq.set q r')[o]? = _
  rw[zam (Ne.symm (no o (hd o mo)))]
 obtain⟨l,hl⟩:=h.bu
 refine⟨ne h.eW (no 0 (by simp[Lay.own])),h.t0,h.t1,h.len,fun i c v e1 e2=>ne (h.cell i c v e1 e2) (no c (by simp[Lay.own,zad e1])),h.uI,fun i o fr e1 e2=>?_,ka (fun o m=>by simp[Lay.own,m]) h.stack,⟨l,ka (fun o m=>by simp[Lay.own,m]) hl⟩,h.own,fun x mx=>?_⟩
 ·obtain⟨f1,f2,f3⟩:=h.frame i o fr e1 e2
  exact⟨ne f1 (Pw f1 h1 fun e=>hr (by rw[← e];rfl)),f2,f3⟩
 ·rcases zap.1 mx with rfl | mx
  ·exact⟨by simp[df h1],h2⟩
  ·obtain⟨f1,f2⟩:=h.loc x (zan _ mx)
   exact⟨ne f1 (hq x mx),f2⟩
abbrev xB:List D:= [.int .i64 0, .int .i64 0, .int .i64 0, .slice .full 0 [], .slice .full 0 []]
structure I7 (p:Pg) (T W:List Int) (fuel:Int):Prop where
 ok:p.gu
 right:p.Right
 W:W.length<1000000
 T:T.length<1000000
 fuel:0≤fuel∧fuel≤1000000
structure At (p:Pg) (T W:List Int) (fuel:Int) (a:Int) (m:Mc) (y:Lay) (q:Nat) (s:St):Prop where
 inv : ∃ r:List D,r.length=17∧Inv p T W y m [(q,r),(2,xB)] s
 ok:mS p p.aR.L a m
 sz:vV m
 fin:m.fin=0
 fuel:m.steps≤fuel
abbrev TMr (fuel:Int) (q:Nat) (a:Int):Tm:= [(2, .int .i64 fuel),(8, .ptr 2 0),(10, .ptr 0 0),(11, .ptr q 0),(13, .int .i64 a)]
abbrev JJ (B:gY) (Q:Exit→Tm→St→Prop):=AY Tryz.prog B 131 Q00 Q
theorem HA (hQ:mN 0 0 [(8,some (true,5)),(9,none)] (.tuple [.agg (eK mf), .int .i64 0]) ⟨[],[]⟩=Q) {y:Lay} {q:Nat} {r:List D} {s:St} (h:Inv p T W y mf [(q,r),(2,xB)] s) {tm:Tm} (ht:xa tm [(8, .ptr 2 0),(10, .ptr 0 0)]):JJ B Q (.goto 2) tm s:=by
 refine Fg (r:= .seq .skip Q05) rfl (mM.jx ht (mM.fJ ?_))
 have hm:=h.eW
 rw[fO]at hm
 have h2:=(h.loc (2,xB) (by simp)).1
 have hl:=df h2
 have⟨hD,hY,hZ,gC⟩:=bb
 have rR : ∀ r,(s.aq.set 2 r)[2]? = some r:=fun r=>zaM hl
 simp only[eK]at hQ
 repeat' (first
 |simp only[go_sem,hD,hY,hZ,gC,hm,h2,rR]
 |(with_reducible first|refine cf fun hc=>?_|refine cj fun hc=>?_|refine cm (fun hc=>?_) fun hc=>?_)<;>(try simp only[hc,bs,↓reduceIte]at h)<;>try simp only[hc]
 |(with_reducible refine ax hQ ?_;simp only[bF,bG,bZ,cb,go_sem,hD,hY,hZ,gC,hm,h2,rR];try exact eQ))
theorem NU (hS:I7 p T W fuel) (hQ:mN 0 0 [(8,some (true,5)),(9,none)] (.tuple [.agg (eK mf), .int .i64 0]) ⟨[],[]⟩=Q) {a:Int} {m:Mc} {y:Lay} {q:Nat} {s:St} {g:Int} (h:At p T W fuel a m y q s)
 (Dv:m.back p.aR.L g=(none,mf)∨∃ a' m',m.back p.aR.L g=(some a',m')∧∀ y' s' tm,At p T W fuel a' m' y' q s'→xa tm (TMr fuel q a')→JJ B Q (.goto 1) tm s')
 {tm:Tm} (ht:xa tm [(2, .int .i64 fuel),(8, .ptr 2 0),(10, .ptr 0 0),(11, .ptr q 0),(12, .int .i64 g)]):JJ B Q (.goto 0) tm s:=by
 obtain⟨⟨r,hr,hi⟩,o8,dT,qf,hfu⟩:=h
 obtain⟨fr,rs,f,jN,h1,h2,h3,h4⟩:=Hr hS.ok o8 (by have:=dT.st;omega)
 have EU:=dT.run (by have:=hS.fuel;omega) hS.ok hS.W hS.T
 have hc:=Hs hS.ok hS.right o8 (by have:=dT.st;omega) jN
 have c1:=adi hi jN EU.L hc g
 have ko:=tW p.aR.L m g
 refine Fg (r:= .seq .skip Q04) rfl (mM.jx ht (mM.fJ ?_))
 have⟨hD,hY,hZ,gC⟩:=bb
 repeat' (first
 |simp only[go_sem,hD,hY,hZ,gC]
 |(with_reducible refine ax hQ ?_;exact aB))
 refine CR c1 fun d s2 EV=>?_
 obtain⟨rfl,y2,qS,lj⟩:=EV
 have jr:=lj.eW
 rw[fO]at jr
 have HC:=(lj.loc (2,xB) (by simp)).1
 have jI:=df HC
 have rR : ∀ r,(s2.aq.set 2 r)[2]? = some r:=fun r=>zaM jI
 simp only at HC
 have hb:m.back p.aR.L g=(if(m.close p.aR.L g).2.fin==0 then some (m.close p.aR.L g).1 else none,(m.close p.aR.L g).2):=rfl
 rcases zaa ((m.close p.aR.L g).2.fin==0)with b|b
 ·rw [b,if_pos rfl]at hb
  rcases Dv with he|⟨a',m',he,hIH⟩
  ·rw[hb]at he;cases he
  ·have hk:=PU (pe hS.right) o8 he
   rw[hb]at he
   cases he
   repeat' (first
 |simp only[go_sem,hD,hY,hZ,gC,jr,b]
 |(with_reducible first|refine cf fun hc=>?_|refine cj fun hc=>?_|refine cm (fun hc=>?_) fun hc=>?_)<;>(try simp only[hc,bs,↓reduceIte]at h)<;>try simp only[hc]
 | (with_reducible refine ax hQ ?_;simp only [bF,bG,bZ,cb,go_sem,hD,hY,hZ,gC,jr,b];try exact eQ))
   refine hIH y2 s2 _ ⟨⟨r,hr,lj⟩,hk,dT.close g,by simpa using b,by rw[ko.2.2.2.1];exact hfu⟩ ?_
   simp only[go_sem]
   repeat' (first|exact Ok.out|with_reducible refine ei ?_ ?_)
 ·rw [b,if_neg (by simp)]at hb
  rcases Dv with he|⟨a',m',he,hIH⟩
  ·rw [hb]at he
   cases he
   simp only[eK]at hQ
   repeat' (first
 |simp only[go_sem,hD,hY,hZ,gC,jr,b,HC,rR]
 |(with_reducible first|refine cf fun hc=>?_|refine cj fun hc=>?_|refine cm (fun hc=>?_) fun hc=>?_)<;>(try simp only[hc,bs,↓reduceIte]at h)<;>try simp only[hc]
 |(with_reducible refine ax hQ ?_;simp only[bF,bG,bZ,cb,go_sem,hD,hY,hZ,gC,jr,b,HC,rR];try exact eQ))
  ·rw[hb]at he;cases he
theorem ZA (hS:I7 p T W fuel) (hQ:mN 0 0 [(8,some (true,5)),(9,none)] (.tuple [.agg (eK mf), .int .i64 0]) ⟨[],[]⟩=Q) : ∀ (N:Nat) (a:Int) (m:Mc) (y:Lay) (q:Nat) (s:St),At p T W fuel a m y q s→Mc.go p p.aR.L T W fuel N a m=some mf→
 Sem Tryz.prog B 131 Q03 (JJ B Q) (TMr fuel q a) s:=by
 intro N
 induction N with
 |zero=>intro a m y q s _ h;cases h
 | succ N ih=>
  intro a m y q s gE kH
  have IH : ∀ (a':Int) (m':Mc) (y':Lay) (s':St) (tm:Tm),Mc.go p p.aR.L T W fuel N a' m'=some mf→At p T W fuel a' m' y' q s'→xa tm (TMr fuel q a')→JJ B Q (.goto 1) tm s':=fun a' m' y' s' tm hg hA ht=>
   Fg (r:= .seq .skip Q03) rfl (mM.jx ht (mM.once (Sem.kX (ih a' m' y' q s' hA hg))))
  have anc:=gE
  obtain⟨⟨r,hr,hi⟩,o8,dT,qf,hfu⟩:=gE
  simp only[Mc.go]at kH
  refine ji ?_
  have⟨hD,hY,hZ,gC⟩:=bb
  have hm:=hi.eW
  rw[fO]at hm
  have vZ:=hi.wk
  rcases zaa (a == -1)with ba|ba
  ·have hn:m.next p p.aR.L T W fuel a=m.back p.aR.L 0:=by unfold Mc.next;rw [if_pos ba]
   rw[hn]at kH
   repeat' (first
 |simp only[go_sem,hD,hY,hZ,gC,ba]
 | (with_reducible refine ax hQ ?_;exact aB))
   refine NU hS hQ anc (g:=0) ?_ ?_
   ·rcases e:m.back p.aR.L 0 with ⟨_ | a',m'⟩
    ·rw[e]at kH;cases kH;exact .inl rfl
    ·rw[e]at kH;exact .inr ⟨a',m',rfl,fun y' s' tm h1 h2=>IH a' m' y' s' tm kH h1 h2⟩
   ·simp only [go_sem]
    repeat' (first|exact Ok.out|with_reducible refine ei ?_ ?_)
  rcases zaa (m.steps==fuel)with bf|bf
  ·have hn:m.next p p.aR.L T W fuel a=(none,{m with fin:=2}):=by unfold Mc.next;rw [if_neg (by simp [ba]),if_pos bf]
   rw[hn]at kH
   cases kH
   have h2:=hi.lT (m':= {m with fin:=2}) rfl rfl hi.t0 hi.t1
   rw[fO]at h2
   simp only at h2
   repeat' (first
 |simp only[go_sem,hD,hY,hZ,gC,ba,bf,hm,vZ]
 | (with_reducible refine ax hQ ?_;exact aB))
   refine HA hQ h2 ?_
   simp only[go_sem]
   repeat' (first|exact Ok.out|with_reducible refine ei ?_ ?_)
  -- a statement
  obtain⟨fr,rs,f,jN,h1,h2,h3,h4⟩:=Hr hS.ok o8 (by have:=dT.st;omega)
  have ane:a≠ -1:=by simpa using ba
  obtain⟨hx,sL,ij,c,hac,HD⟩:=I3 o8 h4 hS.right ane h1
  have hfb:=hS.fuel
  have EU:=dT.run (by omega) hS.ok hS.W hS.T
  have aha:m.steps<fuel:=by
   have h:m.steps≠fuel:=by simpa using bf
   omega
  have v7:=dT.steps
  have xy:IntKind.wrap .i64 (m.steps+1)=m.steps+1:=dv (by omega) (by omega)
  have P6:IntKind.wrap .i64 (a - 1)=(c:Int):=by
   have:=(zac.1 HD).1
   have:=EU.L
   rw[show a - 1=(c:Int) by omega];exact dv (by omega) (by omega)
  have cS:(fU p)[2]? = some (.slice .shared 17 (p.aR.L.map dK)):=rfl
  have Kl:=hi.lT (m':= {m with steps:=m.steps+1}) rfl rfl hi.t0 hi.t1
  generalize iD:ff p.aR.L a=it at *
  have anf:2≠q:=by
   have e1:=(hi.loc (q,r) (by simp)).1
   have e2:=(hi.loc (2,xB) (by simp)).1
   exact Pw e2 e1 fun e=>by have e':xB=r:=e;rw[← e']at hr;cases hr
  have ZB:17≤r.length:=by omega
  have hdr:List.drop 17 r = []:=zb1 (by omega)
  have lj:=Kl.qB (r':=dK it) (by simpa using anf) (by omega)
  have jq:=Kl.eW
  have Wv:=(Kl.loc (q,r) (by simp)).1
  have CG:=(lj.loc (q,dK it) (by simp)).1
  rw[fO]at jq lj Wv CG
  simp only at jq lj Wv CG
  have hle:q<s.aq.length:=df (hi.loc (q,r) (by simp)).1
  have Tq:l5 ({m with steps:=m.steps+1} : Mc) fr rs:=⟨jN.st,jN.len,jN.names,jN.vars⟩
  have Tr:Ld p T W ({m with steps:=m.steps+1} : Mc):=⟨EU.W,EU.T,EU.trace,EU.out,EU.L,EU.P,EU.reads⟩
  have zh:mS p p.aR.L a ({m with steps:=m.steps+1} : Mc):=o8.of rfl (zal _) o8.at_
  have hn:m.next p p.aR.L T W fuel a=(if it.s.kind==4 then(if(({m with steps:=m.steps+1} : Mc).call p W it.s).2.fin==0 then some (({m with steps:=m.steps+1} : Mc).call p W it.s).1 else none,(({m with steps:=m.steps+1} : Mc).call p W it.s).2)
   else if it.s.kind==9 then(if(({m with steps:=m.steps+1} : Mc).fA W it.s).2.fin==0 then(({m with steps:=m.steps+1} : Mc).fA W it.s).2.back p.aR.L (({m with steps:=m.steps+1} : Mc).fA W it.s).1 else(none,(({m with steps:=m.steps+1} : Mc).fA W it.s).2))
   else(if(({m with steps:=m.steps+1} : Mc).do p p.aR.L T W it).2.fin==0 then some (({m with steps:=m.steps+1} : Mc).do p p.aR.L T W it).1 else none,(({m with steps:=m.steps+1} : Mc).do p p.aR.L T W it).2)):=by
   unfold Mc.next
   rw[if_neg (by simp[ba]),if_neg (by simp[bf])]
   dsimp only
   rw[iD]
  rw[hn]at kH
  generalize qu:({m with steps:=m.steps+1} : Mc)=m1 at *
  have ang:m1.fin=0:=by rw[← qu];exact qf
  have NV:m1.steps=m.steps+1:=by rw[← qu]
  have BB : ∀ m2:Mc,zc m1 m2→m2.st.length≤101→vV m2:=fun m2 hl hs=>dT.less (by rw[qu];exact hl) hs
  have DA:m1.st=m.st:=by rw[← qu]
  rcases zaa (it.s.kind==4)with b4|b4
  ·rw [if_pos b4]at kH
   have vC:it.s.kind=4:=by simpa using b4
   have c1:=Wi hS.ok hS.right.may lj Tq Tr zh.rJ (Wj hS.ok hS.right hx vC h2 h3)
   repeat' (first
 |simp only[go_sem,hD,hY,hZ,gC,ba,bf,hm,vZ,xy,jq,P6,HD,cS,Wv,CG,hle,b4,ZB,hdr,zaI]
 | (with_reducible refine ax hQ ?_;exact aB))
   refine CR c1 fun d s2 EV=>?_
   obtain⟨rfl,y2,_,DB⟩:=EV
   have qU:=DB.eW
   rw[fO]at qU
   have ko:=Dz p W m1 it.s
   have kz:(m1.call p W it.s).2.st.length≤101:=by
    rcases ko.2 with h|h
    ·rw[DA]at h;have:=dT.st;omega
    ·exact h
   rcases zaa ((m1.call p W it.s).2.fin==0)with b|b
   ·rw [b,if_pos rfl]at kH
    repeat' (first
 |simp only[go_sem,hD,hY,hZ,gC,qU,b]
 | (with_reducible refine ax hQ ?_;exact aB))
    refine IH _ _ y2 s2 _ kH ⟨⟨dK it,rfl,DB⟩,PW hS.right zh hx vC (by rw[sL, ← h4];unfold Mc.top;rw[DA]) (by simpa using b) rfl ang,BB _ ko.1 kz,by simpa using b,by rw[ko.1.steps,NV];omega⟩ ?_
    simp only[go_sem]
    repeat' (first|exact Ok.out|with_reducible refine ei ?_ ?_)
   ·rw [b,if_neg (by simp)]at kH
    cases kH
    repeat' (first
 |simp only[go_sem,hD,hY,hZ,gC,qU,b]
 | (with_reducible refine ax hQ ?_;exact aB))
    refine HA hQ DB ?_
    simp only[go_sem]
    repeat' (first|exact Ok.out|with_reducible refine ei ?_ ?_)
  rw[if_neg (by simp[b4])]at kH
  rcases zaa (it.s.kind==9)with b9|b9
  ·rw [if_pos b9]at kH
   have c1:=adb lj Tq (P7 hS.ok hS.right hx h2 h3).said Tr.W Tr.trace
   repeat' (first
 |simp only[go_sem,hD,hY,hZ,gC,ba,bf,hm,vZ,xy,jq,P6,HD,cS,Wv,CG,hle,b4,b9,ZB,hdr,zaI]
 | (with_reducible refine ax hQ ?_;exact aB))
   refine CR c1 fun d s2 EV=>?_
   obtain⟨rfl,y2,_,DB⟩:=EV
   have qU:=DB.eW
   rw[fO]at qU
   have lG:=BA W m1 it.s
   have Ww:=(FD W m1 it.s).1
   rcases zaa ((m1.fA W it.s).2.fin==0)with b|b
   ·rw [b,if_pos rfl]at kH
    repeat' (first
 |simp only[go_sem,hD,hY,hZ,gC,qU,b]
 | (with_reducible refine ax hQ ?_;exact aB))
    have Ak:m1.mem.length≤(m1.fA W it.s).2.mem.length:=by
     have hw:=gL m1 it.s.x
     unfold Mc.fA
     split
     ·dsimp only
      split
      ·rw[(dL _ _ _ _).2.1,hw.2.1];exact zal _
      ·rw[hw.2.1];exact zal _
     ·rw[(dL _ _ _ _).2.1];exact zal _
    refine NU (a:=a) (g:=(m1.fA W it.s).1) hS hQ (y:=y2) ⟨⟨dK it,rfl,DB⟩,zh.of Ww Ak zh.at_,BB _ lG (by rw[Ww,DA];exact dT.st),by simpa using b,by rw[lG.steps,NV];omega⟩ ?_ ?_
    ·rcases e:(m1.fA W it.s).2.back p.aR.L (m1.fA W it.s).1 with ⟨_ | a',m'⟩
     ·rw[e]at kH;cases kH;exact .inl rfl
     ·rw[e]at kH;exact .inr ⟨a',m',rfl,fun y' s' tm h1 h2=>IH a' m' y' s' tm kH h1 h2⟩
    ·simp only [go_sem]
     repeat' (first|exact Ok.out|with_reducible refine ei ?_ ?_)
   ·rw [b,if_neg (by simp)]at kH
    cases kH
    repeat' (first
 |simp only[go_sem,hD,hY,hZ,gC,qU,b]
 | (with_reducible refine ax hQ ?_;exact aB))
    refine HA hQ DB ?_
    simp only[go_sem]
    repeat' (first|exact Ok.out|with_reducible refine ei ?_ ?_)
  rw[if_neg (by simp[b9])]at kH
  have c1:=am3 hS.ok hS.right.may lj Tq Tr (P7 hS.ok hS.right hx h2 h3)
  repeat' (first
 |simp only[go_sem,hD,hY,hZ,gC,ba,bf,hm,vZ,xy,jq,P6,HD,cS,Wv,CG,hle,b4,b9,ZB,hdr,zaI]
 | (with_reducible refine ax hQ ?_;exact aB))
  refine CR c1 fun d s2 EV=>?_
  obtain⟨rfl,y2,_,DB⟩:=EV
  have qU:=DB.eW
  rw[fO]at qU
  have Qe:=I5 p p.aR.L T W m1 it
  have zF:=(S4 p p.aR.L T W m1 it).1
  rcases zaa ((m1.do p p.aR.L T W it).2.fin==0)with b|b
  ·rw [b,if_pos rfl]at kH
   repeat' (first
 |simp only[go_sem,hD,hY,hZ,gC,qU,b]
 | (with_reducible refine ax hQ ?_;exact aB))
   refine IH _ _ y2 s2 _ kH ⟨⟨dK it,rfl,DB⟩,aa7 hS.right zh hx (by rw[sL, ← h4];unfold Mc.top;rw[DA]) (by simpa using b),BB _ Qe (by rw[zF,DA];exact dT.st),by simpa using b,by rw[Qe.steps,NV];omega⟩ ?_
   simp only[go_sem]
   repeat' (first|exact Ok.out|with_reducible refine ei ?_ ?_)
  ·rw [b,if_neg (by simp)]at kH
   cases kH
   repeat' (first
 |simp only[go_sem,hD,hY,hZ,gC,qU,b]
 | (with_reducible refine ax hQ ?_;exact aB))
   refine HA hQ DB ?_
   simp only[go_sem]
   repeat' (first|exact Ok.out|with_reducible refine ei ?_ ?_)
end
end Go.Abs
namespace Go.Abs
set_option maxRecDepth 8000
open Go.Proofs
structure Ly where
 c:Nat
 mo:Nat
 gm:Nat
 more:List D
 fs:D
def Ly.own (y:Ly):List Nat:=y.c::y.mo::y.fs.arr
def fi (p:Pg) (fr:Fr):Pc:=(p.procs[fr.proc.toNat]?).getD pc0
def zi (p:Pg) (a:Int) (fr:Fr):List D:= [.slice .shared 16 ((fi p fr).flat.map dn), .slice .shared 1 ((fi p fr).fin.map encStr), .int .i64 a, .slice .shared 1 (fr.names.map encStr), .slice .shared 1 (fr.vars.map fun c:Nat=>bD (c:Int))]
def iu (p:Pg):Int→List Fr→List D
 |_,[]=> []
 |a,fr::r=>iu p fr.call r++zi p a fr
theorem rk (p:Pg) : ∀ (a:Int) (l:List Fr),(iu p a l).length=l.length*5
 |_,[]=>rfl
 |a,fr::r=>by
  rw[iu,zaj,rk p fr.call r]
  simp only[zi,zat,zaD];omega
abbrev gb (p:Pg) (T W:List Int) (fuel:Int) (y:Ly) (m:Mc):List D:=
 [.slice .shared 1 (p.globals.map encStr), .slice .shared 5 (p.procs.map bN), .dM 1 y.mo y.gm m.mem.length,y.fs, .slice .shared 1 (T.map bD), .int .i64 fuel, .slice .shared 1 (W.map bD),
  .int .i64 m.fin, .int .i64 m.steps, .int .i64 m.reads, .slice (.tok 0) 1 (m.out.map bD), .slice (.tok 1) 2 (m.trace.map gT)]
structure fj (p:Pg) (T W:List Int) (fuel:Int) (y:Ly) (a:Int) (m:Mc) (loc:List (Nat×List D)) (s:St):Prop where
 eW:s.aq[y.c]? = some (gb p T W fuel y m)
 t0:s.ay[0]? = some (some m.out.length)
 t1:s.ay[1]? = some (some m.trace.length)
 mem:s.aq[y.mo]? = some (.int .i64 ((y.gm:Nat):Int)::(m.mem.map kl++y.more))
 fr:(y.fs = .ek 5∧m.st = [])∨∃ fo g more,y.fs = .dM 5 fo g m.st.length∧s.aq[fo]? = some (.int .i64 ((g:Nat):Int)::(iu p a m.st++more))
 own:y.own.Nodup
 loc : ∀ q∈loc,s.aq[q.1]? = some q.2∧q.1∉y.own
section
variable {p:Pg} {T W:List Int} {fuel:Int} {y:Ly} {a:Int} {m:Mc} {loc:List (Nat×List D)} {s:St}
theorem fj.rZ (h:fj p T W fuel y a m loc s) : ∀ o∈y.own,o<s.aq.length:=by
 intro o mo
 simp only[Ly.own,zap]at mo
 rcases mo with rfl|rfl|mo
 ·exact df h.eW
 ·exact df h.mem
 ·rcases h.fr with ⟨e,_⟩ | ⟨fo,g,more,e,e2⟩
  ·rw[e]at mo;cases mo
  ·rw [e]at mo
   have:o=fo:=by simpa[D.arr]using mo
   subst this;exact df e2
theorem fj.Qf (h:fj p T W fuel y a m loc s) {y':Ly} {a':Int} {m':Mc} {s':St} (h1:s'.aq[y'.c]? = some (gb p T W fuel y' m')) (h2:s'.ay[0]? = some (some m'.out.length)) (h3:s'.ay[1]? = some (some m'.trace.length))
 (h4:s'.aq[y'.mo]? = some (.int .i64 ((y'.gm:Nat):Int)::(m'.mem.map kl++y'.more))) (h5:(y'.fs = .ek 5∧m'.st = [])∨∃ fo g more,y'.fs = .dM 5 fo g m'.st.length∧s'.aq[fo]? = some (.int .i64 ((g:Nat):Int)::(iu p a' m'.st++more)))
 (h6:y'.own.Nodup) (h7 : ∀ o∈y'.own,o∈y.own∨s.aq.length≤o) (k : ∀ (q:Nat) (r:List D),s.aq[q]? = some r→q∉y.own→s'.aq[q]? = some r):fj p T W fuel y' a' m' loc s':=
 ⟨h1,h2,h3,h4,h5,h6,fun q mq=>by
  obtain⟨e1,e2⟩:=h.loc q mq
  refine⟨k _ _ e1 e2,fun mo=>?_⟩
  rcases h7 _ mo with mo|mo
  ·exact e2 mo
  ·have:=df e1;omega⟩
theorem fj.sub (h:fj p T W fuel y a m loc s) {NB:List (Nat×List D)} (hl : ∀ q∈NB,q∈loc):fj p T W fuel y a m NB s:= {h with loc:=fun q m=>h.loc q (hl q m)}
theorem fj.keep (h:fj p T W fuel y a m loc s) {s':St} (k : ∀ (o:Nat) (r:List D),s.aq[o]? = some r→s'.aq[o]? = some r) (k0:s'.ay[0]? = s.ay[0]?) (k1:s'.ay[1]? = s.ay[1]?):fj p T W fuel y a m loc s':=by
 refine⟨k _ _ h.eW,by rw[k0];exact h.t0,by rw[k1];exact h.t1,k _ _ h.mem, ?_,h.own,fun q m=>⟨k _ _ (h.loc q m).1,(h.loc q m).2⟩⟩
 rcases h.fr with e|⟨fo,g,more,e,e2⟩
 ·exact .inl e
 ·exact .inr ⟨fo,g,more,e,k _ _ e2⟩
theorem fj.new (h:fj p T W fuel y a m loc s) (row:List D):fj p T W fuel y a m ((s.aq.length,row)::loc) ⟨s.aq++ [row],s.ay⟩:=by
 have h':=h.keep (s':=⟨s.aq++ [row],s.ay⟩) (fun o r e=>by rw[zak (df e)];exact e) rfl rfl
 refine {h' with loc:=fun q mq=>?_}
 rcases zap.1 mq with rfl|mq
 ·exact⟨by simp,fun mo=>zbY _ (h.rZ _ mo)⟩
 ·exact h'.loc q mq
theorem fj.ay (h:fj p T W fuel y a m loc s) (ts:List (Option Nat)):fj p T W fuel y a m loc ⟨s.aq,s.ay++ts⟩:=
 h.keep (fun _ _ e=>e) (zak (zac.1 h.t0).1) (zak (zac.1 h.t1).1)
theorem fj.yD (h:fj p T W fuel y a m loc s):y.c≠y.mo:=fun e=>by
 have:=h.own
 simp only[Ly.own,za4,zap,not_or]at this
 exact this.1.1 e
theorem fj.wK (h:fj p T W fuel y a m loc s) : ∀ o∈y.fs.arr,o≠y.c∧o≠y.mo:=fun o mo=>by
 have:=h.own
 simp only[Ly.own,za4,zap,not_or]at this
 exact⟨fun e=>this.1.2 (e ▸ mo),fun e=>this.2.1 (e ▸ mo)⟩
theorem fj.lT (h:fj p T W fuel y a m loc s) {m':Mc} (e1:m'.st=m.st) (e2:m'.mem=m.mem) {ts:List (Option Nat)} (k0:ts[0]? = some (some m'.out.length)) (k1:ts[1]? = some (some m'.trace.length)) :
 fj p T W fuel y a m' loc ⟨s.aq.set y.c (gb p T W fuel y m'),ts⟩:=by
 refine h.Qf (by simp[df h.eW]) k0 k1 ?_ ?_ h.own (fun o mo=> .inl mo) fun q r e hq=>?_
 ·rw [e2]
  show(s.aq.set _ _)[_]? = _
  rw[zam h.yD];exact h.mem
 ·rw [e1]
  rcases h.fr with e|⟨fo,g,more,e,e3⟩
  ·exact .inl e
  ·refine .inr ⟨fo,g,more,e, ?_⟩
   show(s.aq.set _ _)[_]? = _
   rw[zam (Ne.symm (h.wK fo (by rw[e];simp[D.arr])).1)];exact e3
 ·show(s.aq.set _ _)[_]? = _
  rw[zam (fun e'=>hq (by rw[← e'];simp[Ly.own]))];exact e
theorem fj.IX (h:fj p T W fuel y a m loc s) {i:Nat} (v:Int):fj p T W fuel y a {m with mem:=m.mem.set i v} loc ⟨s.aq.set y.mo (.int .i64 ((y.gm:Nat):Int)::((m.mem.set i v).map kl++y.more)),s.ay⟩:=by
 refine h.Qf ?_ h.t0 h.t1 (by simp[df h.mem]) ?_ h.own (fun o mo=> .inl mo) fun q r e hq=>?_
 ·show(s.aq.set _ _)[_]? = _
  rw[zam (Ne.symm h.yD),h.eW]
  simp
 ·rcases h.fr with e | ⟨fo,g,more,e,e3⟩
  ·exact .inl e
  ·refine .inr ⟨fo,g,more,e, ?_⟩
   show(s.aq.set _ _)[_]? = _
   rw[zam (Ne.symm (h.wK fo (by rw[e];simp[D.arr])).2)];exact e3
 ·show(s.aq.set _ _)[_]? = _
  rw[zam (fun e'=>hq (by rw[← e'];simp[Ly.own]))];exact e
theorem fj.IY (h:fj p T W fuel y a m loc s) (v:Int):fj p T W fuel {y with gm:=y.gm+1,more:= []} a {m with mem:=m.mem++ [v]} loc
 ⟨(s.aq.set y.mo (.int .i64 ((y.gm+1:Nat):Int)::(m.mem.map kl++ [.int .i64 v]))).set y.c (gb p T W fuel {y with gm:=y.gm+1,more:= []} {m with mem:=m.mem++ [v]}),s.ay⟩:=by
 refine h.Qf ?_ h.t0 h.t1 ?_ ?_ h.own (fun o mo=> .inl mo) fun q r e hq=>?_
 ·simp[df h.eW]
 ·show(List.set _ _ _)[_]? = _
  rw[zam h.yD]
  simp[df h.mem,kl]
 ·rcases h.fr with e | ⟨fo,g,more,e,e3⟩
  ·exact .inl e
  ·refine .inr ⟨fo,g,more,e, ?_⟩
   have:=h.wK fo (by rw[e];simp[D.arr])
   show(List.set _ _ _)[_]? = _
   rw[zam (Ne.symm this.1),zam (Ne.symm this.2)];exact e3
 ·show(List.set _ _ _)[_]? = _
  rw[zam (fun e'=>hq (by rw[← e'];simp[Ly.own])),zam (fun e'=>hq (by rw[← e'];simp[Ly.own]))];exact e
theorem fj.qB {q:Nat} {r r':List D} (h:fj p T W fuel y a m ((q,r)::loc) s) (hq : ∀ x∈loc,x.1≠q):fj p T W fuel y a m ((q,r')::loc) ⟨s.aq.set q r',s.ay⟩:=by
 obtain⟨h1,h2⟩:=h.loc (q,r) (zaA ..)
 simp only at h1 h2
 have ne : ∀ {o:Nat} {x:List D},s.aq[o]? = some x→o≠q→(s.aq.set q r')[o]? = some x:=fun e hn=>by rw[zam (Ne.symm hn)];exact e
 have no : ∀ o∈y.own,o≠q:=fun o mo e=>h2 (e ▸ mo)
 refine⟨ne h.eW (no _ (by simp[Ly.own])),h.t0,h.t1,ne h.mem (no _ (by simp[Ly.own])), ?_,h.own,fun x mx=>?_⟩
 ·rcases h.fr with e | ⟨fo,g,more,e,e3⟩
  ·exact .inl e
  ·exact .inr ⟨fo,g,more,e,ne e3 (no _ (by rw[Ly.own,e];simp[D.arr]))⟩
 ·rcases zap.1 mx with rfl | mx
  ·exact⟨by simp[df h1],h2⟩
  ·obtain⟨f1,f2⟩:=h.loc x (zan _ mx)
   exact⟨ne f1 (hq x mx),f2⟩
structure qv (p:Pg) (y:Ly) (a:Int) (fr:Fr) (r:List Fr) (s:St) (fo g:Nat) (cells:List D):Prop where
 fs:y.fs = .dM 5 fo g (r.length+1)
 at_:s.aq[fo]? = some (.int .i64 ((g:Nat):Int)::cells)
 c0:cells[r.length*5]? = some (.slice .shared 16 ((fi p fr).flat.map dn))
 c1:cells[r.length*5+1]? = some (.slice .shared 1 ((fi p fr).fin.map encStr))
 c2:cells[r.length*5+2]? = some (.int .i64 a)
 c3:cells[r.length*5+3]? = some (.slice .shared 1 (fr.names.map encStr))
 c4:cells[r.length*5+4]? = some (.slice .shared 1 (fr.vars.map fun c:Nat=>bD (c:Int)))
theorem fj.BD (h:fj p T W fuel y a m loc s) {fr:Fr} {r:List Fr} (gd:m.st=fr::r) : ∃ fo g more,qv p y a fr r s fo g (iu p a (fr::r)++more):=by
 rcases h.fr with ⟨_,e⟩|⟨fo,g,more,e,e2⟩
 ·rw[gd]at e;cases e
 ·rw [gd]at e e2
  have hl:=rk p fr.call r
  have get : ∀ j,j<5→(iu p a (fr::r)++more)[r.length*5+j]? = (zi p a fr)[j]? :=fun j hj=>by
   rw[zak (by rw[rk];simp;omega),iu,zas (by omega),hl,show r.length*5+j - r.length*5=j by omega]
  exact⟨fo,g,more,by simpa using e,e2,get 0 (by omega),get 1 (by omega),get 2 (by omega),get 3 (by omega),get 4 (by omega)⟩
theorem adx {A C:List D} {n:Nat} (hA:A.length=n) (x0 x1 x2 v:D):gV (A++x0::x1::x2::C) (n+2) [v] = A++x0::x1::v::C:=by
 unfold gV
 rw[List.take_append,List.drop_append,zb0 (by omega),zb1 (by simp;omega),hA,show n+2 - n=2 by omega,show n+2 + [v].length - n=3 by simp only[zaK];omega]
 simp
theorem HE (p:Pg) (a a':Int) (fr:Fr) (r:List Fr) (more:List D):gV (iu p a (fr::r)++more) (r.length*5+2) [.int .i64 a'] = iu p a' (fr::r)++more:=by
 have hl:=rk p fr.call r
 rw[iu,iu]
 generalize iu p fr.call r=A at *
 simp only[zi,zaB,zaR,zaV]
 exact adx hl _ _ _ _
theorem fj.setAt (h:fj p T W fuel y a m loc s) {fr:Fr} {r:List Fr} (gd:m.st=fr::r) {fo g:Nat} {more:List D} (ht:qv p y a fr r s fo g (iu p a (fr::r)++more)) (a':Int) :
 fj p T W fuel y a' m loc ⟨s.aq.set fo (.int .i64 ((g:Nat):Int)::(iu p a' (fr::r)++more)),s.ay⟩:=by
 have hn:=h.wK fo (by rw[ht.fs];simp[D.arr])
 refine h.Qf ?_ h.t0 h.t1 ?_ (.inr ⟨fo,g,more,by rw[gd];exact ht.fs, ?_⟩) h.own (fun o mo=> .inl mo) fun q r e hq=>?_
 ·show(s.aq.set _ _)[_]? = _
  rw[zam hn.1];exact h.eW
 ·show(s.aq.set _ _)[_]? = _
  rw[zam hn.2];exact h.mem
 ·rw [gd]
  show(s.aq.set _ _)[_]? = _
  simp[df ht.at_]
 ·show(s.aq.set _ _)[_]? = _
  rw[zam (fun e'=>hq (by rw[← e',Ly.own,ht.fs];simp[D.arr]))];exact e
theorem sO (h:fj p T W fuel y a m loc s) {fr:Fr} {r:List Fr} {fo g:Nat} {cells:List D} (ht:qv p y a fr r s fo g cells) (hs:r.length<1000000):az Tryz.prog 87 [.ptr y.c 0] s (.fC fo g (r.length*5)) s:=by
 have hm:=h.eW
 rw[gb,ht.fs]at hm
 have hw:IntKind.wrap .i64 (((r.length+1:Nat):Int) - 1)=((r.length:Nat):Int):=by rw[show((r.length+1:Nat):Int) - 1=(r.length:Int) by omega];exact dv (by omega) (by omega)
 have hl:(r.length<r.length+1)=True:=by simp
 refine bp.iY zT.h rfl fun B Q hB hQ=>?_
 have⟨hD,hY,hZ,gC⟩:=bb
 repeat' (first
 |simp only[go_sem,hD,hY,hZ,gC,hm,hw,hl]
 |(with_reducible refine ax hQ ?_;exact aB))
 (refine dG hQ ?_;simp only[bF,bG,bZ,cb,go_sem])
end
end Go.Abs
namespace Go.Abs
set_option maxRecDepth 8000
open Go.Proofs
section
variable {p:Pg} {T W:List Int} {fuel:Int} {y:Ly} {a:Int} {m:Mc} {loc:List (Nat×List D)} {s:St} {fr:Fr} {r:List Fr} {fo g:Nat} {cells:List D}
theorem qv.keep (h:qv p y a fr r s fo g cells) {s':St} (k : ∀ (o:Nat) (r:List D),s.aq[o]? = some r→s'.aq[o]? = some r):qv p y a fr r s' fo g cells:= {h with at_:=k _ _ h.at_}
theorem qv.new (h:qv p y a fr r s fo g cells) (row:List D):qv p y a fr r ⟨s.aq++ [row],s.ay⟩ fo g cells:=h.keep fun o r e=>by rw[zak (df e)];exact e
theorem Tt {l:List Nat} {k:Nat} {c:Nat} {rest:List Nat} (h:l.drop k=c::rest):(l.map fun c:Nat=>bD (c:Int))[k]? = some [.int .i64 (c:Int)]:=by
 rw[zao,(drop_cons h).1];rfl
theorem ady {i:Nat} {v:Int} (hv:m.mem[i]? = some v) (more:List D):(m.mem.map kl++more)[i]? = some (.int .i64 v):=by
 have:=(zac.1 hv).1
 rw[zak (by simpa using this),zao,hv];rfl
theorem NW (h:fj p T W fuel y a m loc s) (gd:m.st=fr::r) (ht:qv p y a fr r s fo g cells) (hs:r.length<1000000) (hv:fr.vars.length<1000000) (hc : ∀ c∈fr.vars,c<m.mem.length) :
 az Tryz.prog 91 [.ptr y.c 0] s (.slice (.tok s.ay.length) 1 (m.bu.map bD)) ⟨s.aq,s.ay++ [some m.bu.length]⟩:=by
 have c1:=sO h ht hs
 have hm:=h.eW
 rw[gb]at hm
 have h4:=ht.c4
 have gE:=ht.at_
 have qu:=h.mem
 have Lc:(fr.vars.map fun c=>m.mem.getD c 0)=m.bu:=by unfold Mc.bu Mc.top;rw[gd];rfl
 rw[← Lc]
 generalize pP:s.ay.length=tk at *
 refine bp.iY nT.h rfl fun B Q hB hQ=>?_
 have⟨hD,hY,hZ,gC⟩:=bb
 have loop : ∀ (rest:List Nat) (k:Nat),fr.vars.drop k=rest→k≤fr.vars.length→aN Tryz.prog B 28 Q0K (fX 0 (kA (jJ Tryz.prog B 28 Q0L Q) Q))
  [(0, .ptr y.c 0),(3, .slice (.tok tk) 1 (((fr.vars.take k).map fun c=>m.mem.getD c 0).map bD)),(10, .slice .shared 1 (fr.vars.map fun c:Nat=>bD (c:Int))),(11, .int .i64 (fr.vars.length:Int)),(12, .int .i64 (k:Int))] ⟨s.aq,s.ay++ [some k]⟩:=by
  intro rest
  induction rest with
  |nil=>
   intro k hd HF
   have hD:=drop_nil hd
   have hk:fr.vars.take k=fr.vars:=zb0 (zaP.1 hd)
   have:k=fr.vars.length:=by have:=zaP.1 hd;omega
   subst this
   rw[hk]
   refine aN.fJ ?_
   repeat' (first
 |simp only[go_sem,hD,hY,hZ,gC]
 | (with_reducible refine ax hQ ?_;exact aB))
   (refine dG hQ ?_;simp only[bF,bG,bZ,cb,go_sem,zaw])
  | cons c rest ih=>
   intro k hd HF
   obtain⟨hY,g2,hD,g4⟩:=drop_cons hd
   have aZ:k<4611686018427387904:=by omega
   have xv:=hc c (zad hY)
   have hgc:=Tt hd
   have hgv:m.mem[c]? = some (m.mem.getD c 0):=by rw[zay,zah xv];rfl
   have iN:=ady hgv y.more
   have P3:=Kf hd m
   have IH:=ih (k+1) g2 g4
   rw[P3,zag,zaf,zai]at IH
   generalize (fr.vars.take k).map (fun c=>m.mem.getD c 0)=acc at *
   generalize m.mem.getD c 0=v at *
   have ahd:acc.length=k:=by
    have:=congrArg List.length P3
    simp at this;omega
   have dd:fH 1 8 (.slice (.tok tk) 1 (acc.map bD)) (.slice .full 1 [[.int .i64 v]]) ⟨s.aq,s.ay++ [some k]⟩=some (.slice (.tok tk) 1 (acc.map bD++ [[.int .i64 v]]),⟨s.aq,s.ay++ [some (k+1)]⟩):=by
    rw[kB (size:=1) (by simp only[zaw,zaK];unfold aV;omega) (by simp[← pP,ahd])]
    simp[← pP,ahd]
   refine aN.fJ ?_
   repeat' (first
 |simp only[go_sem,hD,hY,hZ,gC,hm,hgc,xv,qu,iN,dd,Nat.mul_one]
 | (with_reducible refine ax hQ ?_;exact aB))
   refine aN.jx ?_ IH
   simp only[go_sem,aw aZ,bD]
   repeat' (first|exact Ok.out|with_reducible refine ei ?_ ?_)
 have l0:=loop fr.vars 0 rfl (zaz _)
 simp only[List.take_zero,zai]at l0
 repeat' (first
 |simp only[go_sem,hD,hY,hZ,gC,hm,gE,h4]
 |(with_reducible refine CU (c1) ?_)
 |(with_reducible refine ax hQ ?_;exact aB))
 refine aN.ln 3 1 rfl ?_
 simp only[go_sem,hD,hY,hZ,gC]
 refine aN.jx ?_ l0
 simp only[go_sem,pP,zaw]
 repeat' (first|exact Ok.out|with_reducible refine ei ?_ ?_)
theorem Qg (h:fj p T W fuel y a m loc s) (ht:qv p y a fr r s fo g cells) (hs:r.length<1000000) (hn:fr.names.length<1000000) {name:aF} {j c:Nat} (hj:fS name 0 fr.names=(j:Int)) (hc:fr.vars[j]? = some c) (xv:c<m.mem.length) (v:Int) :
 az Tryz.prog 121 [.ptr y.c 0, .str name, .int .i64 v] s (.tuple []) ⟨s.aq.set y.mo (.int .i64 ((y.gm:Nat):Int)::((m.mem.set c v).map kl++y.more)),s.ay⟩:=by
 have c1:=sO h ht hs
 have hm:=h.eW
 rw[gb]at hm
 have h3:=ht.c3
 have h4:=ht.c4
 have gE:=ht.at_
 have qu:=h.mem
 have uM:gV (m.mem.map kl++y.more) c [.int .i64 v] = (m.mem.set c v).map kl++y.more:=by
  unfold gV
  rw[zbL (by simp;omega),List.drop_append_of_le_length (by simp;omega)]
  rw[← List.map_take, ← List.map_drop,List.set_eq_take_append_cons_drop,if_pos xv]
  simp[kl]
 have hlen:(c+1≤m.mem.length+y.more.length)=True:=by simp only[eq_iff_iff,iff_true];omega
 have hgc:(fr.vars.map fun c:Nat=>bD (c:Int))[j]? = some [.int .i64 (c:Int)]:=by rw[zao,hc];rfl
 refine bp.iY sJ.h rfl fun B Q hB hQ=>?_
 have⟨hD,hY,hZ,gC⟩:=bb
 have loop : ∀ (rest:List aF) (k:Nat),fr.names.drop k=rest→fS name k rest=(j:Int)→aN Tryz.prog B 41 Q14 (fX 0 Q)
  [(0, .ptr y.c 0),(1, .str name),(2, .int .i64 v),(6, .fC fo g (r.length*5)),(14, .int .i64 (fr.names.length:Int)),(15, .int .i64 (k:Int))] s:=by
  intro rest
  induction rest with
  |nil=>intro k _ e;simp[fS]at e
  | cons nm rest ih=>
   intro k hd e
   obtain⟨hY,g2,hD,g4⟩:=drop_cons hd
   have aZ:k<4611686018427387904:=by omega
   have hgn:(fr.names.map encStr)[k]? = some [.str nm]:=by rw[zao,hY];rfl
   refine aN.fJ ?_
   by_cases hb:nm=name
   ·subst hb
    have b1:(nm==nm)=true:=beq_self_eq_true nm
    have:(k:Int)=(j:Int):=by simpa[fS]using e
    have:k=j:=by omega
    subst this
    repeat' (first
 |simp only[go_sem,hD,hY,hZ,gC,hm,gE,h3,h4,hgn,hc,za3,bD,b1,xv,qu,uM,hlen,Nat.mul_one]
 | (with_reducible refine ax hQ ?_;exact aB))
    (refine dG hQ ?_;simp only[bF,bG,bZ,cb,go_sem])
   ·have b1:(nm==name)=false:=by simpa using hb
    have b2:(name==nm)=false:=by simpa using fun c=>hb c.symm
    simp only[fS,b2,zab,if_false]at e
    repeat' (first
 |simp only[go_sem,hD,hY,hZ,gC,hm,gE,h3,hgn,b1]
 | (with_reducible refine ax hQ ?_;exact aB))
    refine aN.jx ?_ (ih (k+1) g2 (by rw[show((k+1:Nat):Int)=(k:Int)+1 by omega];exact e))
    simp only[go_sem,aw aZ]
    repeat' (first|exact Ok.out|with_reducible refine ei ?_ ?_)
 have l0:=loop fr.names 0 rfl hj
 repeat' (first
 |simp only[go_sem,hD,hY,hZ,gC,hm,gE,h3]
 |(with_reducible refine CU (c1) ?_)
 |(with_reducible refine ax hQ ?_;exact aB))
 refine aN.jx ?_ l0
 simp only[go_sem,zaw]
 repeat' (first|exact Ok.out|with_reducible refine ei ?_ ?_)
theorem vG (h:fj p T W fuel y a m loc s) (hW:W.length<1000000) (ht:m.trace.length<2000000) (id:Int) (bu:List Int) :
 ∃ s',az Tryz.prog 93 [.ptr y.c 0, .int .i64 id, .slice .shared 1 (bu.map bD)] s (.tuple []) s'∧fj p T W fuel y a (m.event W id bu) loc s':=by
 have hm:=h.eW
 have hl:=df hm
 rw[gb]at hm
 have dd:fH 2 32 (.slice (.tok 1) 2 (m.trace.map gT)) (.slice .full 2 [[.int .i64 id, .slice .shared 1 (bu.map bD)]]) s=some (.slice (.tok 1) 2 ((m.trace++ [(id,bu)]).map gT),⟨s.aq,s.ay.set 1 (some (m.trace.length+1))⟩):=by
  rw[kB (size:=2) (bytes:=32) (by simp only[zaw,zaK];unfold aV;omega) (by simpa using h.t1)]
  simp[gT]
 have he:=dL W m id bu
 cases hb:W.contains id with
 | false=>
  have e:m.event W id bu=m:=by unfold Mc.event;rw[hb];rfl
  rw[e]
  refine⟨s, ?_,h⟩
  refine bp.iY nc.h rfl fun B Q hB hQ=>?_
  have⟨hD,hY,hZ,gC⟩:=bb
  have loop : ∀ (rest:List Int) (k:Nat),W.drop k=rest→rest.contains id=false→aN Tryz.prog B 35 Q0O (fX 0 Q)
   [(0, .ptr y.c 0),(1, .int .i64 id),(2, .slice .shared 1 (bu.map bD)),(11, .slice .shared 1 (W.map bD)),(12, .int .i64 (W.length:Int)),(13, .int .i64 (k:Int))] s:=by
   intro rest
   induction rest with
   |nil=>
    intro k hd e
    have hD:=drop_nil hd
    refine aN.fJ ?_
    repeat' (first
 |simp only[go_sem,hD,hY,hZ,gC]
 | (with_reducible refine ax hQ ?_;exact aB))
    (refine dG hQ ?_;simp only[bF,bG,bZ,cb,go_sem])
   |cons w rest ih=>
    intro k hd e
    obtain⟨hY,g2,hD,g4⟩:=drop_cons hd
    have aZ:k<4611686018427387904:=by omega
    rw[List.contains_cons,Bool.or_eq_false_iff]at e
    have b1:(w==id)=false:=by have:=e.1;simp at this ⊢;exact fun c=>this c.symm
    refine aN.fJ ?_
    repeat' (first
 |simp only[go_sem,hD,hY,hZ,gC,b1]
 | (with_reducible refine ax hQ ?_;exact aB))
    refine aN.jx ?_ (ih (k+1) g2 e.2)
    simp only[go_sem,aw aZ]
    repeat' (first|exact Ok.out|with_reducible refine ei ?_ ?_)
  have l0:=loop W 0 rfl hb
  repeat' (first
 |simp only[go_sem,hD,hY,hZ,gC,hm]
 |(with_reducible refine ax hQ ?_;exact aB))
  refine aN.jx ?_ l0
  simp only[go_sem,zaw]
  repeat' (first|exact Ok.out|with_reducible refine ei ?_ ?_)
 | true=>
  have e:m.event W id bu = {m with trace:=m.trace++ [(id,bu)]}:=by unfold Mc.event;rw[hb];rfl
  rw[e]
  have qf:=h.lT (m':= {m with trace:=m.trace++ [(id,bu)]}) (ts:=s.ay.set 1 (some (m.trace.length+1))) rfl rfl (by rw[zam (by omega)];exact h.t0) (by simp[(zac.1 h.t1).1])
  refine⟨_, ?_,qf⟩
  refine bp.iY nc.h rfl fun B Q hB hQ=>?_
  have⟨hD,hY,hZ,gC⟩:=bb
  have loop : ∀ (rest:List Int) (k:Nat),W.drop k=rest→rest.contains id=true→aN Tryz.prog B 35 Q0O (fX 0 Q)
   [(0, .ptr y.c 0),(1, .int .i64 id),(2, .slice .shared 1 (bu.map bD)),(11, .slice .shared 1 (W.map bD)),(12, .int .i64 (W.length:Int)),(13, .int .i64 (k:Int))] s:=by
   intro rest
   induction rest with
   |nil=>intro k _ e;cases e
   | cons w rest ih=>
    intro k hd e
    obtain⟨hY,g2,hD,g4⟩:=drop_cons hd
    have aZ:k<4611686018427387904:=by omega
    rw[List.contains_cons,zaC]at e
    refine aN.fJ ?_
    by_cases hw:w=id
    ·have b1:(w==id)=true:=by simpa using hw
     repeat' (first
 |simp only[go_sem,hD,hY,hZ,gC,hm,b1,dd,hl]
 | (with_reducible refine ax hQ ?_;exact aB))
     (refine dG hQ ?_;simp only[bF,bG,bZ,cb,go_sem])
     simp only[gb,zag,zaf,zai]
    ·have b1:(w==id)=false:=by simpa using hw
     repeat' (first
 |simp only[go_sem,hD,hY,hZ,gC,b1]
 |(with_reducible refine ax hQ ?_;exact aB))
     refine aN.jx ?_ (ih (k+1) g2 (e.resolve_left (by simpa using fun c=>hw c.symm)))
     simp only[go_sem,aw aZ]
     repeat' (first|exact Ok.out|with_reducible refine ei ?_ ?_)
  have l0:=loop W 0 rfl hb
  repeat' (first
 |simp only[go_sem,hD,hY,hZ,gC,hm]
 |(with_reducible refine ax hQ ?_;exact aB))
  refine aN.jx ?_ l0
  simp only[go_sem,zaw]
  repeat' (first|exact Ok.out|with_reducible refine ei ?_ ?_)
end
end Go.Abs
namespace Go.Abs
set_option maxRecDepth 8000
open Go.Proofs
section
variable {p:Pg} {T W:List Int} {fuel:Int} {y:Ly} {a:Int} {m:Mc} {loc:List (Nat×List D)} {s:St} {fr:Fr} {r:List Fr} {fo g:Nat} {cells:List D}
def HG (p:Pg) (fr:Fr) (it:Im) (to:Int):Prop:=
 (it.s.kind=10∧(jb (fi p fr).fin it.s.name ((fi p fr).flat.map It.s)).1=to)∨
 (it.s.kind=7∧∃ n,tU (fi p fr).flat n (gy (fi p fr).flat (fi p fr).flat.length it.s.id)=some to)∨
 (it.s.kind=8∧gy (fi p fr).flat (fi p fr).flat.length it.s.id=to)
structure ZC (p:Pg) (fr:Fr):Prop where
 flat:(fi p fr).flat.length≤1000
 yY : ∀ x∈(fi p fr).flat,x.s.labels.length<1000000
 fin:(fi p fr).fin.length<1000000
theorem ZD (h:fj p T W fuel y a m loc s) (ht:qv p y a fr r s fo g cells) (hs:r.length<1000000) (hP:ZC p fr) {it:Im} {to:Int} (hj:HG p fr it to) :
 az Tryz.prog 127 [.ptr y.c 0, .agg (aY it.s)] s (.int .i64 to) ⟨s.aq++ [aY it.s],s.ay⟩:=by
 have h1:=h.new (aY it.s)
 have wj:=ht.new (aY it.s)
 have c1:=sO h1 wj hs
 have k0:=ht.c0
 have k1:=ht.c1
 have gE:=wj.at_
 simp only at gE
 have fx:=hP.flat
 have z0:(s.aq++ [aY it.s])[s.aq.length]? = some (aY it.s):=by simp
 have cA:=fun s=>NN (l:=(fi p fr).flat) (by omega) it.s.id s
 unfold HG at hj
 obtain⟨_,NT,wi⟩:=hP
 generalize fi p fr=f at *
 rcases hj with ⟨hk,yl⟩|⟨hk,n,yl⟩|⟨hk,yl⟩
 ·have oZ:(it.s.kind==10)=true:=by simp [hk]
  have cB:=fun s=>adl (l:=f.flat) (by omega) (fun x mx=>by have:=NT x mx;omega) (fin:=f.fin) (by omega) it.s.name s
  generalize jb f.fin it.s.name (f.flat.map It.s)=R at *
  subst yl
  refine bp.iY nV.h rfl fun B Q hB hQ=>?_
  have⟨hD,hY,hZ,gC⟩:=bb
  repeat' (first
 |simp only[go_sem,hD,hY,hZ,gC,z0,gE,k0,k1,oZ,zaS]
 |(with_reducible refine CU (c1) ?_)
 |(with_reducible refine CU (cB _) ?_)
 |(with_reducible refine ax hQ ?_;exact aB))
  (refine dG hQ ?_;simp only[bF,bG,bZ,cb,go_sem])
 ·have oZ:(it.s.kind==10)=false:=by simp [hk]
  have b7:(it.s.kind==7)=true:=by simp[hk]
  generalize gy f.flat f.flat.length it.s.id=w at *
  have cH:=fun s=>FU (l:=f.flat) (by omega) yl s
  refine bp.iY nV.h rfl fun B Q hB hQ=>?_
  have⟨hD,hY,hZ,gC⟩:=bb
  repeat' (first
 |simp only[go_sem,hD,hY,hZ,gC,z0,gE,k0,oZ,b7,zaS]
 |(with_reducible refine CU (c1) ?_)
 |(with_reducible refine CU (cA _) ?_)
 |(with_reducible refine CU (cH _) ?_)
 |(with_reducible refine ax hQ ?_;exact aB))
  (refine dG hQ ?_;simp only[bF,bG,bZ,cb,go_sem])
 ·have oZ:(it.s.kind==10)=false:=by simp [hk]
  have b7:(it.s.kind==7)=false:=by simp[hk]
  subst yl
  generalize gy f.flat f.flat.length it.s.id=w at *
  refine bp.iY nV.h rfl fun B Q hB hQ=>?_
  have⟨hD,hY,hZ,gC⟩:=bb
  repeat' (first
 |simp only[go_sem,hD,hY,hZ,gC,z0,gE,k0,oZ,b7,zaS]
 |(with_reducible refine CU (c1) ?_)
 |(with_reducible refine CU (cA _) ?_)
 |(with_reducible refine ax hQ ?_;exact aB))
  (refine dG hQ ?_;simp only[bF,bG,bZ,cb,go_sem])
def DC (W:List Int) (it:Im) (to:Int) (m:Mc) (v:Int):Int×Mc:=
 if it.s.kind==7 ||it.s.kind==8 ||it.s.kind==10 then(to,m.event W it.s.id [])
 else if it.s.kind==5 then(if v==0 then firstM it.s.aK it.next else firstM it.s.a8 it.next,m.event W it.s.id [v])
 else if it.s.kind==6 then(if v==0 then it.next else firstM it.s.a8 it.s.id,m.event W it.s.id [v])
 else if it.s.kind==3 then(it.next,{m.event W it.s.id [v]with out:=(m.event W it.s.id [v]).out++ [v]})
 else(it.next,(m.event W it.s.id [v]).set it.s.name v)
structure abh (p:Pg) (fr:Fr) (it:Im) (to:Int):Prop where
 pl : ∃ n,tU (fi p fr).flat n it.s.id=some it.next
 a8 : ∀ d,sC it.s.id false d (fi p fr).flat=eD it.s.a8 d
 aK : ∀ d,sC it.s.id true d (fi p fr).flat=eD it.s.aK d
 jump:it.s.kind=7∨it.s.kind=8∨it.s.kind=10→HG p fr it to
 name:it.s.kind=1∨it.s.kind=2→∃ k,sa fr it.s.name k
 kind:it.s.kind≠4∧it.s.kind≠9∧1≤it.s.kind∧it.s.kind≤10
theorem fj.xC (h:fj p T W fuel y a m loc s) (gd:m.st=fr::r) (rn:y.fs = .dM 5 fo g (r.length+1)) : ∃ more,qv p y a fr r s fo g (iu p a (fr::r)++more):=by
 obtain⟨fo',g',more,h1⟩:=h.BD gd
 have e:=h1.fs
 rw[rn,D.dM.injEq]at e
 obtain⟨_,rfl,rfl,_⟩:=e
 exact⟨more,h1⟩
theorem EW (p:Pg) (a:Int) (fr:Fr) (r:List Fr) (more:List D):(r.length*5+2+1≤(iu p a (fr::r)).length+more.length)=True:=by
 rw[rk]
 simp only[zat,eq_iff_iff,iff_true];omega
structure tX (p:Pg) (m:Mc) (fr:Fr) (r:List Fr):Prop where
 st:m.st=fr::r
 len:r.length<1000000
 names:fr.names.length<1000000
 vars:fr.vars.length<1000000
 cells : ∀ c∈fr.vars,c<m.mem.length
 pc:ZC p fr
theorem NY (h:fj p T W fuel y a m loc s) (hF:tX p m fr r) {it:Im} {to:Int} (hd:abh p fr it to) (hW:W.length<1000000) (NG:m.trace.length<2000000) (E8:m.out.length<2000000) (v:Int) :
 ∃ y' s',az Tryz.prog 94 [.ptr y.c 0, .agg (aY it.s), .int .i64 v] s (.tuple []) s'∧fj p T W fuel y' (DC W it to m v).1 (DC W it to m v).2 loc s'∧y'.c=y.c:=by
 have h1:=h.new (aY it.s)
 obtain⟨fo,g,more,ht⟩:=h1.BD hF.st
 have c1:=sO h1 ht hF.len
 have z0:(s.aq++ [aY it.s])[s.aq.length]? = some (aY it.s):=by simp
 generalize hn:s.aq.length=n at *
 have gH : ∀ q∈loc,q∈(n,aY it.s)::loc:=fun q mq=>zan _ mq
 have fx:(fi p fr).flat.length≤1000:=hF.pc.flat
 have iF:=fun a more=>EW p a fr r more
 have uM:=fun a a' more=>HE p a a' fr r more
 obtain⟨nb,hb⟩:=hd.pl
 have cB:=fun s=>FU (l:=(fi p fr).flat) (by omega) hb s
 obtain⟨k4,k9,k1,k10⟩:=hd.kind
 unfold DC
 rcases zaa (it.s.kind==7 ||it.s.kind==8 ||it.s.kind==10)with bj|bj
 ·rw [if_pos bj]
  have hj:=hd.jump (by simp only[zaC,beq_iff_eq]at bj;omega)
  obtain⟨s2,cE,h2⟩:=vG h1 hW NG it.s.id []
  have xD:az Tryz.prog 93 [.ptr y.c 0, .int .i64 it.s.id, .slice .full 0 []] ⟨s.aq++ [aY it.s],s.ay⟩ (.tuple []) s2:=bp.lU (.cons (Wk.refl _) (.cons (Wk.refl _) (.cons yK .nil))) cE
  have he:=dL W m it.s.id []
  obtain⟨abi,iZ⟩:=h2.xC (by rw[he.1];exact hF.st) ht.fs
  have x2:=(h2.loc (n,aY it.s) (by simp)).1
  have cJ:=ZD h2 iZ hF.len hF.pc hj
  have h3:=h2.new (aY it.s)
  have sN:=iZ.new (aY it.s)
  have h4:=h3.setAt (by rw[he.1];exact hF.st) sN to
  have gE:=sN.at_
  simp only at x2 gE
  refine⟨y,_, ?_,h4.sub fun q mq=>zan _ (gH q mq),rfl⟩
  rcases zaa (it.s.kind==7)with b7|b7
  ·refine bp.iY gG.h rfl fun B Q hB hQ=> ?_
   have⟨hD,hY,hZ,gC⟩:=bb
   repeat' (first
 |simp only[go_sem,hD,hY,hZ,gC,z0,hn,b7,x2,gE,uM,iF]
 |(with_reducible refine CU (c1) ?_)
 |(with_reducible refine CU (xD) ?_)
 |(with_reducible refine CU (cJ) ?_)
 | (with_reducible refine ax hQ ?_;exact aB))
   (refine dG hQ ?_;simp only[bF,bG,bZ,cb,go_sem])
  rcases zaa (it.s.kind==8)with b8|b8
  ·refine bp.iY gG.h rfl fun B Q hB hQ=> ?_
   have⟨hD,hY,hZ,gC⟩:=bb
   repeat' (first
 |simp only[go_sem,hD,hY,hZ,gC,z0,hn,b7,b8,x2,gE,uM,iF]
 |(with_reducible refine CU (c1) ?_)
 |(with_reducible refine CU (xD) ?_)
 |(with_reducible refine CU (cJ) ?_)
 | (with_reducible refine ax hQ ?_;exact aB))
   (refine dG hQ ?_;simp only[bF,bG,bZ,cb,go_sem])
  ·have oZ:(it.s.kind==10)=true:=by simpa [b7,b8]using bj
   refine bp.iY gG.h rfl fun B Q hB hQ=>?_
   have⟨hD,hY,hZ,gC⟩:=bb
   repeat' (first
 |simp only[go_sem,hD,hY,hZ,gC,z0,hn,b7,b8,oZ,x2,gE,uM,iF]
 |(with_reducible refine CU (c1) ?_)
 |(with_reducible refine CU (xD) ?_)
 |(with_reducible refine CU (cJ) ?_)
 | (with_reducible refine ax hQ ?_;exact aB))
   (refine dG hQ ?_;simp only[bF,bG,bZ,cb,go_sem])
 rw[if_neg (by simp[bj])]
 simp only[Bool.or_eq_false_iff]at bj
 obtain⟨⟨b7,b8⟩,oZ⟩:=bj
 obtain⟨s2,cE,h2⟩:=vG h1 hW NG it.s.id [v]
 have xD:az Tryz.prog 93 [.ptr y.c 0, .int .i64 it.s.id, .slice .full 1 [[.int .i64 v]]] ⟨s.aq++ [aY it.s],s.ay⟩ (.tuple []) s2:=bp.lU (.cons (Wk.refl _) (.cons (Wk.refl _) (.cons (Wk.shared _ _ _) .nil))) cE
 have he:=dL W m it.s.id [v]
 obtain⟨abi,iZ⟩:=h2.xC (by rw[he.1];exact hF.st) ht.fs
 have x2:=(h2.loc (n,aY it.s) (by simp)).1
 have gE:=iZ.at_
 have q0:=iZ.c0
 simp only at x2
 have nb0:(v != 0) = !(v==0):=rfl
 rcases zaa (it.s.kind==5)with b5|b5
 ·rw [if_pos b5]
  have hI:sC it.s.id (v==0) it.next (fi p fr).flat=(if v==0 then firstM it.s.aK it.next else firstM it.s.a8 it.next):=by
   rcases zaa (v==0)with z|z
   ·rw[z,if_pos rfl];exact hd.aK _
   ·rw[z,if_neg (by simp)];exact hd.a8 _
  have cI:=fun s=>I4 (l:=(fi p fr).flat) (by omega) it.s.id (v==0) it.next s
  rw[hI]at cI
  have h4:=h2.setAt (by rw[he.1];exact hF.st) iZ (if v==0 then firstM it.s.aK it.next else firstM it.s.a8 it.next)
  dsimp only
  generalize (if(v==0)=true then firstM it.s.aK it.next else firstM it.s.a8 it.next)=R at *
  refine⟨y,_, ?_,h4.sub gH,rfl⟩
  refine bp.iY gG.h rfl fun B Q hB hQ=>?_
  have⟨hD,hY,hZ,gC⟩:=bb
  repeat' (first
 |simp only[go_sem,hD,hY,hZ,gC,z0,hn,b7,b8,oZ,b5,x2,gE,q0,uM,iF,zaS]
 |(with_reducible refine CU (c1) ?_)
 |(with_reducible refine CU (xD) ?_)
 |(with_reducible refine CU (cB _) ?_)
 |(with_reducible refine CU (cI _) ?_)
 |(with_reducible refine ax hQ ?_;exact aB))
  (refine dG hQ ?_;simp only[bF,bG,bZ,cb,go_sem])
 rw[if_neg (by simp[b5])]
 rcases zaa (it.s.kind==6)with b6|b6
 ·rw [if_pos b6]
  rcases zaa (v==0)with z|z
  ·rw [if_pos z]
   have h4:=h2.setAt (by rw[he.1];exact hF.st) iZ it.next
   refine⟨y,_, ?_,h4.sub gH,rfl⟩
   refine bp.iY gG.h rfl fun B Q hB hQ=>?_
   have⟨hD,hY,hZ,gC⟩:=bb
   repeat' (first
 |simp only[go_sem,hD,hY,hZ,gC,z0,hn,b7,b8,oZ,b5,b6,nb0,z,zau,x2,gE,q0,uM,iF,zaS]
 |(with_reducible refine CU (c1) ?_)
 |(with_reducible refine CU (xD) ?_)
 |(with_reducible refine CU (cB _) ?_)
 | (with_reducible refine ax hQ ?_;exact aB))
   (refine dG hQ ?_;simp only[bF,bG,bZ,cb,go_sem])
  ·rw [if_neg (by simp [z])]
   have cI:=fun s=>I4 (l:=(fi p fr).flat) (by omega) it.s.id false it.s.id s
   rw[hd.a8]at cI
   have h4:=h2.setAt (by rw[he.1];exact hF.st) iZ (firstM it.s.a8 it.s.id)
   unfold firstM at h4 ⊢
   generalize eD it.s.a8 it.s.id=R at *
   refine⟨y,_, ?_,h4.sub gH,rfl⟩
   refine bp.iY gG.h rfl fun B Q hB hQ=>?_
   have⟨hD,hY,hZ,gC⟩:=bb
   repeat' (first
 |simp only[go_sem,hD,hY,hZ,gC,z0,hn,b7,b8,oZ,b5,b6,nb0,z,zax,x2,gE,q0,uM,iF,zaS]
 |(with_reducible refine CU (c1) ?_)
 |(with_reducible refine CU (xD) ?_)
 |(with_reducible refine CU (cI _) ?_)
 | (with_reducible refine ax hQ ?_;exact aB))
   (refine dG hQ ?_;simp only[bF,bG,bZ,cb,go_sem])
 rw[if_neg (by simp[b6])]
 rcases zaa (it.s.kind==3)with b3|b3
 ·rw [if_pos b3]
  have jr:=h2.eW
  have jI:=df jr
  rw[gb]at jr
  have dd:fH 1 8 (.slice (.tok 0) 1 ((m.event W it.s.id [v]).out.map bD)) (.slice .full 1 [[.int .i64 v]]) s2=some (.slice (.tok 0) 1 (((m.event W it.s.id [v]).out++ [v]).map bD),⟨s2.aq,s2.ay.set 0 (some ((m.event W it.s.id [v]).out.length+1))⟩):=by
   rw[kB (size:=1) (by simp only[zaw,zaK,he.2.2.2.2.2];unfold aV;omega) (by simpa using h2.t0)]
   simp[bD]
  have h3:=h2.lT (m':= {m.event W it.s.id [v]with out:=(m.event W it.s.id [v]).out++ [v]}) (ts:=s2.ay.set 0 (some ((m.event W it.s.id [v]).out.length+1))) rfl rfl (by simp[(zac.1 h2.t0).1]) (by rw[zam (by omega)];exact h2.t1)
  obtain⟨ajZ,sN⟩:=h3.xC (by rw[← hF.st, ← he.1]) ht.fs
  have h4:=h3.setAt (by rw[← hF.st, ← he.1]) sN it.next
  have x3:=(h3.loc (n,aY it.s) (by simp)).1
  have zj:=sN.at_
  have q3:=sN.c0
  rw[gb]at h4 x3 zj
  simp only[zag,zaf,zai,bD]at dd h4 x3 zj
  refine⟨y,_, ?_,h4.sub gH,rfl⟩
  refine bp.iY gG.h rfl fun B Q hB hQ=>?_
  have⟨hD,hY,hZ,gC⟩:=bb
  repeat' (first
 |simp only[go_sem,hD,hY,hZ,gC,z0,hn,b7,b8,oZ,b5,b6,b3,x2,jr,jI,dd,x3,zj,q3,uM,iF,zaS]
 |(with_reducible refine CU (c1) ?_)
 |(with_reducible refine CU (xD) ?_)
 |(with_reducible refine CU (cB _) ?_)
 |(with_reducible refine ax hQ ?_;exact aB))
  (refine dG hQ ?_;simp only[bF,bG,bZ,cb,go_sem])
 ·rw [if_neg (by simp [b3])]
  obtain⟨k,hk⟩:=hd.name (by simp at b7 b8 oZ b5 b6 b3;omega)
  have hm0:(m.event W it.s.id [v]).top=fr:=by unfold Mc.top;rw[he.1,hF.st];rfl
  have Ap:=hk.cell hm0
  obtain⟨j,hj,rz⟩:=hk
  have Wg:k<m.mem.length:=hF.cells k (zad rz)
  have cS:=Qg h2 iZ hF.len hF.names hj rz (by rw[he.2.1];exact Wg) v
  have h3:=h2.IX (i:=k) v
  obtain⟨ajZ,sN⟩:=h3.xC (by rw[← hF.st, ← he.1]) ht.fs
  have h4:=h3.setAt (by rw[← hF.st, ← he.1]) sN it.next
  have x3:=(h3.loc (n,aY it.s) (by simp)).1
  have zj:=sN.at_
  have q3:=sN.c0
  simp only at x3 zj
  have h5:=h4
  rw[show({m.event W it.s.id [v]with mem:=(m.event W it.s.id [v]).mem.set k v} : Mc)=(m.event W it.s.id [v]).set it.s.name v by unfold Mc.set;rw[Ap]]at h5
  refine⟨y,_, ?_,h5.sub gH,rfl⟩
  refine bp.iY gG.h rfl fun B Q hB hQ=>?_
  have⟨hD,hY,hZ,gC⟩:=bb
  repeat' (first
 |simp only[go_sem,hD,hY,hZ,gC,z0,hn,b7,b8,oZ,b5,b6,b3,x2,x3,zj,q3,uM,iF,zaS]
 |(with_reducible refine CU (c1) ?_)
 |(with_reducible refine CU (xD) ?_)
 |(with_reducible refine CU (cS) ?_)
 |(with_reducible refine CU (cB _) ?_)
 |(with_reducible refine ax hQ ?_;exact aB))
  (refine dG hQ ?_;simp only[bF,bG,bZ,cb,go_sem])
end
end Go.Abs
namespace Go.Abs
set_option maxRecDepth 8000
open Go.Proofs
theorem jD (X:List (List D)) (z:List D):(X++ [z])[X.length]? = some z:=by simp
theorem jE (X:List (List D)) (z r:List D):(X++ [z]).set X.length r=X++ [r]:=by simp
section
variable {p:Pg} {T W:List Int} {fuel:Int} {y:Ly} {a:Int} {m:Mc} {loc:List (Nat×List D)} {s:St} {fr:Fr} {r:List Fr} {fo g:Nat} {cells:List D}
theorem fj.pop (h:fj p T W fuel y a m loc s) {more:List D} (gd:m.st=fr::r) (ht:qv p y a fr r s fo g (iu p a (fr::r)++more)) :
 fj p T W fuel {y with fs:= .dM 5 fo g r.length} fr.call {m with st:=r} loc ⟨s.aq.set y.c (gb p T W fuel {y with fs:= .dM 5 fo g r.length} {m with st:=r}),s.ay⟩:=by
 have hn:=h.wK fo (by rw[ht.fs];simp[D.arr])
 have ho:({y with fs:= .dM 5 fo g r.length} : Ly).own=y.own:=by simp only[Ly.own];rw[ht.fs];rfl
 refine h.Qf (by simp[df h.eW]) h.t0 h.t1 ?_ (.inr ⟨fo,g,zi p a fr++more,rfl, ?_⟩) (by rw[ho];exact h.own) (fun o mo=> .inl (by rw[← ho];exact mo)) fun q r' e hq=>?_
 ·show(s.aq.set _ _)[_]? = _
  rw[zam h.yD];exact h.mem
 ·show(s.aq.set _ _)[_]? = _
  rw[zam (Ne.symm hn.1),ht.at_,iu,zaB]
 ·show(s.aq.set _ _)[_]? = _
  rw[zam (fun e'=>hq (by rw[← e'];simp[Ly.own]))];exact e
theorem fj.any (h:fj p T W fuel y a m loc s) (he:m.st = []) (a':Int):fj p T W fuel y a' m loc s:=by
 refine⟨h.eW,h.t0,h.t1,h.mem, ?_,h.own,h.loc⟩
 rcases h.fr with e|⟨fo',g',Li,e,e2⟩
 ·exact .inl e
 ·refine .inr ⟨fo',g',Li,e, ?_⟩
  rw[e2,he];rfl
def abk (p:Pg) (m:Mc) (fr:Fr) (r:List Fr):Prop:=
 (r = []∧fr.call=0)∨∃ (it:Im) (jK:Fr) (r2:List Fr),r=jK::r2∧fr.call≠0∧ff p.aR.L fr.call=it∧(jc fr.call (fi p jK).flat).s=it.s∧(∃ n,tU (fi p jK).flat n fr.call=some it.next)∧tX p {m with st:=r} jK r2∧(it.s.name≠ []→∃ k,sa jK it.s.name k)
theorem DD (h:fj p T W fuel y a m loc s) (hF:tX p m fr r) (hE:abk p m fr r) (n6:Int) :
 ∃ y' s',az Tryz.prog 88 [.ptr y.c 0, .int .i64 n6] s (.tuple []) s'∧fj p T W fuel y' (m.close p.aR.L n6).1 (m.close p.aR.L n6).2 loc s'∧y'.c=y.c:=by
 obtain⟨fo,g,more,ht⟩:=h.BD hF.st
 have hp:=h.pop hF.st ht
 have hm:=h.eW
 have hl:=df hm
 rw[gb,ht.fs]at hm
 have hlen:=hF.len
 have hw:IntKind.wrap .i64 (((r.length+1:Nat):Int) - 1)=((r.length:Nat):Int):=by rw[show((r.length+1:Nat):Int) - 1=(r.length:Int) by omega];exact dv (by omega) (by omega)
 have vU:uj (.dM 5 fo g (r.length+1)) none (some (.int .i64 (r.length:Int)))=some (.dM 5 fo g r.length):=by simp[uj,ud,uf];omega
 have v7 : ∀ r,(s.aq.set y.c r)[y.c]? = some r:=fun r=>zaM hl
 have jN:m.top=fr:=by unfold Mc.top;rw[hF.st];rfl
 rcases hE with ⟨hr,hc⟩|⟨it,jK,r2,hr,hc,iD,Kl,⟨nb,hb⟩,Hq,rU⟩
 ·have ko:m.close p.aR.L n6=(-1,{m with st:=r,fin:=1}):=by
   unfold Mc.close
   rw[jN,hc,hF.st];rfl
  rw[ko]
  have h5:=hp.lT (m':= {m with st:=r,fin:=1}) rfl rfl hp.t0 hp.t1
  simp only[zbz]at h5
  have h6:=h5.any hr (-1)
  subst hr
  simp only[zaD,zaZ]at hm hw vU h6
  have e0:((0:Int)==0)=true:=rfl
  have hw0:IntKind.wrap .i64 ((1:Int) - 1)=0:=by decide
  have aj0:uj (.dM 5 fo g 1) none (some (.int .i64 0))=some (.dM 5 fo g 0):=rfl
  refine⟨_,_, ?_,h6,rfl⟩
  refine bp.iY na.h rfl fun B Q hB hQ=>?_
  have⟨hD,hY,hZ,gC⟩:=bb
  repeat' (first
 |simp only[go_sem,hD,hY,hZ,gC,hm,hl,hw0,aj0,v7,e0,zbz]
 |(with_reducible refine ax hQ ?_;exact aB))
  (refine dG hQ ?_;simp only[bF,bG,bZ,cb,go_sem])
 ·have ko:m.close p.aR.L n6=(it.next,if it.s.name == []then {m with st:=r}else({m with st:=r} : Mc).set it.s.name n6):=by
   unfold Mc.close
   rw[jN,hF.st]
   dsimp only
   rw[if_neg (by simpa using hc),iD];rfl
  rw[ko]
  rw[hr]at hp
  have vg:r.length=r2.length+1:=by rw[hr];rfl
  obtain⟨abi,iZ⟩:=hp.xC (fr:=jK) (r:=r2) rfl rfl
  have hn:=iZ.at_
  have q0:=iZ.c0
  have q2:=iZ.c2
  have c1:=sO hp iZ Hq.len
  have h3:=hp.new (aY it.s)
  have sN:=iZ.new (aY it.s)
  have zj:=sN.at_
  have qU:=h3.eW
  have fx:(fi p jK).flat.length≤1000:=Hq.pc.flat
  have cI:=fun s=>NO (l:=(fi p jK).flat) (by omega) fr.call s
  have cB:=fun s=>FU (l:=(fi p jK).flat) (by omega) hb s
  have iF:=fun a more=>EW p a jK r2 more
  have uM:=fun a a' more=>HE p a a' jK r2 more
  have e0:decide (((r2.length+1:Nat):Int)=0)=false:=by simp;omega
  have e0':(((r2.length+1:Nat):Int)==0)=false:=by simp;omega
  have x3:=(h3.loc _ (zaA ..)).1
  simp only[vg,zat]at hm hw vU hp hn zj qU x3 c1 h3
  subst hr
  have pP:=Vr (jc fr.call (fi p jK).flat)
  rw[Kl]at pP
  generalize jc fr.call (fi p jK).flat=I at *
  rcases zaa (it.s.name == [])with b|b
  ·have h4:=h3.setAt (fr:=jK) (r:=r2) rfl sN it.next
   rw[if_pos b]
   simp only[zat]at h4
   refine⟨_,_, ?_,h4.sub fun q mq=>zan _ mq,rfl⟩
   refine bp.iY na.h rfl fun B Q hB hQ=>?_
   have⟨hD,hY,hZ,gC⟩:=bb
   repeat' (first
 |simp only[go_sem,hD,hY,hZ,gC,hm,hl,hw,vU,v7,e0',hn,q0,q2,zj,x3,pP,b,uM,iF,zaS,jD,jE]
 |(with_reducible refine CU (c1) ?_)
 |(with_reducible refine CU (cI _) ?_)
 |(with_reducible refine CU (cB _) ?_)
 | (with_reducible refine ax hQ ?_;exact aB))
   (refine dG hQ ?_;simp only[bF,bG,bZ,cb,go_sem])
  ·obtain⟨k,hk⟩:=rU (by intro e;rw [e]at b;cases b)
   have hm0:({m with st:=jK::r2} : Mc).top=jK:=rfl
   have Ap:=hk.cell hm0
   obtain⟨j,hj,rz⟩:=hk
   have Wg:k<m.mem.length:=Hq.cells k (zad rz)
   have cS:=Qg h3 sN Hq.len Hq.names hj rz Wg n6
   have h4:=h3.IX (i:=k) n6
   obtain⟨aqK,ht4⟩:=h4.xC (fr:=jK) (r:=r2) rfl rfl
   have h5:=h4.setAt (fr:=jK) (r:=r2) rfl ht4 it.next
   rw[show({m with st:=jK::r2,mem:=m.mem.set k n6} : Mc)=({m with st:=jK::r2} : Mc).set it.s.name n6 by unfold Mc.set;rw[Ap]]at h5
   have ahe:=ht4.at_
   have p0:=ht4.c0
   have p2:=ht4.c2
   have x4:=(h4.loc _ (zaA ..)).1
   simp only[zat]at h5 ahe x4 cS
   rw[if_neg (by simp[b])]
   refine⟨_,_, ?_,h5.sub fun q mq=>zan _ mq,rfl⟩
   refine bp.iY na.h rfl fun B Q hB hQ=>?_
   have⟨hD,hY,hZ,gC⟩:=bb
   repeat' (first
 |simp only[go_sem,hD,hY,hZ,gC,hm,hl,hw,vU,v7,e0',hn,q0,q2,zj,x3,pP,b,ahe,p0,p2,x4,uM,iF,zaS,jD,jE]
 |(with_reducible refine CU (c1) ?_)
 |(with_reducible refine CU (cI _) ?_)
 |(with_reducible refine CU (cS) ?_)
 |(with_reducible refine CU (cB _) ?_)
 | (with_reducible refine ax hQ ?_;exact aB))
   (refine dG hQ ?_;simp only[bF,bG,bZ,cb,go_sem])
end
end Go.Abs
