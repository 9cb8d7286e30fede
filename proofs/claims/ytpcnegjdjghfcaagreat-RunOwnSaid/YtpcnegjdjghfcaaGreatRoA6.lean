/-
  What is proved here: part 6 of the road to the claim (Ar3, Srt1, Shelf, SortR, SrtP, Tc1, Tc2, Tc3, Bsl, Tc4, Tc5, Tc6, FlP, JmpP, Jm1, Jm2, MirRun, RunTot, RunFu, RunOk, Swap0, Swap2p, ToP, Al1, Al2, Al3, MirParse, Room1, Al4, Full1, Fits1, Fits2, MirEq, RefEq, RefEq2, LawTo1, LawAl2, SwP, MirMapS, RightP, RunLo, RunNm, RunMc, RunI, Ev1, Ev2).
  No conditions.
-/
import Derived.Test.YtpcnegjdjghfcaaGreatRoA5
import Derived.Shelf.Small.Bits
import Derived.Shelf.Strconv.Itoa0
import Derived.Shelf.Sort.Plain
import Derived.Shelf.Slices.Turned
import Derived.Ground.Names2Prog
import Derived.Shelf.Slices.Clone
import Derived.Shelf.Slices.CompactS
import Derived.Shelf.Slices.Cells
import Derived.Shelf.Slices.In.SortNone
import Derived.Ground.SlgnProg
import Derived.Shelf.SlicesE.Clone
import Derived.Test.YtpcnegjdjghfcaaGreatProg
import Derived.Sort.Walk0

set_option linter.unusedSimpArgs false
set_option linter.unusedVariables false
namespace Go.Abs
set_option maxRecDepth 8000
open Go.Proofs
theorem Jl {p:Pg} {v:Sm} (h:p.gb) (hv:v.mQ) (s:St):ay Tryz.prog 117 [.agg (bG p), .agg (aO v)] s (.bool (v.mC p)) s:=by
 refine ay.pure ?_ (by simp[D.bJ,D.ok,fW,nN]) rfl s
 obtain⟨nX,oE,mB⟩:=h.procs
 have pg:v.args.length<1000000000:=by have:=Ar.dk v.args;have:=hv.2.2;omega
 have td:=fun s=>FI (p:=p) (by omega) v.proc s
 generalize hR:v.mC p=R
 simp only[Sm.mC]at hR
 unfold S0
 have b0:(v.kind != 4) = !(v.kind==4):=rfl
 cases xA:p.find v.proc with
 |none=>
  simp only[xA,lk,zbJ,zbK]at td
  simp only[xA,zbp]at hR
  subst hR
  refine ay.go pC.h rfl fun B Q hB hQ=>?_
  have⟨hD,hZ,gC,gD⟩:=bc
  exact wT trivial td
 |some f=>
 have sP:=h.small (o5 xA).1
 simp only[xA,lk,zbo,zbv]at td
 simp only[xA]at hR
 rcases zaa (v.kind==4)with b1|b1
 case inr=>
  rw[b1]at b0
  simp only[b1,zaN]at hR
  subst hR
  refine ay.go pC.h rfl fun B Q hB hQ=>?_
  have⟨hD,hZ,gC,gD⟩:=bc
  exact jn (eK b0 @Bool.not_false) td
 rw[b1]at b0
 simp only[b1,zbf,xX]at hR
 have b4:((v.args.length:Int) != (f.params.length:Int)) = !((f.params.length:Int)==(v.args.length:Int)):=by
  rw[bne,show((v.args.length:Int)==(f.params.length:Int))=((f.params.length:Int)==(v.args.length:Int))from Bool.beq_comm]
 rcases zaa ((f.params.length:Int)==(v.args.length:Int))with b2|b2
 case inr=>
  rw[b2]at b4
  simp only[b2,zab,if_false]at hR
  subst hR
  refine ay.go pC.h rfl fun B Q hB hQ=>?_
  have⟨hD,hZ,gC,gD⟩:=bc
  exact jn (ql b0 b4 @Bool.not_true @Bool.not_false) td
 rw[b2]at b4
 simp only[b2,if_true]at hR
 have Sy:f.params.length=v.args.length:=by have:=eq_of_beq b2;omega
 refine ay.go pC.h rfl fun B Q hB hQ=>?_
 have⟨hD,hZ,gC,gD⟩:=bc
 repeat' (first
 |simp only[go_sem,hD,hZ,gC,gD,b0,b4,zav]
 |(with_reducible refine CU (td _) ?_)
 |(with_reducible refine aX hQ ?_;exact bK))
 refine dg 3 0 (aJ.ind (ι:=List Pm×List Ar×Nat) (fun i=>f.params.drop i.2.2=i.1∧v.args.drop i.2.2=i.2.1∧wz i.1 i.2.1=R) (fun i=>i.1.length)
  (fun i=> [(3, .ptr 1 0),(5, .ptr 2 0),(33, .int .i64 (v.args.length:Int)),(34, .int .i64 (i.2.2:Int))]) (fun i=>⟨[bG p,aO v,bP f],[]⟩) ?_ (f.params,v.args,0) ⟨rfl,rfl,hR⟩)
 clear hR
 rintro⟨r1,r2,k⟩ ⟨h1,h2,hR⟩ IH
 dsimp only at h1 h2 hR
 cases r1 with
 |nil=>
  have hD:=drop_nil h1
  rw[Sy]at hD
  simp only[wz]at hR
  subst hR
  exact dR trivial
 | cons a r1=>
  obtain⟨hZ,g2,hD,g4⟩:=drop_cons h1
  cases r2 with
  |nil=>have:=zaI.1 h2;omega
  | cons b r2=>
   obtain⟨lQ,b2',C0,_⟩:=drop_cons h2
   have aV:k<4611686018427387904:=by omega
   simp only[wz]at hR
   have w1:(true==true)=true:=rfl
   have w2:(false==false)=true:=rfl
   have w3:(true==false)=false:=rfl
   have w4:(false==true)=false:=rfl
   have v1:(true != true)=false:=rfl
   have v2:(false != false)=false:=rfl
   have v3:(true != false)=true:=rfl
   have v4:(false != true)=true:=rfl
   rcases zaa a.ref with ea|ea
   ·rcases zaa b.ref with eb | eb
    ·simp only [ea,eb,w1,w2,if_true]at hR
     refine bT (DF lQ C0 ea eb w1 w2 v1 v2) ?_
     refine cr 3 0 ?_ ?_ (IH (r1,r2,k+1) ⟨g2,b2',hR⟩ (zae _))
     ·(simp only[go_sem,hD,hZ,gC,gD,ak aV];try exact aQ)
     ·(simp only[go_sem,hD,hZ,gC,gD,ak aV];try exact aQ)
    ·simp only [ea,eb,w3,w4,zab,if_false]at hR
     subst hR
     exact dR (DF lQ C0 ea eb w3 w4 v3 v4)
   ·rcases zaa b.ref with eb | eb
    ·simp only [ea,eb,w3,w4,zab,if_false]at hR
     subst hR
     exact dR (DF lQ C0 ea eb w3 w4 v3 v4)
    ·simp only [ea,eb,w1,w2,if_true]at hR
     refine bT (DF lQ C0 ea eb w1 w2 v1 v2) ?_
     refine cr 3 0 ?_ ?_ (IH (r1,r2,k+1) ⟨g2,b2',hR⟩ (zae _))
     ·(simp only[go_sem,hD,hZ,gC,gD,ak aV];try exact aQ)
     ·(simp only[go_sem,hD,hZ,gC,gD,ak aV];try exact aQ)
theorem acb {p:Pg} (h:p.gb) (hb:p.may=true) (s:St):ay Tryz.prog 75 [.agg (bG p)] s (.agg [.int .i64 (jt 6 (Ac p p.pre)).1, .int .i64 (jt 6 (Ac p p.pre)).2]) s:=by
 refine ay.pure ?_ (by simp[D.bJ,D.ok,fW]) rfl s
 obtain⟨nX,oE,mB⟩:=h.procs
 have pg:=fun s=>NH (p:=p) (by omega) s
 have hL:=(se hb).2
 have sQ:=(vJ hb).1
 generalize hR:jt 6 (Ac p p.pre)=R
 rw[← hL]at hR
 unfold S0
 refine ay.go Kn.h rfl fun B Q hB hQ=>?_
 have⟨hD,hZ,gC,gD⟩:=bc
 repeat' (first
 |simp only[go_sem,hD,hZ,gC,gD]
 |(with_reducible refine CU (pg _) ?_)
 |(with_reducible refine aX hQ ?_;exact bK))
 refine dg 2 0 (aJ.ind (ι:=List It×Nat) (fun i=>p.all.drop i.2=i.1∧jt 6 (Ac p (i.1.map It.s))=R) (fun i=>i.1.length)
  (fun i=> [(1, .ptr 0 0),(2, .ptr 1 0),(6, .slice .shared 16 (p.all.map du)),(7, .int .i64 (p.all.length:Int)),(8, .int .i64 (i.2:Int))]) (fun i=>⟨[bG p,[.int .i64 0, .int .i64 0]],[]⟩) ?_ (p.all,0) ⟨rfl,hR⟩)
 clear hR
 rintro⟨rest,k⟩ ⟨h1,hR⟩ IH
 dsimp only at h1 hR
 cases rest with
 |nil=>
  have hD:=drop_nil h1
  simp only[zaj,Ac,jt]at hR
  subst hR
  exact dR trivial
 | cons a rest=>
  obtain⟨hZ,g2,hD,g4⟩:=drop_cons h1
  have aV:k<4611686018427387904:=by omega
  have yR:a.s∈p.pre:=by rw[← hL];exact zbb (zad hZ)
  have B6:=fun s=>Jl h (h.pre _ yR) s
  simp only[zaf,Ac]at hR
  rcases zaa (a.s.kind==4)with c1|c1
  ·rcases zaa (a.s.mC p)with c2 | c2
   ·simp only [c1,c2,zav,zbp,zab,if_false]at hR
    repeat' (first
 |simp only[go_sem,hD,hZ,gC,gD,c1,c2]
 |(with_reducible refine CU (B6 _) ?_)
 | (with_reducible refine aX hQ ?_;exact bK))
    refine cr 2 0 ?_ ?_ (IH (rest,k+1) ⟨g2,hR⟩ (zae _))
    ·(simp only[go_sem,hD,hZ,gC,gD,ak aV];try exact aQ)
    ·(simp only[go_sem,hD,hZ,gC,gD,ak aV];try exact aQ)
   ·simp only [c1,c2,zax,zbz,if_true,jt]at hR
    subst hR
    exact pT (eK c1 c2) B6 gQ
  ·simp only [c1,zaN,zab,if_false]at hR
   refine XT c1 B6 ?_
   refine cr 2 0 ?_ ?_ (IH (rest,k+1) ⟨g2,hR⟩ (zae _))
   ·(simp only[go_sem,hD,hZ,gC,gD,ak aV];try exact aQ)
   ·(simp only[go_sem,hD,hZ,gC,gD,ak aV];try exact aQ)
theorem oI {p:Pg} (h:(p.scope.1==0)=true):p.may=true:=by
 unfold Pg.scope at h
 split at h
 ·assumption
 ·cases h
set_option maxRecDepth 8000
open Go.Proofs
def mh (out:List aD):List aD→aD→Bool→aD×Bool
 | [],c,a=>(c,a)
 |s::l,c,a=>if !(dZ out s) && (!a ||bytesLess s c)then mh out l s true else mh out l c a
def PV (l out:List aD):List aD:=if(mh out l [] false).2 then out++ [(mh out l [] false).1]else out
def oh (l:List aD):Nat→List aD→List aD
 | 0,out=>out
 |n+1,out=>oh l n (PV l out)
def ju (l:List aD):List aD:=oh l l.length []
theorem HH {l:List aD} (hl:l.length<100000000) (g:Tag) (s:St):ay Tryz.prog 176 [.slice g 1 (l.map encStr)] s (.slice .shared 1 ((ju l).map encStr)) s:=by
 refine ay.Pz (d':= .slice .shared 1 (l.map encStr)) ?_ (Wk.shared _ _ _)
 refine ay.pure ?_ (by simp[D.bJ,D.ok,Tag.ok,dv]) (by simp only[D.ok,Tag.ok,dv];rfl) s
 generalize hR:ju l=R
 simp only[ju]at hR
 unfold S0
 refine ay.go I3.h rfl fun B Q hB hQ=>?_
 have⟨hD,hZ,gC,gD⟩:=bc
 refine bT trivial ?_
 refine aJ.lA 3 1 rfl ?_
 simp only[go_sem,hD,hZ,gC,gD]
 refine dg 0 1 (aJ.ind (ι:=Nat×Nat×List aD×Nat) (fun i=>i.1+i.2.1=l.length∧oh l i.1 i.2.2.1=R∧i.2.2.1.length≤i.2.1∧i.2.2.2=i.2.2.1.length) (fun i=>i.1)
  (fun i=> [(0, .slice .shared 1 (l.map encStr)),(3, .slice (.tok 0) 1 (i.2.2.1.map encStr)),(9, .int .i64 (l.length:Int)),(10, .int .i64 (i.2.1:Int))]) (fun i=>⟨[],[some i.2.2.2]⟩) ?_ (l.length,0,[],0) ⟨rfl,hR,zak _,rfl⟩)
 rintro⟨n,k,out,no⟩ ⟨h1,h2,h3,h4⟩ IH
 dsimp only at h1 h2 h3 h4
 subst h4
 cases n with
 |zero=>
  have hD:decide ((k:Int)<(l.length:Int))=false:=by simp;omega
  simp only[oh]at h2
  subst h2
  exact dR trivial
 | succ n=>
  have hD:decide ((k:Int)<(l.length:Int))=true:=by simp;omega
  have aV:k<4611686018427387904:=by omega
  have gC:(out.length+1)*17≤aT:=by unfold aT;omega
  have jE:=fun x g s=>xm (l:=out) (by omega) x g s
  simp only[oh,PV]at h2
  refine bT trivial ?_
  obtain⟨q,hq⟩ : ∃ q,mh out l [] false=q:=⟨_,rfl⟩
  rw[hq]at h2
  refine dg 0 1 (aJ.ind (ι:=List aD×Nat×aD×Bool) (fun i=>l.drop i.2.1=i.1∧mh out i.1 i.2.2.1 i.2.2.2=q) (fun i=>i.1.length)
   (fun i=> [(0, .slice .shared 1 (l.map encStr)),(3, .slice (.tok 0) 1 (out.map encStr)),(4, .str i.2.2.1),(5, .bool i.2.2.2),(9, .int .i64 (l.length:Int)),(10, .int .i64 (k:Int)),(12, .slice .shared 1 (l.map encStr)),(13, .int .i64 (l.length:Int)),(14, .int .i64 (i.2.1:Int))]) (fun i=>⟨[],[some out.length]⟩) ?_ (l,0,[],false) ⟨rfl,hq⟩)
  rintro⟨rest,j,c,a⟩ ⟨j1,j2⟩ rn
  dsimp only at j1 j2
  cases rest with
  | nil=>
   have ajp:=drop_nil j1
   simp only[mh]at j2
   subst j2
   cases a
   ·simp only [zab,if_false]at h2
    refine bT ajp ?_
    refine cr 0 1 ?_ ?_ (IH (n,k+1,out,_) ⟨by dsimp only;omega,h2,by dsimp only;omega,rfl⟩ (zae _))
    ·(simp only[go_sem,hD,hZ,gC,gD,ak aV];try exact aQ)
    ·(simp only[go_sem,hD,hZ,gC,gD,ak aV];try exact aQ)
   ·simp only [if_true]at h2
    refine bT ajp ?_
    refine cr 0 1 ?_ ?_ (IH (n,k+1,out++ [c],out.length+1) ⟨by dsimp only;omega,h2,by simp;omega,by simp⟩ (zae _))
    ·(simp only[go_sem,hD,hZ,gC,gD,ak aV,zag,zaf,zaj,encStr];try exact aQ)
    ·(simp only[go_sem,hD,hZ,gC,gD,ak aV,zag,zaf,zaj,encStr];try exact aQ)
  | cons x rest=>
   obtain⟨fm,ph,jo,Jj⟩:=drop_cons j1
   have gN:j<4611686018427387904:=by omega
   simp only[mh]at j2
   rcases zaa (dZ out x)with c1|c1
   ·simp only [c1,zav,zaN,zab,if_false]at j2
    repeat' (first
 |simp only[go_sem,hD,hZ,gC,gD,jo,fm,c1]
 |(with_reducible refine CU (jE _ _ _) ?_)
 | (with_reducible refine aX hQ ?_;exact bK))
    refine cr 0 1 ?_ ?_ (rn (rest,j+1,c,a) ⟨ph,j2⟩ (zae _))
    ·(simp only[go_sem,hD,hZ,gC,gD,ak gN];try exact aQ)
    ·(simp only[go_sem,hD,hZ,gC,gD,ak gN];try exact aQ)
   ·cases a
    ·simp only [c1,zax,zbk,Bool.and_self,if_true]at j2
     repeat' (first
 |simp only[go_sem,hD,hZ,gC,gD,jo,fm,c1]
 |(with_reducible refine CU (jE _ _ _) ?_)
 | (with_reducible refine aX hQ ?_;exact bK))
     refine cr 0 1 ?_ ?_ (rn (rest,j+1,x,true) ⟨ph,j2⟩ (zae _))
     ·(simp only[go_sem,hD,hZ,gC,gD,ak gN];try exact aQ)
     ·(simp only[go_sem,hD,hZ,gC,gD,ak gN];try exact aQ)
    ·rcases zaa (bytesLess x c)with c2 | c2
     ·simp only [c1,c2,zax,zav,zbI,Bool.and_self,if_true]at j2
      repeat' (first
 |simp only[go_sem,hD,hZ,gC,gD,jo,fm,c1,c2]
 |(with_reducible refine CU (jE _ _ _) ?_)
 |(with_reducible refine aX hQ ?_;exact bK))
      refine cr 0 1 ?_ ?_ (rn (rest,j+1,x,true) ⟨ph,j2⟩ (zae _))
      ·(simp only[go_sem,hD,hZ,gC,gD,ak gN];try exact aQ)
      ·(simp only[go_sem,hD,hZ,gC,gD,ak gN];try exact aQ)
     ·simp only [c1,c2,zax,zav,zb3,zbp,zab,if_false]at j2
      repeat' (first
 |simp only[go_sem,hD,hZ,gC,gD,jo,fm,c1,c2]
 |(with_reducible refine CU (jE _ _ _) ?_)
 |(with_reducible refine aX hQ ?_;exact bK))
      refine cr 0 1 ?_ ?_ (rn (rest,j+1,c,true) ⟨ph,j2⟩ (zae _))
      ·(simp only[go_sem,hD,hZ,gC,gD,ak gN];try exact aQ)
      ·(simp only[go_sem,hD,hZ,gC,gD,ak gN];try exact aQ)
end Go.Abs
namespace Go.Proofs
open Go.Shelf
def Tryz.RM:Go.Shelf.Ren:=⟨fun| 190=>142| 125=>167| 258=>166| 128=>192| 129=>193| 302=>183| 303=>184| 304=>185| 305=>186| 306=>187| 307=>188| 308=>189| 309=>190| 310=>191| 333=>199| 329=>200| 330=>201| 334=>202| 335=>203| 336=>204| 344=>205|n=>n,fun| 31=>22| 9=>9| 3=>3| 46=>189| 0=>0| 51=>213| 53=>172| 4=>4| 183=>206| 182=>205| 131=>134| 5=>5| 218=>217| 222=>221| 228=>223| 229=>224|n=>n,fun|n=>n⟩
theorem Tryz.Sz:Go.Proofs.Lays.n190 Tryz.prog Tryz.RM:= {
 mixed:=by kernel_rfl
 f125:=Tryz.func167.trans (congrArg some (by kernel_rfl))
 f128:=Tryz.func192.trans (congrArg some (by kernel_rfl))
 f129:=Tryz.func193.trans (congrArg some (by kernel_rfl))
 f190:=Tryz.func142.trans (congrArg some (by kernel_rfl))
 f258:=Tryz.func166.trans (congrArg some (by kernel_rfl))
 f302:=Tryz.func183.trans (congrArg some (by kernel_rfl))
 f303:=Tryz.func184.trans (congrArg some (by kernel_rfl))
 f304:=Tryz.func185.trans (congrArg some (by kernel_rfl))
 f305:=Tryz.func186.trans (congrArg some (by kernel_rfl))
 f306:=Tryz.func187.trans (congrArg some (by kernel_rfl))
 f307:=Tryz.func188.trans (congrArg some (by kernel_rfl))
 f308:=Tryz.func189.trans (congrArg some (by kernel_rfl))
 f309:=Tryz.func190.trans (congrArg some (by kernel_rfl))
 f310:=Tryz.func191.trans (congrArg some (by kernel_rfl))
 f329:=Tryz.func200.trans (congrArg some (by kernel_rfl))
 f330:=Tryz.func201.trans (congrArg some (by kernel_rfl))
 f333:=Tryz.func199.trans (congrArg some (by kernel_rfl))
 f334:=Tryz.func202.trans (congrArg some (by kernel_rfl))
 f335:=Tryz.func203.trans (congrArg some (by kernel_rfl))
 f336:=Tryz.func204.trans (congrArg some (by kernel_rfl))
 f344:=Tryz.func205.trans (congrArg some (by kernel_rfl))
 t0:=Tryz.underlying0
 a0:=Tryz.isAgg0
 z0:=Tryz.sizeOf0
 v0:=Tryz.zeroValue0
 t3:=Tryz.underlying3
 a3:=Tryz.isAgg3
 z3:=Tryz.sizeOf3
 v3:=Tryz.zeroValue3
 t4:=Tryz.underlying4
 a4:=Tryz.isAgg4
 z4:=Tryz.sizeOf4
 v4:=Tryz.zeroValue4
 t5:=Tryz.underlying5
 a5:=Tryz.isAgg5
 z5:=Tryz.sizeOf5
 v5:=Tryz.zeroValue5
 t9:=Tryz.underlying9
 a9:=Tryz.isAgg9
 z9:=Tryz.sizeOf9
 v9:=Tryz.zeroValue9
 t31:=Tryz.underlying22
 a31:=Tryz.isAgg22
 z31:=Tryz.sizeOf22
 v31:=Tryz.zeroValue22
 t46:=Tryz.underlying189
 a46:=Tryz.isAgg189
 z46:=Tryz.sizeOf189
 v46:=Tryz.zeroValue189
 t51:=Tryz.underlying213
 a51:=Tryz.isAgg213
 z51:=Tryz.sizeOf213
 v51:=Tryz.zeroValue213
 t53:=Tryz.underlying172
 a53:=Tryz.isAgg172
 z53:=Tryz.sizeOf172
 v53:=Tryz.zeroValue172
 t131:=Tryz.underlying134
 a131:=Tryz.isAgg134
 z131:=Tryz.sizeOf134
 v131:=Tryz.zeroValue134
 t182:=Tryz.underlying205
 a182:=Tryz.isAgg205
 z182:=Tryz.sizeOf205
 v182:=Tryz.zeroValue205
 t183:=Tryz.underlying206
 a183:=Tryz.isAgg206
 z183:=Tryz.sizeOf206
 v183:=Tryz.zeroValue206
 t218:=Tryz.underlying217
 a218:=Tryz.isAgg217
 z218:=Tryz.sizeOf217
 v218:=Tryz.zeroValue217
 t222:=Tryz.underlying221
 a222:=Tryz.isAgg221
 z222:=Tryz.sizeOf221
 v222:=Tryz.zeroValue221
 t228:=Tryz.underlying223
 a228:=Tryz.isAgg223
 z228:=Tryz.sizeOf223
 v228:=Tryz.zeroValue223
 t229:=Tryz.underlying224
 a229:=Tryz.isAgg224
 z229:=Tryz.sizeOf224
 v229:=Tryz.zeroValue224}
open Go.Sort Go.RowKit in
theorem Tryz.slices_Sort_string (EU off cap:Nat) (ss:List (List UInt8)) (w:World) (hH:Holds encStr w EU off ss.toArray) (aqH:EU<w.heap.size) (dJ:ss.length<4611686018427387904) :
 Calls Tryz.prog 142 #[.slice (some ⟨EU,off,none⟩) ss.length cap] w fun e w'=>
  e = .returned (.tuple #[])∧∃ n os,w'=grow (putRow encStr (Sort.ahead w n) EU off (ss.mergeSort fun x y=>decide (x≤y)).toArray) os:=Any.slices_Sort_string Tryz.Sz EU off cap ss w hH aqH dJ
def Tryz.RN:Go.Shelf.Ren:=⟨fun| 194=>143|n=>n,fun| 31=>22| 9=>9| 3=>3| 4=>4| 0=>0|n=>n,fun|n=>n⟩
theorem Tryz.SA:Go.Proofs.Lays.n194 Tryz.prog Tryz.RN:= {
 mixed:=by kernel_rfl
 f194:=Tryz.func143.trans (congrArg some (by kernel_rfl))
 t0:=Tryz.underlying0
 a0:=Tryz.isAgg0
 z0:=Tryz.sizeOf0
 v0:=Tryz.zeroValue0
 t3:=Tryz.underlying3
 a3:=Tryz.isAgg3
 z3:=Tryz.sizeOf3
 v3:=Tryz.zeroValue3
 t4:=Tryz.underlying4
 a4:=Tryz.isAgg4
 z4:=Tryz.sizeOf4
 v4:=Tryz.zeroValue4
 t9:=Tryz.underlying9
 a9:=Tryz.isAgg9
 z9:=Tryz.sizeOf9
 v9:=Tryz.zeroValue9
 t31:=Tryz.underlying22
 a31:=Tryz.isAgg22
 z31:=Tryz.sizeOf22
 v31:=Tryz.zeroValue22}
open Go.RowKit Go.Lib Go.Sort in
theorem Tryz.slices_Compact_string (EU off cap:Nat) (zs:List (List UInt8)) (w:World) (hH:Holds encStr w EU off zs.toArray) (dJ:zs.length≤9223372036854775807) (xf:zs.length≤cap) :
 Calls Tryz.prog 143 #[.slice (some ⟨EU,off,none⟩) zs.length cap] w fun e w'=>e = .returned (.slice (some ⟨EU,off,none⟩) (Lib.compact zs).length cap)∧∃ q,w'=putRow encStr (Sort.ahead w q) EU off (Lib.compact zs++List.replicate (zs.length - (Lib.compact zs).length) []).toArray:=Any.slices_Compact_string Tryz.SA EU off cap zs w hH dJ xf
open Go.RowKit Go.Lib Go.Sort in
theorem Tryz.slices_Compact_string_empty (a:Option Addr) (cap:Nat) (w:World) :
 Calls Tryz.prog 143 #[.slice a 0 cap] w fun e w'=>e = .returned (.slice a 0 cap)∧w'=w:=Any.slices_Compact_string_empty Tryz.SA a cap w
open Go.RowKit Go.Sort in
theorem Tryz.slices_Sort_string_none (p:Option Addr) (cap:Nat) (w:World) :
 Calls Tryz.prog 142 #[.slice p 0 cap] w fun e w'=>e = .returned (.tuple #[])∧w'=w:=Any.slices_Sort_string_none Tryz.Sz p cap w
end Go.Proofs
namespace Go.Abs
open Go.Proofs
section
variable {P:Program} {B:gK} {nt:Nat}
theorem agm {x:Operand} {t:Nat} (h:cX x=some (.s t)):x = .tmp t:=by
 unfold cX at h
 split at h
 ·cases h;rfl
 ·obtain⟨d,_,h⟩:=map_some h;cases h
 ·cases h
 ·cases h
theorem VR {ops:Array Oper} {o:Oper} {g g':Option (Nat×Bool)} {dst:Option Nat} {f:Nat} {xs:List X} (h:v7 P ops o g=some (.call dst g' f xs)) :
 g'=g∧∃ args pe,o.op = .call ⟨.value (.func f),args,pe⟩∧enters P f=true∧Bn args.toList=some xs:=by
 unfold v7 at h
 split at h
 ·rename_i f' args pe pd
  split at h
  ·rename_i he
   obtain⟨xs',h1,h2⟩:=map_some h
   cases h2
   exact⟨rfl,args,pe,pd,he,h1⟩
  ·cases h
 ·obtain⟨_,_,h⟩:=map_some h;cases h
 ·split at h
  ·cases h
  ·split at h<;>cases h
theorem YD {ops:Array Oper} {o:Oper} {tmps:Array Value} (hg:yn ops o.guard=some none):Region.wanted o (yielded ops tmps)=true:=by
 have:o.guard=none:=by
  cases Lx:o.guard with
  |none=>rfl
  |some p=>
   obtain⟨j,b⟩:=p
   rw[Lx]at hg
   unfold yn at hg
   simp only at hg
   split at hg<;>cases hg
 simp[Region.wanted,this]
theorem Sem.ajr {a k b f:Nat} {is:List AI} {Q:Exit→Tm→St→Prop} {tm:Tm} {s:St}
 (C2 : ∀ act w,Holds B nt (tm.put (some a) (tm.get k)) s act w→Calls P f #[act.tmps.getD a Go.undef] w fun e w'=>∃ v,e = .returned v∧∃ da s',Holds B nt da s' (act.put (some b) v) w'∧jA P is (Q .normal) da s') :
 Sem P B nt (.run (.op (some a) none (.mv (.s k)):: .call (some b) none f [.s a]::is)) Q tm s:=by
 intro c hc act w hh
 obtain⟨id,ops,rfl,hi⟩:=mM hc
 refine wp_region ?_
 have key : ∀ (l:List Nat) (ol:List Oper),l.map (ops[·]?)=ol.map some→sI P nt ops ol=some (.op (some a) none (.mv (.s k)):: .call (some b) none f [.s a]::is)→wpOps P ops (n6 B nt Q) l act w:=by
  intro l ol hl AS
  match ol,l,hl with
  | [],_,_=>simp[sI]at AS
  |o0::ol,[],hl=>simp at hl
  | o0::ol,j0::l,hl=>
   simp only[zaf,List.cons.injEq]at hl
   obtain⟨hj0,hl⟩:=hl
   unfold sI at AS
   split at AS
   ·rename_i i0 is0 h1 h2
    cases AS
    match ol,l,hl,h2 with
    | [],_,_,h2=>simp[sI]at h2
    |o1::ol,[],hl,_=>simp at hl
    | o1::ol,j1::l,hl,h2=>
     simp only[zaf,List.cons.injEq]at hl
     obtain⟨hj1,hl⟩:=hl
     unfold sI at h2
     split at h2
     ·rename_i i1 is1 h3 h4
      cases h2
      obtain⟨M,e,r,ht,hn,hd⟩:=hh
      have L0:=uk h1
      have Mi:=uk h3
      simp only[AI.dst]at L0 Mi
      refine wi (K':=fun da s'=>da=tm.put (some a) (tm.get k)∧s'=s) hj0 h1 r (B.laid.ext e) ht (by simp only[jA,guarded,bF,X.ev,and_self]) (fun d v s1 w1 M1 hk e1 r1 hv=>?_)
      obtain⟨zw,rfl⟩:=hk
      have hH:=Holds.put e ht hn hd (yx h1) e1 r1 hv
      simp only[AI.dst]at zw
      rw[← L0]at hH ⊢
      rw[zw]at hH
      obtain⟨g,hg,_,hb⟩:=Eo h3
      obtain⟨rfl,args,pe,pd,oT,ri⟩:=VR hb
      simp only[wpOps,hj1,YD hg,if_true]
      left
      have abF:args.map (act.put (some a) v).eval = #[(act.put (some a) v).tmps.getD a Go.undef]:=by
       have:args.toList = [.tmp a]:=by
        match hA:args.toList with
        | []=>rw[hA]at ri;simp[Bn]at ri
        | [x]=>
         rw[hA]at ri
         simp only[Bn]at ri
         split at ri
         ·rename_i x' r' hx hr
          cases ri
          rw[agm hx]
         ·cases ri
        | x::y::z=>
         rw[hA]at ri
         simp only[Bn]at ri
         split at ri
         ·rename_i x' r' hx hr
          cases ri
          split at hr
          ·cases hr
          ·cases hr
         ·cases ri
       have:args = #[.tmp a]:=by rw[← zba (xs:=args),this]
       rw[this]
       simp only[List.map_toArray,zaf,zaj]
       rfl
      have hex:(execOp (act.put (some a) v).eval o1).run P w1 = .ok (.enter f #[(act.put (some a) v).tmps.getD a Go.undef]) w1:=by
       obtain⟨dst,op,type,pos,after,guard⟩:=o1
       simp only at pd
       subst pd
       rw[← abF]
       exact AH (act.put (some a) v).eval dst f args pe type pos after guard rfl oT w1
      unfold Oper.wp
      rw[hex,Oper.upon_enter]
      refine(C2 _ _ hH).mono ?_
      rintro en w' ⟨v',rfl,da,s',hH',hvc⟩
      rw[← Mi]
      exact Ek (Q:=Q) l ol _ hl h4 da s' _ w' hvc hH'
     ·cases h2
   ·cases AS
 exact key _ _ (El ops) hi
theorem Mj (hB:B.s = ⟨[],[]⟩) {tm:Tm} {s:St} {act:Act} {w:World} (h:Holds B nt tm s act w) {t:Nat} {l:List aD} (ht:s.au[t]? = some (some l.length)) {k0:Nat} (Yt:tm.get k0 = .slice (.tok t) 1 (l.map encStr)) :
 (l = []∧∀ k,tm.get k = .slice (.tok t) 1 (l.map encStr)→(act.tmps.getD k Go.undef = .slice none 0 0∨∃ b q,act.tmps.getD k Go.undef = .slice (some ⟨b,q,none⟩) 0 0))∨
 ∃ (b cap:Nat) (vs:Array Value) (T:TypeId),(∀ k,tm.get k = .slice (.tok t) 1 (l.map encStr)→act.tmps.getD k Go.undef = .slice (some ⟨b,0,none⟩) l.length cap)∧l.length≤cap∧w.heap[b]? = some (.cells vs T (0,0))∧(vs.size=cap∧∀ u∈vs,u.oneCell'=true)∧B.w.heap.size≤b∧
  ∀ j (hj:j<l.length),vs[j]? = some (.string ⟨⟨l[j]⟩⟩):=by
 obtain⟨M,e,r,hr,_,_⟩:=h
 rcases r.tok t _ ht with ⟨h3,h4⟩|⟨b,cap,z,vs,T,h3,h4,h5,h6,h7⟩
 ·have hl:l = []:=za2 h4
  subst hl
  refine .inl ⟨rfl,fun k hk=>?_⟩
  have hv:=hr k
  rw[hk]at hv
  generalize act.tmps.getD k Go.undef=v at hv
  cases hv with
  |jw _ _ cap hc pf=>subst hc;exact .inl rfl
  |slice _ _ _ b q cap hl hs h1 h2 pf=>
   rcases(pf.2 _ ht).2 rfl with ⟨_,h0,_⟩|⟨b',_,jK⟩
   ·subst h0;exact .inr ⟨b,q,rfl⟩
   ·rw[h3]at jK;cases jK
 ·right
  have each : ∀ k,tm.get k = .slice (.tok t) 1 (l.map encStr)→z=1∧act.tmps.getD k Go.undef = .slice (some ⟨b,0,none⟩) l.length cap∧l.length≤cap∧∀ j (hj:j<l.length),∃ u,M.G b j=some u∧RD M s (.str l[j]) u:=by
   intro k hk
   have hv:=hr k
   rw[hk]at hv
   generalize act.tmps.getD k Go.undef=v at hv
   generalize lU:l.map encStr=rows at hv
   cases hv with
   |jw _ _ cap hc pf=>
    have hl:l = []:=by cases l<;>simp at lU;rfl
    subst hl
    rcases(pf.2 _ ht).2 rfl with ⟨h0,_⟩|⟨b',h0,_⟩
    ·rw[h3]at h0;cases h0
    ·cases h0
   | slice _ _ _ b2 q avn hl hs h1 h2 pf=>
    subst lU
    rw[zau]at hl pf
    rcases(pf.2 _ ht).2 rfl with ⟨h0,_⟩|⟨b',hb,jK⟩
    ·rw[h3]at h0;cases h0
    ·cases hb
     rw[h3]at jK
     cases jK
     refine⟨rfl,by rw[zau],hl,fun j hj=>?_⟩
     have e1:(l.map encStr)[j]? = some [.str l[j]]:=by rw[zap,zah hj];rfl
     obtain⟨u,hu⟩:=h1 j _ 0 _ e1 rfl
     refine⟨u,by simpa using hu,h2 j _ 0 _ u e1 rfl hu⟩
  obtain⟨rfl,_,xf,ov⟩:=each k0 Yt
  have dF:B.w.heap.size≤b:=by
   rcases e.rH t b cap 1 ⟨_,ht⟩ h3 with ⟨⟨n,hn⟩,_⟩|h
   ·rw[hB]at hn;simp at hn
   ·exact h
  refine⟨b,cap,vs,T,fun k hk=>(each k hk).2.1,xf,h4,⟨by simpa[zs]using h5,h7.2.2⟩,dF,fun j hj=>?_⟩
  obtain⟨u,hu,jy⟩:=ov j hj
  have:=(r.comm _ _ _ hu).1
  rw[j9 h4,jy.nw]at this
  exact this
theorem PW (hB:B.s = ⟨[],[]⟩) {tm:Tm} {s:St} {act xo:Act} {w w':World} (h:Holds B nt tm s act w) {b cap:Nat} {vs:Array Value} {T:TypeId} (dJ:vs.size=cap∧∀ u∈vs,u.oneCell'=true) (sA:B.w.heap.size≤b)
 (oj : ∀ q,q<B.w.heap.size→w'.heap[q]? = w.heap[q]?) (dL:w'.heap[b]? = some (.cells vs T (0,0))) (qK:w.heap.size≤w'.heap.size) (xD:w'.os=w.os) (vv:w'.tape=w.tape) (He:w'.output=w.output)
 {l:List aD} (hl:l.length≤cap) (ov : ∀ j (hj:j<l.length),vs[j]? = some (.string ⟨⟨l[j]⟩⟩)) {k:Nat} (VS:xo.tmps.getD k Go.undef = .slice (some ⟨b,0,none⟩) l.length cap) (hn:xo.tmps.size=nt) (hd:xo.defers = []) :
 Holds B nt [(k, .slice (.tok 0) 1 (l.map encStr))] ⟨[],[some l.length]⟩ xo w':=by
 obtain⟨M,e,r,hr,_,_⟩:=h
 let M':Map:=⟨fun q o=>if q=b then(if o<l.length then(l[o]?).map fun x=>Value.string ⟨⟨x⟩⟩else none)else B.M.G q o,B.M.loc,fun _=>some (b,cap,1)⟩
 have hGb : ∀ q o v,B.M.G q o=some v→q<B.w.heap.size∧w'.cell? ⟨q,o,none⟩=some v∧v.oneCell'=true:=by
  intro q o v hq
  obtain⟨h1,h2⟩:=r.comm q o v (e.le.G q o v hq)
  have hD:=B.Gt q o v hq
  refine⟨hD, ?_,h2⟩
  rw[← h1]
  simp[World.cell?,oj q hD]
 have jS : ∀ j (hj:j<l.length),w'.cell? ⟨b,j,none⟩=some (.string ⟨⟨l[j]⟩⟩):=fun j hj=>by rw[j9 dL];exact ov j hj
 have hZ : ∀ (j:Nat) v,(if j<l.length then(l[j]?).map fun x=>Value.string ⟨⟨x⟩⟩else none)=some v→∃ hj:j<l.length,v = .string ⟨⟨l[j]⟩⟩:=by
  intro j v hv
  split at hv
  ·rename_i hj
   rw[zah hj]at hv
   exact⟨hj,by simpa using hv.symm⟩
  ·cases hv
 refine⟨M',⟨⟨fun q o v hq=>?_,by simp[hB],fun o ho=> .refl _,by rw[hB];exact zaA _,fun t n' ht _=>by rw[hB]at ht;exact absurd ht (zaT _)⟩,fun q hq _ _=>?_,fun o _ h2=>absurd h2 (zaT _),fun t q c z _ hb=>?_,fun q o dj=>?_,zaZ e.size qK,xD.trans e.os,vv.trans e.tape,He.trans e.output⟩,
  ⟨fun q o v hq=>?_,fun o ds ho=>by simp at ho,fun o ho=>absurd ho (zaT _),fun o o' ho=>absurd ho (zaT _),fun t n ht=>?_,fun t q c z o _ _ ho=>absurd ho (zaT _),fun t t' q c z c' z' B2 ke _ _=>?_⟩,fun u=>?_,hn,hd⟩
 ·show(if q=b then _ else B.M.G q o)=some v
  rw[if_neg (by have:=(hGb q o v hq).1;omega)]
  exact hq
 ·rw [oj q hq]
  exact e.kept q hq (fun o ho=>by rw[hB]at ho;exact absurd ho (zaT _)) (fun t c z ke=>by rw[hB]at ke;obtain⟨n,DQ⟩:=ke;simp at DQ)
 ·cases hb;exact .inr sA
 ·by_cases hq:q=b
  ·subst hq;exact .inl sA
  ·exact absurd (show(if q=b then _ else B.M.G q o)=B.M.G q o from if_neg hq) dj
 ·have om:(if q=b then(if o<l.length then(l[o]?).map fun x=>Value.string ⟨⟨x⟩⟩else none)else B.M.G q o)=some v:=hq
  by_cases hqb:q=b
  ·rw [if_pos hqb]at om
   obtain⟨hj,rfl⟩:=hZ o v om
   rw[hqb]
   exact⟨jS o hj,rfl⟩
  ·rw [if_neg hqb]at om
   exact(hGb q o v om).2
 ·match t with
  | 0=>
   simp at ht
   subst ht
   refine .inr ⟨b,cap,1,vs,T,rfl,dL,by simp[zs,dJ.1],hl,fun off ho=>?_,(fun h=>by cases h),dJ.2⟩
   show(if b=b then(if off<l.length then _ else none)else B.M.G b off)=none
   rw[if_pos rfl,if_neg (by simp[zs]at ho;omega)]
  |t+1=>simp at ht
 ·obtain⟨n1,h1⟩:=B2
  obtain⟨n2,h2⟩:=ke
  have a1:=(zac.1 h1).1
  have a2:=(zac.1 h2).1
  simp at a1 a2
  omega
 ·simp only [Tm.get]
  split
  ·rename_i hku
   subst hku
   rw[VS]
   have:=RD.slice (M:=M') (s:=⟨[],[some l.length]⟩) (.tok 0) 1 (l.map encStr) b 0 cap (by simpa using hl) (fun row hr=>by
    obtain⟨x,_,rfl⟩:=zaG.1 hr;rfl) (fun i row j d e1 e2=>?_) (fun i row j d u e1 e2 eu=>?_) ⟨by simp,fun n DQ=>by
    simp at DQ
    subst DQ
    exact⟨by simp,fun _=> .inr ⟨b,rfl,rfl⟩⟩⟩
   ·simpa using this
   ·rw [zap]at e1
    cases DB:l[i]? with
    |none=>rw[DB]at e1;cases e1
    |some x=>
     have sL:=(zac.1 DB).1
     rw[DB]at e1
     cases e1
     have hj:j=0:=by cases j with|zero=>rfl|succ j=>simp[encStr]at e2
     subst hj
     refine⟨.string ⟨⟨x⟩⟩, ?_⟩
     show(if b=b then(if 0+(i*1+0)<l.length then _ else none)else _)=_
     rw[if_pos rfl,if_pos (by omega)]
     simp[DB]
   ·rw [zap]at e1
    cases DB:l[i]? with
    |none=>rw[DB]at e1;cases e1
    |some x=>
     have sL:=(zac.1 DB).1
     rw[DB]at e1
     cases e1
     have hj:j=0:=by cases j with|zero=>rfl|succ j=>simp[encStr]at e2
     subst hj
     have IN:(if b=b then(if 0+(i*1+0)<l.length then(l[0+(i*1+0)]?).map fun x=>Value.string ⟨⟨x⟩⟩else none)else B.M.G b (0+(i*1+0)))=some u:=eu
     rw[if_pos rfl,if_pos (by omega)]at IN
     simp[DB]at IN
     subst IN
     simp[encStr]at e2
     subst e2
     exact .str x
  ·exact .junk _
theorem SB (hB:B.s = ⟨[],[]⟩) {tm:Tm} {s:St} {act xo:Act} {w:World} (h:Holds B nt tm s act w) {k:Nat} (VS:xo.tmps.getD k Go.undef = .slice none 0 0∨∃ b q,xo.tmps.getD k Go.undef = .slice (some ⟨b,q,none⟩) 0 0) (hn:xo.tmps.size=nt) (hd:xo.defers = []) :
 Holds B nt [(k, .slice (.tok 0) 1 (([] : List aD).map encStr))] ⟨[],[some 0]⟩ xo w:=by
 obtain⟨M,e,r,hr,_,_⟩:=h
 let M':Map:=⟨B.M.G,B.M.loc,fun _=>none⟩
 refine⟨M',⟨⟨fun q o v hq=>hq,by simp[hB],fun o ho=> .refl _,by rw[hB];exact zaA _,fun t n' ht _=>by rw[hB]at ht;exact absurd ht (zaT _)⟩,fun q hq _ _=>?_,fun o _ h2=>absurd h2 (zaT _),fun t q c z _ hb=>(by cases hb),fun q o dj=>absurd rfl dj,e.size,e.os,e.tape,e.output⟩,
  ⟨fun q o v hq=>r.comm q o v (e.le.G q o v hq),fun o ds ho=>by simp at ho,fun o ho=>absurd ho (zaT _),fun o o' ho=>absurd ho (zaT _),fun t n ht=>?_,fun t q c z o _ _ ho=>absurd ho (zaT _),fun t t' q c z c' z' B2 ke h1 _=>by cases h1⟩,fun u=>?_,hn,hd⟩
 ·exact e.kept q hq (fun o ho=>by rw[hB]at ho;exact absurd ho (zaT _)) (fun t c z ke=>by rw[hB]at ke;obtain⟨n,DQ⟩:=ke;simp at DQ)
 ·match t with
  | 0=>simp at ht;subst ht;exact .inl ⟨rfl,rfl⟩
  |t+1=>simp at ht
 ·simp only [Tm.get]
  split
  ·rename_i hku
   subst hku
   have pf : ∀ base,ko M' ⟨[],[some 0]⟩ (.tok 0) 1 0 base 0:=fun base=>⟨by simp,fun n DQ=>by
    simp at DQ
    subst DQ
    exact⟨zak _,fun _=> .inl ⟨rfl,rfl,fun h=>by cases h⟩⟩⟩
   rcases VS with h|⟨b,q,h⟩
   ·rw[h];exact .jw _ _ 0 rfl (pf none)
   ·rw[h];exact .slice (.tok 0) 1 [] b q 0 (zak _) (by simp) (by simp) (by simp) (pf _)
  ·exact .junk _
theorem EV {α:Type} [Inhabited α] (enc:α→Value) (d:Array α) (c:Array Value) (j:Nat):(Sort.putCells enc 0 d c)[j]? = if j<d.size then(c[j]?).map fun _=>enc d[j]! else c[j]? :=by
 simp only[Sort.putCells,Array.getElem?_mapIdx]
 cases h:c[j]? with
 |none=>simp
 |some x=>by_cases hj:j<d.size<;>simp[hj]
theorem Mk {w:World} {b n cap:Nat} {vs:Array Value} {T:TypeId} (dL:w.heap[b]? = some (.cells vs T (0,0))) (dJ:vs.size=cap∧∀ u∈vs,u.oneCell'=true) (l:List aD) (hl:l.length≤cap) (os:Array Obj) :
 (∀ q,q≠b→q<w.heap.size→(Sort.grow (Sort.putRow Go.Proofs.encStr (Sort.ahead w n) b 0 l.toArray) os).heap[q]? = w.heap[q]?)∧
 (Sort.grow (Sort.putRow Go.Proofs.encStr (Sort.ahead w n) b 0 l.toArray) os).heap[b]? = some (.cells (Sort.putCells Go.Proofs.encStr 0 l.toArray vs) T (0,0))∧w.heap.size≤(Sort.grow (Sort.putRow Go.Proofs.encStr (Sort.ahead w n) b 0 l.toArray) os).heap.size∧
 ((Sort.putCells Go.Proofs.encStr 0 l.toArray vs).size=cap∧∀ u∈Sort.putCells Go.Proofs.encStr 0 l.toArray vs,u.oneCell'=true)∧∀ j (hj:j<l.length),(Sort.putCells Go.Proofs.encStr 0 l.toArray vs)[j]? = some (.string ⟨⟨l[j]⟩⟩):=by
 have hb:b<w.heap.size:=(zaU.1 dL).1
 refine⟨fun q hq hD=>?_, ?_, ?_, ?_,fun j hj=>?_⟩
 ·simp only [Sort.grow,Sort.putRow,Sort.mapBlock,Sort.ahead]
  rw[zbe (by simpa using hD),zbW]
  simp[Ne.symm hq]
 ·simp only [Sort.grow,Sort.putRow,Sort.mapBlock,Sort.ahead]
  rw[zbe (by simpa using hb),zbW]
  simp[dL,Sort.onCells]
 ·simp[Sort.grow,Sort.putRow,Sort.mapBlock,Sort.ahead]
 ·refine⟨by simp [Sort.putCells,dJ.1],fun u hu=> ?_⟩
  obtain⟨j,hj⟩:=Array.getElem?_of_mem hu
  rw[EV]at hj
  split at hj
  ·obtain⟨x,_,rfl⟩:=zaw.1 hj
   rfl
  ·exact dJ.2 u (zbE hj)
 ·rw [EV]
  have h1:j<l.toArray.size:=by simpa using hj
  have h2:vs[j]? = some vs[j]:=za6 (by have:=dJ.1;omega)
  rw[if_pos h1,h2]
  simp[hj]
def oJ (l:List aD):List aD:=l.mergeSort fun x y=>decide (x≤y)
theorem PX {act:Act} {b:Nat} {v:Value} {u:Nat} (h:u≠b):(act.put (some b) v).tmps.getD u Go.undef=act.tmps.getD u Go.undef:=by
 simp only[Act.put,zbu]
 rw[zbL (fun e=>h e.symm)]
theorem Ml {act:Act} {b:Nat} {v:Value} (h:b<act.tmps.size):(act.put (some b) v).tmps.getD b Go.undef=v:=by
 simp only[Act.put,zbu]
 simp[h]
theorem Sem.sort (hB:B.s = ⟨[],[]⟩) {a k b t:Nat} {l:List aD} {is:List AI} {Q:Exit→Tm→St→Prop} {tm:Tm} {s:St} (hak:a≠k) (hbk:b≠k) (yK:a≠b)
 (hk:tm.get k = .slice (.tok t) 1 (l.map encStr)) (ht:s.au[t]? = some (some l.length)) (hl:l.length<4611686018427387904)
 (h:jA Tryz.prog is (Q .normal) [(k, .slice (.tok 0) 1 ((oJ l).map encStr))] ⟨[],[some l.length]⟩) :
 Sem Tryz.prog B nt (.run (.op (some a) none (.mv (.s k)):: .call (some b) none 142 [.s a]::is)) Q tm s:=by
 refine Sem.ajr fun act w hh=>?_
 have Dx:(tm.put (some a) (tm.get k)).get k = .slice (.tok t) 1 (l.map encStr):=by rw[Tm.nB,if_neg (by simpa using hak)];exact hk
 have PY:(tm.put (some a) (tm.get k)).get a = .slice (.tok t) 1 (l.map encStr):=by rw[Tm.nB,if_pos rfl];exact hk
 have B5:(oJ l).length=l.length:=List.length_mergeSort l
 have hn:(act.put (some b) (.tuple #[])).tmps.size=nt:=by obtain⟨_,_,_,_,h1,_⟩:=hh;simpa[Act.put]using h1
 have hd:(act.put (some b) (.tuple #[])).defers = []:=by obtain⟨_,_,_,_,_,h1⟩:=hh;simpa[Act.put]using h1
 have dJ:(act.tmps).size=nt:=by obtain⟨_,_,_,_,h1,_⟩:=hh;exact h1
 rcases Mj hB hh ht PY with ⟨rfl,hv⟩|⟨b',cap,vs,T,hv,xf,dL,nh,sA,ov⟩
 ·rw [show oJ [] = [] by simp [oJ]]at h
  have call : ∀ p,act.tmps.getD a Go.undef = .slice p 0 0→Calls Tryz.prog 142 #[act.tmps.getD a Go.undef] w fun e w'=>∃ v,e = .returned v∧∃ da s',Holds B nt da s' (act.put (some b) v) w'∧jA Tryz.prog is (Q .normal) da s':=by
   intro p hp
   rw[hp]
   refine(Tryz.slices_Sort_string_none p 0 w).mono ?_
   rintro e w' ⟨rfl,rfl⟩
   refine⟨_,rfl,_,_,SB hB hh (k:=k) ?_ hn hd,h⟩
   rw[PX (Ne.symm hbk)]
   exact hv k Dx
  rcases hv a PY with h1|⟨b',q,h1⟩
  ·exact call _ h1
  ·exact call _ h1
 ·rw [hv a PY]
  have hD:b'<w.heap.size:=(zaU.1 dL).1
  refine(Tryz.slices_Sort_string b' 0 cap l w (fun j hj=>?_) hD hl).mono ?_
  ·have YE:j<l.length:=by simpa using hj
   refine⟨?_,by simp[World.frozen?,dL]⟩
   rw[zaS,j9 dL,ov j YE]
   simp[YE]
  ·rintro e w' ⟨rfl,n,os,rfl⟩
   obtain⟨p1,p2,p3,p4,p5⟩:=Mk (n:=n) dL nh (oJ l) (by omega) os
   have hH:=PW hB hh (xo:=act.put (some b) (.tuple #[])) (l:=oJ l) (k:=k) p4 sA (fun q hq=>p1 q (by omega) (by obtain⟨M,e,_⟩:=hh;exact zaX hq e.size)) p2 p3 rfl rfl rfl (by omega) p5 (by rw[PX (Ne.symm hbk),hv k Dx,B5]) hn hd
   rw[B5]at hH
   exact⟨_,rfl,_,_,hH,h⟩
theorem RO (l:List aD):(Lib.compact l).length≤l.length:=by
 unfold Lib.compact Lib.compactUpTo
 rw[zau]
 exact zaZ (List.length_filter_le _ _) (by simp)
theorem Sem.compact (hB:B.s = ⟨[],[]⟩) {a k b t:Nat} {l:List aD} {is:List AI} {Q:Exit→Tm→St→Prop} {tm:Tm} {s:St} (hbt:b<nt)
 (hk:tm.get k = .slice (.tok t) 1 (l.map encStr)) (ht:s.au[t]? = some (some l.length)) (hl:l.length<4611686018427387904)
 (h:jA Tryz.prog is (Q .normal) [(b, .slice (.tok 0) 1 ((Lib.compact l).map encStr))] ⟨[],[some (Lib.compact l).length]⟩) :
 Sem Tryz.prog B nt (.run (.op (some a) none (.mv (.s k)):: .call (some b) none 143 [.s a]::is)) Q tm s:=by
 refine Sem.ajr fun act w hh=>?_
 have PY:(tm.put (some a) (tm.get k)).get a = .slice (.tok t) 1 (l.map encStr):=by rw[Tm.nB,if_pos rfl];exact hk
 have dJ:(act.tmps).size=nt:=by obtain⟨_,_,_,_,h1,_⟩:=hh;exact h1
 have hn : ∀ v,(act.put (some b) v).tmps.size=nt:=fun v=>by simpa[Act.put]using dJ
 have hd : ∀ v,(act.put (some b) v).defers = []:=by obtain⟨_,_,_,_,_,h1⟩:=hh;intro v;simpa[Act.put]using h1
 rcases Mj hB hh ht PY with ⟨rfl,hv⟩|⟨b',cap,vs,T,hv,xf,dL,nh,sA,ov⟩
 ·rw [show Lib.compact ([] : List aD) = []from rfl]at h
  have call : ∀ p,act.tmps.getD a Go.undef = .slice p 0 0→(p=none∨∃ b q,p=some ⟨b,q,none⟩)→Calls Tryz.prog 143 #[act.tmps.getD a Go.undef] w fun e w'=>∃ v,e = .returned v∧∃ da s',Holds B nt da s' (act.put (some b) v) w'∧jA Tryz.prog is (Q .normal) da s':=by
   intro p hp hq
   rw[hp]
   refine(Tryz.slices_Compact_string_empty p 0 w).mono ?_
   rintro e w' ⟨rfl,rfl⟩
   refine⟨_,rfl,_,_,SB hB hh (k:=b) ?_ (hn _) (hd _),h⟩
   rw[Ml (by omega)]
   rcases hq with rfl|⟨x,y,rfl⟩
   ·exact .inl rfl
   ·exact .inr ⟨x,y,rfl⟩
  rcases hv a PY with h1|⟨b',q,h1⟩
  ·exact call _ h1 (.inl rfl)
  ·exact call _ h1 (.inr ⟨b',q,rfl⟩)
 ·rw [hv a PY]
  have kP:(Lib.compact l).length≤l.length:=RO l
  refine(Tryz.slices_Compact_string b' 0 cap l w (fun j hj=>?_) (by omega) xf).mono ?_
  ·have YE:j<l.length:=by simpa using hj
   refine⟨?_,by simp[World.frozen?,dL]⟩
   rw[zaS,j9 dL,ov j YE]
   simp[YE]
  ·rintro e w' ⟨rfl,q,rfl⟩
   obtain⟨p1,p2,p3,p4,p5⟩:=Mk (n:=q) dL nh (Lib.compact l++List.replicate (l.length - (Lib.compact l).length) []) (by simp;omega) #[]
   rw[Sort.grow_empty]at p1 p2 p3
   have hH:=PW hB hh (xo:=act.put (some b) (.slice (some ⟨b',0,none⟩) (Lib.compact l).length cap)) (l:=Lib.compact l) (k:=b) p4 sA (fun q hq=>p1 q (by omega) (by obtain⟨M,e,_⟩:=hh;exact zaX hq e.size)) p2 p3 rfl rfl rfl (by omega)
    (fun j hj=>by
     have:=p5 j (by simp;omega)
     rw[List.getElem_append_left hj]at this
     exact this) (Ml (by omega)) (hn _) (hd _)
   exact⟨_,rfl,_,_,hH,h⟩
end
end Go.Abs
namespace Go.Abs
theorem Jm {a b:UInt8} : a<b↔a.toNat<b.toNat:=UInt8.lt_iff_toNat_lt
theorem B7 : ∀ a:aD,bytesLess a a=false
 | []=>rfl
 |x::a=>by
  show Go.Op.bytesLess (x::a) (x::a)=false
  have h:=B7 a
  have h:Go.Op.bytesLess a a=false:=h
  simp[Go.Op.bytesLess,h]
theorem B8 : ∀ a b:aD,bytesLess a b=true∨a=b∨bytesLess b a=true
 | [],[]=> .inr (.inl rfl)
 | [],y::b=> .inl rfl
 |x::a,[]=> .inr (.inr rfl)
 | x::a,y::b=>by
  show Go.Op.bytesLess (x::a) (y::b)=true∨_∨Go.Op.bytesLess (y::b) (x::a)=true
  have h:Go.Op.bytesLess a b=true∨a=b∨Go.Op.bytesLess b a=true:=B8 a b
  simp only[Go.Op.bytesLess,zaD,zat,decide_eq_true_eq,beq_iff_eq,List.cons.injEq]
  by_cases e:x=y
  ·subst e
   rcases h with h|h|h
   ·exact .inl (.inr ⟨rfl,h⟩)
   ·exact .inr (.inl ⟨rfl,h⟩)
   ·exact .inr (.inr (.inr ⟨rfl,h⟩))
  ·have:x.toNat≠y.toNat:=fun h=>e (UInt8.toNat_inj.1 h)
   rcases Nat.lt_or_gt_of_ne this with h|h
   ·exact .inl (.inl (Jm.2 h))
   ·exact .inr (.inr (.inl (Jm.2 h)))
theorem Jn : ∀ a b c:aD,bytesLess a b=true→bytesLess b c=true→bytesLess a c=true
 |a,b,[],h1,h2=>by cases b<;>cases h2
 |a,[],z::c,h1,h2=>by cases a<;>cases h1
 | [],y::b,z::c,h1,h2=>rfl
 | x::a,y::b,z::c,h1,h2=>by
  have h1:Go.Op.bytesLess (x::a) (y::b)=true:=h1
  have h2:Go.Op.bytesLess (y::b) (z::c)=true:=h2
  show Go.Op.bytesLess (x::a) (z::c)=true
  simp only[Go.Op.bytesLess,zaD,zat,decide_eq_true_eq,beq_iff_eq]at h1 h2 ⊢
  rcases h1 with e1|⟨i1,e1⟩
  ·rcases h2 with e2 | ⟨i2,e2⟩
   ·exact .inl (Jm.2 (Nat.lt_trans (Jm.1 e1) (Jm.1 e2)))
   ·exact .inl (i2 ▸ e1)
  ·rcases h2 with e2 | ⟨i2,e2⟩
   ·exact .inl (i1 ▸ e2)
   ·exact .inr ⟨i1.trans i2,Jn a b c e1 e2⟩
def EW (l:List aD):Prop:=l.Pairwise fun a b=>bytesLess a b=true
theorem AV : ∀ {a b:List aD},EW a→EW b→(∀ x,x∈a↔x∈b)→a=b
 | [],[],_,_,_=>rfl
 | [],y::b,_,_,h=>absurd ((h y).2 zaz) (by simp)
 |x::a,[],_,_,h=>absurd ((h x).1 zaz) (by simp)
 | x::a,y::b,h1,h2,h=>by
  obtain⟨g1,g2⟩:=List.pairwise_cons.1 h1
  obtain⟨g3,g4⟩:=List.pairwise_cons.1 h2
  have e:x=y:=by
   rcases zaq.1 ((h x).1 zaz)with e|m
   ·exact e
   ·rcases zaq.1 ((h y).2 zaz)with e | m'
    ·exact e.symm
    ·have:=Jn _ _ _ (g3 x m) (g1 y m');rw[B7]at this;cases this
  subst e
  rw[AV g2 g4 fun z=>?_]
  constructor
  ·intro m
   rcases zaq.1 ((h z).1 (zan _ m))with e|m'
   ·subst e;have:=g1 z m;rw[B7]at this;cases this
   ·exact m'
  ·intro m
   rcases zaq.1 ((h z).2 (zan _ m))with e|m'
   ·subst e;have:=g3 z m;rw[B7]at this;cases this
   ·exact m'
theorem xY (out:List aD) : ∀ (l:List aD) (c:aD) (a:Bool),
 let q:=mh out l c a
 (q.2=false↔a=false∧∀ x∈l,x∈out)∧(q.2=true→((a=true∧q.1=c)∨(q.1∈l∧q.1∉out))∧(a=true→bytesLess c q.1=false)∧∀ x∈l,x∉out→bytesLess x q.1=false)
 | [],c,a=>by
  simp only[mh]
  refine⟨by simp,fun h=>⟨.inl ⟨h,by trivial⟩,fun _=>B7 c,fun x m=>(by cases m)⟩⟩
 | s::l,c,a=>by
  simp only[mh]
  by_cases h1:dZ out s=true
  ·have m:=(il _ _).1 h1
   simp only[h1,zav,zaN,zab,if_false]
   obtain⟨k1,k2⟩:=xY out l c a
   refine⟨k1.trans ⟨fun h=>⟨h.1,fun x hx=>?_⟩,fun h=>⟨h.1,fun x hx=>h.2 x (zan _ hx)⟩⟩,fun h=>?_⟩
   ·rcases zaq.1 hx with rfl | hx
    ·exact m
    ·exact h.2 x hx
   ·obtain⟨g1,g2,g3⟩:=k2 h
    refine⟨g1.imp_right fun h=>⟨zan _ h.1,h.2⟩,g2,fun x hx hn=>?_⟩
    rcases zaq.1 hx with rfl|hx
    ·exact absurd m hn
    ·exact g3 x hx hn
  ·have m:s∉out:=fun m=>h1 ((il _ _).2 m)
   have qk:dZ out s=false:=by simpa using h1
   by_cases h2:(!a ||bytesLess s c)=true
   ·simp only [qk,h2,zax,Bool.and_self,if_true]
    obtain⟨k1,k2⟩:=xY out l s true
    refine⟨⟨fun h=>absurd (k1.1 h).1 (by simp),fun h=>absurd (h.2 s zaz) m⟩,fun h=>?_⟩
    obtain⟨g1,g2,g3⟩:=k2 h
    have g4:=g2 rfl
    refine⟨.inr ?_,fun ha=>?_,fun x hx hn=>?_⟩
    ·rcases g1 with ⟨_,e⟩ | g1
     ·rw[e];exact⟨zaz,m⟩
     ·exact⟨zan _ g1.1,g1.2⟩
    ·have h3:bytesLess s c=true:=by simpa [ha]using h2
     cases hh:bytesLess c (mh out l s true).1
     ·rfl
     ·have:=Jn _ _ _ h3 hh;rw[g4]at this;cases this
    ·rcases zaq.1 hx with rfl | hx
     ·exact g4
     ·exact g3 x hx hn
   ·have ui:(!a || bytesLess s c)=false:=by simpa using h2
    have ha:a=true:=by cases a<;>simp_all
    have h3:bytesLess s c=false:=by cases a<;>simp_all
    simp only[qk,ui,zax,zbp,zab,if_false]
    obtain⟨k1,k2⟩:=xY out l c a
    refine⟨⟨fun h=>absurd (k1.1 h).1 (by simp[ha]),fun h=>absurd h.1 (by simp[ha])⟩,fun h=>?_⟩
    obtain⟨g1,g2,g3⟩:=k2 h
    refine⟨g1.imp_right fun h=>⟨zan _ h.1,h.2⟩,g2,fun x hx hn=>?_⟩
    rcases zaq.1 hx with rfl|hx
    ·cases hh:bytesLess x (mh out l c a).1
     ·rfl
     ·have g4:=g2 ha
      rcases B8 x c with e|e|e
      ·rw[h3]at e;cases e
      ·subst e;rw[g4]at hh;cases hh
      ·have:=Jn _ _ _ e hh;rw[g4]at this;cases this
    ·exact g3 x hx hn
theorem AW (l:List aD) : ∀ (n:Nat) (out:List aD),EW out→(∀ x∈out,x∈l)→(∀ x∈out,∀ y∈l,y∉out→bytesLess x y=true)→
 EW (oh l n out)∧(∀ x∈oh l n out,x∈l)∧(∀ x∈out,x∈oh l n out)∧((∀ x∈l,x∈oh l n out)∨(oh l n out).length=out.length+n)
 | 0,out,h1,h2,h3=>⟨h1,h2,fun x m=>m, .inr rfl⟩
 | n+1,out,h1,h2,h3=>by
  simp only[oh,PV]
  obtain⟨k1,k2⟩:=xY out l [] false
  cases hq:(mh out l [] false).2
  ·simp only [zab,if_false]
   obtain⟨g1,g2,g3,g4⟩:=AW l n out h1 h2 h3
   exact⟨g1,g2,g3, .inl fun x m=>g3 x ((k1.1 hq).2 x m)⟩
  ·simp only [if_true]
   obtain⟨g1,_,g3⟩:=k2 hq
   have g1:(mh out l [] false).1∈l∧(mh out l [] false).1∉out:=by
    rcases g1 with ⟨h,_⟩|g1
    ·cases h
    ·exact g1
   generalize (mh out l [] false).1=c at g1 g3
   obtain⟨r1,r2,r3,r4⟩:=AW l n (out++ [c])
    (by
     refine List.pairwise_append.2 ⟨h1,by simp,fun x hx y hy=>?_⟩
     have:y=c:=by simpa using hy
     subst this
     exact h3 x hx y g1.1 g1.2)
    (fun x hx=>by
     rcases zar.1 hx with hx|hx
     ·exact h2 x hx
     ·have:x=c:=by simpa using hx
      subst this;exact g1.1)
    (fun x hx y hy hn=>by
     have hyo:y∉out:=fun m=>hn (zaK _ m)
     have GH:y≠c:=fun e=>hn (za7 _ (by simp[e]))
     rcases zar.1 hx with hx|hx
     ·exact h3 x hx y hy hyo
     ·have:x=c:=by simpa using hx
      subst this
      rcases B8 x y with h|h|h
      ·exact h
      ·exact absurd h.symm GH
      ·rw[g3 y hy hyo]at h;cases h)
   refine⟨r1,r2,fun x m=>r3 x (zaK _ m),r4.imp_right fun h=>?_⟩
   rw[h];simp;omega
theorem Ad : ∀ (a l:List aD),a.Nodup→(∀ x∈a,x∈l)→a.length≤l.length
 | [],l,_,_=>zaA _
 |x::a,l,h,hm=>by
  obtain⟨h1,h2⟩:=za4.1 h
  have m:=hm x zaz
  have:=Ad a (l.erase x) h2 fun y hy=>(List.mem_erase_of_ne (fun e=>h1 (by rw[← e];exact hy))).2 (hm y (zan _ hy))
  rw[List.length_erase_of_mem m]at this
  have:0<l.length:=List.length_pos_of_mem m
  simp only[zas];omega
theorem uY {l:List aD} (h:EW l):l.Nodup:=h.imp fun {a b} h e=>by subst e;rw[B7]at h;cases h
theorem nj (l:List aD):EW (ju l)∧∀ x,x∈ju l↔x∈l:=by
 obtain⟨h1,h2,h3,h4⟩:=AW l l.length [] List.Pairwise.nil (fun x m=>(by cases m)) (fun x m=>(by cases m))
 refine⟨h1,fun x=>⟨h2 x,fun m=>?_⟩⟩
 rcases h4 with h4|h4
 ·exact h4 x m
 ·refine Classical.byContradiction fun hn=> ?_
  have:=Ad (x::oh l l.length []) l (za4.2 ⟨hn,uY h1⟩) fun y hy=>by
   rcases zaq.1 hy with rfl|hy
   ·exact m
   ·exact h2 y hy
  simp only[zas,h4,zaC]at this
  omega
theorem RP (zs:List aD) (hs:zs.Pairwise fun a b=>bytesLess b a=false) : ∀ m,m≤zs.length→
 EW (Lib.compactUpTo zs.toArray m)∧(∀ x,x∈Lib.compactUpTo zs.toArray m↔x∈zs.take m):=by
 intro m
 induction m with
 |zero=>intro _;exact⟨by simp[Lib.compactUpTo,EW],fun x=>by simp[Lib.compactUpTo]⟩
 | succ m ih=>
  intro hm
  obtain⟨h1,h2⟩:=ih (by omega)
  have hz:zs[m]? = some zs[m]:=zah (by omega)
  have e1:zs.toArray[m]! = zs[m]:=by simp[hm,Nat.lt_of_succ_le hm]
  have et:zs.take (m+1)=zs.take m++ [zs[m]]:=by rw[List.take_add_one,hz];rfl
  rw[Lib.compactUpTo_succ,e1,et]
  by_cases hk:Lib.keeps zs.toArray m=true
  ·rw [if_pos hk]
   refine⟨List.pairwise_append.2 ⟨h1,by simp,fun x hx y hy=>?_⟩,fun x=>by rw[zar,zar,h2]⟩
   have hy:y=zs[m]:=by simpa using hy
   subst hy
   have hx:=(h2 x).1 hx
   simp only[Lib.keeps,decide_eq_true_eq]at hk
   rcases hk with rfl|hk
   ·simp at hx
   ·have jQ:m - 1<zs.length:=by omega
    have e2:zs.toArray[m - 1]! = zs[m - 1]:=by simp[jQ]
    rw[e1,e2]at hk
    have h0:0<m:=by
     cases m with
     |zero=>simp at hx
     |succ m=>omega
    have hle : ∀ i j (hi:i<zs.length) (hj:j<zs.length),i<j→bytesLess zs[j] zs[i] = false:=fun i j hi hj hij=>List.pairwise_iff_getElem.1 hs i j hi hj hij
    have g1:bytesLess zs[m] zs[m - 1] = false:=hle (m - 1) m jQ (by omega) (by omega)
    have g2:bytesLess zs[m - 1] zs[m] = true:=by
     rcases B8 zs[m - 1] zs[m]with h|h|h
     ·exact h
     ·exact absurd h.symm hk
     ·rw[g1]at h;cases h
    obtain⟨i,hi,rfl⟩:=List.mem_iff_getElem.1 hx
    rw[zbR]at hi
    rw[List.getElem_take]
    by_cases lu:i=m - 1
    ·subst lu;exact g2
    ·have g3:=hle i (m - 1) (by omega) jQ (by omega)
     rcases B8 zs[i] zs[m - 1]with h|h|h
     ·exact Jn _ _ _ h g2
     ·rw[h];exact g2
     ·rw[g3]at h;cases h
  ·rw [if_neg hk]
   simp only[zaF]
   refine⟨h1,fun x=>?_⟩
   rw[h2]
   simp only[Lib.keeps,decide_eq_true_eq,not_or,ne_eq,Decidable.not_not]at hk
   obtain⟨k1,k2⟩:=hk
   have jQ:m - 1<zs.length:=by omega
   have e2:zs.toArray[m - 1]! = zs[m - 1]:=by simp[jQ]
   rw[e1,e2]at k2
   simp only[zar,zaJ]
   constructor
   ·exact .inl
   ·rintro(h | rfl)
    ·exact h
    ·rw [k2]
     exact List.mem_iff_getElem.2 ⟨m - 1,by rw[zbR];omega,by rw[List.getElem_take]⟩
theorem Mm (l:List aD):(oJ l).Pairwise fun a b=>bytesLess b a=false:=by
 have h:=List.pairwise_mergeSort (le:=fun x y:aD=>decide (x≤y)) (fun a b c h1 h2=>?_) (fun a b=>?_) l
 ·refine h.imp fun {a b} h=> ?_
  rw[decide_eq_true_eq]at h
  show Go.Op.bytesLess b a=false
  rw[Go.Proofs.bytesLess_eq]
  simpa using h
 ·rw [decide_eq_true_eq]at h1 h2 ⊢
  exact List.le_trans h1 h2
 ·have:=List.le_total a b
  simpa using this
theorem EX (l:List aD):Lib.compact (oJ l)=ju l:=by
 obtain⟨h1,h2⟩:=RP (oJ l) (Mm l) (oJ l).length (zak _)
 obtain⟨h3,h4⟩:=nj l
 refine AV h1 h3 fun x=>?_
 rw[h4]
 refine(h2 x).trans ?_
 rw[List.take_length]
 exact(List.mergeSort_perm _ _).mem_iff
set_option maxRecDepth 8000
open Go.Proofs
def ln:List Sm→List aD
 | []=> []
 |v::l=>if v.kind==4 then v.proc::ln l else ln l
theorem AX : ∀ l:List Sm,(ln l).length≤l.length
 | []=>zak _
 |v::l=>by
  simp only[ln]
  have:=AX l
  split<;>simp<;>omega
def Pc.calls (f:Pc):List aD:=ju (ln (Sm.cU f.body))
theorem EY {name:aD} : ∀ {l:List Pc} {k:Nat} {f:Pc},iB name l=some f→∃ j,l[j]? = some f∧mV (fun f:Pc=>f.name==name) (k:Int) l=((k+j:Nat):Int)
 | g::l,k,f,h=>by
  simp only[iB]at h
  cases e:(g.name==name)
  ·rw [e]at h
   simp only[zab,if_false]at h
   obtain⟨j,h1,h2⟩:=EY (k:=k+1) h
   refine⟨j+1,by simpa using h1, ?_⟩
   simp only[mV,e,zab,if_false]
   rw[show((k:Int)+1)=((k+1:Nat):Int)from rfl,h2]
   congr 1;omega
  ·rw [e]at h
   simp only[if_true,Option.some.injEq]at h
   exact⟨0,by simpa using h,by simp[mV,e]⟩
theorem agn {p:Pg} (h:p.gb) {name:aD} {f:Pc} (hf:p.find name=some f) (s:St):ay Tryz.prog 165 [.dW (gn p) 0, .str name] s (.slice .shared 1 (f.calls.map encStr)) s:=by
 refine ay.pure ?_ (by simp[D.bJ,D.ok,xl]) (by simp only[D.ok,Tag.ok,dv];rfl) s
 obtain⟨nX,oE,mB⟩:=h.procs
 obtain⟨j,hj,gV⟩:=EY (k:=0) hf
 have gV:p.at name=((j:Nat):Int):=by unfold Pg.at;simpa using gV
 have sb:=fun s=>Ja (p:=p) (by omega) name s
 rw[gV]at sb
 obtain⟨it,iG,EP⟩:=abK hj (by omega)
 have KT:it.length≤900000:=by
  have e:=congrArg List.length iG
  obtain⟨a,b,e',_,_,e3,e4⟩:=(qn p).2 j f hj
  have e5:=rY p
  have e6:=congrArg List.length e3
  rw[e4]at e5
  simp only[zau,zal]at e e5 e6
  omega
 unfold S0
 obtain⟨fn,xK,ti⟩:=I1.h
 refine ay.intro ⟨fn,xK,ti⟩ (zbl rfl) fun B hB=>?_
 generalize hQ:oa (⟨[],[]⟩:St).ag.length (⟨[],[]⟩:St).au.length _ _ (⟨[],[]⟩:St)=Q
 have⟨hD,hZ,gC,gD⟩:=bc
 refine Sem.lN ?_
 refine bT trivial ?_
 refine Sem.lN ?_
 refine bT trivial ?_
 refine Sem.lN ?_
 repeat' (first
 |simp only[go_sem,hD,hZ,gC,gD]
 |(with_reducible refine CU (sb _) ?_)
 |(with_reducible refine CU (EP _) ?_)
 |(with_reducible refine aX hQ ?_;exact bK))
 refine aJ.lA 5 1 rfl ?_
 simp only[go_sem,hD,hZ,gC,gD]
 obtain⟨R,hR⟩ : ∃ R,R=ln (Sm.cU f.body):=⟨_,rfl⟩
 have PZ:R.length≤900000:=by rw[hR, ← iG];have:=AX (it.map Im.s);rw[zau]at this;omega
 refine dg 0 1 (aJ.ind (ι:=List Im×Nat×List aD×Nat) (fun i=>it.drop i.2.1=i.1∧i.2.2.1++ln (i.1.map Im.s)=R∧i.2.2.2=i.2.2.1.length) (fun i=>i.1.length)
  (fun i=> [(5, .slice (.tok 0) 1 (i.2.2.1.map encStr)),(12, .slice .shared 17 (it.map dU)),(13, .int .i64 (it.length:Int)),(14, .int .i64 (i.2.1:Int))]) (fun i=>⟨[],[some i.2.2.2]⟩) ?_ (it,0,[],0) ⟨rfl,by rw[hR,iG];rfl,rfl⟩)
 rintro⟨rest,k,out,n⟩ ⟨h1,h2,h3⟩ IH
 dsimp only at h1 h2 h3
 subst h3
 have kg:out.length≤900000:=by have:=congrArg List.length h2;rw[zal]at this;omega
 cases rest with
 | cons a rest=>
  obtain⟨hZ,g2,hD,g4⟩:=drop_cons h1
  have aV:k<4611686018427387904:=by omega
  have gC:(out.length+1)*17≤aT:=by unfold aT;omega
  simp only[zaf,ln]at h2
  rcases zaa (a.s.kind==4)with c1|c1
  ·simp only [c1,if_true]at h2
   refine bT c1 ?_
   refine cr 0 1 ?_ ?_ (IH (rest,k+1,out++ [a.s.proc],out.length+1) ⟨g2,by rw[← h2];simp,by simp⟩ (zae _))
   ·(simp only[go_sem,hD,hZ,gC,gD,ak aV,zag,zaf,zaj,encStr];try exact aQ)
   ·(simp only[go_sem,hD,hZ,gC,gD,ak aV,zag,zaf,zaj,encStr];try exact aQ)
  ·simp only [c1,zab,if_false]at h2
   refine bT c1 ?_
   refine cr 0 1 ?_ ?_ (IH (rest,k+1,out,_) ⟨g2,h2,rfl⟩ (zae _))
   ·(simp only[go_sem,hD,hZ,gC,gD,ak aV];try exact aQ)
   ·(simp only[go_sem,hD,hZ,gC,gD,ak aV];try exact aQ)
 |nil=>
  have hD:=drop_nil h1
  simp only[zaj,ln,zaF]at h2
  subst h2
  have B5:(oJ out).length=out.length:=List.length_mergeSort out
  refine bT trivial ?_
  refine Sem.seq (Sem.sort (k:=5) (t:=0) (l:=out) hB (by decide) (by decide) (by decide) rfl rfl (by omega) ?_)
  show Sem _ _ _ _ _ _ _
  refine Sem.seq (Sem.compact (k:=5) (t:=0) (l:=oJ out) hB (by decide) rfl (by rw[B5];rfl) (by rw[B5];omega) ?_)
  rw[EX]
  have ace:f.calls=ju out:=by unfold Pc.calls;rw[hR]
  rw[ace]at hQ
  refine iM (ac:= .ret) (Q:=Q) (tm:= [(32, .slice (.tok 0) 1 ((ju out).map encStr)),(4, .slice (.tok 0) 1 ((ju out).map encStr))]) (s:=⟨[],[some (ju out).length]⟩) ?_
  exact dR trivial
theorem acf {p:Pg} (h:p.gb) (hb:p.may=true) {name:aD} {f:Pc} (hf:p.find name=some f) (s:St):ay Tryz.prog 198 [.agg (bG p), .str name] s (.slice .shared 1 (f.calls.map encStr)) s:=by
 refine ay.pure ?_ (by simp[D.bJ,D.ok,fW]) (by simp only[D.ok,Tag.ok,dv];rfl) s
 obtain⟨nX,oE,mB⟩:=h.procs
 have td:=fun s=>FI (p:=p) (by omega) name s
 have pW:=(o5 hf).1
 have sK:Sm.bB f.body<4611686018427387000:=by have:=Pc.cb pW;simp only[Pc.size]at this;omega
 have fM:=fun s=>yN (f:=f) sK s
 have iG:=(se hb).1 f pW
 have KT:f.flat.length≤201:=f.tW
 simp only[hf,lk,zbo,zbv]at td
 obtain⟨R,hR⟩ : ∃ R,R=ln (Sm.cU f.body):=⟨_,rfl⟩
 have PZ:R.length≤201:=by rw[hR, ← iG];have:=AX (f.flat.map It.s);rw[zau]at this;omega
 have ace:f.calls=ju R:=by unfold Pc.calls;rw[hR]
 rw[ace]
 unfold S0
 refine ay.go Ky.h rfl fun B Q hB hQ=>?_
 have⟨hD,hZ,gC,gD⟩:=bc
 repeat' (first
 |simp only[go_sem,hD,hZ,gC,gD]
 |(with_reducible refine CU (td _) ?_)
 |(with_reducible refine CU (fM _) ?_)
 |(with_reducible refine aX hQ ?_;exact bK))
 refine aJ.lA 7 1 rfl ?_
 simp only[go_sem,hD,hZ,gC,gD]
 refine dg 0 1 (aJ.ind (ι:=List It×Nat×List aD×Nat) (fun i=>f.flat.drop i.2.1=i.1∧i.2.2.1++ln (i.1.map It.s)=R∧i.2.2.2=i.2.2.1.length) (fun i=>i.1.length)
  (fun i=> [(7, .slice (.tok 0) 1 (i.2.2.1.map encStr)),(17, .slice .shared 16 (f.flat.map du)),(18, .int .i64 (f.flat.length:Int)),(19, .int .i64 (i.2.1:Int))]) (fun i=>⟨[],[some i.2.2.2]⟩) ?_ (f.flat,0,[],0) ⟨rfl,by rw[hR,iG];rfl,rfl⟩)
 rintro⟨rest,k,out,n⟩ ⟨h1,h2,h3⟩ IH
 dsimp only at h1 h2 h3
 subst h3
 have kg:out.length≤201:=by have:=congrArg List.length h2;rw[zal]at this;omega
 cases rest with
 | cons a rest=>
  obtain⟨hZ,g2,hD,g4⟩:=drop_cons h1
  have aV:k<4611686018427387904:=by omega
  have gC:(out.length+1)*17≤aT:=by unfold aT;omega
  simp only[zaf,ln]at h2
  rcases zaa (a.s.kind==4)with c1|c1
  ·simp only [c1,if_true]at h2
   refine bT c1 ?_
   refine cr 0 1 ?_ ?_ (IH (rest,k+1,out++ [a.s.proc],out.length+1) ⟨g2,by rw[← h2];simp,by simp⟩ (zae _))
   ·(simp only[go_sem,hD,hZ,gC,gD,ak aV,zag,zaf,zaj,encStr];try exact aQ)
   ·(simp only[go_sem,hD,hZ,gC,gD,ak aV,zag,zaf,zaj,encStr];try exact aQ)
  ·simp only [c1,zab,if_false]at h2
   refine bT c1 ?_
   refine cr 0 1 ?_ ?_ (IH (rest,k+1,out,_) ⟨g2,h2,rfl⟩ (zae _))
   ·(simp only[go_sem,hD,hZ,gC,gD,ak aV];try exact aQ)
   ·(simp only[go_sem,hD,hZ,gC,gD,ak aV];try exact aQ)
 |nil=>
  have hD:=drop_nil h1
  simp only[zaj,ln,zaF]at h2
  subst h2
  have YF:=fun s=>HH (l:=out) (by omega) (.tok 0) s
  exact jn trivial YF
theorem Mn {name:aD} : ∀ {l:List Pc},name∈l.map (·.name)→∃ f,iB name l=some f
 | f::l,h=>by
  simp only[iB]
  cases e:(f.name==name)
  ·simp only [zab,if_false]
   refine Mn ?_
   rcases zaq.1 h with h|h
   ·rw[h]at e;simp at e
   ·exact h
  ·exact⟨f,rfl⟩
theorem Mp {p:Pg} {f:Pc} {procs:List aD} : ∀ {l:List Sm},xn p f procs l=none→∀ v∈l,v.known p f procs=true
 | v::l,h,w,m=>by
  simp only[xn]at h
  split at h
  ·rename_i e
   rcases zaq.1 m with rfl|m
   ·exact e
   ·exact Mp h w m
  ·cases h
theorem Mq {p:Pg} {procs:List aD} : ∀ {l:List Pc},((tf p procs l).1==0)=true→∀ f∈l,eI (p.globals++f.own)=false∧∀ v∈Sm.cU f.body,v.known p f procs=true
 | g::l,h,f,m=>by
  simp only[tf]at h
  split at h
  ·cases h
  ·rename_i e
   split at h
   ·cases h
   ·rename_i e2
    rcases zaq.1 m with rfl|m
    ·exact⟨by simpa using e,Mp e2⟩
    ·exact Mq h f m
theorem HI {p:Pg} (h:(p.scope.1==0)=true):eI p.globals=false∧eI p.pn=false∧p.pZ=false∧∀ f∈p.procs,eI (p.globals++f.own)=false∧∀ v∈Sm.cU f.body,v.known p f p.pn=true:=by
 unfold Pg.scope at h
 split at h
 ·split at h
  ·cases h
  ·rename_i e
   simp only[zaD,not_or,zbH]at e
   exact⟨e.1,e.2.1,e.2.2,Mq h⟩
 ·cases h
theorem AY {x:aD} : ∀ {l:List Sm},x∈ln l↔∃ v∈l,v.kind=4∧v.proc=x
 | []=>by simp[ln]
 | v::l=>by
  simp only[ln]
  cases e:(v.kind==4)
  ·have:v.kind≠4:=by simpa using e
   simp[this,AY (l:=l)]
  ·have:v.kind=4:=by simpa using e
   simp only[if_true,zaq,AY (l:=l),exists_eq_or_imp,this,true_and]
   constructor
   ·rintro(h | h)
    ·exact .inl h.symm
    ·exact .inr h
   ·rintro(h | h)
    ·exact .inl h.symm
    ·exact .inr h
theorem YG {f:Pc} {x:aD} : x∈f.calls↔∃ v∈Sm.cU f.body,v.kind=4∧v.proc=x:=by
 unfold Pc.calls;rw[(nj _).2,AY]
theorem AZ {p:Pg} (h:(p.scope.1==0)=true) {f:Pc} (hf:f∈p.procs) {x:aD} (m:x∈f.calls) : ∃ g,p.find x=some g:=by
 obtain⟨v,hv,h4,rfl⟩:=YG.1 m
 have hk:=((HI h).2.2.2 f hf).2 v hv
 simp only[Sm.known,h4,zat,zaD]at hk
 rcases hk.2 with h|⟨_,h⟩
 ·simp at h
 ·exact Mn ((il _ _).1 h)
def B9 (p:Pg) (x:aD):List aD:=match p.find x with|some f=>f.calls|none=> []
def uZ (out:List aD):List aD→List aD
 | []=>out
 |x::l=>uZ (oG out x) l
def tH (p:Pg):Nat→Nat→List aD→List aD
 | 0,_,out=>out
 |n+1,i,out=>match out[i]? with
  |some x=>tH p n (i+1) (uZ out (B9 p x))
  |none=>out
def Pg.work (p:Pg) (name:aD):List aD:=tH p (p.procs.length+1) 0 [name]
def Good (p:Pg) (out:List aD):Prop:=out.Nodup∧∀ x∈out,∃ f,p.find x=some f
theorem Good.len {p:Pg} {out:List aD} (h:Good p out):out.length≤p.procs.length:=by
 have:=Ad out p.pn h.1 fun x m=>by
  obtain⟨f,hf⟩:=h.2 x m
  obtain⟨h1,h2⟩:=o5 hf
  rw[← h2];exact zbb h1
 simpa[Pg.pn]using this
theorem Good.spk {p:Pg} {out:List aD} (h:Good p out) {x:aD} (hx : ∃ f,p.find x=some f):Good p (oG out x):=by
 unfold oG
 split
 ·exact h
 ·rename_i e
  have:x∉out:=fun m=>e ((il _ _).2 m)
  refine⟨za8.2 ⟨h.1,by simp,fun a ha b hb e'=>?_⟩,fun y hy=>?_⟩
  ·have hbx:b=x:=by simpa using hb
   rw[e',hbx]at ha;exact this ha
  ·rcases zar.1 hy with hy | hy
   ·exact h.2 y hy
   ·have:y=x:=by simpa using hy
    subst this;exact hx
theorem Good.add {p:Pg} : ∀ {l out:List aD},Good p out→(∀ x∈l,∃ f,p.find x=some f)→Good p (uZ out l)
 | [],out,h,_=>h
 |x::l,out,h,hx=>Good.add (l:=l) (out:=oG out x) (Good.spk h (hx x zaz)) fun y m=>hx y (zan _ m)
def YH:Bool→Tag
 |true=> .tok 0
 |false=> .full
def YI:Bool→Nat→List (Option Nat)
 |true,n=> [some n]
 |false,_=> []
theorem fA:YH true = .tok 0:=rfl
theorem fB:YH false = .full:=rfl
theorem qA (n:Nat):YI true n = [some n]:=rfl
theorem qB (n:Nat):YI false n = []:=rfl
theorem P0 {l:List aD} {x:aD} (h:(l.length+1)*17≤aT) {g:Tag} (o:List (List D)) :
 fS 1 16 (.slice .full 1 (l.map encStr)) (.slice g 1 [[.str x]]) ⟨o,[]⟩=some (.slice (.tok 0) 1 (l.map encStr++ [[.str x]]),⟨o,[some (l.length+1)]⟩):=by
 simp[fS,h]
theorem YJ {p:Pg} (h:p.gb) (kL:(p.scope.1==0)=true) {name:aD} {f:Pc} (hf:p.find name=some f) (s:St):ay Tryz.prog 175 [.agg (bG p), .str name] s (.slice .shared 1 ((ju (p.work name)).map encStr)) s:=by
 refine ay.pure ?_ (by simp[D.bJ,D.ok,fW]) (by simp only[D.ok,Tag.ok,dv];rfl) s
 obtain⟨nX,oE,mB⟩:=h.procs
 have hb:=oI kL
 obtain⟨R,hR⟩ : ∃ R,p.work name=R:=⟨_,rfl⟩
 rw[hR]
 unfold Pg.work at hR
 have hg0:Good p [name]:=⟨by simp,fun x m=>by
  have:x=name:=by simpa using m
  subst this;exact⟨f,hf⟩⟩
 unfold S0
 refine ay.go I2.h rfl fun B Q hB hQ=>?_
 have⟨hD,hZ,gC,gD⟩:=bc
 refine bT trivial ?_
 refine cr 1 0 ?_ ?_ (aJ.ind (ι:=Nat×Nat×List aD×Bool×Nat) (fun i=>tH p i.1 i.2.1 i.2.2.1=R∧Good p i.2.2.1∧i.1+i.2.1=p.procs.length+1∧i.2.2.2.2=i.2.2.1.length) (fun i=>i.1)
  (fun i=> [(2, .ptr 0 0),(5, .slice (YH i.2.2.2.1) 1 (i.2.2.1.map encStr)),(6, .int .i64 (i.2.1:Int))]) (fun i=>⟨[bG p],YI i.2.2.2.1 i.2.2.2.2⟩) ?_ (p.procs.length+1,0,[name],false,1) ⟨hR,hg0,rfl,rfl⟩)
 ·(simp only[go_sem,hD,hZ,gC,gD,fB,fA];try exact aQ)
 ·(simp only[go_sem,hD,hZ,gC,gD,fB,fA];try exact aQ)
 rintro⟨n,i,out,b,no⟩ ⟨h1,h2,h3,h4⟩ IH
 dsimp only at h1 h2 h3 h4
 subst h4
 have kg:=h2.len
 cases hx:out[i]? with
 | none=>
  have hD:decide ((i:Int)<(out.length:Int))=false:=by have:=zbC.1 hx;simp;omega
  have:R=out:=by
   cases n with
   |zero=>simpa[tH]using h1.symm
   |succ n=>simp only[tH,hx]at h1;exact h1.symm
  subst this
  cases b
  all_goals
   have YF:=fun g s=>HH (l:=R) (by omega) g s
   exact jn (ql @fA @fB @qA @qB) YF
 |some x=>
  have sL:=(zac.1 hx).1
  have hD:decide ((i:Int)<(out.length:Int))=true:=by simp;omega
  have lu:i<4611686018427387904:=by omega
  cases n with
  |zero=>omega
  |succ n=>
  simp only[tH,hx]at h1
  obtain⟨g,yS⟩:=h2.2 x (zad hx)
  have Ca:=(o5 yS).1
  have GK:=fun s=>acf h hb yS s
  have hcn:B9 p x=g.calls:=by unfold B9;rw[yS]
  rw[hcn]at h1
  have IQ : ∀ y∈g.calls,∃ f,p.find y=some f:=fun y m=>AZ kL Ca m
  have aqK:g.calls.length≤p.procs.length:=Good.len ⟨uY (nj _).1,IQ⟩
  obtain⟨W,hW⟩ : ∃ W,uZ out g.calls=W:=⟨_,rfl⟩
  have hWg:Good p W:=hW ▸ h2.add IQ
  rw[hW]at h1
  cases b
  ·repeat' (first
 |simp only[go_sem,hD,hZ,gC,gD,fA,fB,qA,qB,hx]
 |(with_reducible refine CU (GK _) ?_)
 | (with_reducible refine aX hQ ?_;exact bK))
   refine cr 1 0 ?_ ?_ (aJ.ind (ι:=List aD×Nat×List aD×Bool×Nat) (fun j=>g.calls.drop j.2.1=j.1∧uZ j.2.2.1 j.1=W∧Good p j.2.2.1∧j.2.2.2.2=j.2.2.1.length) (fun j=>j.1.length)
    (fun j=> [(2, .ptr 0 0),(5, .slice (YH j.2.2.2.1) 1 (j.2.2.1.map encStr)),(6, .int .i64 (i:Int)),(22, .slice .shared 1 (g.calls.map encStr)),(23, .int .i64 (g.calls.length:Int)),(24, .int .i64 (j.2.1:Int))]) (fun j=>⟨[bG p],YI j.2.2.2.1 j.2.2.2.2⟩) ?_ (g.calls,0,out,false,out.length) ⟨rfl,hW,h2,rfl⟩)
   ·(simp only[go_sem,hD,hZ,gC,gD,fB,fA];try exact aQ)
   ·(simp only[go_sem,hD,hZ,gC,gD,fB,fA];try exact aQ)
   clear hW
   rintro⟨rest,k,bW,b',n'⟩ ⟨j1,j2,j3,j4⟩ rn
   dsimp only at j1 j2 j3 j4
   subst j4
   have ajy:=j3.len
   cases rest with
   | nil=>
    have HJ:=drop_nil j1
    simp only[uZ]at j2
    subst j2
    cases b'
    ·refine bT (um @fA @fB @qA @qB HJ) ?_
     refine cr 1 0 ?_ ?_ (IH (n,i+1,bW,false,bW.length) ⟨h1,j3,by dsimp only;omega,rfl⟩ (zae _))
     ·(simp only[go_sem,hD,hZ,gC,gD,fB,fA,ak lu];try exact aQ)
     ·(simp only[go_sem,hD,hZ,gC,gD,fB,fA,ak lu];try exact aQ)
    ·refine bT (um @fA @fB @qA @qB HJ) ?_
     refine cr 1 1 ?_ ?_ (IH (n,i+1,bW,true,_) ⟨h1,j3,by dsimp only;omega,rfl⟩ (zae _))
     ·(simp only[go_sem,hD,hZ,gC,gD,fB,fA,ak lu];try exact aQ)
     ·(simp only[go_sem,hD,hZ,gC,gD,fB,fA,ak lu];try exact aQ)
   | cons y rest=>
    obtain⟨fm,ph,jo,Jj⟩:=drop_cons j1
    have gN:k<4611686018427387904:=by omega
    have gC:(bW.length+1)*17≤aT:=by unfold aT;omega
    have jE:=fun g s=>xm (l:=bW) (by omega) y g s
    have dc:=fun o=>P0 (l:=bW) (x:=y) gC (g:= .full) o
    have hy:=IQ y (zad fm)
    have rS:=j3.spk hy
    simp only[uZ]at j2
    rcases zaa (dZ bW y)with c1|c1
    ·simp only [oG,c1,if_true]at j2
     cases b'
     ·repeat' (first
 |simp only[go_sem,hD,hZ,gC,gD,fA,fB,qA,qB,jo,fm,c1]
 |(with_reducible refine CU (jE _ _) ?_)
 |(with_reducible refine aX hQ ?_;exact bK))
      refine cr 1 0 ?_ ?_ (rn (rest,k+1,bW,false,bW.length) ⟨ph,j2,j3,rfl⟩ (zae _))
      ·(simp only[go_sem,hD,hZ,gC,gD,fB,fA,ak gN];try exact aQ)
      ·(simp only[go_sem,hD,hZ,gC,gD,fB,fA,ak gN];try exact aQ)
     ·repeat' (first
 |simp only[go_sem,hD,hZ,gC,gD,fA,fB,qA,qB,jo,fm,c1]
 |(with_reducible refine CU (jE _ _) ?_)
 | (with_reducible refine aX hQ ?_;exact bK))
      refine cr 1 1 ?_ ?_ (rn (rest,k+1,bW,true,_) ⟨ph,j2,j3,rfl⟩ (zae _))
      ·(simp only[go_sem,hD,hZ,gC,gD,fB,fA,ak gN];try exact aQ)
      ·(simp only[go_sem,hD,hZ,gC,gD,fB,fA,ak gN];try exact aQ)
    ·simp only [oG,c1,zab,if_false]at j2 rS
     cases b'
     ·repeat' (first
 |simp only[go_sem,hD,hZ,gC,gD,fA,fB,qA,qB,jo,fm,c1,dc]
 |(with_reducible refine CU (jE _ _) ?_)
 |(with_reducible refine aX hQ ?_;exact bK))
      refine cr 1 1 ?_ ?_ (rn (rest,k+1,bW++ [y],true,bW.length+1) ⟨ph,j2,rS,by simp⟩ (zae _))
      ·(simp only[go_sem,hD,hZ,gC,gD,fB,fA,ak gN,zag,zaf,zaj,encStr];try exact aQ)
      ·(simp only[go_sem,hD,hZ,gC,gD,fB,fA,ak gN,zag,zaf,zaj,encStr];try exact aQ)
     ·repeat' (first
 |simp only[go_sem,hD,hZ,gC,gD,fA,fB,qA,qB,jo,fm,c1]
 |(with_reducible refine CU (jE _ _) ?_)
 |(with_reducible refine aX hQ ?_;exact bK))
      refine cr 1 1 ?_ ?_ (rn (rest,k+1,bW++ [y],true,bW.length+1) ⟨ph,j2,rS,by simp⟩ (zae _))
      ·(simp only[go_sem,hD,hZ,gC,gD,fB,fA,ak gN,zag,zaf,zaj,encStr];try exact aQ)
      ·(simp only[go_sem,hD,hZ,gC,gD,fB,fA,ak gN,zag,zaf,zaj,encStr];try exact aQ)
  ·repeat' (first
 |simp only[go_sem,hD,hZ,gC,gD,fA,fB,qA,qB,hx]
 |(with_reducible refine CU (GK _) ?_)
 | (with_reducible refine aX hQ ?_;exact bK))
   refine cr 1 1 ?_ ?_ (aJ.ind (ι:=List aD×Nat×List aD×Bool×Nat) (fun j=>g.calls.drop j.2.1=j.1∧uZ j.2.2.1 j.1=W∧Good p j.2.2.1∧j.2.2.2.2=j.2.2.1.length) (fun j=>j.1.length)
    (fun j=> [(2, .ptr 0 0),(5, .slice (YH j.2.2.2.1) 1 (j.2.2.1.map encStr)),(6, .int .i64 (i:Int)),(22, .slice .shared 1 (g.calls.map encStr)),(23, .int .i64 (g.calls.length:Int)),(24, .int .i64 (j.2.1:Int))]) (fun j=>⟨[bG p],YI j.2.2.2.1 j.2.2.2.2⟩) ?_ (g.calls,0,out,true,out.length) ⟨rfl,hW,h2,rfl⟩)
   ·(simp only[go_sem,hD,hZ,gC,gD,fB,fA];try exact aQ)
   ·(simp only[go_sem,hD,hZ,gC,gD,fB,fA];try exact aQ)
   clear hW
   rintro⟨rest,k,bW,b',n'⟩ ⟨j1,j2,j3,j4⟩ rn
   dsimp only at j1 j2 j3 j4
   subst j4
   have ajy:=j3.len
   cases rest with
   | nil=>
    have HJ:=drop_nil j1
    simp only[uZ]at j2
    subst j2
    cases b'
    ·refine bT (um @fA @fB @qA @qB HJ) ?_
     refine cr 1 0 ?_ ?_ (IH (n,i+1,bW,false,bW.length) ⟨h1,j3,by dsimp only;omega,rfl⟩ (zae _))
     ·(simp only[go_sem,hD,hZ,gC,gD,fB,fA,ak lu];try exact aQ)
     ·(simp only[go_sem,hD,hZ,gC,gD,fB,fA,ak lu];try exact aQ)
    ·refine bT (um @fA @fB @qA @qB HJ) ?_
     refine cr 1 1 ?_ ?_ (IH (n,i+1,bW,true,_) ⟨h1,j3,by dsimp only;omega,rfl⟩ (zae _))
     ·(simp only[go_sem,hD,hZ,gC,gD,fB,fA,ak lu];try exact aQ)
     ·(simp only[go_sem,hD,hZ,gC,gD,fB,fA,ak lu];try exact aQ)
   | cons y rest=>
    obtain⟨fm,ph,jo,Jj⟩:=drop_cons j1
    have gN:k<4611686018427387904:=by omega
    have gC:(bW.length+1)*17≤aT:=by unfold aT;omega
    have jE:=fun g s=>xm (l:=bW) (by omega) y g s
    have dc:=fun o=>P0 (l:=bW) (x:=y) gC (g:= .full) o
    have hy:=IQ y (zad fm)
    have rS:=j3.spk hy
    simp only[uZ]at j2
    rcases zaa (dZ bW y)with c1|c1
    ·simp only [oG,c1,if_true]at j2
     cases b'
     ·repeat' (first
 |simp only[go_sem,hD,hZ,gC,gD,fA,fB,qA,qB,jo,fm,c1]
 |(with_reducible refine CU (jE _ _) ?_)
 |(with_reducible refine aX hQ ?_;exact bK))
      refine cr 1 0 ?_ ?_ (rn (rest,k+1,bW,false,bW.length) ⟨ph,j2,j3,rfl⟩ (zae _))
      ·(simp only[go_sem,hD,hZ,gC,gD,fB,fA,ak gN];try exact aQ)
      ·(simp only[go_sem,hD,hZ,gC,gD,fB,fA,ak gN];try exact aQ)
     ·repeat' (first
 |simp only[go_sem,hD,hZ,gC,gD,fA,fB,qA,qB,jo,fm,c1]
 |(with_reducible refine CU (jE _ _) ?_)
 | (with_reducible refine aX hQ ?_;exact bK))
      refine cr 1 1 ?_ ?_ (rn (rest,k+1,bW,true,_) ⟨ph,j2,j3,rfl⟩ (zae _))
      ·(simp only[go_sem,hD,hZ,gC,gD,fB,fA,ak gN];try exact aQ)
      ·(simp only[go_sem,hD,hZ,gC,gD,fB,fA,ak gN];try exact aQ)
    ·simp only [oG,c1,zab,if_false]at j2 rS
     cases b'
     ·repeat' (first
 |simp only[go_sem,hD,hZ,gC,gD,fA,fB,qA,qB,jo,fm,c1,dc]
 |(with_reducible refine CU (jE _ _) ?_)
 |(with_reducible refine aX hQ ?_;exact bK))
      refine cr 1 1 ?_ ?_ (rn (rest,k+1,bW++ [y],true,bW.length+1) ⟨ph,j2,rS,by simp⟩ (zae _))
      ·(simp only[go_sem,hD,hZ,gC,gD,fB,fA,ak gN,zag,zaf,zaj,encStr];try exact aQ)
      ·(simp only[go_sem,hD,hZ,gC,gD,fB,fA,ak gN,zag,zaf,zaj,encStr];try exact aQ)
     ·repeat' (first
 |simp only[go_sem,hD,hZ,gC,gD,fA,fB,qA,qB,jo,fm,c1]
 |(with_reducible refine CU (jE _ _) ?_)
 |(with_reducible refine aX hQ ?_;exact bK))
      refine cr 1 1 ?_ ?_ (rn (rest,k+1,bW++ [y],true,bW.length+1) ⟨ph,j2,rS,by simp⟩ (zae _))
      ·(simp only[go_sem,hD,hZ,gC,gD,fB,fA,ak gN,zag,zaf,zaj,encStr];try exact aQ)
      ·(simp only[go_sem,hD,hZ,gC,gD,fB,fA,ak gN,zag,zaf,zaj,encStr];try exact aQ)
def Ae:AI→AI
 | .op d g (.rI z k n ps)=> .op d g (.yk z k n ps)
 |a=>a
section
variable {P:Program}
theorem RQ {nt:Nat} {ops:Array Oper} {i:Nat} {o:Oper} {ai:AI} (hi:ops[i]? = some o) (hc:cI P nt ops o=some ai)
 {M:Map} {s:St} {w:World} {tm:Tm} {act:Act} (r:Rel M s w) (kM:Laid M s w) (ht:oo M s tm act.tmps) {K':Tm→St→Prop} (h:jA P [Ae ai] K' tm s)
 {K:Act→World→Prop} {Q:Exit→Act→World→Prop}
 (hK : ∀ d v s1 w1 M1,K' (tm.put ai.dst d) s1→Ext M s w M1 s1 w1→Rel M1 s1 w1→RD M1 s1 d v→K (act.put o.dst v) w1):wpOp P ops Q i K act w:=by
 by_cases hb : ∃ d g z k n ps,ai = .op d g (.rI z k n ps)
 ·obtain⟨d0,g0,z,k,n,ps,rfl⟩:=hb
  obtain⟨g,hg,_,hb⟩:=Eo hc
  rw[wN hb]at hK
  simp only[wpOp,hi]
  have skip:K' (tm.put o.dst (.tuple [])) s→K (act.put o.dst Go.undef) w:=fun hk=>hK _ _ _ _ _ hk (Ext.refl M s w) r .undef
  have hd:=wN hb
  simp only[AI.dst]at hd
  subst hd
  have qN:Io P o=some (.rI z k n ps)∧g0=g:=by
   unfold v7 at hb
   split at hb
   ·split at hb
    ·obtain⟨xs,_,h⟩:=map_some hb;cases h
    ·cases hb
   ·obtain⟨xs,_,h⟩:=map_some hb;cases h
   ·split at hb
    ·cases hb
    ·split at hb
     ·rename_i qN
      simp only[Option.some.injEq,AI.op.injEq,true_and]at hb
      obtain⟨h1,h2⟩:=hb
      split at h2
      ·cases h2
      ·cases h2;exact⟨qN,h1.symm⟩
     ·rename_i ao dj qN
      simp only[Option.some.injEq,AI.op.injEq,true_and]at hb
      obtain⟨h1,h2⟩:=hb
      subst h2
      exact⟨qN,h1.symm⟩
     ·cases hb
  obtain⟨qN,rfl⟩:=qN
  simp only[Ae,jA]at h
  rcases lV hg ht h with ⟨hw,hA⟩|⟨hw,hB⟩
  ·simp only [hw,if_true]
   left
   split at hA
   ·rename_i d s' qM
    obtain⟨v,w',M',ek,r',hv,e'⟩:=CC qN r ht qM
    unfold Oper.wp
    rcases ek with ek|⟨ek,rfl⟩
    ·rw [ek,Oper.upon_value]
     exact hK _ _ _ _ _ hA e' r' hv
    ·rw [ek,Oper.upon_skip]
     exact hK _ _ _ _ _ hA e' r' hv
   ·exact hA.elim
  ·simp only [hw]
   exact skip hB
 ·have hs:Ae ai=ai:=by
   unfold Ae
   split
   ·rename_i d g z k n ps;exact absurd ⟨d,g,z,k,n,ps,rfl⟩ hb
   ·rfl
  rw[hs]at h
  exact wi hi hc r kM ht h hK
theorem ago {a:AI} {r:List AI} {K:Tm→St→Prop} {tm:Tm} {s:St} (h:jA P (a::r) K tm s):jA P [a] (jA P r K) tm s:=by
 cases a<;>exact h
theorem Mr {B:gK} {nt:Nat} {ops:Array Oper} {Q:Exit→Tm→St→Prop} : ∀ (l:List Nat) (ol:List Oper) (is:List AI),l.map (ops[·]?)=ol.map some→sI P nt ops ol=some is→
 ∀ (tm:Tm) (s:St) (act:Act) (w:World),jA P (is.map Ae) (Q .normal) tm s→Holds B nt tm s act w→wpOps P ops (n6 B nt Q) l act w
 | [],[],is,_,hc,tm,s,act,w,h,hh=>by cases hc;exact⟨tm,s,h,hh⟩
 | [],_::_,_,hl,_,_,_,_,_,_,_=>by simp at hl
 |_::_,[],_,hl,_,_,_,_,_,_,_=>by simp at hl
 | i::l,o::ol,is,hl,hc,tm,s,act,w,h,hh=>by
  simp only[zaf,List.cons.injEq]at hl
  obtain⟨hi,hl⟩:=hl
  unfold sI at hc
  split at hc
  ·rename_i ai W3 h1 h2
   cases hc
   obtain⟨M,e,r,ht,hn,hd⟩:=hh
   have tO:=yx h1
   have hdd:=uk h1
   rw[zaf]at h
   have key:=RQ (K:=fun act w=>wpOps P ops (n6 B nt Q) l act w) (Q:=n6 B nt Q) hi h1 r (B.laid.ext e) ht (ago h) (fun d v s1 w1 M1 hk e1 r1 hv=>
    Mr (Q:=Q) l ol W3 hl h2 _ _ _ _ hk (hdd ▸ Holds.put e ht hn hd tO e1 r1 hv))
   simpa only[wpOps,wpOp,hi]using key
  ·cases hc
theorem Sem.swap {B:gK} {nt:Nat} {is:List AI} {Q:Exit→Tm→St→Prop} {tm:Tm} {s:St} (h:iW P B nt (.run (is.map Ae)) Q tm s):Sem P B nt (.run is) Q tm s:=by
 intro c hc act w hh
 obtain⟨id,ops,rfl,hi⟩:=mM hc
 refine wp_region ?_
 exact Mr _ _ is (El ops) hi tm s act w (qZ h) hh
def AI.calls (e:Nat):AI→Bool
 | .call _ _ f _=>f==e
 |_=>false
def AC.Jo (e:Nat):AC→AC
 | .run is=> .run (if is.any (AI.calls e)then is.map Ae else is)
 | .seq a b=> .seq (a.Jo e) (b.Jo e)
 | .cond x a b=> .cond x (a.Jo e) (b.Jo e)
 | .block i a=> .block i (a.Jo e)
 |a=>a
structure acg (e:Nat) (a:AC) where
 {b:AC}
 h:a.Jo e=b
theorem agp {B:gK} {nt e:Nat} : ∀ {a:AC} {Q:Exit→Tm→St→Prop} {tm:Tm} {s:St},iW P B nt (a.Jo e) Q tm s→Sem P B nt a Q tm s:=by
 intro a
 induction a with
 |run is=>
  intro Q tm s h
  simp only[AC.Jo]at h
  split at h
  ·exact Sem.swap h
  ·exact iM h
 |seq a b Iz IA=>
  intro Q tm s h
  refine Sem.seq ((Iz h).mono fun x tm s hq=>?_)
  cases x with
  |normal=>exact IA hq
  |_=>exact hq
 |cond x a b Iz IA=>
  intro Q tm s h
  refine Sem.adW ?_
  simp only[AC.Jo,iW]at h
  unfold wu at h ⊢
  split at h
  ·exact⟨fun e=>Iz (h.1 e),fun e=>IA (h.2 e)⟩
  ·exact h.elim
 |block id a ih=>exact fun h=>Sem.block (ih h)
 |_=>exact fun h=>iM h
theorem bk.goE {f e:FuncId} {res:List (Nat×Option (Bool×Nat))} {body:AC} {nt:Nat} {args:List D} {s:St} {R:D→St→Prop} (h0:Has P f nt res body) (he:acg e body) (hl:Nat.ble args.length nt=true)
 (h : ∀ (B:gK) (Q:Exit→Tm→St→Prop),B.s=s→Hi res R=Q→iW P B nt he.b Q (ox 0 args) s):bk P f args s R:=by
 obtain⟨fn,hf,hc⟩:=h0
 refine bk.ID (bk.Oo (Q:=R) hf hc (zbl hl) fun B hB=>agp (by rw[he.h];exact h B _ hB rfl)) fun d s1 h=>⟨d,s1,Wk.refl _,iF.refl _,rfl,h⟩
end
end Go.Abs
namespace Go.Abs
set_option maxRecDepth 8000
open Go.Proofs
theorem VT {l:List aD} (h:l.Nodup):oJ l=ju l:=by
 refine AV ?_ (nj l).1 fun x=>?_
 ·have h1:=Mm l
  have h2:(oJ l).Nodup:=(List.mergeSort_perm l _).nodup_iff.2 h
  refine(List.pairwise_and_iff.2 ⟨h1,h2⟩).imp fun {a b} yK=>?_
  rcases B8 a b with e|e|e
  ·exact e
  ·exact absurd e yK.2
  ·rw[yK.1]at e;cases e
 ·rw[(nj l).2];exact(List.mergeSort_perm l _).mem_iff
theorem EZ {p:Pg} (kL:(p.scope.1==0)=true) : ∀ (n i:Nat) (out:List aD),Good p out→Good p (tH p n i out)
 | 0,i,out,h=>h
 | n+1,i,out,h=>by
  simp only[tH]
  split
  ·rename_i x hx
   obtain⟨g,hg⟩:=h.2 x (zad hx)
   refine EZ kL n _ _ (h.add fun y m=>?_)
   unfold B9 at m
   rw[hg]at m
   exact AZ kL (o5 hg).1 m
  ·exact h
theorem HK {p:Pg} {name:aD} {f:Pc} (hf:p.find name=some f):Good p [name]:=
 ⟨by simp,fun x m=>by
  have:x=name:=by simpa using m
  subst this;exact⟨f,hf⟩⟩
theorem agq {p:Pg} (h:p.gb) (kL:(p.scope.1==0)=true) {name:aD} {f:Pc} (hf:p.find name=some f) (s:St):ay Tryz.prog 141 [.dW (gn p) 0, .str name] s (.slice .shared 1 ((ju (p.work name)).map encStr)) s:=by
 refine ay.pure ?_ (by simp[D.bJ,D.ok,xl]) (by simp only[D.ok,Tag.ok,dv];rfl) s
 obtain⟨nX,oE,mB⟩:=h.procs
 obtain⟨R,hR⟩ : ∃ R,p.work name=R:=⟨_,rfl⟩
 have hgR:Good p R:=hR ▸ EZ kL _ _ _ (HK hf)
 rw[hR, ← VT hgR.1]
 unfold Pg.work at hR
 have hg0:Good p [name]:=HK hf
 have PZ:=hgR.len
 unfold S0
 obtain⟨fn,xK,ti⟩:=DL.h
 refine ay.intro ⟨fn,xK,ti⟩ (zbl rfl) fun B hB=>?_
 generalize hQ:oa (⟨[],[]⟩:St).ag.length (⟨[],[]⟩:St).au.length _ _ (⟨[],[]⟩:St)=Q
 have⟨hD,hZ,gC,gD⟩:=bc
 refine Sem.lN ?_
 refine bT trivial ?_
 refine Sem.seq (Sem.swap ?_)
 simp only[zaf,zaj,Ae]
 refine bT trivial ?_
 refine Sem.lN ?_
 refine bT trivial ?_
 refine dg 0 1 (aJ.ind (ι:=Nat×Nat×List aD×Nat) (fun i=>tH p i.1 i.2.1 i.2.2.1=R∧Good p i.2.2.1∧i.1+i.2.1=p.procs.length+1∧i.2.2.2=i.2.2.1.length) (fun i=>i.1)
  (fun i=> [(0, .dW (gn p) 0),(5, .slice (.tok 0) 1 (i.2.2.1.map encStr)),(6, .int .i64 (i.2.1:Int))]) (fun i=>⟨[],[some i.2.2.2]⟩) ?_ (p.procs.length+1,0,[name],1) ⟨hR,hg0,rfl,rfl⟩)
 rintro⟨n,i,out,no⟩ ⟨h1,h2,h3,h4⟩ IH
 dsimp only at h1 h2 h3 h4
 subst h4
 have kg:=h2.len
 cases hx:out[i]? with
 | none=>
  have hD:decide ((i:Int)<(out.length:Int))=false:=by have:=zbC.1 hx;simp;omega
  have:R=out:=by
   cases n with
   |zero=>simpa[tH]using h1.symm
   |succ n=>simp only[tH,hx]at h1;exact h1.symm
  subst this
  refine bT trivial ?_
  refine Sem.seq (Sem.sort (k:=5) (t:=0) (l:=R) hB (by decide) (by decide) (by decide) rfl rfl (by omega) ?_)
  refine iM (ac:=Q11) (Q:=Q) (tm:= [(5, .slice (.tok 0) 1 ((oJ R).map encStr))]) (s:=⟨[],[some R.length]⟩) ?_
  exact iX trivial
 |some x=>
  have sL:=(zac.1 hx).1
  have hD:decide ((i:Int)<(out.length:Int))=true:=by simp;omega
  have lu:i<4611686018427387904:=by omega
  cases n with
  |zero=>omega
  |succ n=>
  simp only[tH,hx]at h1
  obtain⟨g,yS⟩:=h2.2 x (zad hx)
  have Ca:=(o5 yS).1
  have GK:=fun s=>agn h yS s
  have hcn:B9 p x=g.calls:=by unfold B9;rw[yS]
  rw[hcn]at h1
  have IQ : ∀ y∈g.calls,∃ f,p.find y=some f:=fun y m=>AZ kL Ca m
  have aqK:g.calls.length≤p.procs.length:=Good.len ⟨uY (nj _).1,IQ⟩
  obtain⟨W,hW⟩ : ∃ W,uZ out g.calls=W:=⟨_,rfl⟩
  rw[hW]at h1
  repeat' (first
 |simp only[go_sem,hD,hZ,gC,gD,hx]
 |(with_reducible refine CU (GK _) ?_)
 |(with_reducible first|refine fv fun hc=>?_|refine fw fun hc=>?_|refine fx (fun hc=>?_) fun hc=>?_)<;>(try simp only[hc,bs,↓reduceIte]at h)<;>try simp only[hc]
 |((with_reducible refine aX hQ ?_);(try cases h);simp only[bZ,cd,dn,dq,go_sem,hD,hZ,gC,gD,hx];try exact kI)
 | (cases h;done))
  refine dg 0 1 (aJ.ind (ι:=List aD×Nat×List aD×Nat) (fun j=>g.calls.drop j.2.1=j.1∧uZ j.2.2.1 j.1=W∧Good p j.2.2.1∧j.2.2.2=j.2.2.1.length) (fun j=>j.1.length)
   (fun j=> [(0, .dW (gn p) 0),(5, .slice (.tok 0) 1 (j.2.2.1.map encStr)),(6, .int .i64 (i:Int)),(22, .slice .shared 1 (g.calls.map encStr)),(23, .int .i64 (g.calls.length:Int)),(24, .int .i64 (j.2.1:Int))]) (fun j=>⟨[],[some j.2.2.2]⟩) ?_ (g.calls,0,out,out.length) ⟨rfl,hW,h2,rfl⟩)
  clear hW
  rintro⟨rest,k,bW,n'⟩ ⟨j1,j2,j3,j4⟩ rn
  dsimp only at j1 j2 j3 j4
  subst j4
  have ajy:=j3.len
  cases rest with
  |nil=>
   have HJ:=drop_nil j1
   simp only[uZ]at j2
   subst j2
   refine bT HJ ?_
   refine cr 0 1 ?_ ?_ (IH (n,i+1,bW,bW.length) ⟨h1,j3,by dsimp only;omega,rfl⟩ (zae _))
   ·(simp only[go_sem,hD,hZ,gC,gD,ak lu];try exact aQ)
   ·(simp only[go_sem,hD,hZ,gC,gD,ak lu];try exact aQ)
  | cons y rest=>
   obtain⟨fm,ph,jo,Jj⟩:=drop_cons j1
   have gN:k<4611686018427387904:=by omega
   have gC:(bW.length+1)*17≤aT:=by unfold aT;omega
   have jE:=fun g s=>la (l:=bW) (by omega) y g s
   have hy:=IQ y (zad fm)
   have rS:=j3.spk hy
   simp only[uZ]at j2
   rcases zaa (dZ bW y)with c1|c1
   ·simp only [oG,c1,if_true]at j2
    repeat' (first
 |simp only[go_sem,hD,hZ,gC,gD,jo,fm,c1]
 |(with_reducible refine CU (jE _ _) ?_)
 |(with_reducible first|refine fv fun hc=>?_|refine fw fun hc=>?_|refine fx (fun hc=>?_) fun hc=>?_)<;>(try simp only[hc,bs,↓reduceIte]at h)<;>try simp only[hc]
 |((with_reducible refine aX hQ ?_);(try cases h);simp only[bZ,cd,dn,dq,go_sem,hD,hZ,gC,gD,jo,fm,c1];try exact kI)
 | (cases h;done))
    refine cr 0 1 ?_ ?_ (rn (rest,k+1,bW,bW.length) ⟨ph,j2,j3,rfl⟩ (zae _))
    ·(simp only[go_sem,hD,hZ,gC,gD,ak gN];try exact aQ)
    ·(simp only[go_sem,hD,hZ,gC,gD,ak gN];try exact aQ)
   ·simp only [oG,c1,zab,if_false]at j2 rS
    repeat' (first
 |simp only[go_sem,hD,hZ,gC,gD,jo,fm,c1]
 |(with_reducible refine CU (jE _ _) ?_)
 |(with_reducible first|refine fv fun hc=>?_|refine fw fun hc=>?_|refine fx (fun hc=>?_) fun hc=>?_)<;>(try simp only[hc,bs,↓reduceIte]at h)<;>try simp only[hc]
 |((with_reducible refine aX hQ ?_);(try cases h);simp only[bZ,cd,dn,dq,go_sem,hD,hZ,gC,gD,jo,fm,c1];try exact kI)
 | (cases h;done))
    refine cr 0 1 ?_ ?_ (rn (rest,k+1,bW++ [y],bW.length+1) ⟨ph,j2,rS,by simp⟩ (zae _))
    ·(simp only[go_sem,hD,hZ,gC,gD,ak gN,zag,zaf,zaj,encStr];try exact aQ)
    ·(simp only[go_sem,hD,hZ,gC,gD,ak gN,zag,zaf,zaj,encStr];try exact aQ)
theorem P2 (name:aD) : ∀ l:List Pc,l.any (fun f=>f.name==name)=(iB name l).isSome
 | []=>rfl
 |f::l=>by
  simp only[List.any_cons,iB]
  cases e:(f.name==name)
  ·simp[P2 name l]
  ·simp
theorem ach (name:aD) (f:Pc):ay Tryz.prog 164 ([.agg (bP f)]++ [.ptr 0 0]) ⟨[[.str name]],[]⟩ (.bool (f.name==name)) ⟨[[.str name]],[]⟩:=by
 show ay Tryz.prog 164 [.agg (bP f), .ptr 0 0] _ _ _
 refine ay.go Gc.h rfl fun B Q hB hQ=>?_
 have⟨hD,hZ,gC,gD⟩:=bc
 exact dR trivial
def Pg.Ba (p:Pg) (name:aD):Option Pc:=if p.scope.1==0 then p.find name else none
theorem aci {p:Pg} (h:p.gb) (name:aD) (s:St):ay Tryz.prog 140 [.agg (bG p), .str name] s (.bool (p.Ba name).isSome) s:=by
 refine ay.pure ?_ (by simp[D.bJ,D.ok,fW]) rfl s
 obtain⟨nX,oE,mB⟩:=h.procs
 have sJ:=fun s=>yQ h s
 have hi:=fun {s:St} {o:Nat} (ho:s.ag[o]? = some [.str name])=>EG (DV (l:=p.procs) (f:=164) (row:= [.str name]) (b:=fun f:Pc=>f.name==name) (by omega) rfl (by with_unfolding_all rfl) (fun x _=>ach name x)) rfl (zO _) rfl ho
 have jL:=fun {s:St} {o:Nat} (ho:s.ag[o]? = some [.str name])=>(show ay Tryz.prog 163 [.slice .shared 5 (p.procs.map bP), .iL 164 [.ptr o 0]] s (.bool (p.procs.any fun f:Pc=>f.name==name)) s from hi ho)
 simp only[P2]at jL
 unfold Pg.Ba Pg.find
 unfold S0
 rcases zaa (p.scope.1==0)with b1|b1
 ·simp only [b1,if_true]
  refine ay.go zV.h rfl fun B Q hB hQ=>?_
  have⟨hD,hZ,gC,gD⟩:=bc
  repeat' (first
 |simp only[go_sem,hD,hZ,gC,gD,b1]
 |(with_reducible refine CU (sJ _) ?_)
 |(with_reducible refine CU (jL (by with_unfolding_all rfl)) ?_)
 |(with_reducible refine aX hQ ?_;exact bK))
 ·simp only [b1,zab,if_false,zbK]
  refine ay.go zV.h rfl fun B Q hB hQ=>?_
  have⟨hD,hZ,gC,gD⟩:=bc
  repeat' (first
 |simp only[go_sem,hD,hZ,gC,gD,b1]
 |(with_reducible refine CU (sJ _) ?_)
 |(with_reducible refine CU (jL (by with_unfolding_all rfl)) ?_)
 |(with_reducible refine aX hQ ?_;exact bK))
def Pg.atq (p:Pg) (name:aD):List aD:=match p.Ba name with|some f=>f.calls|none=> []
def Pg.aqL (p:Pg) (name:aD):List aD:=match p.Ba name with|some _=>ju (p.work name)|none=> []
theorem Ms {p:Pg} {name:aD} {f:Pc} (h:p.Ba name=some f):(p.scope.1==0)=true∧p.find name=some f:=by
 unfold Pg.Ba at h
 split at h
 ·exact⟨by assumption,h⟩
 ·cases h
def ry (p:Pg) (out:List aD):List aD→List aD
 | []=>out
 |v::l=>ry p (if dZ p.globals v then out++ [v]else out) l
def rz (p:Pg) (out:List aD):List Sm→List aD
 | []=>out
 |v::l=>rz p (ry p out v.said) l
def tj (p:Pg) (n:aD):List Sm:=match p.find n with|some f=>Sm.cU f.body|none=> []
def tJ (p:Pg) (out:List aD):List aD→List aD
 | []=>out
 |n::l=>tJ p (rz p out (tj p n)) l
theorem vL (p:Pg) : ∀ (l out:List aD),out.length≤(ry p out l).length∧(ry p out l).length≤out.length+l.length
 | [],out=>⟨zak _,zak _⟩
 |v::l,out=>by
  simp only[ry]
  have h:=vL p l (if dZ p.globals v then out++ [v]else out)
  have h2:out.length≤(if dZ p.globals v then out++ [v]else out).length∧(if dZ p.globals v then out++ [v]else out).length≤out.length+1:=by split<;>simp
  simp only[zas]
  omega
def rD:List Sm→Nat
 | []=>0
 |v::l=>v.said.length+rD l
theorem E0 : ∀ a b:List Sm,rD (a++b)=rD a+rD b
 | [],b=>by simp[rD]
 |v::a,b=>by simp only[zaV,rD,E0 a b];omega
theorem agr (v:Sm):v.said.length≤1+v.x.size+2*Ar.bB v.args:=by
 have : ∀ (l:List Ar) (out:List aD),(Ar.said out l).length≤out.length+2*Ar.bB l:=by
  intro l
  induction l with
  |nil=>intro out;simp[Ar.said]
  |cons a l ih=>
   intro out
   simp only[Ar.said,Ar.bB]
   refine zaZ (ih _) ?_
   have:=iZ a.x
   have:1≤a.x.size:=by obtain⟨_,_,_,_⟩:=a.x;simp[Ex.size]
   simp only[zal]
   split<;>simp<;>omega
 have h1:=this v.args (v.tG++v.x.names)
 have h2:=iZ v.x
 have h4:v.tG.length≤1:=by unfold Sm.tG;split<;>simp
 simp only[zal]at h1
 unfold Sm.said
 omega
mutual
theorem YK : ∀ s:Sm,rD s.pre≤2*s.size
 |⟨id,kind,labels,name,proc,x,has,args,aY,aH⟩=>by
  simp only[Sm.pre,rD,E0,Sm.size]
  have h1:=agr ⟨id,kind,labels,name,proc,x,has,args,aY,aH⟩
  have h2:=xZ aY
  have h3:=xZ aH
  dsimp only at h1
  omega
theorem xZ : ∀ l:List Sm,rD (Sm.cU l)≤2*Sm.bB l
 | []=>by simp[Sm.cU,rD,Sm.bB]
 |s::l=>by
  simp only[Sm.cU,E0,Sm.bB]
  have:=YK s;have:=xZ l;omega
end
theorem vM (p:Pg) : ∀ (l:List Sm) (out:List aD),out.length≤(rz p out l).length∧(rz p out l).length≤out.length+rD l
 | [],out=>⟨zak _,zak _⟩
 |v::l,out=>by
  simp only[rz,rD]
  have h:=vM p l (ry p out v.said)
  have h2:=vL p v.said out
  omega
theorem vN {p:Pg} (h:p.gb) : ∀ (l out:List aD),out.length≤(tJ p out l).length∧(tJ p out l).length≤out.length+l.length*1800000
 | [],out=>⟨zak _,by simp[tJ]⟩
 | n::l,out=>by
  simp only[tJ]
  have h1:=vN h l (rz p out (tj p n))
  have h2:=vM p (tj p n) out
  have h3:rD (tj p n)≤1800000:=by
   unfold tj
   split
   ·rename_i f hf
    have:=xZ f.body
    have h4:=Pc.cb (o5 hf).1
    have h5:=h.procs.2.1
    simp only[Pc.size]at h4
    omega
   ·simp[rD]
  simp only[zas]
  omega
theorem Mt {p:Pg} (h:p.may=true):p.procs.length≤16:=by
 unfold Pg.may at h
 split at h
 ·cases h
 ·rename_i c
  simp only[zaD,decide_eq_true_eq,not_or,Int.not_lt,gt_iff_lt]at c
  have:=c.1.2
  omega
def Pg.o6 (p:Pg) (name:aD):List aD:=tJ p [] (ju (p.work name))
def Pg.qW (p:Pg) (name:aD):List aD:=match p.Ba name with|some _=>ju (p.o6 name)|none=> []
theorem HL {p:Pg} (kL:(p.scope.1==0)=true) {name:aD} {f:Pc} (hf:p.find name=some f):Good p (ju (p.work name)):=by
 have h:=EZ kL (p.procs.length+1) 0 [name] (HK hf)
 refine⟨uY (nj _).1,fun x m=>h.2 x ?_⟩
 exact((nj _).2 x).1 m
theorem VU {p:Pg} (h:p.gb) (kL:(p.scope.1==0)=true) {name:aD} {f:Pc} (hf:p.find name=some f) (s:St):ay Tryz.prog 148 [.agg (bG p), .str name] s (.slice .shared 1 ((ju (p.o6 name)).map encStr)) s:=by
 refine ay.pure ?_ (by simp[D.bJ,D.ok,fW]) (by simp only[D.ok,Tag.ok,dv];rfl) s
 have hb:=oI kL
 obtain⟨nX,oE,mB⟩:=h.procs
 have hN:=HL kL hf
 obtain⟨N,P3⟩ : ∃ N,ju (p.work name)=N:=⟨_,rfl⟩
 rw[P3]at hN
 have SC:=hN.len
 obtain⟨R,hR⟩ : ∃ R,p.o6 name=R:=⟨_,rfl⟩
 rw[hR]
 unfold Pg.o6 at hR
 rw[P3]at hR
 have PZ:R.length≤28800000:=by
  have:=(vN h N []).2
  rw[hR]at this
  have h4:=Mt (oI kL)
  have h3:N.length*1800000≤16*1800000:=zaR _ (by omega)
  simp only[zaC]at this
  omega
 have GK:=fun s=>YJ h kL hf s
 simp only[P3]at GK
 unfold S0
 refine ay.go Hz.h rfl fun B Q hB hQ=>?_
 have⟨hD,hZ,gC,gD⟩:=bc
 repeat' (first
 |simp only[go_sem,hD,hZ,gC,gD]
 |(with_reducible refine CU (GK _) ?_)
 |(with_reducible refine aX hQ ?_;exact bK))
 refine aJ.lA 5 1 rfl ?_
 simp only[go_sem,hD,hZ,gC,gD]
 refine dg 1 1 (aJ.ind (ι:=List aD×Nat×List aD×Nat) (fun i=>N.drop i.2.1=i.1∧tJ p i.2.2.1 i.1=R∧i.2.2.1.length≤R.length∧i.2.2.2=i.2.2.1.length) (fun i=>i.1.length)
  (fun i=> [(2, .ptr 0 0),(5, .slice (.tok 0) 1 (i.2.2.1.map encStr)),(16, .slice .shared 1 (N.map encStr)),(17, .int .i64 (N.length:Int)),(18, .int .i64 (i.2.1:Int))]) (fun i=>⟨[bG p],[some i.2.2.2]⟩) ?_ (N,0,[],0) ⟨rfl,hR,zaA _,rfl⟩)
 rintro⟨rest,k,out,no⟩ ⟨h1,h2,h3,h4⟩ IH
 dsimp only at h1 h2 h3 h4
 subst h4
 cases rest with
 |nil=>
  have hD:=drop_nil h1
  simp only[tJ]at h2
  subst h2
  have YF:=fun g s=>HH (l:=out) (by omega) g s
  exact jn trivial YF
 |cons x rest=>
  obtain⟨hZ,g2,hD,g4⟩:=drop_cons h1
  have aV:k<4611686018427387904:=by omega
  obtain⟨g,yS⟩:=hN.2 x (zad hZ)
  have Ca:=(o5 yS).1
  have hbd:tj p x=Sm.cU g.body:=by unfold tj;rw[yS]
  simp only[tJ,hbd]at h2
  have td:=fun s=>FI (p:=p) (by omega) x s
  simp only[yS,lk,zbo,zbv]at td
  have sK:Sm.bB g.body<4611686018427387000:=by have:=Pc.cb Ca;simp only[Pc.size]at this;omega
  have fM:=fun s=>yN (f:=g) sK s
  obtain⟨it,hie⟩ : ∃ it,g.flat=it:=⟨_,rfl⟩
  have iG:=(se hb).1 g Ca
  have KT:g.flat.length≤201:=g.tW
  rw[hie]at iG KT
  simp only[hie]at fM
  rw[← iG]at h2
  repeat' (first
 |simp only[go_sem,hD,hZ,gC,gD,hZ]
 |(with_reducible refine CU (td _) ?_)
 |(with_reducible refine CU (fM _) ?_)
 | (with_reducible refine aX hQ ?_;exact bK))
  obtain⟨W,hW⟩ : ∃ W,rz p out (it.map It.s)=W:=⟨_,rfl⟩
  rw[hW]at h2
  have hWR:W.length≤R.length:=by have:=(vN h rest W).1;rw[h2]at this;exact this
  have PS:out.length≤W.length:=by have:=(vM p (it.map It.s) out).1;rw[hW]at this;exact this
  refine dg 1 1 (aJ.ind (ι:=List It×Nat×List aD×Nat) (fun i=>it.drop i.2.1=i.1∧rz p i.2.2.1 (i.1.map It.s)=W∧i.2.2.1.length≤W.length∧i.2.2.2=i.2.2.1.length) (fun i=>i.1.length)
   (fun i=> [(2, .ptr 0 0),(5, .slice (.tok 0) 1 (i.2.2.1.map encStr)),(16, .slice .shared 1 (N.map encStr)),(17, .int .i64 (N.length:Int)),(18, .int .i64 (k:Int)),(29, .slice .shared 16 (it.map du)),(30, .int .i64 (it.length:Int)),(31, .int .i64 (i.2.1:Int))]) (fun i=>⟨[bG p],[some i.2.2.2]⟩) ?_ (it,0,out,out.length) ⟨rfl,hW,PS,rfl⟩)
  rintro⟨lC,k2,tX,no⟩ ⟨j1,j2,j3,j4⟩ rZ
  dsimp only at j1 j2 j3 j4
  subst j4
  cases lC with
  |nil=>
   have sh:=drop_nil j1
   simp only[zaj,rz]at j2
   subst j2
   refine bT sh ?_
   refine cr 1 1 ?_ ?_ (IH (rest,k+1,tX,tX.length) ⟨g2,h2,hWR,rfl⟩ (zae _))
   ·(simp only[go_sem,hD,hZ,gC,gD,ak aV];try exact aQ)
   ·(simp only[go_sem,hD,hZ,gC,gD,ak aV];try exact aQ)
  |cons y lC=>
   obtain⟨fm,ph,jo,Jj⟩:=drop_cons j1
   have gN:k2<4611686018427387904:=by omega
   have hym:y.s∈Sm.cU g.body:=by rw[← iG];exact zbb (zad fm)
   have rh:=h.said Ca _ hym
   have L4:=fun s=>GF rh s
   have B5:=CY _ rh
   simp only[zaf,rz]at j2
   repeat' (first
 |simp only[go_sem,hD,hZ,gC,gD,jo,fm]
 |(with_reducible refine CU (L4 _) ?_)
 | (with_reducible refine aX hQ ?_;exact bK))
   obtain⟨V,hV⟩ : ∃ V,ry p tX y.s.said=V:=⟨_,rfl⟩
   rw[hV]at j2
   have hVW:V.length≤W.length:=by have:=(vM p (lC.map It.s) V).1;rw[j2]at this;exact this
   have hoV:tX.length≤V.length:=by have:=(vL p y.s.said tX).1;rw[hV]at this;exact this
   refine dg 1 1 (aJ.ind (ι:=List aD×Nat×List aD×Nat) (fun i=>y.s.said.drop i.2.1=i.1∧ry p i.2.2.1 i.1=V∧i.2.2.1.length≤V.length∧i.2.2.2=i.2.2.1.length) (fun i=>i.1.length)
    (fun i=> [(2, .ptr 0 0),(5, .slice (.tok 0) 1 (i.2.2.1.map encStr)),(16, .slice .shared 1 (N.map encStr)),(17, .int .i64 (N.length:Int)),(18, .int .i64 (k:Int)),(29, .slice .shared 16 (it.map du)),(30, .int .i64 (it.length:Int)),(31, .int .i64 (k2:Int)),(37, .slice .shared 1 (y.s.said.map encStr)),(38, .int .i64 (y.s.said.length:Int)),(39, .int .i64 (i.2.1:Int))]) (fun i=>⟨[bG p],[some i.2.2.2]⟩) ?_ (y.s.said,0,tX,tX.length) ⟨rfl,hV,hoV,rfl⟩)
   rintro⟨u5,k3,qC,no⟩ ⟨l1,l2,l3,l4⟩ Cb
   dsimp only at l1 l2 l3 l4
   subst l4
   cases u5 with
   |nil=>
    have acj:=drop_nil l1
    simp only[ry]at l2
    subst l2
    refine bT acj ?_
    refine cr 1 1 ?_ ?_ (rZ (lC,k2+1,qC,qC.length) ⟨ph,j2,hVW,rfl⟩ (zae _))
    ·(simp only[go_sem,hD,hZ,gC,gD,ak gN];try exact aQ)
    ·(simp only[go_sem,hD,hZ,gC,gD,ak gN];try exact aQ)
   | cons z u5=>
    obtain⟨ET,PT,Mh,lg4⟩:=drop_cons l1
    have w5:k3<4611686018427387904:=by omega
    have jE:=fun g s=>xm (l:=p.globals) (by omega) z g s
    simp only[ry]at l2
    rcases zaa (dZ p.globals z)with c1|c1
    ·simp only [c1,if_true]at l2
     have gC:(qC.length+1)*17≤aT:=by unfold aT;omega
     have hoo:(qC++ [z]).length≤V.length:=by have:=(vL p u5 (qC++ [z])).1;rw[l2]at this;exact this
     repeat' (first
 |simp only[go_sem,hD,hZ,gC,gD,Mh,ET,c1]
 |(with_reducible refine CU (jE _ _) ?_)
 | (with_reducible refine aX hQ ?_;exact bK))
     refine cr 1 1 ?_ ?_ (Cb (u5,k3+1,qC++ [z],qC.length+1) ⟨PT,l2,hoo,by simp⟩ (zae _))
     ·(simp only[go_sem,hD,hZ,gC,gD,ak w5,zag,zaf,zaj,encStr];try exact aQ)
     ·(simp only[go_sem,hD,hZ,gC,gD,ak w5,zag,zaf,zaj,encStr];try exact aQ)
    ·simp only [c1,zab,if_false]at l2
     repeat' (first
 |simp only[go_sem,hD,hZ,gC,gD,Mh,ET,c1]
 |(with_reducible refine CU (jE _ _) ?_)
 |(with_reducible refine aX hQ ?_;exact bK))
     refine cr 1 1 ?_ ?_ (Cb (u5,k3+1,qC,qC.length) ⟨PT,l2,l3,rfl⟩ (zae _))
     ·(simp only[go_sem,hD,hZ,gC,gD,ak w5];try exact aQ)
     ·(simp only[go_sem,hD,hZ,gC,gD,ak w5];try exact aQ)
theorem YL {p:Pg} (h:p.gb) (name:aD) (s:St):ay Tryz.prog 106 [.agg (bG p), .str name] s (.slice .shared 1 ((p.qW name).map encStr)) s:=by
 refine ay.pure ?_ (by simp[D.bJ,D.ok,fW]) (by simp only[D.ok,Tag.ok,dv];rfl) s
 have hk:=fun s=>aci h name s
 have dF:=fun s=>CP (p:=p) (by have:=h.procs;omega) s
 unfold Pg.qW
 unfold S0
 cases ack:p.Ba name with
 |none=>
  simp only[ack,zbK]at hk
  simp only[zaj]
  refine ay.go xI.h rfl fun B Q hB hQ=>?_
  have⟨hD,hZ,gC,gD⟩:=bc
  exact jn trivial hk
 |some f=>
 obtain⟨kL,hf⟩:=Ms ack
 simp only[ack,zbv]at hk
 dsimp only
 obtain⟨nX,oE,mB⟩:=h.procs
 have hN:=HL kL hf
 obtain⟨N,P3⟩ : ∃ N,ju (p.work name)=N:=⟨_,rfl⟩
 rw[P3]at hN
 have SC:=hN.len
 obtain⟨R,hR⟩ : ∃ R,p.o6 name=R:=⟨_,rfl⟩
 rw[hR]
 unfold Pg.o6 at hR
 rw[P3]at hR
 have PZ:R.length≤28800000:=by
  have:=(vN h N []).2
  rw[hR]at this
  have h4:=Mt (oI kL)
  have h3:N.length*1800000≤16*1800000:=zaR _ (by omega)
  simp only[zaC]at this
  omega
 have GK:=fun s=>agq h kL hf s
 simp only[P3]at GK
 obtain⟨fn,xK,ti⟩:=xI.h
 refine ay.intro ⟨fn,xK,ti⟩ (zbl rfl) fun B hB=>?_
 generalize hQ:oa (⟨[],[]⟩:St).ag.length (⟨[],[]⟩:St).au.length _ _ (⟨[],[]⟩:St)=Q
 have⟨hD,hZ,gC,gD⟩:=bc
 refine Sem.lN ?_
 refine bT trivial ?_
 refine Sem.lN ?_
 repeat' (first
 |simp only[go_sem,hD,hZ,gC,gD]
 |(with_reducible refine CU (hk _) ?_)
 |(with_reducible refine aX hQ ?_;exact bK))
 refine Sem.lN ?_
 repeat' (first
 |simp only[go_sem,hD,hZ,gC,gD]
 |(with_reducible refine CU (dF _) ?_)
 |(with_reducible refine aX hQ ?_;exact bK))
 refine Sem.lN ?_
 refine bT trivial ?_
 refine Sem.lN ?_
 repeat' (first
 |simp only[go_sem,hD,hZ,gC,gD]
 |(with_reducible refine CU (GK _) ?_)
 |(with_reducible refine aX hQ ?_;exact bK))
 refine aJ.lA 6 1 rfl ?_
 simp only[go_sem,hD,hZ,gC,gD]
 refine dg 1 1 (aJ.ind (ι:=List aD×Nat×List aD×Nat) (fun i=>N.drop i.2.1=i.1∧tJ p i.2.2.1 i.1=R∧i.2.2.1.length≤R.length∧i.2.2.2=i.2.2.1.length) (fun i=>i.1.length)
  (fun i=> [(2, .ptr 0 0),(5, .dW (gn p) 0),(6, .slice (.tok 0) 1 (i.2.2.1.map encStr)),(21, .slice .shared 1 (N.map encStr)),(22, .int .i64 (N.length:Int)),(23, .int .i64 (i.2.1:Int))]) (fun i=>⟨[bG p],[some i.2.2.2]⟩) ?_ (N,0,[],0) ⟨rfl,hR,zaA _,rfl⟩)
 rintro⟨rest,k,out,no⟩ ⟨h1,h2,h3,h4⟩ IH
 dsimp only at h1 h2 h3 h4
 subst h4
 cases rest with
 |nil=>
  have hD:=drop_nil h1
  simp only[tJ]at h2
  subst h2
  have B5:(oJ out).length=out.length:=List.length_mergeSort out
  refine bT trivial ?_
  refine Sem.seq (Sem.sort (k:=6) (t:=0) (l:=out) hB (by decide) (by decide) (by decide) rfl rfl (by omega) ?_)
  refine Sem.seq (Sem.compact (k:=6) (t:=0) (l:=oJ out) hB (by decide) rfl (by rw[B5];rfl) (by rw[B5];omega) ?_)
  rw[EX]
  refine iM (ac:= .ret) (Q:=Q) (tm:= [(59, .slice (.tok 0) 1 ((ju out).map encStr)),(4, .slice (.tok 0) 1 ((ju out).map encStr))]) (s:=⟨[],[some (ju out).length]⟩) ?_
  repeat' (first
 |simp only[go_sem,hD,hZ,gC,gD]
 |(with_reducible refine aX hQ ?_;exact bK))
 | cons x rest=>
  obtain⟨hZ,g2,hD,g4⟩:=drop_cons h1
  have aV:k<4611686018427387904:=by omega
  obtain⟨g,yS⟩:=hN.2 x (zad hZ)
  have Ca:=(o5 yS).1
  have hbd:tj p x=Sm.cU g.body:=by unfold tj;rw[yS]
  simp only[tJ,hbd]at h2
  obtain⟨j,hj,gV⟩:=EY (k:=0) yS
  have gV:p.at x=((j:Nat):Int):=by unfold Pg.at;simpa using gV
  have sb:=fun s=>Ja (p:=p) (by omega) x s
  simp only[gV]at sb
  obtain⟨it,iG,EP⟩:=abK hj (by omega)
  have KT:it.length≤900000:=by
   have e:=congrArg List.length iG
   obtain⟨a,b,e',_,_,e3,e4⟩:=(qn p).2 j g hj
   have e5:=rY p
   have e6:=congrArg List.length e3
   rw[e4]at e5
   simp only[zau,zal]at e e5 e6
   omega
  rw[← iG]at h2
  repeat' (first
 |simp only[go_sem,hD,hZ,gC,gD,hZ]
 |(with_reducible refine CU (sb _) ?_)
 |(with_reducible refine CU (EP _) ?_)
 | (with_reducible refine aX hQ ?_;exact bK))
  obtain⟨W,hW⟩ : ∃ W,rz p out (it.map Im.s)=W:=⟨_,rfl⟩
  rw[hW]at h2
  have hWR:W.length≤R.length:=by have:=(vN h rest W).1;rw[h2]at this;exact this
  have PS:out.length≤W.length:=by have:=(vM p (it.map Im.s) out).1;rw[hW]at this;exact this
  refine dg 1 1 (aJ.ind (ι:=List Im×Nat×List aD×Nat) (fun i=>it.drop i.2.1=i.1∧rz p i.2.2.1 (i.1.map Im.s)=W∧i.2.2.1.length≤W.length∧i.2.2.2=i.2.2.1.length) (fun i=>i.1.length)
   (fun i=> [(2, .ptr 0 0),(5, .dW (gn p) 0),(6, .slice (.tok 0) 1 (i.2.2.1.map encStr)),(21, .slice .shared 1 (N.map encStr)),(22, .int .i64 (N.length:Int)),(23, .int .i64 (k:Int)),(31, .slice .shared 17 (it.map dU)),(32, .int .i64 (it.length:Int)),(33, .int .i64 (i.2.1:Int))]) (fun i=>⟨[bG p],[some i.2.2.2]⟩) ?_ (it,0,out,out.length) ⟨rfl,hW,PS,rfl⟩)
  rintro⟨lC,k2,tX,no⟩ ⟨j1,j2,j3,j4⟩ rZ
  dsimp only at j1 j2 j3 j4
  subst j4
  cases lC with
  |nil=>
   have sh:=drop_nil j1
   simp only[zaj,rz]at j2
   subst j2
   repeat' (first
 |simp only[go_sem,hD,hZ,gC,gD,sh]
 | (with_reducible refine aX hQ ?_;exact bK))
   refine cr 1 1 ?_ ?_ (IH (rest,k+1,tX,tX.length) ⟨g2,h2,hWR,rfl⟩ (zae _))
   ·(simp only[go_sem,hD,hZ,gC,gD,ak aV];try exact aQ)
   ·(simp only[go_sem,hD,hZ,gC,gD,ak aV];try exact aQ)
  |cons y lC=>
   obtain⟨fm,ph,jo,Jj⟩:=drop_cons j1
   have gN:k2<4611686018427387904:=by omega
   have hym:y.s∈Sm.cU g.body:=by rw[← iG];exact zbb (zad fm)
   have rh:=h.said Ca _ hym
   have L4:=fun s=>EK rh s
   have B5:=CY _ rh
   simp only[zaf,rz]at j2
   repeat' (first
 |simp only[go_sem,hD,hZ,gC,gD,jo,fm]
 |(with_reducible refine CU (L4 _) ?_)
 | (with_reducible refine aX hQ ?_;exact bK))
   obtain⟨V,hV⟩ : ∃ V,ry p tX y.s.said=V:=⟨_,rfl⟩
   rw[hV]at j2
   have hVW:V.length≤W.length:=by have:=(vM p (lC.map Im.s) V).1;rw[j2]at this;exact this
   have hoV:tX.length≤V.length:=by have:=(vL p y.s.said tX).1;rw[hV]at this;exact this
   refine dg 1 1 (aJ.ind (ι:=List aD×Nat×List aD×Nat) (fun i=>y.s.said.drop i.2.1=i.1∧ry p i.2.2.1 i.1=V∧i.2.2.1.length≤V.length∧i.2.2.2=i.2.2.1.length) (fun i=>i.1.length)
    (fun i=> [(2, .ptr 0 0),(5, .dW (gn p) 0),(6, .slice (.tok 0) 1 (i.2.2.1.map encStr)),(21, .slice .shared 1 (N.map encStr)),(22, .int .i64 (N.length:Int)),(23, .int .i64 (k:Int)),(31, .slice .shared 17 (it.map dU)),(32, .int .i64 (it.length:Int)),(33, .int .i64 (k2:Int)),(39, .slice .shared 1 (y.s.said.map encStr)),(40, .int .i64 (y.s.said.length:Int)),(41, .int .i64 (i.2.1:Int))]) (fun i=>⟨[bG p],[some i.2.2.2]⟩) ?_ (y.s.said,0,tX,tX.length) ⟨rfl,hV,hoV,rfl⟩)
   rintro⟨u5,k3,qC,no⟩ ⟨l1,l2,l3,l4⟩ Cb
   dsimp only at l1 l2 l3 l4
   subst l4
   cases u5 with
   |nil=>
    have acj:=drop_nil l1
    simp only[ry]at l2
    subst l2
    repeat' (first
 |simp only[go_sem,hD,hZ,gC,gD,acj]
 | (with_reducible refine aX hQ ?_;exact bK))
    refine cr 1 1 ?_ ?_ (rZ (lC,k2+1,qC,qC.length) ⟨ph,j2,hVW,rfl⟩ (zae _))
    ·(simp only[go_sem,hD,hZ,gC,gD,ak gN];try exact aQ)
    ·(simp only[go_sem,hD,hZ,gC,gD,ak gN];try exact aQ)
   | cons z u5=>
    obtain⟨ET,PT,Mh,lg4⟩:=drop_cons l1
    have w5:k3<4611686018427387904:=by omega
    have jE:=fun g s=>la (l:=p.globals) (by omega) z g s
    simp only[ry]at l2
    rcases zaa (dZ p.globals z)with c1|c1
    ·simp only [c1,if_true]at l2
     have gC:(qC.length+1)*17≤aT:=by unfold aT;omega
     have hoo:(qC++ [z]).length≤V.length:=by have:=(vL p u5 (qC++ [z])).1;rw[l2]at this;exact this
     repeat' (first
 |simp only[go_sem,hD,hZ,gC,gD,Mh,ET,c1]
 |(with_reducible refine CU (jE _ _) ?_)
 | (with_reducible refine aX hQ ?_;exact bK))
     refine cr 1 1 ?_ ?_ (Cb (u5,k3+1,qC++ [z],qC.length+1) ⟨PT,l2,hoo,by simp⟩ (zae _))
     ·(simp only[go_sem,hD,hZ,gC,gD,ak w5,zag,zaf,zaj,encStr];try exact aQ)
     ·(simp only[go_sem,hD,hZ,gC,gD,ak w5,zag,zaf,zaj,encStr];try exact aQ)
    ·simp only [c1,zab,if_false]at l2
     repeat' (first
 |simp only[go_sem,hD,hZ,gC,gD,Mh,ET,c1]
 |(with_reducible refine CU (jE _ _) ?_)
 |(with_reducible refine aX hQ ?_;exact bK))
     refine cr 1 1 ?_ ?_ (Cb (u5,k3+1,qC,qC.length) ⟨PT,l2,l3,rfl⟩ (zae _))
     ·(simp only[go_sem,hD,hZ,gC,gD,ak w5];try exact aQ)
     ·(simp only[go_sem,hD,hZ,gC,gD,ak w5];try exact aQ)
mutual
def Sm.pj (deep bp:Int) (aH:Bool):Sm→List It
 |⟨id,kind,labels,name,proc,x,has,args,aY,e⟩=>⟨⟨id,kind,labels,name,proc,x,has,args,aY,e⟩,deep,bp,aH⟩::(Sm.iH (deep+1) id false aY++Sm.iH (deep+1) id true e)
def Sm.iH (deep bp:Int) (aH:Bool):List Sm→List It
 | []=> []
 |s::l=>s.pj deep bp aH++Sm.iH deep bp aH l
end
theorem YM (deep bp:Int) (aH:Bool) (s:Sm):s.pj deep bp aH = ⟨s,deep,bp,aH⟩::(Sm.iH (deep+1) s.id false s.aY++Sm.iH (deep+1) s.id true s.aH):=by cases s;simp only[Sm.pj]
mutual
theorem YN (deep bp:Int) (aH:Bool) (out:List It) : ∀ s:Sm,(ix deep bp aH out s).length≤200→(∀ i∈ix deep bp aH out s,i.deep≤12)→ix deep bp aH out s=out++s.pj deep bp aH
 | ⟨id,kind,labels,name,proc,x,has,args,aY,e⟩,h1,h2=>by
  simp only[ix,Sm.pj]at h1 h2 ⊢
  by_cases hd:deep≤12
  ·simp only [hd,decide_true,if_true]at h1 h2 ⊢
   obtain⟨e2,g2⟩:=sc (deep+1) id true (dT (deep+1) id false (out++ [⟨⟨id,kind,labels,name,proc,x,has,args,aY,e⟩,deep,bp,aH⟩]) aY) e
   have k1:(dT (deep+1) id false (out++ [⟨⟨id,kind,labels,name,proc,x,has,args,aY,e⟩,deep,bp,aH⟩]) aY).length≤200:=by
    rw[g2,zal]at h1;omega
   have k2 : ∀ i∈dT (deep+1) id false (out++ [⟨⟨id,kind,labels,name,proc,x,has,args,aY,e⟩,deep,bp,aH⟩]) aY,i.deep≤12:=fun i m=>h2 i (by rw[g2];exact zaK _ m)
   rw[Af (deep+1) id true _ e h1 h2,Af (deep+1) id false _ aY k1 k2]
   simp
  ·simp only [hd,decide_false,zab,if_false]at h1 h2
   exact absurd (h2 _ (za7 _ (zaJ.2 rfl))) (by simpa using hd)
theorem Af (deep bp:Int) (aH:Bool) (out:List It) : ∀ l:List Sm,(dT deep bp aH out l).length≤200→(∀ i∈dT deep bp aH out l,i.deep≤12)→dT deep bp aH out l=out++Sm.iH deep bp aH l
 | [],h1,h2=>by simp[dT,Sm.iH]
 | s::l,h1,h2=>by
  simp only[dT,Sm.iH]at h1 h2 ⊢
  by_cases hc:(out.length:Int)≤200
  ·simp only [hc,decide_true,if_true]at h1 h2 ⊢
   obtain⟨e2,g2⟩:=sc deep bp aH (ix deep bp aH out s) l
   have k1:(ix deep bp aH out s).length≤200:=by rw[g2,zal]at h1;omega
   have k2 : ∀ i∈ix deep bp aH out s,i.deep≤12:=fun i m=>h2 i (by rw[g2];exact zaK _ m)
   rw[Af deep bp aH _ l h1 h2,YN deep bp aH out s k1 k2]
   simp
  ·simp only [hc,decide_false,zab,if_false]at h1
   omega
end
theorem P4 : ∀ (l:List Pc) (out:List It),(allM out l).length≤200→(∀ i∈allM out l,i.deep≤12)→(∀ f∈l,f.flat=Sm.iH 1 0 false f.body)∧allM out l=out++(l.map fun f=>Sm.iH 1 0 false f.body).flatten
 | [],out,h1,h2=>⟨fun f m=>(by cases m),by simp[allM]⟩
 | f::l,out,h1,h2=>by
  simp only[allM]at h1 h2 ⊢
  by_cases hc:(((out++f.flat).length:Nat):Int) > 200
  ·simp only[hc,decide_true,if_true]at h1;omega
  ·simp only [hc,decide_false,zab,if_false]at h1 h2 ⊢
   obtain⟨k1,k2⟩:=P4 l (out++f.flat) h1 h2
   have k3:f.flat=Sm.iH 1 0 false f.body:=by
    have:=Af 1 0 false [] f.body (by
     have:f.flat.length≤200:=by simp only[zal]at hc;omega
     exact this) (fun i m=>h2 i (by rw[k2];exact zaK _ (za7 _ m)))
    simpa[Pc.flat]using this
   refine⟨fun g m=>?_, ?_⟩
   ·rcases zaq.1 m with rfl | m
    ·exact k3
    ·exact k1 g m
   ·rw[k2,k3];simp
theorem FK {p:Pg} (h:p.may=true):(∀ f∈p.procs,f.flat=Sm.iH 1 0 false f.body)∧p.all=(p.procs.map fun f=>Sm.iH 1 0 false f.body).flatten:=by
 obtain⟨h1,h2⟩:=vJ h
 have:=P4 p.procs [] h1 (Aa _ 0 h2).1
 simpa[Pg.all]using this
mutual
theorem NK (deep bp:Int) (aH:Bool) : ∀ s:Sm,(s.pj deep bp aH).map It.s=s.pre
 |⟨id,kind,labels,name,proc,x,has,args,aY,e⟩=>by
  simp only[Sm.pj,Sm.pre,zaf,zag,tt _ _ _ aY,tt _ _ _ e]
theorem tt (deep bp:Int) (aH:Bool) : ∀ l:List Sm,(Sm.iH deep bp aH l).map It.s=Sm.cU l
 | []=>rfl
 |s::l=>by simp only[Sm.iH,Sm.cU,zag,NK _ _ _ s,tt _ _ _ l]
end
def eR (l:List Sm) (none:Int):Int:=match l with| []=>none|t::_=>t.id
mutual
def Sm.uw (proc up next loop:Int):Sm→List Im
 |⟨id,kind,labels,name,pc,x,has,args,aY,aH⟩=>⟨⟨id,kind,labels,name,pc,x,has,args,aY,aH⟩,proc,up,next,loop⟩::
  (Sm.iV proc id (if kind==6 then id else next) (if kind==6 then id else loop) aY++Sm.iV proc id (if kind==6 then id else next) (if kind==6 then id else loop) aH)
def Sm.iV (proc up next loop:Int):List Sm→List Im
 | []=> []
 |s::l=>s.uw proc up (eR l next) loop++Sm.iV proc up next loop l
end
def jP (n:Nat) (l:List Sm):Prop:=∀ (i:Nat) (v:Sm),l[i]? = some v→v.id=((n+i+1:Nat):Int)
theorem jP.head {n:Nat} {v:Sm} {l:List Sm} (h:jP n (v::l)):v.id=((n+1:Nat):Int):=h 0 v rfl
theorem jP.tail {n:Nat} {v:Sm} {l:List Sm} (h:jP n (v::l)):jP (n+1) l:=fun i w hw=>by
 rw[h (i+1) w (by simpa using hw)];congr 1;omega
theorem jP.left {n:Nat} {a b:List Sm} (h:jP n (a++b)):jP n a:=fun i w hw=>h i w (by rw[zai (zac.1 hw).1];exact hw)
theorem jP.right {n:Nat} {a b:List Sm} (h:jP n (a++b)):jP (n+a.length) b:=fun i w hw=>by
 rw[h (a.length+i) w (by rw[zao (by omega)];simpa using hw)];congr 1;omega
theorem acm (s:Sm):s.pre=s::(Sm.cU s.aY++Sm.cU s.aH):=Sm.mO s
mutual
theorem SD : ∀ s:Sm,s.k8=s.pre.length
 |⟨id,kind,labels,name,proc,x,has,args,aY,aH⟩=>by
  simp only[Sm.k8,Sm.pre,zas,zal,C3 aY,C3 aH];omega
theorem C3 : ∀ l:List Sm,Sm.kB l=(Sm.cU l).length
 | []=>rfl
 |s::l=>by simp only[Sm.kB,Sm.cU,zal,SD s,C3 l]
end
mutual
theorem aet (proc up next loop:Int) : ∀ s:Sm,(s.uw proc up next loop).map Im.s=s.pre
 |⟨id,kind,labels,name,pc,x,has,args,aY,aH⟩=>by
  simp only[Sm.uw,Sm.pre,zaf,zag,u6 _ _ _ _ aY,u6 _ _ _ _ aH]
theorem u6 (proc up next loop:Int) : ∀ l:List Sm,(Sm.iV proc up next loop l).map Im.s=Sm.cU l
 | []=>rfl
 |s::l=>by simp only[Sm.iV,Sm.cU,zag,aet _ _ _ _ s,u6 _ _ _ _ l]
end
theorem SE (proc up next loop:Int) (s:Sm):(s.uw proc up next loop).length=s.pre.length:=by rw[← aet proc up next loop s,zau]
theorem vO (proc up next loop:Int) (l:List Sm):(Sm.iV proc up next loop l).length=(Sm.cU l).length:=by rw[← u6 proc up next loop l,zau]
mutual
theorem ags (proc up next loop:Int) (out:List Im) : ∀ s:Sm,jP out.length s.pre→Im.one proc up next loop out s=out++s.uw proc up next loop
 | ⟨id,kind,labels,name,pc,x,has,args,aY,aH⟩,h=>by
  simp only[Sm.pre]at h
  have h0:id=((out.length+1:Nat):Int):=h.head
  have h1:=h.tail.left
  have h2:=h.tail.right
  have e0:((out.length:Int)+1)=id:=by rw[h0];rfl
  simp only[Im.one,Sm.uw,e0]
  rw[yT proc id _ _ (out++ [_]) aY (by rw[zal];exact h1)]
  rw[yT proc id _ _ _ aH (by
   rw[zal,zal,vO];exact h2)]
  simp
theorem yT (proc up next loop:Int) (out:List Im) : ∀ l:List Sm,jP out.length (Sm.cU l)→Im.rows proc up next loop out l=out++Sm.iV proc up next loop l
 | [],h=>by simp[Im.rows,Sm.iV]
 | s::l,h=>by
  simp only[Sm.cU]at h
  have e:(if l.length=0 then next else(out.length:Int)+1+(s.k8:Int))=eR l next:=by
   cases l with
   |nil=>rfl
   |cons t l=>
    have h2:=h.right
    simp only[Sm.cU]at h2
    rw[acm t]at h2
    simp only[zas,eR]
    rw[if_neg (by omega),h2.head,SD]
    omega
  simp only[Im.rows,Sm.iV,e]
  rw[ags proc up _ loop out s h.left,yT proc up next loop _ l (by rw[zal,SE];exact h.right)]
  simp
end
def sY (n:Nat):List Pc→List Im
 | []=> []
 |f::l=>Sm.iV n 0 (-1) 0 f.body++sY (n+1) l
theorem YO : ∀ (l:List Pc) (n:Nat) (h:Sh),jP h.L.length ((l.map fun f=>Sm.cU f.body).flatten)→(Sh.go n h l).L=h.L++sY n l
 | [],n,h,_=>by simp[Sh.go,sY]
 | f::l,n,h,hi=>by
  simp only[zaf,zbi]at hi
  simp only[Sh.go,sY]
  have e:=yT (n:Int) 0 (-1) 0 h.L f.body hi.left
  rw[YO l (n+1) _ (by
   show jP (Im.rows (n:Int) 0 (-1) 0 h.L f.body).length _
   rw[e,zal,vO];exact hi.right)]
  show Im.rows (n:Int) 0 (-1) 0 h.L f.body++_=_
  rw[e];simp
theorem FM {p:Pg} (h:p.may=true):jP 0 p.pre:=fun i v hv=>by rw[EO h hv];congr 1;omega
theorem E1 {p:Pg} (h:p.may=true):p.aU.L=sY 0 p.procs:=by
 have:=YO p.procs 0 ⟨[],[],[]⟩ (FM h)
 simpa[Pg.aU]using this
def u7 (l:List It):Nat→Int→Int
 | 0,_=>0
 |n+1,bp=>if bp==0 then 0 else match l[n]? with
  |none=>0
  |some x=>if x.s.id != bp then u7 l n bp else if x.s.kind==6 then bp else u7 l n x.bp
theorem P5 (l:List It) : ∀ n,u7 l n 0=0
 | 0=>rfl
 |n+1=>rfl
theorem P6 {l : List It} {bp : Int} : ∀ {n m : Nat}, m ≤ n → n ≤ l.length → (∀ (j : Nat) (x : It), m ≤ j → j < n → l[j]? = some x → x.s.id ≠ bp) → u7 l n bp = u7 l m bp
 | 0, m, h, _, _ => by have : m = 0 := by omega
                       rw[this]
 | n + 1, m, h, hl, hx => by
   rcases zaE m (n + 1) with h1|h1
   · obtain ⟨x, e⟩ : ∃ x, l[n]? = some x := ⟨_, zah (by omega)⟩
     by_cases hz : bp = 0
     · rw[hz, P5, P5]
     · simp only [u7, e]
       rw[if_neg (by simpa using hz), if_pos (by simpa using hx n x (by omega) (by omega) e)]
       exact P6 (by omega) (by omega) fun j x h1 h2 => hx j x h1 (by omega)
   · have : m = n + 1 := by omega
     rw[this]
def Up (L:List It) (k:Nat) (pj:List It) (uw:List Im):Prop:=∀ (i:Nat) (a:It) (b:Im),pj[i]? = some a→uw[i]? = some b→a.s=b.s∧a.bp=b.up∧u7 L (k+i) a.bp=b.loop
mutual
theorem ajH {L:List It} {A C:List It} {n:Nat} {proc up next loop deep:Int} {aH:Bool} : ∀ s:Sm,L=A++(s.pj deep up aH++C)→jP n (L.map It.s)→u7 L A.length up=loop→Up L A.length (s.pj deep up aH) (s.uw proc up next loop)
 | ⟨id,kind,labels,name,pc,x,has,args,aY,e⟩,hL,mR,hu=>by
  intro i a b ha hb
  have nV:L[A.length]? = some ⟨⟨id,kind,labels,name,pc,x,has,args,aY,e⟩,deep,up,aH⟩:=by
   rw[hL,zao (zak _)];simp[Sm.pj]
  have hn:id=((n+A.length+1:Nat):Int):=mR A.length ⟨id,kind,labels,name,pc,x,has,args,aY,e⟩ (by rw[zap,nV];rfl)
  have KW : ∀ (j:Nat) (y:It),L[j]? = some y→y.s.id=((n+j+1:Nat):Int):=fun j y hj=>mR j y.s (by rw[zap,hj];rfl)
  have hu2:u7 L (A.length+1) id=if kind==6 then id else loop:=by
   simp only[u7,nV]
   rw[if_neg (by simp only[beq_iff_eq];omega),if_neg (by simp)]
   split
   ·rfl
   ·exact hu
  simp only[Sm.pj]at ha hL
  simp only[Sm.uw]at hb
  have x7:(Sm.iH (deep+1) id false aY).length=(Sm.iV proc id (if kind==6 then id else next) (if kind==6 then id else loop) aY).length:=by
   rw[vO, ← tt (deep+1) id false aY,zau]
  cases i with
  |zero=>
   simp only[zbh,Option.some.injEq]at ha hb
   subst ha hb
   exact⟨rfl,rfl,hu⟩
  | succ i=>
   simp only[za5]at ha hb
   rcases zaE i (Sm.iH (deep+1) id false aY).length with h1|h1
   ·rw [zai h1]at ha
    rw[zai (by rw[← x7];exact h1)]at hb
    have:=FN (L:=L) (A:=A++ [⟨⟨id,kind,labels,name,pc,x,has,args,aY,e⟩,deep,up,aH⟩]) (C:=Sm.iH (deep+1) id true e++C) (n:=n) (proc:=proc) (up:=id) (next:=if kind==6 then id else next) (loop:=if kind==6 then id else loop) (deep:=deep+1) (aH:=false) (m:=A.length+1) aY
     (by rw[hL];simp) mR hu2 (by simp) (fun j y h2 h3=>by rw[KW j y h3,hn];omega) i a b ha hb
    simpa[Nat.add_assoc,Nat.add_comm 1 i]using this
   ·rw [zao h1]at ha
    rw[zao (by rw[← x7];exact h1)]at hb
    have:=FN (L:=L) (A:=A++⟨⟨id,kind,labels,name,pc,x,has,args,aY,e⟩,deep,up,aH⟩::Sm.iH (deep+1) id false aY) (C:=C) (n:=n) (proc:=proc) (up:=id) (next:=if kind==6 then id else next) (loop:=if kind==6 then id else loop) (deep:=deep+1) (aH:=true) (m:=A.length+1) e
     (by rw[hL];simp) mR hu2 (by simp) (fun j y h2 h3=>by rw[KW j y h3,hn];omega) (i - (Sm.iH (deep+1) id false aY).length) a b ha (by rw[x7];exact hb)
    refine⟨this.1,this.2.1, ?_⟩
    have h3:=this.2.2
    rw[← h3]
    congr 1
    simp only[zal,zas]
    omega
theorem FN {L:List It} {A C:List It} {n m:Nat} {proc up next loop deep:Int} {aH:Bool} : ∀ l:List Sm,L=A++(Sm.iH deep up aH l++C)→jP n (L.map It.s)→u7 L m up=loop→m≤A.length→(∀ (j:Nat) (y:It),m≤j→L[j]? = some y→y.s.id≠up)→Up L A.length (Sm.iH deep up aH l) (Sm.iV proc up next loop l)
 | [],hL,mR,hu,hm,dj=>fun i a b ha hb=>by simp[Sm.iH]at ha
 | s::l,hL,mR,hu,hm,dj=>by
  intro i a b ha hb
  simp only[Sm.iH]at ha hL
  simp only[Sm.iV]at hb
  have hAL:A.length≤L.length:=by rw[hL];simp
  have hu1:u7 L A.length up=loop:=by rw[P6 hm hAL fun j y h1 h2=>dj j y h1];exact hu
  have x7:(s.pj deep up aH).length=(s.uw proc up (eR l next) loop).length:=by rw[SE, ← NK deep up aH s,zau]
  rcases zaE i (s.pj deep up aH).length with h1|h1
  ·rw [zai h1]at ha
   rw[zai (by rw[← x7];exact h1)]at hb
   exact ajH (C:=Sm.iH deep up aH l++C) (n:=n) s (by rw[hL];simp) mR hu1 i a b ha hb
  ·rw [zao h1]at ha
   rw[zao (by rw[← x7];exact h1)]at hb
   have:=FN (A:=A++s.pj deep up aH) (C:=C) (n:=n) (m:=m) (proc:=proc) (next:=next) (loop:=loop) l (by rw[hL];simp) mR hu (by simp;omega) dj (i - (s.pj deep up aH).length) a b ha (by rw[x7];exact hb)
   refine⟨this.1,this.2.1, ?_⟩
   have h3:=this.2.2
   rw[← h3]
   congr 1
   simp only[zal]
   omega
end
def jU (seen:List aD):List aD→List aD×Bool
 | []=>(seen,true)
 |n::l=>if dZ seen n then(seen,false)else jU (seen++ [n]) l
theorem Ag : ∀ (l seen:List aD),jU seen l=(if qU seen l then((jU seen l).1,false)else(seen++l,true))
 | [],seen=>by simp[jU,qU]
 | n::l,seen=>by
  simp only[jU,qU]
  split
  ·rfl
  ·rw [Ag l (seen++ [n])]
   split
   ·rfl
   ·simp
theorem KX : ∀ (a b seen:List aD),qU seen (a++b)=(qU seen a ||qU (seen++a) b)
 | [],b,seen=>by simp[qU]
 |x::a,b,seen=>by
  simp only[zaV,qU]
  split
  ·rfl
  ·rw[KX a b (seen++ [x])];simp
theorem GM {seen l:List aD} (h:eI seen=false):jU seen l=(if eI (seen++l)then((jU seen l).1,false)else(seen++l,true)):=by
 rw[Ag]
 have:eI (seen++l)=qU seen l:=by unfold eI at h ⊢;rw[KX,h];simp
 rw[this]
 split<;>rfl
theorem Mu : ∀ (l seen:List aD),seen.length≤(jU seen l).1.length∧(jU seen l).1.length≤seen.length+l.length
 | [],seen=>by simp[jU]
 |n::l,seen=>by
  simp only[jU]
  split
  ·simp
  ·have:=Mu l (seen++ [n]);simp at this ⊢;omega
def pE (Bb:List aD) (v:Sm) (loop:Int):Bool:=if v.kind==7 ||v.kind==8 then loop != 0 else if v.kind==10 then dZ Bb v.name else true
def qD (Bb fin seen:List aD):List (Sm×Int)→Option Int
 | []=>if(jU seen fin).2 then none else some 0
 |(v,lp)::l=>if(jU seen v.labels).2 then(if pE Bb v lp then qD Bb fin (jU seen v.labels).1 l else some v.id)else some v.id
def fG:List Sm→List aD
 | []=> []
 |v::l=>v.labels++fG l
def Pc.labels (f:Pc):List aD:=fG (Sm.cU f.body)++f.fin
def Im.pair (m:Im):Sm×Int:=(m.s,m.loop)
def Pc.pF (f:Pc):List (Sm×Int):=(Sm.iV 0 0 (-1) 0 f.body).map Im.pair
def oK:List Pc→Option Int
 | []=>none
 |f::l=>match qD f.labels f.fin [] f.pF with
  |some id=>some id
  |none=>oK l
def nQ (c:Int):Option Int→Int×Int
 |some id=>(c,id)
 |none=>(0,0)
def Pg.jump (p:Pg):Int×Int:=if p.scope.1==0 then nQ 7 (oK p.procs)else(1,0)
mutual
theorem acn (proc up next sF YP next' loop:Int) : ∀ s:Sm,(s.uw proc up next loop).map Im.pair=(s.uw sF YP next' loop).map Im.pair
 |⟨id,kind,labels,name,pc,x,has,args,aY,aH⟩=>by
  simp only[Sm.uw,zaf,zag,Im.pair]
  rw[Ah proc id _ sF id (if kind==6 then id else next') _ aY,Ah proc id _ sF id (if kind==6 then id else next') _ aH]
theorem Ah (proc up next sF YP next' loop:Int) : ∀ l:List Sm,(Sm.iV proc up next loop l).map Im.pair=(Sm.iV sF YP next' loop l).map Im.pair
 | []=>rfl
 |s::l=>by
  simp only[Sm.iV,zag]
  rw[acn proc up _ sF YP (eR l next') loop s,Ah proc up next sF YP next' loop l]
end
theorem HM (n:Int) (f:Pc):(Sm.iV n 0 (-1) 0 f.body).map Im.pair=f.pF:=Ah _ _ _ _ _ _ _ _
theorem agt (f:Pc):f.pF.map Prod.fst=Sm.cU f.body:=by
 unfold Pc.pF
 rw[List.map_map, ← u6 0 0 (-1) 0 f.body]
 rfl
def gR (l:List It):Nat→Int→Int
 | 0,_=>0
 |n+1,id=>match l[n]? with
  |none=>0
  |some x=>if x.s.id != id then gR l n id else if u7 l n x.bp != 0 then u7 l n x.bp else gR l n id
theorem Jp {l:List It} {id:Int} : ∀ {n:Nat},(∀ (j:Nat) (x:It),j<n→l[j]? = some x→x.s.id≠id)→gR l n id=0
 | 0,_=>rfl
 | n+1,h=>by
  simp only[gR]
  split
  ·rfl
  ·rename_i x e
   rw[if_pos (by simpa using h n x (by omega) e)]
   exact Jp fun j x hj=>h j x (by omega)
theorem Jq {l:List It} {b i:Nat} {x:It} (mR:jP b (l.map It.s)) (hx:l[i]? = some x) : ∀ {n:Nat},i<n→n≤l.length→gR l n x.s.id=u7 l i x.bp
 | 0,h,_=>by omega
 | n+1,h,hn=>by
  have KW : ∀ (j:Nat) (y:It),l[j]? = some y→y.s.id=((b+j+1:Nat):Int):=fun j y hj=>mR j y.s (by rw[zap,hj];rfl)
  obtain⟨y,e⟩ : ∃ y,l[n]? = some y:=⟨_,zah (by omega)⟩
  have h1:=KW n y e
  have h2:=KW i x hx
  simp only[gR,e]
  rcases zaE i n with h3|h3
  ·rw [if_pos (by simp only [bne_iff_ne,ne_eq];omega)]
   exact Jq mR hx h3 (by omega)
  ·have:i=n:=by omega
   subst this
   rw[hx]at e
   cases e
   rw[if_neg (by simp)]
   split
   ·rfl
   ·rename_i h4
    rw[Jp fun j z hj hz=>by rw[KW j z hz,h2];omega]
    simpa using Eq.symm (by simpa using h4)
theorem GN {p:Pg} (hb:p.may=true) {f:Pc} (hf:f∈p.procs):f.flat.length=f.pF.length∧∀ (i:Nat) (a:It),f.flat[i]? = some a→f.pF[i]? = some (a.s,gR f.flat f.flat.length a.s.id):=by
 have fM:=(FK hb).1 f hf
 obtain⟨base,sA⟩ : ∃ n,jP n (Sm.cU f.body):=by
  have h:=FM hb
  obtain⟨a,c,e⟩:=List.append_of_mem hf
  unfold Pg.pre at h
  rw[e,zag,List.flatten_append,zaf,zbi]at h
  exact⟨_,h.right.left⟩
 have mR:jP base (f.flat.map It.s):=by rw[fM,tt];exact sA
 have hup:=FN (L:=f.flat) (A:= []) (C:= []) (n:=base) (m:=0) (proc:=0) (up:=0) (next:= -1) (loop:=0) (deep:=1) (aH:=false) f.body (by rw[fM];simp) mR rfl (zaA _) (fun j y _ hj=>by
  rw[mR j y.s (by rw[zap,hj];rfl)];omega)
 have hlen:f.flat.length=f.pF.length:=by
  unfold Pc.pF
  rw[zau,vO,fM, ← tt 1 0 false f.body,zau]
 refine⟨hlen,fun i a ha=>?_⟩
 have hi:=(zac.1 ha).1
 have ke:(Sm.iV 0 0 (-1) 0 f.body).length=f.pF.length:=by unfold Pc.pF;rw[zau]
 obtain⟨m,hm⟩ : ∃ m,(Sm.iV 0 0 (-1) 0 f.body)[i]? = some m:=⟨_,zah (by omega)⟩
 obtain⟨e1,e2,e3⟩:=hup i a m (by rw[← fM];exact ha) hm
 rw[Jq mR ha hi (zak _)]
 unfold Pc.pF
 rw[zap,hm]
 simp only[zaC,zaS]at e3
 show some (m.s,m.loop)=_
 rw[e1,e3]
theorem SF : ∀ (l:List Pc) (n:Nat) (h:Sh),h.lo.length=n→h.hi.length=n→jP h.L.length ((l.map fun f=>Sm.cU f.body).flatten)→
 ∃ lo hi,Sh.go n h l = ⟨h.L++sY n l,h.lo++lo,h.hi++hi⟩∧lo.length=l.length∧hi.length=l.length∧
  ∀ (i:Nat) (f:Pc),l[i]? = some f→∃ a e:List Im,lo[i]? = some (((h.L++a).length:Int)+1)∧hi[i]? = some (((h.L++a++Sm.iV ((n+i:Nat):Int) 0 (-1) 0 f.body).length:Int)+1)∧sY n l=a++Sm.iV ((n+i:Nat):Int) 0 (-1) 0 f.body++e
 | [],n,h,hl,hh,_=>⟨[],[],by simp[Sh.go,sY],rfl,rfl,fun i f h=>by simp at h⟩
 | f::l,n,h,hl,hh,hi=>by
  simp only[zaf,zbi]at hi
  simp only[Sh.go,sY]
  have e1:=yT (n:Int) 0 (-1) 0 h.L f.body hi.left
  obtain⟨lo,jL,h2,h3,h4,h5⟩:=SF l (n+1) ⟨Im.rows (n:Int) 0 (-1) 0 h.L f.body,h.lo++ [(h.L.length:Int)+1],h.hi++ [((Im.rows (n:Int) 0 (-1) 0 h.L f.body).length:Int)+1]⟩ (by simp[hl]) (by simp[hh]) (by
   show jP (Im.rows (n:Int) 0 (-1) 0 h.L f.body).length _
   rw[e1,zal,vO];exact hi.right)
  refine⟨((h.L.length:Int)+1)::lo,(((Im.rows (n:Int) 0 (-1) 0 h.L f.body).length:Int)+1)::jL, ?_,by simp[h3],by simp[h4],fun i g jL=>?_⟩
  ·rw[h2,e1];simp
  ·cases i with
   |zero=>
    simp only[zbh,Option.some.injEq]at jL
    subst jL
    exact⟨[],sY (n+1) l,by simp,by rw[e1];simp,by simp⟩
   |succ i=>
    simp only[za5]at jL
    obtain⟨a,e,g1,g2,g3⟩:=h5 i g jL
    have en:n+1+i=n+(i+1):=by omega
    rw[en]at g2 g3
    refine⟨Sm.iV n 0 (-1) 0 f.body++a,e, ?_, ?_,by rw[g3];simp⟩
    ·rw[za5,g1,e1];simp
    ·rw[za5,g2,e1];simp
theorem ajI {p:Pg} (hb:p.may=true) {i:Nat} {f:Pc} (hf:p.procs[i]? = some f) (hs:Pc.bB p.procs<1000000000) (s:St) :
 ay Tryz.prog 93 [.dW (gn p) 0, .int .i64 (i:Int)] s (.slice .shared 17 ((Sm.iV (i:Int) 0 (-1) 0 f.body).map dU)) s:=by
 obtain⟨lo,hi,h1,h2,h3,h4⟩:=SF p.procs 0 ⟨[],[],[]⟩ rfl rfl (FM hb)
 obtain⟨a,e,g1,g2,g3⟩:=h4 i f hf
 simp only[zaS,za1]at g1 g2 g3 h1
 refine ajc hs (a:=a) (e:=e) ?_ ?_ ?_ s
 ·show(Sh.go 0 ⟨[],[],[]⟩ p.procs).lo[i]? = _
  rw[h1];exact g1
 ·show(Sh.go 0 ⟨[],[],[]⟩ p.procs).hi[i]? = _
  rw[h1];exact g2
 ·show(Sh.go 0 ⟨[],[],[]⟩ p.procs).L=_
  rw[h1];exact g3
theorem ay.aqM {P:Program} {f:FuncId} {pre post:List D} {rows rf:List (List D)} {z z' k k':Nat} {b:Bool} (h:ay P f (pre++ .slice (.tok 0) z rows::post) ⟨[],[some k]⟩ (.tuple [.slice (.tok 0) z' rf, .bool b]) ⟨[],[some k']⟩)
 (hp:D.bJ 0 0 pre=true) (ha:D.bJ 0 0 post=true) (hw:D.jB 0 0 rows=true) (hw':D.jB 0 0 rf=true)
 {s:St} {t:Nat} (ht:s.au[t]? = some (some k)):ay P f (pre++ .slice (.tok t) z rows::post) s (.tuple [.slice (.tok t) z' rf, .bool b]) ⟨s.ag,s.au.set t (some k')⟩:=by
 refine bk.frame [] [t] h (by simp) (by simp) (by simp) (by simpa using (zac.1 ht).1) rfl (fun i o' ds e1 e2=>by simp at e1) rfl (fun i t' e1=>?_)
  ?_ ?_ ?_
 ·cases i with
  |zero=>simp at e1;subst e1;simp[ht]
  |succ i=>simp at e1
 ·have h1:=fN [] [t] _ hp
  have h2:=fN [] [t] _ ha
  rw[iw]at h1 h2
  simp[iw,D.di,Tag.di,h1,h2,kH _ _ _ hw]
 ·have h1:=jW (n':=0) (m':=1) (zak 0) (zaA 1) _ hp
  have h2:=jW (n':=0) (m':=1) (zak 0) (zaA 1) _ ha
  rw[By]at h1 h2 ⊢
  simp only[zaC,zas,List.all_append,h1,zbf,List.all_cons,h2,zbz,D.ok,Tag.ok,oU (zaA 0) (zaA 1) _ hw]
  rfl
 ·rintro _ _ ⟨rfl,rfl⟩
  refine⟨by simp[D.back,D.di,D.eJ,Tag.di,lj,kH _ _ _ hw'], ?_⟩
  simp[St.back,l6]
theorem ajJ {seen l:List aD} (hl:seen.length+l.length<1000000000):ay Tryz.prog 104 [.slice (.tok 0) 1 (seen.map encStr), .slice .shared 1 (l.map encStr)] ⟨[],[some seen.length]⟩
 (.tuple [.slice (.tok 0) 1 ((jU seen l).1.map encStr), .bool (jU seen l).2]) ⟨[],[some (jU seen l).1.length]⟩:=by
 generalize hR:jU seen l=R
 refine ay.go M7.h rfl fun B Q hB hQ=>?_
 have⟨hD,hZ,gC,gD⟩:=bc
 refine bT trivial ?_
 refine dg 0 1 (aJ.ind (ι:=List aD×Nat×List aD×Nat) (fun i=>l.drop i.2.1=i.1∧jU i.2.2.1 i.1=R∧i.2.2.2=i.2.2.1.length∧i.2.2.1.length+i.1.length<1000000000) (fun i=>i.1.length)
  (fun i=> [(0, .slice (.tok 0) 1 (i.2.2.1.map encStr)),(8, .slice .shared 1 (l.map encStr)),(9, .int .i64 (l.length:Int)),(10, .int .i64 (i.2.1:Int))]) (fun i=>⟨[],[some i.2.2.2]⟩) ?_ (l,0,seen,seen.length) ⟨rfl,hR,rfl,hl⟩)
 clear hR
 rintro⟨rest,k,out,n⟩ ⟨h1,h2,h3,h4⟩ IH
 dsimp only at h1 h2 h3 h4
 subst h3
 cases rest with
 |nil=>
  have hD:=drop_nil h1
  simp only[jU]at h2
  subst h2
  exact dR trivial
 | cons x rest=>
  obtain⟨hZ,g2,hD,g4⟩:=drop_cons h1
  have aV:k<4611686018427387904:=by omega
  simp only[zas]at h4
  have gC:(out.length+1)*17≤aT:=by unfold aT;omega
  have jE:=fun g s=>la (l:=out) (by omega) x g s
  simp only[jU]at h2
  rcases zaa (dZ out x)with c1|c1
  ·simp only [c1,if_true]at h2
   subst h2
   exact jn c1 jE
  ·simp only [c1,zab,if_false]at h2
   repeat' (first
 |simp only[go_sem,hD,hZ,gC,gD,c1]
 |(with_reducible refine CU (jE _ _) ?_)
 | (with_reducible refine aX hQ ?_;exact bK))
   refine cr 0 1 ?_ ?_ (IH (rest,k+1,out++ [x],out.length+1) ⟨g2,h2,by simp,by simp;omega⟩ (zae _))
   ·(simp only[go_sem,hD,hZ,gC,gD,ak aV,zag,zaf,zaj,encStr];try exact aQ)
   ·(simp only[go_sem,hD,hZ,gC,gD,ak aV,zag,zaf,zaj,encStr];try exact aQ)
theorem YQ {seen l:List aD} (hl:seen.length+l.length<1000000000) {s:St} {t:Nat} (ht:s.au[t]? = some (some seen.length)):ay Tryz.prog 104 [.slice (.tok t) 1 (seen.map encStr), .slice .shared 1 (l.map encStr)] s
 (.tuple [.slice (.tok t) 1 ((jU seen l).1.map encStr), .bool (jU seen l).2]) ⟨s.ag,s.au.set t (some (jU seen l).1.length)⟩:=
 (ajJ hl).aqM (pre:= []) (post:= [_]) rfl (by simp[D.bJ,D.ok,Tag.ok,dv]) (dv _) (dv _) ht
theorem aco (x:Im):(dU x)[2]? = some (.slice .shared 1 (x.s.labels.map encStr)):=nd rfl
theorem YR (x:Im):(dU x)[3]? = some (.str x.s.name):=nd rfl
attribute [go_sem] aco YR
def jH (fin:List aD) (label:aD):List Sm→Int×Bool
 | []=>if dZ fin label then(-1,true)else(0,false)
 |v::l=>if dZ v.labels label then(v.id,true)else jH fin label l
theorem E2 (fin:List aD) (label:aD) : ∀ l:List Sm,(jH fin label l).2=dZ (fG l++fin) label
 | []=>by simp only[jH,fG,za1];split<;>simp_all
 | v::l=>by
  simp only[jH,fG,zaB]
  have h:=E2 fin label l
  rw[Bool.eq_iff_iff,il]at h
  split
  ·rename_i c
   exact((il _ _).2 (zar.2 (.inl ((il _ _).1 c)))).symm
  ·rename_i c
   have:label∉v.labels:=fun m=>c ((il _ _).2 m)
   rw[Bool.eq_iff_iff,h,il]
   exact⟨fun m=>zar.2 (.inr m),fun m=>(zar.1 m).resolve_left this⟩
theorem P7 {p:Pg} {v:Sm} (ho:p.gb) {f:Pc} (hf:f∈p.procs) (hv:v∈Sm.cU f.body):v.labels.length≤900000:=by
 have key : ∀ n:Nat,(∀ s:Sm,s.pre.length≤n→∀ v∈s.pre,v.labels.length≤s.size)∧(∀ l:List Sm,(Sm.cU l).length≤n→∀ v∈Sm.cU l,v.labels.length≤Sm.bB l):=by
  intro n
  induction n with
  |zero=>
   refine⟨fun s h=>by rw[Sm.mO]at h;simp at h,fun l h v m=>?_⟩
   have:=za2 (Nat.le_zero.1 h)
   rw[this]at m;cases m
  | succ n ih=>
   have h1 : ∀ s:Sm,s.pre.length≤n+1→∀ v∈s.pre,v.labels.length≤s.size:=by
    intro s h v m
    rw[Sm.mO]at h m
    simp only[zas,zal]at h
    obtain⟨id,kind,labels,name,proc,x,has,args,aY,aH⟩:=s
    simp only[Sm.size]
    rcases zaq.1 m with rfl|m
    ·dsimp only;omega
    ·rcases zar.1 m with m | m
     ·have:=ih.2 aY (by dsimp only at h;omega) v m;omega
     ·have:=ih.2 aH (by dsimp only at h;omega) v m;omega
   refine⟨h1,fun l=>?_⟩
   induction l with
   |nil=>intro _ v m;cases m
   |cons s l YS=>
    intro h v m
    simp only[Sm.cU,zal]at h
    simp only[Sm.cU]at m
    simp only[Sm.bB]
    rcases zar.1 m with m|m
    ·have:=h1 s (by omega) v m;omega
    ·have:=YS (by omega) v m;omega
 have h1:=(key (Sm.cU f.body).length).2 f.body (zak _) v hv
 have h2:=Pc.cb hf
 have h3:=ho.procs.2.1
 simp only[Pc.size]at h2
 omega
theorem E3 {p:Pg} (ho:p.gb) {f:Pc} (hf:f∈p.procs):f.fin.length≤900000:=by
 have h2:=Pc.cb hf
 have h3:=ho.procs.2.1
 simp only[Pc.size]at h2
 omega
theorem Jr {p:Pg} (ho:p.gb) {f:Pc} (hf:f∈p.procs):(Sm.cU f.body).length≤900000:=by
 rw[← C3]
 have:=qm f.body
 have h2:=Pc.cb hf
 have h3:=ho.procs.2.1
 simp only[Pc.size]at h2
 omega
theorem ajK {p:Pg} (ho:p.gb) (hb:p.may=true) {i:Nat} {f:Pc} (hf:p.procs[i]? = some f) (label:aD) (s:St) :
 ay Tryz.prog 65 [.dW (gn p) 0, .int .i64 (i:Int), .str label] s (.tuple [.int .i64 (jH f.fin label (Sm.cU f.body)).1, .bool (jH f.fin label (Sm.cU f.body)).2]) s:=by
 refine ay.pure ?_ (by simp[D.bJ,D.ok,xl]) rfl s
 obtain⟨nX,oE,mB⟩:=ho.procs
 have pW:=zad hf
 have EP:=fun s=>ajI hb hf (by omega) s
 have kN:=u6 (i:Int) 0 (-1) 0 f.body
 have P8:=Jr ho pW
 have q8:=E3 ho pW
 have ti:=fun s=>uV (l:=f.fin) (by omega) label s
 have sL:i<p.procs.length:=(zac.1 hf).1
 generalize hI:Sm.iV (i:Int) 0 (-1) 0 f.body=I at *
 have hIl:I.length≤900000:=by rw[← kN,zau]at P8;exact P8
 obtain⟨R,hR⟩ : ∃ R,jH f.fin label (Sm.cU f.body)=R:=⟨_,rfl⟩
 rw[hR]
 rw[← kN]at hR
 unfold S0
 refine ay.go F7.h rfl fun B Q hB hQ=>?_
 have⟨hD,hZ,gC,gD⟩:=bc
 repeat' (first
 |simp only[go_sem,hD,hZ,gC,gD]
 |(with_reducible refine CU (EP _) ?_)
 |(with_reducible refine aX hQ ?_;exact bK))
 refine dg 0 0 (aJ.ind (ι:=List Im×Nat) (fun j=>I.drop j.2=j.1∧jH f.fin label (j.1.map Im.s)=R) (fun j=>j.1.length)
  (fun j=> [(0, .dW (gn p) 0),(1, .int .i64 (i:Int)),(2, .str label),(12, .slice .shared 17 (I.map dU)),(13, .int .i64 (I.length:Int)),(14, .int .i64 (j.2:Int))]) (fun j=>⟨[],[]⟩) ?_ (I,0) ⟨rfl,hR⟩)
 clear hR
 rintro⟨rest,k⟩ ⟨h1,h2⟩ IH
 dsimp only at h1 h2
 cases rest with
 | nil=>
  have hD:=drop_nil h1
  simp only[zaj,jH]at h2
  rcases zaa (dZ f.fin label)with c1|c1
  ·simp only [c1,if_true]at h2
   subst h2
   exact jn (ly @rX hf c1) ti
  ·simp only [c1,zab,if_false]at h2
   subst h2
   exact jn (ly @rX hf c1) ti
 | cons a rest=>
  obtain⟨hZ,g2,hD,g4⟩:=drop_cons h1
  have aV:k<4611686018427387904:=by omega
  have yR:a.s∈Sm.cU f.body:=by rw[← kN];exact zbb (zad hZ)
  have kP:=fun s=>uV (l:=a.s.labels) (by have:=P7 ho pW yR;omega) label s
  simp only[zaf,jH]at h2
  rcases zaa (dZ a.s.labels label)with c1|c1
  ·simp only [c1,if_true]at h2
   subst h2
   exact jn c1 kP
  ·simp only [c1,zab,if_false]at h2
   repeat' (first
 |simp only[go_sem,hD,hZ,gC,gD,c1]
 |(with_reducible refine CU (kP _) ?_)
 | (with_reducible refine aX hQ ?_;exact bK))
   refine cr 0 0 ?_ ?_ (IH (rest,k+1) ⟨g2,h2⟩ (zae _))
   ·(simp only[go_sem,hD,hZ,gC,gD,ak aV];try exact aQ)
   ·(simp only[go_sem,hD,hZ,gC,gD,ak aV];try exact aQ)
theorem agu {p:Pg} (ho:p.gb) (hb:p.may=true) {i:Nat} {f:Pc} (hf:p.procs[i]? = some f) (m:Im) (hm:m.proc=(i:Int)) (s:St) :
 ay Tryz.prog 105 [.dW (gn p) 0, .agg (dU m)] s (.bool (pE f.labels m.s m.loop)) s:=by
 refine ay.pure ?_ (by simp[D.bJ,D.ok,xl,VH]) rfl s
 have gV:=fun s=>ajK ho hb hf m.s.name s
 have ajL:=E2 f.fin m.s.name (Sm.cU f.body)
 rw[← hm]at gV
 obtain⟨A,hA⟩ : ∃ A,jH f.fin m.s.name (Sm.cU f.body)=A:=⟨_,rfl⟩
 rw[hA]at gV ajL
 obtain⟨R,hR⟩ : ∃ R,pE f.labels m.s m.loop=R:=⟨_,rfl⟩
 rw[hR]
 unfold pE Pc.labels at hR
 unfold S0
 rcases zaa (m.s.kind==7)with c1|c1
 ·simp only [c1,zbk,if_true]at hR
  subst hR
  refine ay.go sB.h rfl fun B Q hB hQ=>?_
  have⟨hD,hZ,gC,gD⟩:=bc
  exact dR c1
 rcases zaa (m.s.kind==8)with c2|c2
 ·simp only [c1,c2,zbI,if_true]at hR
  subst hR
  refine ay.go sB.h rfl fun B Q hB hQ=>?_
  have⟨hD,hZ,gC,gD⟩:=bc
  exact dR (eK c1 c2)
 rcases zaa (m.s.kind==10)with c3|c3
 ·simp only [c1,c2,c3,Bool.or_self,zab,if_false,if_true, ← ajL]at hR
  subst hR
  refine ay.go sB.h rfl fun B Q hB hQ=>?_
  have⟨hD,hZ,gC,gD⟩:=bc
  exact jn (ly c1 c2 c3) gV
 ·simp only [c1,c2,c3,Bool.or_self,zab,if_false]at hR
  subst hR
  refine ay.go sB.h rfl fun B Q hB hQ=>?_
  have⟨hD,hZ,gC,gD⟩:=bc
  exact dR (ly c1 c2 c3)
end Go.Abs
namespace Go.Abs
def np (x:Int):Int:=IntKind.wrap .i64 x
def o7 (b:Bool):Int:=if b then 1 else 0
def C4 (op a:Int):Int×Bool:=if op==3 then(np (0 - a),true)else if op==4 then(o7 (a==0),true)else(0,false)
def HN (op a b:Int):Int×Bool:=
 if b==0 then(0,false)
 else if b == -1 then if op==7 then(0,true)else if a == -9223372036854775808 then(a,true)else(np (0 - a),true)
 else if op==7 then(a.tmod b,true)else(np (a.tdiv b),true)
def C5 (op a b:Int):Int×Bool:=
 if op==10 then(o7 (decide (a<b)),true)else if op==11 then(o7 (decide (a≤b)),true)else if op==12 then(o7 (decide (a > b)),true)
 else if op==13 then(o7 (decide (a≥b)),true)else if op==14 then(o7 (a==b),true)else if op==15 then(o7 (!(a==b)),true)else(0,false)
def vP (op a b:Int):Int×Bool:=
 if op==8 then(np (a+b),true)else if op==9 then(np (a - b),true)else if op==5 then(np (a*b),true)
 else if op==6 ||op==7 then HN op a b
 else if op==16 then(o7 (!(a==0) && !(b==0)),true)else if op==17 then(o7 (!(a==0) || !(b==0)),true)
 else C5 op a b
def Ai (name:aD) (names:List aD) (bq:List Int):Int:=if gi name 0 names≥0 then bq.getD (gi name 0 names).toNat 0 else 0
def x8 (op:Int):List (Int×Bool)→Int×Bool
 | []=>(0,false)
 | [a]=>if a.2 then C4 op a.1 else(0,false)
 |a::b::_=>if !a.2 then(0,false)else if op==16 && a.1==0 then(0,true)else if op==17 && !(a.1==0)then(1,true)else if !b.2 then(0,false)else vP op a.1 b.1
mutual
def Ex.val (names:List aD) (bq:List Int):Ex→Int×Bool
 |⟨op,n,name,kids⟩=>if op==1 then(n,true)else if op==2 then(Ai name names bq,true)else x8 op (Ex.VV names bq kids)
def Ex.VV (names:List aD) (bq:List Int):List Ex→List (Int×Bool)
 | []=> []
 |x::l=>x.val names bq::Ex.VV names bq l
end
def Ex.bE (x:Ex) (names:List aD) (bq:List Int):Int×Bool:=if x.may then x.val names bq else(0,false)
structure Fr where
 proc:Int
 names:List aD
 vars:List Nat
 call:Int
structure Mc where
 st:List Fr
 mem:List Int
 fin:Int
 steps:Int
 reads:Int
 out:List Int
 trace:List (Int×List Int)
def Mc.event (W:List Int) (m:Mc) (id:Int) (bq:List Int):Mc:=if W.contains id then {m with trace:=m.trace++ [(id,bq)]}else m
def Mc.top (m:Mc):Fr:=m.st.headD ⟨0,[],[],0⟩
def Mc.bq (m:Mc):List Int:=m.top.vars.map fun c=>m.mem.getD c 0
def Mc.cell (m:Mc) (name:aD):Nat:=m.top.vars.getD (gi name 0 m.top.names).toNat 0
def Mc.set (m:Mc) (name:aD) (v:Int):Mc:= {m with mem:=m.mem.set (m.cell name) v}
def Mc.bE (m:Mc) (x:Ex):(Int×Bool)×Mc:=
 let r:=x.bE m.top.names m.bq
 (r,if r.2 then m else {m with fin:=4})
def Mc.open (p:Pg) (m:Mc) (i:Int) (params:List Nat) (call:Int):Int×Mc:=
 match p.procs[i.toNat]? with
 |none=>(-1,m)
 |some f=>(eR f.body (-1),{m with st:=⟨i,p.globals++f.own,List.range p.globals.length++params++(List.range f.vars.length).map (m.mem.length + ·),call⟩::m.st,mem:=m.mem++List.replicate f.vars.length 0})
def fp (L:List Im) (id:Int):Im:=L.getD (id - 1).toNat ⟨LU,0,0,0,0⟩
def Mc.close (L:List Im) (m:Mc) (o8:Int):Int×Mc:=
 let call:=m.top.call
 let m:= {m with st:=m.st.tail}
 if call==0 then(-1,{m with fin:=1})
 else
  let it:=fp L call
  (it.next,if it.s.name == []then m else m.set it.s.name o8)
def Mc.fP (W:List Int) (m:Mc) (s:Sm):Int×Mc:=
 if s.has then
  let r:=m.bE s.x
  (r.1.1,if r.1.2 then r.2.event W s.id [r.1.1]else r.2)
 else(0,m.event W s.id [])
def Mc.args:List Ar→Mc→List Nat→Option (List Nat)×Mc
 | [],m,out=>(some out,m)
 | a::l,m,out=>
  if a.ref then Mc.args l m (out++ [m.cell a.name])
  else
   let r:=m.bE a.x
   if r.1.2 then Mc.args l {r.2 with mem:=r.2.mem++ [r.1.1]} (out++ [r.2.mem.length])else(none,r.2)
def Mc.call (p:Pg) (W:List Int) (m:Mc) (s:Sm):Int×Mc:=
 match Mc.args s.args m []with
 |(none,m)=>(-1,m)
 |(some l,m)=>if m.st.length > 100 then(-1,{m with fin:=5})else(m.event W s.id []).open p (p.at s.proc) l s.id
def firstM (l:List Sm) (other:Int):Int:=eR l other
def Mc.do (p:Pg) (L:List Im) (tape W:List Int) (m:Mc) (it:Im):Int×Mc:=
 let s:=it.s
 if s.kind==7 then((fp L it.loop).next,m.event W s.id [])
 else if s.kind==8 then(it.loop,m.event W s.id [])
 else if s.kind==10 then((match p.procs[it.proc.toNat]? with|some f=>(jH f.fin s.name (Sm.cU f.body)).1|none=>0),m.event W s.id [])
 else if s.kind==2 then
  match tape[m.reads.toNat]? with
  |none=>(-1,{m with fin:=3})
  |some n=>(it.next,(({m with reads:=m.reads+1} : Mc).set s.name n).event W s.id [n])
 else
  let r:=m.bE s.x
  if r.1.2 then
   let m:=r.2.event W s.id [r.1.1]
   let n:=r.1.1
   if s.kind==1 then(it.next,m.set s.name n)
   else if s.kind==3 then(it.next,{m with out:=m.out++ [n]})
   else if s.kind==5 then(if n==0 then firstM s.aH it.next else firstM s.aY it.next,m)
   else if s.kind==6 then(if n==0 then it.next else firstM s.aY s.id,m)
   else(it.next,m)
  else(-1,r.2)
def Mc.back (L:List Im) (m:Mc) (o8:Int):Option Int×Mc:=
 let r:=m.close L o8
 (if r.2.fin==0 then some r.1 else none,r.2)
def Mc.next (p:Pg) (L:List Im) (tape W:List Int) (fuel:Int) (at_:Int) (m:Mc):Option Int×Mc:=
 if at_ == -1 then m.back L 0
 else if m.steps==fuel then(none,{m with fin:=2})
 else
  let m:= {m with steps:=m.steps+1}
  let it:=fp L at_
  if it.s.kind==4 then
   let r:=m.call p W it.s
   (if r.2.fin==0 then some r.1 else none,r.2)
  else if it.s.kind==9 then
   let r:=m.fP W it.s
   if r.2.fin==0 then r.2.back L r.1 else(none,r.2)
  else
   let r:=m.do p L tape W it
   (if r.2.fin==0 then some r.1 else none,r.2)
def Mc.go (p:Pg) (L:List Im) (tape W:List Int) (fuel:Int):Nat→Int→Mc→Option Mc
 | 0,_,_=>none
 |N+1,at_,m=>
  match m.next p L tape W fuel at_ with
  |(none,m)=>some m
  |(some a,m)=>Mc.go p L tape W fuel N a m
def gZ (p:Pg):Mc:=⟨[],List.replicate p.globals.length 0,0,0,0,[],[]⟩
def runM (p:Pg) (tape W:List Int) (fuel:Int):Option Mc:=
 let r:=(gZ p).open p (p.at jq) [] 0
 Mc.go p p.aU.L tape W fuel (2*fuel.toNat+3) r.1 r.2
theorem dV (W:List Int) (m:Mc) (id:Int) (bq:List Int):(m.event W id bq).st=m.st∧(m.event W id bq).mem=m.mem∧(m.event W id bq).fin=m.fin∧(m.event W id bq).steps=m.steps∧(m.event W id bq).reads=m.reads∧(m.event W id bq).out=m.out:=by
 unfold Mc.event;split<;>exact⟨rfl,rfl,rfl,rfl,rfl,rfl⟩
theorem iu (m:Mc) (x:Ex):(m.bE x).2.st=m.st∧(m.bE x).2.mem=m.mem∧(m.bE x).2.steps=m.steps∧(m.bE x).2.reads=m.reads∧(m.bE x).2.out=m.out∧(m.bE x).2.trace=m.trace:=by
 unfold Mc.bE;dsimp only;split<;>exact⟨rfl,rfl,rfl,rfl,rfl,rfl⟩
theorem Cc : ∀ (l:List Ar) (m:Mc) (out:List Nat),(Mc.args l m out).2.st=m.st∧(Mc.args l m out).2.steps=m.steps
 | [],m,out=>⟨rfl,rfl⟩
 | a::l,m,out=>by
  simp only[Mc.args]
  split
  ·exact Cc l m _
  ·have h:=iu m a.x
   split
   ·have:=Cc l {(m.bE a.x).2 with mem:=(m.bE a.x).2.mem++ [(m.bE a.x).1.1]} (out++ [(m.bE a.x).2.mem.length])
    exact⟨this.1.trans h.1,this.2.trans h.2.2.1⟩
   ·exact⟨h.1,h.2.2.1⟩
theorem FP (p:Pg) (m:Mc) (i:Int) (l:List Nat) (c:Int):(m.open p i l c).2.st.length≤m.st.length+1∧(m.open p i l c).2.steps=m.steps:=by
 unfold Mc.open;split
 ·exact⟨Nat.le_succ _,rfl⟩
 ·exact⟨zak _,rfl⟩
theorem agv (p:Pg) (W:List Int) (m:Mc) (s:Sm):(m.call p W s).2.st.length≤m.st.length+1∧(m.call p W s).2.steps=m.steps:=by
 have h:=Cc s.args m []
 unfold Mc.call
 generalize Mc.args s.args m [] = r at *
 obtain⟨o,m1⟩:=r
 dsimp only at h
 cases o with
 |none=>dsimp only;rw[h.1,h.2];exact⟨Nat.le_succ _,rfl⟩
 | some l=>
  dsimp only
  split
  ·dsimp only;rw[h.1,h.2];exact⟨Nat.le_succ _,rfl⟩
  ·have h2:=FP p (m1.event W s.id []) (p.at s.proc) l s.id
   rw[(dV ..).1,(dV ..).2.2.2.1,h.1,h.2]at h2
   exact h2
theorem HO (W:List Int) (m:Mc) (s:Sm):(m.fP W s).2.st=m.st∧(m.fP W s).2.steps=m.steps:=by
 have h:=iu m s.x
 unfold Mc.fP
 dsimp only
 split
 ·split
  ·exact⟨(dV ..).1.trans h.1,(dV ..).2.2.2.1.trans h.2.2.1⟩
  ·exact⟨h.1,h.2.2.1⟩
 ·exact⟨(dV ..).1,(dV ..).2.2.2.1⟩
theorem VW (p:Pg) (L:List Im) (tape W:List Int) (m:Mc) (it:Im):(m.do p L tape W it).2.st=m.st∧(m.do p L tape W it).2.steps=m.steps:=by
 have h:=iu m it.s.x
 have e:=fun(m:Mc) id bq=>(⟨(dV W m id bq).1,(dV W m id bq).2.2.2.1⟩:(m.event W id bq).st=m.st∧(m.event W id bq).steps=m.steps)
 unfold Mc.do
 dsimp only
 repeat' split
 all_goals first
  |exact e ..
  |exact⟨rfl,rfl⟩
  |exact⟨(e ..).1.trans h.1,(e ..).2.trans h.2.2.1⟩
  |exact⟨h.1,h.2.2.1⟩
theorem acp (L:List Im) (m:Mc) (g:Int):(m.close L g).2.st=m.st.tail∧(m.close L g).2.steps=m.steps∧(m.st = []→(m.close L g).2.fin=1):=by
 unfold Mc.close
 dsimp only
 split
 ·exact⟨rfl,rfl,fun _=>rfl⟩
 ·rename_i hc
  refine⟨by split<;>rfl,by split<;>rfl,fun e=>absurd ?_ hc⟩
  simp[Mc.top,e]
theorem back_eq {L:List Im} {m:Mc} {g:Int} {a:Int} {m':Mc} (h:m.back L g=(some a,m')):m'.st.length<m.st.length∧m'.steps=m.steps:=by
 obtain⟨h1,h2,h3⟩:=acp L m g
 unfold Mc.back at h
 dsimp only at h
 split at h
 ·rename_i hf
  simp only[Prod.mk.injEq]at h
  rw[← h.2]
  refine⟨?_,h2⟩
  rw[h1,List.length_tail]
  cases e:m.st with
  |nil=>rw[h3 e]at hf;cases hf
  |cons x l=>simp
 ·simp at h
theorem agw {p:Pg} {L:List Im} {tape W:List Int} {fuel a a':Int} {m m':Mc} (hs:m.steps≤fuel) (h:m.next p L tape W fuel a=(some a',m')) :
 m'.steps≤fuel∧2*(fuel - m'.steps)+m'.st.length<2*(fuel - m.steps)+m.st.length:=by
 unfold Mc.next at h
 split at h
 ·have:=back_eq h;omega
 split at h
 ·simp at h
 rename_i dj
 have hD:m.steps<fuel:=by(have:m.steps≠fuel:=by simpa using dj);omega
 dsimp only at h
 split at h
 ·have h1:=agv p W {m with steps:=m.steps+1} (fp L a).s
  simp only[Prod.mk.injEq]at h
  rw[← h.2]
  dsimp only at h1
  omega
 split at h
 ·have h1:=HO W {m with steps:=m.steps+1} (fp L a).s
  dsimp only at h1
  split at h
  ·have h2:=back_eq h
   rw[h1.1,h1.2]at h2
   omega
  ·simp at h
 ·have h1:=VW p L tape W {m with steps:=m.steps+1} (fp L a)
  simp only[Prod.mk.injEq]at h
  rw[← h.2,h1.1,h1.2]
  dsimp only
  omega
theorem SG (p:Pg) (L:List Im) (tape W:List Int) (fuel:Int) : ∀ (N:Nat) (a:Int) (m:Mc),m.steps≤fuel→2*(fuel - m.steps)+m.st.length<N→∃ m',Mc.go p L tape W fuel N a m=some m'
 | 0,_,_,_,h=>by omega
 | N+1,a,m,hs,h=>by
  simp only[Mc.go]
  cases e:m.next p L tape W fuel a with
  | mk o m1=>
   cases o with
   |none=>exact⟨m1,rfl⟩
   |some a1=>
    have:=agw hs e
    exact SG p L tape W fuel N a1 m1 this.1 (by omega)
theorem Aj (p:Pg) (tape W:List Int) {fuel:Int} (h:0≤fuel) : ∃ m,runM p tape W fuel=some m:=by
 unfold runM
 have h1:=FP p (gZ p) (p.at jq) [] 0
 have e1:(gZ p).st.length=0:=rfl
 have e2:(gZ p).steps=0:=rfl
 rw[e1,e2]at h1
 exact SG p _ tape W fuel _ _ _ (by rw[h1.2];exact h) (by rw[h1.2];omega)
structure Grow (m m':Mc):Prop where
 trace : ∃ t,m'.trace=m.trace++t
 out : ∃ t,m'.out=m.out++t
 reads:m.reads≤m'.reads
 steps:m.steps≤m'.steps
def E4 (L:List Im) (a:Int):Prop:=a = -1∨(1≤a∧a≤(L.length:Int))
theorem C6 {L:List Im} {a:Int} (h:E4 L a) (hn:a≠ -1):fp L a∈L:=by
 rcases h with h|⟨h1,h2⟩
 ·exact absurd h hn
 ·unfold fp
  rw[zay,zah (show(a - 1).toNat<L.length by omega)]
  exact List.getElem_mem _
structure LOk (p:Pg) (L:List Im):Prop where
 id : ∀ x∈L,1≤x.s.id∧x.s.id≤(L.length:Int)
 next : ∀ x∈L,E4 L x.next
 loop : ∀ x∈L,x.s.kind=7∨x.s.kind=8→1≤x.loop∧x.loop≤(L.length:Int)
 VX : ∀ x∈L,x.s.kind=10→∃ f,p.procs[x.proc.toNat]? = some f∧E4 L (jH f.fin x.s.name (Sm.cU f.body)).1
 aY : ∀ x∈L,E4 L (eR x.s.aY (-1))
 aH : ∀ x∈L,E4 L (eR x.s.aH (-1))
 mA : ∀ f∈p.procs,E4 L (eR f.body (-1))
def ajM (L:List Im) (m:Mc):Prop:=∀ fr∈m.st,fr.call=0∨(1≤fr.call∧fr.call≤(L.length:Int))
def Told (L:List Im) (r:Option Int×Mc):Prop:=
 match r.1 with
 |some a=>E4 L a∧ajM L r.2∧r.2.fin=0∧(r.2.trace.length:Int)=r.2.steps
 |none=>((r.2.fin=1∨r.2.fin=2)∧(r.2.trace.length:Int)=r.2.steps)∨((r.2.fin=3∨r.2.fin=4∨r.2.fin=5)∧(r.2.trace.length:Int)+1=r.2.steps)
theorem YT (m:Mc) (x:Ex) (h:m.fin=0):((m.bE x).1.2=true→(m.bE x).2.fin=0)∧((m.bE x).1.2=false→(m.bE x).2.fin=4):=by
 unfold Mc.bE
 dsimp only
 constructor
 ·intro e;rw[if_pos e];exact h
 ·intro e;rw[e];rfl
theorem HP : ∀ (l:List Ar) (m:Mc) (out:List Nat),m.fin=0→(Mc.args l m out).2.trace=m.trace∧(match (Mc.args l m out).1 with|some _=>(Mc.args l m out).2.fin=0|none=>(Mc.args l m out).2.fin=4)
 | [],m,out,h=>⟨rfl,h⟩
 | a::l,m,out,h=>by
  have hw:=YT m a.x h
  have he:=iu m a.x
  simp only[Mc.args]
  by_cases c:a.ref=true
  ·rw[if_pos c];exact HP l m _ h
  ·rw [if_neg c]
   by_cases c2:(m.bE a.x).1.2=true
   ·rw [if_pos c2]
    obtain⟨h1,h2⟩:=HP l {(m.bE a.x).2 with mem:=(m.bE a.x).2.mem++ [(m.bE a.x).1.1]} (out++ [(m.bE a.x).2.mem.length]) (hw.1 c2)
    exact⟨h1.trans he.2.2.2.2.2,h2⟩
   ·rw [if_neg c2]
    exact⟨he.2.2.2.2.2,hw.2 (by simpa using c2)⟩
def avo (L:List Im) (r:Int×Mc):Prop:=
 (r.2.fin=0∧E4 L r.1∧ajM L r.2∧(r.2.trace.length:Int)=r.2.steps)∨((r.2.fin=3∨r.2.fin=4∨r.2.fin=5)∧(r.2.trace.length:Int)+1=r.2.steps)
def avp (m:Mc):Prop:=((m.fin=1∨m.fin=2)∧(m.trace.length:Int)=m.steps)∨((m.fin=3∨m.fin=4∨m.fin=5)∧(m.trace.length:Int)+1=m.steps)
def GO (a b t:aD):aD:=if t==a then b else if t==b then a else t
mutual
def Ex.swap (a b:aD):Ex→Ex
 |⟨op,n,name,kids⟩=>⟨op,n,GO a b name,Ex.C7 a b kids⟩
def Ex.C7 (a b:aD):List Ex→List Ex
 | []=> []
 |x::l=>x.swap a b::Ex.C7 a b l
end
def Ar.swap (a b:aD) (x:Ar):Ar:=⟨x.ref,GO a b x.name,x.x.swap a b⟩
mutual
def Sm.swap (a b:aD):Sm→Sm
 |⟨id,kind,labels,name,proc,x,has,args,aY,aH⟩=>⟨id,kind,labels.map (GO a b),GO a b name,GO a b proc,x.swap a b,has,args.map (Ar.swap a b),Sm.C7 a b aY,Sm.C7 a b aH⟩
def Sm.C7 (a b:aD):List Sm→List Sm
 | []=> []
 |s::l=>s.swap a b::Sm.C7 a b l
end
def Pm.swap (a b:aD) (x:Pm):Pm:=⟨GO a b x.name,x.ref⟩
def Pc.swap (a b:aD) (f:Pc):Pc:=⟨GO a b f.name,f.params.map (Pm.swap a b),f.vars.map (GO a b),Sm.C7 a b f.body,f.fin.map (GO a b)⟩
def Pg.swap (a b:aD) (p:Pg):Pg:=⟨p.globals.map (GO a b),p.procs.map (Pc.swap a b)⟩
def It.swap (a b:aD) (i:It):It:=⟨i.s.swap a b,i.deep,i.bp,i.aH⟩
def aeu:List Sm→List aD
 | []=> []
 |v::l=>v.said++aeu l
def anj (p:Pg):List aD→List aD
 | []=> []
 |n::l=>aeu (tj p n)++anj p l
set_option maxRecDepth 8000
open Go.Proofs
def p6 (nm:aD) (T:List aD) (seen:List aD):List Ar→Bool
 | []=>true
 |a::l=>if a.ref then(if dZ seen a.name ||(a.name==nm ||dZ T a.name)then false else p6 nm T (seen++ [a.name]) l)else p6 nm T seen l
def Mv (T:List aD) (seen:List aD):List Ar→Bool
 | []=>true
 |a::l=>if a.ref then(if dZ seen a.name ||dZ T a.name then false else Mv T (seen++ [a.name]) l)else Mv T seen l
def Sm.ajN (v:Sm):List aD:=if v.name != []then [v.name]else []
theorem Mw {nm:aD} {T:List aD} : ∀ (l:List Ar) (seen:List aD),(∀ a∈l,a.ref=true→a.name≠ [])→
 p6 nm T seen l=Mv T ((if nm != []then [nm]else [])++seen) l
 | [],seen,_=>rfl
 | a::l,seen,h=>by
  have ih:=fun seen=>Mw (nm:=nm) (T:=T) l seen fun b m=>h b (zan _ m)
  simp only[p6,Mv,ih]
  cases hr:a.ref with
  |false=>rfl
  | true=>
   have hn:=h a (zaz ..) hr
   have:dZ ((if nm != []then [nm]else [])++seen) a.name=(dZ seen a.name ||a.name==nm):=by
    rw[Bool.eq_iff_iff,il,zaD,il,zar,beq_iff_eq]
    cases hb:(nm != [])
    ·have:nm = []:=by simpa using hb
     subst this
     simp[hn]
    ·simp only [if_true,zaJ]
     exact Or.comm
   simp only[if_true,this,Bool.or_assoc,zaB]
theorem acq {v:Sm} (pg:v.args.length<1000000000) {T:List aD} (hT:T.length<4611686018427387904) (s:St) :
 ay Tryz.prog 107 [.agg (aO v), .slice .shared 1 (T.map encStr)] s (.bool (p6 v.name T [] v.args)) s:=by
 refine ay.pure ?_ (by simp[D.bJ,D.ok,nN,Tag.ok,dv]) rfl s
 generalize hR:p6 v.name T [] v.args=R
 have hcT:=fun x s=>uV hT x s
 unfold S0
 refine ay.go Hv.h rfl fun B Q hB hQ=>?_
 have⟨hD,hZ,gC,gD⟩:=bc
 refine bT trivial ?_
 refine aJ.lA 5 1 rfl ?_
 simp only[go_sem,hD,hZ,gC,gD]
 refine dg 1 1 (aJ.ind (ι:=List Ar×Nat×List aD×Nat) (fun i=>v.args.drop i.2.1=i.1∧p6 v.name T i.2.2.1 i.1=R∧i.2.2.1.length≤i.2.1∧i.2.2.2=i.2.2.1.length) (fun i=>i.1.length)
  (fun i=> [(1, .slice .shared 1 (T.map encStr)),(2, .ptr 0 0),(5, .slice (.tok 0) 1 (i.2.2.1.map encStr)),(9, .slice .shared 6 (v.args.map dH)),(10, .int .i64 (v.args.length:Int)),(11, .int .i64 (i.2.1:Int))]) (fun i=>⟨[aO v],[some i.2.2.2]⟩) ?_ (v.args,0,[],0) ⟨rfl,hR,zak _,rfl⟩)
 clear hR
 rintro⟨rest,k,seen,n'⟩ ⟨h1,h2,h3,h4⟩ IH
 dsimp only at h1 h2 h3 h4
 subst h4
 cases rest with
 |nil=>
  have hD:=drop_nil h1
  simp only[p6]at h2
  subst h2
  exact dR trivial
 | cons a rest=>
  obtain⟨hZ,g2,hD,g4⟩:=drop_cons h1
  have aV:k<4611686018427387904:=by omega
  have gC:(seen.length+1)*17≤aT:=by unfold aT;omega
  have mK:=fun g s=>la (l:=seen) (by omega) a.name g s
  simp only[p6]at h2
  rcases zaa a.ref with c1|c1
  case inr=>
   simp only[c1,zab,if_false]at h2
   refine bT (eK c1 @Bool.not_false) ?_
   refine cr 1 1 ?_ ?_ (IH (rest,k+1,seen,_) ⟨g2,h2,by dsimp only;omega,rfl⟩ (zae _))
   ·(simp only[go_sem,hD,hZ,gC,gD,ak aV];try exact aQ)
   ·(simp only[go_sem,hD,hZ,gC,gD,ak aV];try exact aQ)
  simp only[c1,if_true]at h2
  rcases zaa (dZ seen a.name)with c2|c2
  ·simp only [c2,zbk,if_true]at h2
   subst h2
   exact pT (ly c1 c2 @Bool.not_true) mK hcT
  rcases zaa (a.name==v.name)with c3|c3
  ·simp only [c2,c3,zbj,zbk,if_true]at h2
   subst h2
   exact pT (ql c1 c2 c3 @Bool.not_true) mK hcT
  rcases zaa (dZ T a.name)with c4|c4
  ·simp only [c2,c3,c4,zbj,if_true]at h2
   subst h2
   exact pT (um c1 c2 c3 c4 @Bool.not_true) mK hcT
  ·simp only [c2,c3,c4,zbj,zab,if_false]at h2
   repeat' (first
 |simp only[go_sem,hD,hZ,gC,gD,c1,c2,c3,c4,zav]
 |(with_reducible refine CU (mK _ _) ?_)
 |(with_reducible refine CU (hcT _ _) ?_)
 | (with_reducible refine aX hQ ?_;exact bK))
   refine cr 1 1 ?_ ?_ (IH (rest,k+1,seen++ [a.name],seen.length+1) ⟨g2,h2,by simp;omega,by simp⟩ (zae _))
   ·(simp only[go_sem,hD,hZ,gC,gD,ak aV,zag,zaf,zaj,encStr];try exact aQ)
   ·(simp only[go_sem,hD,hZ,gC,gD,ak aV,zag,zaf,zaj,encStr];try exact aQ)
def p7 (p:Pg):List Pc→List D
 | []=> []
 |f::l=> .str f.name:: .slice .shared 1 ((p.qW f.name).map encStr)::p7 p l
theorem YU (p:Pg) : ∀ l,D.bJ 0 0 (p7 p l)=true
 | []=>rfl
 |f::l=>by simp only[p7,D.bJ,D.ok,Tag.ok,dv,YU p l];rfl
theorem agx (n m:Nat) (p:Pg) (l:List Pc):D.iI n m (p7 p l)=p7 p l:=jN n m _ (YU p l)
attribute [go_sem] agx
theorem P9 (p:Pg) : ∀ l m,p7 p (l++m)=p7 p l++p7 p m
 | [],m=>rfl
 |f::l,m=>by simp only[zaV,p7,P9 p l m]
theorem Qa {p:Pg} {nm:aD} {d:D} : ∀ {l:List Pc},nm∉l.map (·.name)→AA nm d (p7 p l)=some (p7 p l++ [.str nm,d])
 | [],_=>rfl
 |f::l,h=>by
  simp only[zaf,zaq,not_or]at h
  have:(f.name==nm)=false:=by simpa using fun e=>h.1 e.symm
  simp only[p7,AA,this,zab,if_false,Qa h.2,zaV]
theorem Qb {p:Pg} {nm:aD} {z:D} : ∀ {l:List Pc} {f:Pc},iB nm l=some f→Cr nm z (p7 p l)=some (.slice .shared 1 ((p.qW nm).map encStr))
 | g::l,f,h=>by
  simp only[iB]at h
  simp only[p7,Cr]
  split at h
  ·rename_i e
   rw[if_pos e,eq_of_beq e]
  ·rename_i e
   rw[if_neg e]
   exact Qb h
theorem agy (l:List aD) : ∀ (s:List aD),qU s l=false→∀ a x b,l=a++x::b→x∉s++a:=by
 induction l with
 |nil=>intro s _ a x b e;cases a<;>cases e
 | cons y l ih=>
  intro s h a x b e
  simp only[qU]at h
  split at h
  ·cases h
  ·rename_i hy
   cases a with
   |nil=>cases e;simpa[← il]using hy
   |cons z a=>
    cases e
    have:=ih (s++ [y]) h a x b rfl
    simpa using this
end Go.Abs
namespace Go.Abs
set_option maxRecDepth 8000
open Go.Proofs
theorem HQ {p:Pg} (h:(p.arity.1==0)=true):(p.scope.1==0)=true∧∀ v∈p.pre,(v.kind==4)=true→v.mC p=true:=by
 unfold Pg.arity at h
 split at h
 ·rename_i e
  refine⟨e,fun v hv hk=>?_⟩
  have : ∀ l:List Sm,((jt 6 (Ac p l)).1==0)=true→∀ v∈l,(v.kind==4)=true→v.mC p=true:=by
   intro l
   induction l with
   |nil=>intro _ v m;cases m
   | cons a l ih=>
    intro h v m hk
    simp only[Ac]at h
    split at h
    ·cases h
    ·rename_i c
     rcases zaq.1 m with rfl|m
     ·simpa[hk]using c
     ·exact ih h v m hk
  exact this _ h v hv hk
 ·cases h
theorem Ak {p:Pg} {v:Sm} (h:v.mC p=true) : ∃ f,p.find v.proc=some f:=by
 unfold Sm.mC at h
 cases e:p.find v.proc with
 |some f=>exact⟨f,rfl⟩
 |none=>rw[e]at h;simp at h
theorem Qc : ∀ {l:List It} {n:Nat} {i:It},It.fh n l=true→i∈l→i.s.one=true
 | j::l,n,i,h,m=>by
  simp only[It.fh]at h
  split at h
  ·cases h
  ·rename_i c
   simp only[zaD,not_or,zaL,zbd]at c
   rcases zaq.1 m with rfl|m
   ·exact c.2
   ·exact Qc h m
theorem Cd {p:Pg} (h:p.may=true) : ∀ v∈p.pre,v.one=true:=fun v m=>by
 rw[← (se h).2,zaG]at m
 obtain⟨i,hi,rfl⟩:=m
 exact Qc (vJ h).2 hi
theorem Qd {v:Sm} (h:v.one=true):Ar.fh v.args=true:=by
 unfold Sm.one at h
 repeat' (split at h)
 all_goals first|(cases h;done)|(rename_i c;simpa using c)|skip
theorem HR : ∀ {l:List Ar},Ar.fh l=true→∀ a∈l,a.may=true
 | b::l,h,a,m=>by
  simp only[Ar.fh]at h
  split at h
  ·cases h
  ·rename_i c
   rcases zaq.1 m with rfl|m
   ·simpa using c
   ·exact HR h a m
theorem acr {v:Sm} (h:v.one=true) : ∀ a∈v.args,a.ref=true→a.name≠ []:=fun a m hr=>by
 have:=HR (Qd h) a m
 unfold Ar.may at this
 rw[if_pos hr]at this
 intro e
 rw[e]at this
 simp[isName]at this
def Sm.vQ (p:Pg) (v:Sm):Bool:=p6 v.name (p.qW v.proc) [] v.args
def Jt (p:Pg):List Sm→Option Sm
 | []=>none
 |v::l=>if v.kind==4 && !(v.vQ p)then some v else Jt p l
def Pg.alias (p:Pg):Int×Int:=if p.arity.1==0 then jt 8 (Jt p p.pre)else(1,0)
theorem E5 {p:Pg} (h:p.gb) (nm:aD):(p.qW nm).length<4611686018427387904:=by
 unfold Pg.qW
 cases hs:p.Ba nm with
 |none=>dsimp only;decide
 |some f=>
  obtain⟨kL,hf⟩:=Ms hs
  have h1:=(HL kL hf).len
  have h2:=h.procs
  have h3:=(vN h (ju (p.work nm)) []).2
  have h4:(ju (p.work nm)).length*1800000≤900000*1800000:=zaR _ (by omega)
  have h5:(ju (p.o6 nm)).length≤(p.o6 nm).length:=Ad _ _ (uY (nj _).1) fun x m=>((nj _).2 x).1 m
  dsimp only
  unfold Pg.o6 at *
  simp only[zaC]at h3
  omega
theorem Ju {v:Sm} (hv:v.mQ):v.args.length<1000000000:=by have:=Ar.dk v.args;have:=hv.2.2;omega
theorem YV {p:Pg} (h:p.gb) (s:St):ay Tryz.prog 72 [.agg (bG p)] s (.agg [.int .i64 p.alias.1, .int .i64 p.alias.2]) s:=by
 refine ay.pure ?_ (by simp[D.bJ,D.ok,fW]) rfl s
 obtain⟨nX,oE,mB⟩:=h.procs
 have sJ:=fun s=>PU h s
 have dF:=fun s=>CP (p:=p) (by omega) s
 have hL:=(qn p).1
 have sQ:=rY p
 generalize hR:p.alias=R
 simp only[Pg.alias]at hR
 unfold S0
 have b0:(p.arity.1 != 0) = !(p.arity.1==0):=rfl
 rcases zaa (p.arity.1==0)with b1|b1
 case inr=>
  rw[b1]at b0
  simp only[b1,zab,if_false]at hR
  subst hR
  refine ay.go zS.h rfl fun B Q hB hQ=>?_
  have⟨hD,hZ,gC,gD⟩:=bc
  exact jn (eK b0 @Bool.not_false) sJ
 rw[b1]at b0
 obtain⟨kL,gT⟩:=HQ b1
 have rr:=(HI kL).2.1
 simp only[b1,if_true, ← hL]at hR
 refine ay.go zS.h rfl fun B Q hB hQ=>?_
 have⟨hD,hZ,gC,gD⟩:=bc
 repeat' (first
 |simp only[go_sem,hD,hZ,gC,gD,b0,zav]
 |(with_reducible refine CU (sJ _) ?_)
 |(with_reducible refine aX hQ ?_;exact bK))
 refine cr 3 0 ?_ ?_ (aJ.ind (ι:=List Pc×Nat×List Pc) (fun i=>p.procs.drop i.2.1=i.1∧p.procs=i.2.2++i.1) (fun i=>i.1.length)
  (fun i=> [(1, .ptr 0 0),(2, .ptr 1 0),(3, .iC 2),(15, .slice .shared 5 (p.procs.map bP)),(16, .int .i64 (p.procs.length:Int)),(17, .int .i64 (i.2.1:Int))]) (fun i=>⟨[bG p,[.int .i64 0, .int .i64 0],p7 p i.2.2],[]⟩) ?_ (p.procs,0,[]) ⟨rfl,rfl⟩)
 ·(simp only[go_sem,hD,hZ,gC,gD,p7];try exact aQ)
 ·(simp only[go_sem,hD,hZ,gC,gD,p7];try exact aQ)
 rintro⟨rest,k,done⟩ ⟨h1,h2⟩ IH
 dsimp only at h1 h2
 cases rest with
 | cons a rest=>
  obtain⟨hZ,g2,hD,g4⟩:=drop_cons h1
  have aV:k<4611686018427387904:=by omega
  have wD:=fun s=>YL h a.name s
  have td:a.name∉done.map (·.name):=by
   have:=agy _ [] rr (done.map (·.name)) a.name (rest.map (·.name)) (by simp[Pg.pn,h2])
   simpa using this
  have hmp:AA a.name (.slice .shared 1 ((p.qW a.name).map encStr)) (p7 p done)=some (p7 p (done++ [a])):=by
   rw[Qa td,P9];rfl
  repeat' (first
 |simp only[go_sem,hD,hZ,gC,gD,hmp]
 |(with_reducible refine CU (wD _) ?_)
 |(with_reducible refine aX hQ ?_;exact bK))
  refine cr 3 0 ?_ ?_ (IH (rest,k+1,done++ [a]) ⟨g2,by rw[h2];simp⟩ (zae _))
  ·(simp only[go_sem,hD,hZ,gC,gD,ak aV];try exact aQ)
  ·(simp only[go_sem,hD,hZ,gC,gD,ak aV];try exact aQ)
 |nil=>
  have hD:=drop_nil h1
  rw[zaF]at h2
  subst h2
  repeat' (first
 |simp only[go_sem,hD,hZ,gC,gD,rX]
 |(with_reducible refine CU (dF _) ?_)
 | (with_reducible refine aX hQ ?_;exact bK))
  refine dg 3 0 (aJ.ind (ι:=List Im×Nat) (fun i=>p.aU.L.drop i.2=i.1∧jt 8 (Jt p (i.1.map Im.s))=R) (fun i=>i.1.length)
   (fun i=> [(1, .ptr 0 0),(2, .ptr 1 0),(3, .iC 2),(33, .slice .shared 17 (p.aU.L.map dU)),(34, .int .i64 (p.aU.L.length:Int)),(35, .int .i64 (i.2:Int))]) (fun i=>⟨[bG p,[.int .i64 0, .int .i64 0],p7 p p.procs],[]⟩) ?_ (p.aU.L,0) ⟨rfl,hR⟩)
  clear hR
  rintro⟨rest,k⟩ ⟨h1,hR⟩ IH
  dsimp only at h1 hR
  cases rest with
  |nil=>
   have hD:=drop_nil h1
   simp only[zaj,Jt,jt]at hR
   subst hR
   exact dR trivial
  | cons a rest=>
   obtain⟨hZ,g2,hD,g4⟩:=drop_cons h1
   have aV:k<4611686018427387904:=by omega
   have yR:a.s∈p.pre:=by rw[← hL];exact zbb (zad hZ)
   have ow:=fun s=>acq (Ju (h.pre _ yR)) (E5 h a.s.proc) s
   simp only[zaf,Jt,Sm.vQ]at hR
   rcases zaa (a.s.kind==4)with c1|c1
   ·obtain⟨f,hf⟩:=Ak (gT _ yR c1)
    have hmg:=fun z=>Qb (p:=p) (z:=z) hf
    rcases zaa (p6 a.s.name (p.qW a.s.proc) [] a.s.args)with c2|c2
    ·simp only [c1,c2,zav,zbp,zab,if_false]at hR
     repeat' (first
 |simp only[go_sem,hD,hZ,gC,gD,c1,c2,hmg]
 |(with_reducible refine CU (ow _) ?_)
 | (with_reducible refine aX hQ ?_;exact bK))
     refine cr 3 0 ?_ ?_ (IH (rest,k+1) ⟨g2,hR⟩ (zae _))
     ·(simp only[go_sem,hD,hZ,gC,gD,ak aV];try exact aQ)
     ·(simp only[go_sem,hD,hZ,gC,gD,ak aV];try exact aQ)
    ·simp only [c1,c2,zax,zbz,if_true,jt]at hR
     subst hR
     exact jn (ly c1 c2 hmg) ow
   ·simp only [c1,zaN,zab,if_false]at hR
    refine XT c1 ow ?_
    refine cr 3 0 ?_ ?_ (IH (rest,k+1) ⟨g2,hR⟩ (zae _))
    ·(simp only[go_sem,hD,hZ,gC,gD,ak aV];try exact aQ)
    ·(simp only[go_sem,hD,hZ,gC,gD,ak aV];try exact aQ)
def Sm.yU (p:Pg) (v:Sm):Bool:=v.mC p && Mv (p.qW v.proc) v.ajN v.args
theorem Qe {p:Pg} {v:Sm} (h:v.one=true):v.yU p=(v.mC p && v.vQ p):=by
 unfold Sm.yU Sm.vQ
 rw[Mw v.args [] (acr h),zaF]
 rfl
theorem acs {p:Pg} {v:Sm} (h:p.gb) (kL:(p.scope.1==0)=true) (hv:v.mQ) (s:St):ay Tryz.prog 120 [.agg (bG p), .agg (aO v)] s (.bool (v.yU p)) s:=by
 refine ay.pure ?_ (by simp[D.bJ,D.ok,fW,nN]) rfl s
 have ti:=fun s=>Jl h hv s
 have pg:=Ju hv
 generalize hR:v.yU p=R
 unfold Sm.yU at hR
 unfold S0
 rcases zaa (v.mC p)with b1|b1
 case inr=>
  simp only[b1,zaN]at hR
  subst hR
  refine ay.go sC.h rfl fun B Q hB hQ=>?_
  have⟨hD,hZ,gC,gD⟩:=bc
  exact jn (eK b1 @Bool.not_false) ti
 simp only[b1,zbf]at hR
 obtain⟨f,hf⟩:=Ak b1
 have Ab:=fun s=>VU h kL hf s
 obtain⟨T,hT⟩ : ∃ T,T=p.qW v.proc:=⟨_,rfl⟩
 have Mx:T.length<4611686018427387904:=hT ▸ E5 h v.proc
 have hTe:ju (p.o6 v.proc)=T:=by
  rw[hT];unfold Pg.qW Pg.Ba;rw[if_pos kL];simp only[hf]
 rw[hTe]at Ab
 rw[← hT]at hR
 have acu:=fun x g s=>xm Mx x g s
 refine ay.go sC.h rfl fun B Q hB hQ=>?_
 have⟨hD,hZ,gC,gD⟩:=bc
 have ajP:=@aJ.ind Tryz.prog B 52 (List Ar×Nat×List aD×Nat) Q0U (fV 0 (kp (iW Tryz.prog B 52 Q0V Q) Q)) (fun i=>v.args.drop i.2.1=i.1∧Mv T i.2.2.1 i.1=R∧i.2.2.1.length≤i.2.1+1∧i.2.2.2=i.2.2.1.length) (fun i=>i.1.length)
  (fun i=> [(2, .ptr 0 0),(3, .ptr 1 0),(5, .slice (.tok 0) 1 (i.2.2.1.map encStr)),(21, .slice .shared 6 (v.args.map dH)),(22, .int .i64 (v.args.length:Int)),(23, .int .i64 (i.2.1:Int))]) (fun i=>⟨[bG p,aO v],[some i.2.2.2]⟩) (by
   clear hR
   rintro⟨rest,k,seen,n'⟩ ⟨h1,h2,h3,h4⟩ IH
   dsimp only at h1 h2 h3 h4
   subst h4
   cases rest with
   |nil=>
    have hD:=drop_nil h1
    simp only[Mv]at h2
    subst h2
    exact dR trivial
   | cons a rest=>
    obtain⟨hZ,g2,hD,g4⟩:=drop_cons h1
    have aV:k<4611686018427387904:=by omega
    have gC:(seen.length+1)*17≤aT:=by unfold aT;omega
    have mK:=fun g s=>xm (l:=seen) (by omega) a.name g s
    simp only[Mv]at h2
    rcases zaa a.ref with c1|c1
    case inr=>
     simp only[c1,zab,if_false]at h2
     refine bT c1 ?_
     refine cr 2 1 ?_ ?_ (IH (rest,k+1,seen,_) ⟨g2,h2,by dsimp only;omega,rfl⟩ (zae _))
     ·(simp only[go_sem,hD,hZ,gC,gD,ak aV];try exact aQ)
     ·(simp only[go_sem,hD,hZ,gC,gD,ak aV];try exact aQ)
    simp only[c1,if_true]at h2
    rcases zaa (dZ seen a.name)with c2|c2
    ·simp only [c2,zbk,if_true]at h2
     subst h2
     exact zN (eK c1 c2) mK Ab acu
    rcases zaa (dZ T a.name)with c4|c4
    ·simp only [c2,c4,zbj,if_true]at h2
     subst h2
     exact zN (ly c1 c2 c4) mK Ab acu
    ·simp only [c2,c4,zbj,zab,if_false]at h2
     repeat' (first
 |simp only[go_sem,hD,hZ,gC,gD,c1,c2,c4]
 |(with_reducible refine CU (mK _ _) ?_)
 |(with_reducible refine CU (Ab _) ?_)
 |(with_reducible refine CU (acu _ _ _) ?_)
 |(with_reducible refine aX hQ ?_;exact bK))
     refine cr 2 1 ?_ ?_ (IH (rest,k+1,seen++ [a.name],seen.length+1) ⟨g2,h2,by simp;omega,by simp⟩ (zae _))
     ·(simp only[go_sem,hD,hZ,gC,gD,ak aV,zag,zaf,zaj,encStr];try exact aQ)
     ·(simp only[go_sem,hD,hZ,gC,gD,ak aV,zag,zaf,zaj,encStr];repeat' (first|exact Ok.out|with_reducible refine ej ?_ ?_)))
 unfold Sm.ajN at hR
 rcases zaa (v.name != [])with b2|b2
 ·simp only [b2,if_true]at hR
  have b3:(v.name == [])=false:=by simpa using b2
  have gC:17≤aT:=by unfold aT;omega
  repeat' (first
 |simp only[go_sem,hD,hZ,gC,gD,b1,b2,b3,zav]
 |(with_reducible refine CU (ti _) ?_)
 |(with_reducible refine aX hQ ?_;exact bK))
  refine dg 2 1 (ajP (v.args,0,[v.name],1) ⟨rfl,hR,zak _,rfl⟩)
 ·simp only [b2,zab,if_false]at hR
  have b3:(v.name == [])=true:=by simpa using b2
  repeat' (first
 |simp only[go_sem,hD,hZ,gC,gD,b1,b2,b3,zav]
 |(with_reducible refine CU (ti _) ?_)
 |(with_reducible refine aX hQ ?_;exact bK))
  refine aJ.lA 5 1 rfl ?_
  simp only[go_sem,hD,hZ,gC,gD]
  refine dg 2 1 (ajP (v.args,0,[],0) ⟨rfl,hR,zaA _,rfl⟩)
def GQ (p:Pg):List Sm→Option Sm
 | []=>none
 |v::l=>if v.kind==4 && !(v.yU p)then some v else GQ p l
theorem ajQ {p:Pg} (h:p.gb) (kL:(p.scope.1==0)=true) (s:St):ay Tryz.prog 77 [.agg (bG p)] s (.agg [.int .i64 (jt 8 (GQ p p.pre)).1, .int .i64 (jt 8 (GQ p p.pre)).2]) s:=by
 refine ay.pure ?_ (by simp[D.bJ,D.ok,fW]) rfl s
 obtain⟨nX,oE,mB⟩:=h.procs
 have pg:=fun s=>NH (p:=p) (by omega) s
 have hL:=(se (oI kL)).2
 have sQ:=(vJ (oI kL)).1
 generalize hR:jt 8 (GQ p p.pre)=R
 rw[← hL]at hR
 unfold S0
 refine ay.go F8.h rfl fun B Q hB hQ=>?_
 have⟨hD,hZ,gC,gD⟩:=bc
 repeat' (first
 |simp only[go_sem,hD,hZ,gC,gD]
 |(with_reducible refine CU (pg _) ?_)
 |(with_reducible refine aX hQ ?_;exact bK))
 refine dg 2 0 (aJ.ind (ι:=List It×Nat) (fun i=>p.all.drop i.2=i.1∧jt 8 (GQ p (i.1.map It.s))=R) (fun i=>i.1.length)
  (fun i=> [(1, .ptr 0 0),(2, .ptr 1 0),(6, .slice .shared 16 (p.all.map du)),(7, .int .i64 (p.all.length:Int)),(8, .int .i64 (i.2:Int))]) (fun i=>⟨[bG p,[.int .i64 0, .int .i64 0]],[]⟩) ?_ (p.all,0) ⟨rfl,hR⟩)
 clear hR
 rintro⟨rest,k⟩ ⟨h1,hR⟩ IH
 dsimp only at h1 hR
 cases rest with
 |nil=>
  have hD:=drop_nil h1
  simp only[zaj,GQ,jt]at hR
  subst hR
  exact dR trivial
 | cons a rest=>
  obtain⟨hZ,g2,hD,g4⟩:=drop_cons h1
  have aV:k<4611686018427387904:=by omega
  have yR:a.s∈p.pre:=by rw[← hL];exact zbb (zad hZ)
  have B6:=fun s=>acs h kL (h.pre _ yR) s
  simp only[zaf,GQ]at hR
  rcases zaa (a.s.kind==4)with c1|c1
  ·rcases zaa (a.s.yU p)with c2 | c2
   ·simp only [c1,c2,zav,zbp,zab,if_false]at hR
    repeat' (first
 |simp only[go_sem,hD,hZ,gC,gD,c1,c2]
 |(with_reducible refine CU (B6 _) ?_)
 | (with_reducible refine aX hQ ?_;exact bK))
    refine cr 2 0 ?_ ?_ (IH (rest,k+1) ⟨g2,hR⟩ (zae _))
    ·(simp only[go_sem,hD,hZ,gC,gD,ak aV];try exact aQ)
    ·(simp only[go_sem,hD,hZ,gC,gD,ak aV];try exact aQ)
   ·simp only [c1,c2,zax,zbz,if_true,jt]at hR
    subst hR
    exact pT (eK c1 c2) B6 gQ
  ·simp only [c1,zaN,zab,if_false]at hR
   refine XT c1 B6 ?_
   refine cr 2 0 ?_ ?_ (IH (rest,k+1) ⟨g2,hR⟩ (zae _))
   ·(simp only[go_sem,hD,hZ,gC,gD,ak aV];try exact aQ)
   ·(simp only[go_sem,hD,hZ,gC,gD,ak aV];try exact aQ)
theorem agz {p:Pg} (hm:p.may=true) (gT : ∀ v∈p.pre,(v.kind==4)=true→v.mC p=true):GQ p p.pre=Jt p p.pre:=by
 have ig:=Cd hm
 generalize p.pre=l at *
 induction l with
 |nil=>rfl
 |cons v l ih=>
  simp only[GQ,Jt]
  rw[Qe (ig v (zaz ..))]
  rw[ih (fun w m=>gT w (zan _ m)) (fun w m=>ig w (zan _ m))]
  cases hk:(v.kind==4)
  ·rfl
  ·rw[gT v (zaz ..) hk];rfl
def rd0 (l:List s7):Rd:=⟨l,0,0,0,0⟩
def atz (m:Nat) (text:aD):Option (Pg×Int×Int):=
 if(BX text).2.1 != 0 then some (pg0,(BX text).2)
 else(Rd.program m (rd0 (BX text).1)).bind fun p=>if p.2.code != 0 then some (pg0,p.2.code,p.2.O4)else(p.1.af4).bind fun q=>some (q,0,0)
def auY (m:Nat) (text:aD):Option (Ex×Int×Int):=
 if(BX text).2.1 != 0 then some (sM,(BX text).2)
 else(Rd.whole m (rd0 (BX text).1)).bind fun x=>x.2.X6.bind fun b=>
  if b then(x.2.bad 3).bind fun r=>if !r.good then some (sM,r.code,r.O4)else some (x.1,0,0)
  else if !x.2.good then some (sM,x.2.code,x.2.O4)else some (x.1,0,0)
def ajR (n k:Int):Int:=if Int.tmod n k<0 then Int.tmod n k+k else Int.tmod n k
def ank (t:aD):Nat→aD
 | 0=> []
 |n+1=>ank t n++t
def two (i:Nat):aD:= [UInt8.ofNat (48+i / 10),UInt8.ofNat (48+i % 10)]
def ajS (ahead:aD):Nat→aD
 | 0=> []
 |n+1=>(if n=0 then ajS ahead n else ajS ahead n++ [44])++(ahead++ [97]++two n)
def ajT:Nat→aD
 | 0=> []
 |n+1=>ajT n++([112,114,111,99,32,112]++two n++ [40,41,123,125])
def p8 (k:Int):List It→List Int
 | []=> []
 |i::l=>if k==0 ||i.s.kind==k then i.s.id::p8 k l else p8 k l
theorem yV (k:Int) : ∀ l,(p8 k l).length≤l.length
 | []=>zak _
 |i::l=>by
  have:=yV k l
  simp only[p8]
  split<;>simp<;>omega
theorem VY {p:Pg} (hs:Pc.bB p.procs<4611686018427387000) (sQ:p.all.length≤1000) (kd:Int) (s:St):ay Tryz.prog 10 [.agg (bG p), .int .i64 kd] s (.slice .shared 1 ((p8 kd p.all).map bl)) s:=by
 refine ay.pure ?_ (by simp[D.bJ,D.ok,fW]) (by simp only[D.ok,Tag.ok,gY];rfl) s
 have pg:=fun s=>NH hs s
 obtain⟨R,hR⟩ : ∃ R,p8 kd p.all=R:=⟨_,rfl⟩
 rw[hR]
 have PZ:R.length≤1000:=by rw[← hR];exact zaZ (yV kd p.all) sQ
 unfold S0
 refine ay.go O5.h rfl fun B Q hB hQ=>?_
 have⟨hD,hZ,gC,gD⟩:=bc
 repeat' (first
 |simp only[go_sem,hD,hZ,gC,gD]
 |(with_reducible refine CU (pg _) ?_)
 |(with_reducible refine aX hQ ?_;exact bK))
 refine aJ.lA 5 1 rfl ?_
 simp only[go_sem,hD,hZ,gC,gD]
 refine dg 1 1 (aJ.ind (ι:=List It×Nat×List Int×Nat) (fun i=>p.all.drop i.2.1=i.1∧i.2.2.1++p8 kd i.1=R∧i.2.2.2=i.2.2.1.length) (fun i=>i.1.length)
  (fun i=> [(1, .int .i64 kd),(2, .ptr 0 0),(5, .slice (.tok 0) 1 (i.2.2.1.map bl)),(9, .slice .shared 16 (p.all.map du)),(10, .int .i64 (p.all.length:Int)),(11, .int .i64 (i.2.1:Int))]) (fun i=>⟨[bG p],[some i.2.2.2]⟩) ?_ (p.all,0,[],0) ⟨rfl,hR,rfl⟩)
 clear hR
 rintro⟨rest,k,out,n'⟩ ⟨h1,h2,h3⟩ IH
 dsimp only at h1 h2 h3
 subst h3
 have kg:out.length≤1000:=by have:=congrArg List.length h2;rw[zal]at this;omega
 cases rest with
 |nil=>
  have hD:=drop_nil h1
  simp only[p8,zaF]at h2
  subst h2
  exact dR trivial
 | cons a rest=>
  obtain⟨hZ,g2,hD,g4⟩:=drop_cons h1
  have aV:k<4611686018427387904:=by omega
  have gC:(out.length+1)*9≤aT:=by unfold aT;omega
  simp only[p8]at h2
  rcases zaa (kd==0)with c1|c1
  ·simp only [c1,zbk,if_true]at h2
   refine bT c1 ?_
   refine cr 1 1 ?_ ?_ (IH (rest,k+1,out++ [a.s.id],out.length+1) ⟨g2,by rw[← h2];simp,by simp⟩ (zae _))
   ·(simp only[go_sem,hD,hZ,gC,gD,ak aV,zag,zaf,zaj,bl];try exact aQ)
   ·(simp only[go_sem,hD,hZ,gC,gD,ak aV,zag,zaf,zaj,bl];try exact aQ)
  rcases zaa (a.s.kind==kd)with c2|c2
  ·simp only [c1,c2,zbI,if_true]at h2
   refine bT (eK c1 c2) ?_
   refine cr 1 1 ?_ ?_ (IH (rest,k+1,out++ [a.s.id],out.length+1) ⟨g2,by rw[← h2];simp,by simp⟩ (zae _))
   ·(simp only[go_sem,hD,hZ,gC,gD,ak aV,zag,zaf,zaj,bl];try exact aQ)
   ·(simp only[go_sem,hD,hZ,gC,gD,ak aV,zag,zaf,zaj,bl];try exact aQ)
  ·simp only [c1,c2,zb3,zab,if_false]at h2
   refine bT (eK c1 c2) ?_
   refine cr 1 1 ?_ ?_ (IH (rest,k+1,out,_) ⟨g2,h2,rfl⟩ (zae _))
   ·(simp only[go_sem,hD,hZ,gC,gD,ak aV];try exact aQ)
   ·(simp only[go_sem,hD,hZ,gC,gD,ak aV];try exact aQ)
def auZ (l:List Int) (n:Int):Int:=match l[(ajR n l.length).toNat]? with|some x=>x|none=>0
def aew (id:Int):List It→Option It
 | []=>none
 |i::l=>if i.s.id==id then some i else aew id l
def aex (id:Int):List Pc→Option (It×aD)
 | []=>none
 |f::l=>match aew id f.flat with|some i=>some (i,f.name)|none=>aex id l
def it0:It:=⟨LU,0,0,false⟩
def aqN (r:Option (It×aD)):D:=match r with
 |some (i,nm)=> .tuple [.agg (du i), .str nm, .bool true]
 |none=> .tuple [.agg (du it0), .str [], .bool false]
theorem ajV:du it0 = [.int .i64 0, .int .i64 0, .slice .shared 1 [], .str [], .str [], .int .i64 0, .int .i64 0, .str [], .slice .shared 4 [], .bool false, .slice .shared 6 [], .slice .shared 13 [], .slice .shared 13 [], .int .i64 0, .int .i64 0, .bool false]:=nd rfl
def Pg.au0 (p:Pg) (id:Int):Sm:=match aex id p.procs with|some (i,_)=>i.s|none=>LU
def dw (t:aD) (n:Int):Int:=if n > 20000 then 20001 else if(t.length:Int)≥20000 - n then 20001 else n+1+t.length
mutual
def fO:Ex→Int→Int
 |⟨_,_,name,kids⟩,n=>p9 kids (dw name n)
def p9:List Ex→Int→Int
 | [],n=>n
 |x::l,n=>if n≤20000 then p9 l (fO x n)else n
end
theorem oM {t:aD} {n:Int} (h0:0≤n):dw t n≤20001∧(n≤20000→n+1≤dw t n)∧0≤dw t n∧(dw t n≤20000→n+1+t.length=dw t n):=by
 unfold dw;split
 ·omega
 ·split<;>omega
theorem yW : ∀ (m:Nat) (x:Ex),x.size≤m→∀ n:Int,0≤n→fO x n≤20001∧(n≤20000→n+1≤fO x n)∧0≤fO x n∧(fO x n≤20000→(x.size:Int)+1≤2*(fO x n - n)∧x.texts):=by
 intro m
 induction m with
 |zero=>rintro⟨op,v,name,kids⟩ h;simp only[Ex.size]at h;omega
 | succ m ih=>
  rintro⟨op,v,name,kids⟩ h n h0
  simp only[Ex.size]at h
  obtain⟨t1,t2,t3,t4⟩:=oM (t:=name) h0
  have go : ∀ (l:List Ex),Ex.bB l≤m→∀ c:Int,0≤c→c≤20001→p9 l c≤20001∧c≤p9 l c∧(p9 l c≤20000→(Ex.bB l:Int)≤2*(p9 l c - c)∧Ex.yJ l):=by
   intro l
   induction l with
   |nil=>intro _ c h0 h1;simp only[p9,Ex.bB];exact⟨h1,zbc _,fun _=>⟨by omega,trivial⟩⟩
   | cons y l YS=>
    intro hs c h0 h1
    simp only[Ex.bB]at hs ⊢
    simp only[p9]
    split
    ·rename_i hc
     obtain⟨a1,a2,a3,a4⟩:=ih y (by omega) c h0
     obtain⟨b1,b2,b3⟩:=YS (by omega) (fO y c) a3 a1
     have:=a2 hc
     refine⟨b1,by omega,fun hw=>?_⟩
     obtain⟨c1,c2⟩:=b3 hw
     obtain⟨d1,d2⟩:=a4 (by omega)
     exact⟨by omega,d2,c2⟩
    ·exact⟨h1,zbc _,fun hw=>by omega⟩
  obtain⟨g1,g2,g3⟩:=go kids (by omega) (dw name n) t3 t1
  simp only[fO,Ex.size]
  refine⟨g1,fun hn=>by have:=t2 hn;omega,by omega,fun hw=>?_⟩
  obtain⟨k1,k2⟩:=g3 hw
  have:=t4 (by omega)
  exact⟨by omega,by omega,k2⟩
theorem tY (t:aD) {n:Int} (h0:0≤n) (h1:n≤20001) (s:St):ay Tryz.prog 18 [.str t, .int .i64 n] s (.int .i64 (dw t n)) s:=by
 refine ay.pure ?_ rfl rfl s
 unfold S0
 have w1:IntKind.wrap .i64 (20000 - n)=20000 - n:=dE (by omega) (by omega)
 have w2:IntKind.wrap .i64 (n+1)=n+1:=dE (by omega) (by omega)
 by_cases c:n > 20000
 ·have c1:decide (n > 20000)=true:=by simp;omega
  have e:dw t n=20001:=by simp[dw,c]
  rw[e]
  refine ay.go rV.h rfl fun B Q hB hQ=>?_
  have⟨hD,hZ,gC,gD⟩:=bc
  exact dR (ly c1 w1 w2)
 ·have c1:decide (n > 20000)=false:=by simp;omega
  by_cases d:(t.length:Int)≥20000 - n
  ·have d1:decide ((t.length:Int)≥20000 - n)=true:=by simp;omega
   have e:dw t n=20001:=by unfold dw;rw[if_neg c,if_pos d]
   rw[e]
   refine ay.go rV.h rfl fun B Q hB hQ=>?_
   have⟨hD,hZ,gC,gD⟩:=bc
   exact dR (ql c1 d1 w1 w2)
  ·have d1:decide ((t.length:Int)≥20000 - n)=false:=by simp;omega
   have e:dw t n=n+1+t.length:=by unfold dw;rw[if_neg c,if_neg d]
   have w3:IntKind.wrap .i64 (n+1+t.length)=n+1+t.length:=dE (by omega) (by omega)
   rw[e]
   refine ay.go rV.h rfl fun B Q hB hQ=>?_
   have⟨hD,hZ,gC,gD⟩:=bc
   exact dR (um c1 d1 w1 w2 w3)
theorem Qf : ∀ (m:Nat) (x:Ex),x.size≤m→∀ {n:Int},0≤n→n≤20000→∀ s:St,ay Tryz.prog 40 [.agg (bQ x), .int .i64 n] s (.int .i64 (fO x n)) s:=by
 intro m
 induction m with
 |zero=>rintro⟨op,v,name,kids⟩ h;simp only[Ex.size]at h;omega
 |succ m ih=>
  rintro⟨op,v,name,kids⟩ dJ n h0 h1 s
  refine ay.pure ?_ (by simp[D.bJ,D.ok,je]) rfl s
  simp only[Ex.size]at dJ
  have hk : ∀ y∈kids,∀ {n:Int},0≤n→n≤20000→∀ s:St,ay Tryz.prog 40 [.agg (bQ y), .int .i64 n] s (.int .i64 (fO y n)) s:=fun y hy=>ih y (by have:=Ex.cb hy;omega)
  have ht:=fun s=>tY name h0 (by omega) s
  obtain⟨t1,t2,t3,t4⟩:=oM (t:=name) h0
  unfold S0
  generalize h:fO ⟨op,v,name,kids⟩ n=p
  simp only[fO]at h
  refine ay.go EC.h rfl fun B Q hB hQ=>?_
  have⟨hD,hZ,gC,gD⟩:=bc
  repeat' (first
 |simp only[go_sem,hD,hZ,gC,gD]
 |(with_reducible refine CU (ht _) ?_)
 |(with_reducible first|refine fv fun hc=>?_|refine fw fun hc=>?_|refine fx (fun hc=>?_) fun hc=>?_)<;>(try simp only[hc,bs,↓reduceIte]at h)<;>try simp only[hc]
 | ((with_reducible refine aX hQ ?_);exact oA))
  refine dg 1 0 (aJ.ind (ι:=List Ex×Nat×Int) (fun i=>kids.drop i.2.1=i.1∧p9 i.1 i.2.2=p∧(i.2.1:Int)≤i.2.2∧i.2.2≤20001) (fun i=>i.1.length)
   (fun i=> [(1, .int .i64 i.2.2),(2, .ptr 0 0),(5, .int .i64 (i.2.1:Int))]) (fun i=>⟨[bQ ⟨op,v,name,kids⟩],[]⟩) ?_ (kids,0,dw name n) ⟨rfl,h,t3,t1⟩)
  rintro⟨rest,k,c⟩ ⟨g1,h,g3,g4⟩ IH
  dsimp only at g1 h g3 g4
  cases rest with
  |nil=>
   have hD:=drop_nil g1
   simp only[p9]at h
   exact iX trivial
  | cons y rest=>
   obtain⟨hZ,g2,hD,g5⟩:=drop_cons g1
   simp only[p9]at h
   by_cases hc:c≤20000
   ·have c1:decide (c≤20000)=true:=by simp;omega
    have hy:=fun s=>hk y (zad hZ) (n:=c) (by omega) hc s
    obtain⟨a1,a2,a3,a4⟩:=yW _ y (zak _) c (by omega)
    have:=a2 hc
    have w3:IntKind.wrap .i64 ((k:Int)+1)=((k+1:Nat):Int):=by rw[dE]<;>omega
    rw[if_pos hc]at h
    repeat' (first
 |simp only[go_sem,hD,hZ,gC,gD,c1,w3]
 |(with_reducible refine CU (hy _) ?_)
 |(with_reducible first|refine fv fun hc=>?_|refine fw fun hc=>?_|refine fx (fun hc=>?_) fun hc=>?_)<;>(try simp only[hc,bs,↓reduceIte]at h)<;>try simp only[hc]
 | ((with_reducible refine aX hQ ?_);(try cases h);simp only [bZ,cd,dn,dq,go_sem,hD,hZ,gC,gD,c1,w3];try exact kI))
    refine dg 1 0 (IH (rest,k+1,fO y c) ⟨g2,h,by dsimp only;omega,a1⟩ (zae _))
   ·have c1:decide (c≤20000)=false:=by simp;omega
    rw[if_neg hc]at h
    exact iX c1
def er:List aD→Int→Int
 | [],n=>n
 |t::l,n=>if n≤20000 then er l (dw t n)else n
def kj:List Ar→Int→Int
 | [],n=>n
 |a::l,n=>if n≤20000 then kj l (dw a.name (fO a.x n))else n
def mD:List Pm→Int→Int
 | [],n=>n
 |a::l,n=>if n≤20000 then mD l (dw a.name n)else n
mutual
def u9:Sm→Int→Int
 |⟨_,_,labels,name,proc,x,_,args,aY,aH⟩,n=>gH aH (gH aY (kj args (dw proc (dw name (er labels (fO x n))))))
def gH:List Sm→Int→Int
 | [],n=>n
 |s::l,n=>if n≤20000 then gH l (u9 s n)else n
end
theorem YX (s:Sm) (n:Int):u9 s n=gH s.aH (gH s.aY (kj s.args (dw s.proc (dw s.name (er s.labels (fO s.x n)))))):=by cases s;simp only[u9]
def w6 (f:Pc) (n:Int):Int:=gH f.body (mD f.params (er f.fin (er f.vars (dw f.name n))))
def qa:List Pc→Int→Int
 | [],n=>n
 |f::l,n=>if n≤20000 then qa l (w6 f n)else n
def Pg.FQ (p:Pg):Int:=qa p.procs (er p.globals 0)
theorem mX : ∀ (l:List aD) {n:Int},0≤n→n≤20001→er l n≤20001∧n≤er l n∧(er l n≤20000→n+l.length≤er l n∧∀ t∈l,t.length<4611686018427387904)
 | [],n,h0,h1=>by simp only[er];exact⟨h1,zbc _,fun _=>⟨by simp,by simp⟩⟩
 | t::l,n,h0,h1=>by
  simp only[er]
  split
  ·rename_i hc
   obtain⟨a1,a2,a3,a4⟩:=oM (t:=t) h0
   obtain⟨b1,b2,b3⟩:=mX l (n:=dw t n) a3 a1
   have:=a2 hc
   refine⟨b1,by omega,fun hw=>?_⟩
   obtain⟨c1,c2⟩:=b3 hw
   have:=a4 (by omega)
   refine⟨by simp only[zas];omega,fun s m=>?_⟩
   rcases zaq.1 m with rfl|m
   ·omega
   ·exact c2 s m
  ·exact⟨h1,zbc _,fun hw=>by omega⟩
theorem C8 : ∀ (l:List Pm) {n:Int},0≤n→n≤20001→mD l n≤20001∧n≤mD l n∧(mD l n≤20000→n+l.length≤mD l n∧∀ t∈l,t.name.length<4611686018427387904)
 | [],n,h0,h1=>by simp only[mD];exact⟨h1,zbc _,fun _=>⟨by simp,by simp⟩⟩
 | t::l,n,h0,h1=>by
  simp only[mD]
  split
  ·rename_i hc
   obtain⟨a1,a2,a3,a4⟩:=oM (t:=t.name) h0
   obtain⟨b1,b2,b3⟩:=C8 l (n:=dw t.name n) a3 a1
   have:=a2 hc
   refine⟨b1,by omega,fun hw=>?_⟩
   obtain⟨c1,c2⟩:=b3 hw
   have:=a4 (by omega)
   refine⟨by simp only[zas];omega,fun s m=>?_⟩
   rcases zaq.1 m with rfl|m
   ·omega
   ·exact c2 s m
  ·exact⟨h1,zbc _,fun hw=>by omega⟩
theorem C9 : ∀ (l:List Ar) {n:Int},0≤n→n≤20001→kj l n≤20001∧n≤kj l n∧
 (kj l n≤20000→(Ar.bB l:Int)≤2*(kj l n - n)∧∀ a∈l,a.x.size<4611686018427387904∧a.x.texts∧a.name.length<4611686018427387904)
 | [],n,h0,h1=>by simp only[kj];exact⟨h1,zbc _,fun _=>⟨by simp[Ar.bB],by simp⟩⟩
 | a::l,n,h0,h1=>by
  simp only[kj]
  split
  ·rename_i hc
   obtain⟨a1,a2,a3,a4⟩:=yW _ a.x (zak _) n h0
   obtain⟨e1,e2,e3,e4⟩:=oM (t:=a.name) a3
   obtain⟨b1,b2,b3⟩:=C9 l (n:=dw a.name (fO a.x n)) e3 e1
   have:=a2 hc
   have:fO a.x n≤dw a.name (fO a.x n):=by
    by_cases h:fO a.x n≤20000
    ·have:=e2 h;omega
    ·have:dw a.name (fO a.x n)=20001:=by unfold dw;rw [if_pos (by omega)]
     omega
   refine⟨b1,by omega,fun hw=>?_⟩
   obtain⟨c1,c2⟩:=b3 hw
   have:=e4 (by omega)
   obtain⟨d1,d2⟩:=a4 (by omega)
   refine⟨by simp only[Ar.bB];omega,fun s m=>?_⟩
   rcases zaq.1 m with rfl|m
   ·exact⟨by omega,d2,by omega⟩
   ·exact c2 s m
  ·exact⟨h1,zbc _,fun hw=>by omega⟩
theorem nq {t:aD} {n:Int} (h0:0≤n) (h1:n≤20001):n≤dw t n∧dw t n≤20001∧(dw t n≤20000→n+1≤dw t n∧t.length<4611686018427387904):=by
 obtain⟨e1,e2,e3,e4⟩:=oM (t:=t) h0
 by_cases h:n≤20000
 ·have:=e2 h
  exact⟨by omega,e1,fun hw=>⟨by omega,by have:=e4 hw;omega⟩⟩
 ·have:dw t n=20001:=by unfold dw;rw [if_pos (by omega)]
  exact⟨by omega,e1,fun hw=>by omega⟩
mutual
theorem My : ∀ (s:Sm) {n:Int},0≤n→n≤20000→u9 s n≤20001∧n+1≤u9 s n∧(u9 s n≤20000→(s.size:Int)+1≤2*(u9 s n - n)∧s.wx)
 |⟨id,kind,labels,name,proc,x,has,args,aY,aH⟩,n,h0,h1=>by
  obtain⟨a1,a2,a3,a4⟩:=yW _ x (zak _) n h0
  have a2:=a2 h1
  obtain⟨b1,b2,b3⟩:=mX labels a3 a1
  obtain⟨c1,c2,c3⟩:=nq (t:=name) (n:=er labels (fO x n)) (by omega) b1
  obtain⟨d1,d2,d3⟩:=nq (t:=proc) (n:=dw name (er labels (fO x n))) (by omega) c2
  obtain⟨e1,e2,e3⟩:=C9 args (n:=dw proc (dw name (er labels (fO x n)))) (by omega) d2
  obtain⟨f1,f2,f3⟩:=va aY (n:=kj args (dw proc (dw name (er labels (fO x n))))) (by omega) e1
  obtain⟨g1,g2,g3⟩:=va aH (n:=gH aY (kj args (dw proc (dw name (er labels (fO x n)))))) (by omega) f1
  simp only[u9,Sm.size]
  refine⟨g1,by omega,fun hw=>?_⟩
  obtain⟨g4,g5⟩:=g3 hw
  obtain⟨f4,f5⟩:=f3 (by omega)
  obtain⟨e4,e5⟩:=e3 (by omega)
  obtain⟨d4,d5⟩:=d3 (by omega)
  obtain⟨c4,c5⟩:=c3 (by omega)
  obtain⟨b4,b5⟩:=b3 (by omega)
  obtain⟨a5,a6⟩:=a4 (by omega)
  have:=Ar.dk args
  refine⟨by omega, ?_⟩
  rw[HD]
  exact⟨⟨b5,by dsimp only;omega,c5,d5,by dsimp only;omega,a6,by dsimp only;omega,e5⟩,f5,g5⟩
theorem va : ∀ (l:List Sm) {n:Int},0≤n→n≤20001→gH l n≤20001∧n≤gH l n∧(gH l n≤20000→(Sm.bB l:Int)≤2*(gH l n - n)∧Sm.kK l)
 | [],n,h0,h1=>by simp only[gH];exact⟨h1,zbc _,fun _=>⟨by simp[Sm.bB],by simp only[Sm.kK]⟩⟩
 | s::l,n,h0,h1=>by
  simp only[gH]
  split
  ·rename_i hc
   obtain⟨a1,a2,a3⟩:=My s h0 hc
   obtain⟨b1,b2,b3⟩:=va l (n:=u9 s n) (by omega) a1
   refine⟨b1,by omega,fun hw=>?_⟩
   obtain⟨c1,c2⟩:=b3 hw
   obtain⟨d1,d2⟩:=a3 (by omega)
   exact⟨by simp only[Sm.bB];omega,d2,c2⟩
  ·exact⟨h1,zbc _,fun hw=>by omega⟩
end
theorem Mz (f:Pc) {n:Int} (h0:0≤n) (h1:n≤20000):w6 f n≤20001∧n+1≤w6 f n∧(w6 f n≤20000→(f.size:Int)+1≤2*(w6 f n - n)∧
 (f.name.length<4611686018427387904∧(∀ t∈f.vars,t.length<4611686018427387904)∧(∀ t∈f.fin,t.length<4611686018427387904)∧∀ a∈f.params,a.name.length<4611686018427387904)∧Sm.kK f.body):=by
 obtain⟨c1,c2,c3⟩:=nq (t:=f.name) h0 (by omega:n≤20001)
 have c4:=(oM (t:=f.name) h0).2.1 h1
 obtain⟨d1,d2,d3⟩:=mX f.vars (n:=dw f.name n) (by omega) c2
 obtain⟨e1,e2,e3⟩:=mX f.fin (n:=er f.vars (dw f.name n)) (by omega) d1
 obtain⟨g1,g2,g3⟩:=C8 f.params (n:=er f.fin (er f.vars (dw f.name n))) (by omega) e1
 obtain⟨k1,k2,k3⟩:=va f.body (n:=mD f.params (er f.fin (er f.vars (dw f.name n)))) (by omega) g1
 unfold w6 Pc.size
 refine⟨k1,by omega,fun hw=>?_⟩
 obtain⟨k4,k5⟩:=k3 hw
 obtain⟨g4,g5⟩:=g3 (by omega)
 obtain⟨e4,e5⟩:=e3 (by omega)
 obtain⟨d4,d5⟩:=d3 (by omega)
 obtain⟨_,c5⟩:=c3 (by omega)
 exact⟨by omega,⟨c5,d5,e5,g5⟩,k5⟩
theorem Jv : ∀ (l:List Pc) {n:Int},0≤n→n≤20001→qa l n≤20001∧n≤qa l n∧(qa l n≤20000→(Pc.bB l:Int)≤2*(qa l n - n)∧∀ f∈l,
 (f.name.length<4611686018427387904∧(∀ t∈f.vars,t.length<4611686018427387904)∧(∀ t∈f.fin,t.length<4611686018427387904)∧∀ a∈f.params,a.name.length<4611686018427387904)∧Sm.kK f.body)
 | [],n,h0,h1=>by simp only[qa];exact⟨h1,zbc _,fun _=>⟨by simp[Pc.bB],by simp⟩⟩
 | f::l,n,h0,h1=>by
  simp only[qa]
  split
  ·rename_i hc
   obtain⟨a1,a2,a3⟩:=Mz f h0 hc
   obtain⟨b1,b2,b3⟩:=Jv l (n:=w6 f n) (by omega) a1
   refine⟨b1,by omega,fun hw=>?_⟩
   obtain⟨c1,c2⟩:=b3 hw
   obtain⟨d1,d2⟩:=a3 (by omega)
   refine⟨by simp only[Pc.bB];omega,fun s m=>?_⟩
   rcases zaq.1 m with rfl|m
   ·exact d2
   ·exact c2 s m
  ·exact⟨h1,zbc _,fun hw=>by omega⟩
theorem VZ {p:Pg} (h:p.FQ≤20000):p.size≤40001∧p.Jd:=by
 unfold Pg.FQ at h
 obtain⟨a1,a2,a3⟩:=mX p.globals (n:=0) (by omega) (by omega)
 obtain⟨b1,b2,b3⟩:=Jv p.procs (n:=er p.globals 0) (by omega) a1
 obtain⟨c1,c2⟩:=b3 h
 obtain⟨d1,d2⟩:=a3 (by omega)
 have:p.size≤40001:=by unfold Pg.size;omega
 exact⟨this,by omega,d2,fun f m=>(c2 f m).1,fun f m=>(c2 f m).2⟩
theorem Al {l:List aD} {n:Int} (h0:0≤n) (h1:n≤20001) (s:St):ay Tryz.prog 17 [.slice .shared 1 (l.map encStr), .int .i64 n] s (.int .i64 (er l n)) s:=by
 refine ay.pure ?_ (by simp[D.bJ,D.ok,dv,Tag.ok]) rfl s
 unfold S0
 generalize h:er l n=p
 refine ay.go DS.h rfl fun B Q hB hQ=>?_
 have⟨hD,hZ,gC,gD⟩:=bc
 refine bT trivial ?_
 refine dg 0 0 (aJ.ind (ι:=List aD×Nat×Int) (fun i=>l.drop i.2.1=i.1∧er i.1 i.2.2=p∧(i.2.1:Int)≤i.2.2∧i.2.2≤20001) (fun i=>i.1.length)
  (fun i=> [(0, .slice .shared 1 (l.map encStr)),(1, .int .i64 i.2.2),(5, .int .i64 (i.2.1:Int))]) (fun i=>⟨[],[]⟩) ?_ (l,0,n) ⟨rfl,h,h0,h1⟩)
 rintro⟨rest,k,c⟩ ⟨g1,h,g3,g4⟩ IH
 dsimp only at g1 h g3 g4
 cases rest with
 |nil=>
  have hD:=drop_nil g1
  simp only[er]at h
  subst h
  exact dR trivial
 | cons y rest=>
  obtain⟨hZ,g2,hD,g5⟩:=drop_cons g1
  simp only[er]at h
  by_cases hc:c≤20000
  ·have c1:decide (c≤20000)=true:=by simp;omega
   have hy:=fun s=>tY y (n:=c) (by omega) g4 s
   obtain⟨a1,a2,a3,a4⟩:=oM (t:=y) (n:=c) (by omega)
   have:=a2 hc
   have w3:IntKind.wrap .i64 ((k:Int)+1)=((k+1:Nat):Int):=by rw[dE]<;>omega
   rw[if_pos hc]at h
   repeat' (first
 |simp only[go_sem,hD,hZ,gC,gD,c1,w3]
 |(with_reducible refine CU (hy _) ?_)
 | (with_reducible refine aX hQ ?_;exact bK))
   refine dg 0 0 (IH (rest,k+1,dw y c) ⟨g2,h,by dsimp only;omega,a1⟩ (zae _))
  ·have c1:decide (c≤20000)=false:=by simp;omega
   rw[if_neg hc]at h
   subst h
   exact dR c1
theorem YY : ∀ (m:Nat) (l:List Sm),Sm.bB l≤m→∀ {n:Int},0≤n→n≤20001→∀ s:St,ay Tryz.prog 19 [.slice .shared 13 (l.map aO), .int .i64 n] s (.int .i64 (gH l n)) s:=by
 intro m
 induction m with
 | zero=>
  intro l h n h0 h1 s
  cases l with
  |nil=>
   have z:decide ((0:Int)<0)=false:=rfl
   refine ay.pure ?_ (by simp[D.bJ,D.ok,D.jB,Tag.ok]) rfl s
   unfold S0
   simp only[gH]
   refine ay.go vx.h rfl fun B Q hB hQ=>?_
   have⟨hD,hZ,gC,gD⟩:=bc
   repeat' (first
 |simp only[go_sem,hD,hZ,gC,gD,z]
 |(with_reducible refine aJ.fl ?_)
 |(with_reducible refine aX hQ ?_;exact bK))
  |cons s l=>simp only[Sm.bB]at h;omega
 | succ m ih=>
  intro l h n h0 h1 s
  refine ay.pure ?_ (by simp[D.bJ,D.ok,pB,Tag.ok]) rfl s
  unfold S0
  generalize hp:gH l n=p
  refine ay.go vx.h rfl fun B Q hB hQ=>?_
  have⟨hD,hZ,gC,gD⟩:=bc
  refine bT trivial ?_
  refine dg 0 0 (aJ.ind (ι:=List Sm×Nat×Int) (fun i=>l.drop i.2.1=i.1∧gH i.1 i.2.2=p∧(i.2.1:Int)≤i.2.2∧i.2.2≤20001) (fun i=>i.1.length)
   (fun i=> [(0, .slice .shared 13 (l.map aO)),(1, .int .i64 i.2.2),(5, .int .i64 (i.2.1:Int))]) (fun i=>⟨[],[]⟩) ?_ (l,0,n) ⟨rfl,hp,h0,h1⟩)
  rintro⟨rest,k,c⟩ ⟨g1,hp,g3,g4⟩ IH
  dsimp only at g1 hp g3 g4
  cases rest with
  |nil=>
   have hD:=drop_nil g1
   simp only[gH]at hp
   subst hp
   exact dR trivial
  | cons y rest=>
   obtain⟨hZ,g2,hD,g5⟩:=drop_cons g1
   simp only[gH]at hp
   by_cases hc:c≤20000
   ·have c1:decide (c≤20000)=true:=by simp;omega
    have iJ:=zad hZ
    have dJ:=Sm.cb iJ
    have aac:s.ag.length≤s.ag.length∧Sm.bB y.aY<y.size∧Sm.bB y.aH<y.size:=by cases y;simp only[Sm.size];omega
    have w3:IntKind.wrap .i64 ((k:Int)+1)=((k+1:Nat):Int):=by rw[dE]<;>omega
    rw[if_pos hc]at hp
    obtain⟨a1,a2,a3,a4⟩:=yW _ y.x (zak _) c (by omega)
    have a2:=a2 hc
    obtain⟨b1,b2,b3⟩:=mX y.labels a3 a1
    obtain⟨c1',c2,c3⟩:=nq (t:=y.name) (n:=er y.labels (fO y.x c)) (by omega) b1
    obtain⟨d1,d2,d3⟩:=nq (t:=y.proc) (n:=dw y.name (er y.labels (fO y.x c))) (by omega) c2
    have eE:=fun s=>Qf _ y.x (zak _) (n:=c) (by omega) hc s
    have eL:=fun s=>Al (l:=y.labels) (n:=fO y.x c) (by omega) a1 s
    have eN:=fun s=>tY y.name (n:=er y.labels (fO y.x c)) (by omega) b1 s
    have eP:=fun s=>tY y.proc (n:=dw y.name (er y.labels (fO y.x c))) (by omega) c2 s
    obtain⟨r1,r2,r3⟩:=My y (n:=c) (by omega) hc
    rw[YX]at hp r1 r2
    generalize hC:dw y.proc (dw y.name (er y.labels (fO y.x c)))=C at *
    obtain⟨s1,s2,s3⟩:=C9 y.args (n:=C) (by omega) d2
    obtain⟨t1,t2,t3⟩:=va y.aY (n:=kj y.args C) (by omega) s1
    have eT:=fun s=>ih y.aY (by omega) (n:=kj y.args C) (by omega) s1 s
    have eS:=fun s=>ih y.aH (by omega) (n:=gH y.aY (kj y.args C)) (by omega) t1 s
    generalize hW:kj y.args C=W at *
    repeat' (first
 |simp only[go_sem,hD,hZ,gC,gD,c1,w3]
 |(with_reducible refine CU (eE _) ?_)
 |(with_reducible refine CU (eL _) ?_)
 |(with_reducible refine CU (eN _) ?_)
 |(with_reducible refine CU (eP _) ?_)
 | (with_reducible refine aX hQ ?_;exact bK))
    refine dg 1 0 (aJ.ind (ι:=List Ar×Nat×Int) (fun i=>y.args.drop i.2.1=i.1∧kj i.1 i.2.2=W∧(i.2.1:Int)≤i.2.2∧i.2.2≤20001) (fun i=>i.1.length)
     (fun i=> [(0, .slice .shared 13 (l.map aO)),(1, .int .i64 i.2.2),(5, .int .i64 (k:Int)),(6, .ptr 0 0),(7, .int .i64 (i.2.1:Int))]) (fun i=>⟨[aO y],[]⟩) ?_ (y.args,0,C) ⟨rfl,hW,by dsimp only;omega,d2⟩)
    rintro⟨ars,j,e⟩ ⟨k1,hw,k3,k4⟩ rZ
    dsimp only at k1 hw k3 k4
    cases ars with
    |nil=>
     have hD:=drop_nil k1
     simp only[kj]at hw
     subst hw
     repeat' (first
 |simp only[go_sem,hD,hZ,gC,gD,w3]
 |(with_reducible refine CU (eT _) ?_)
 |(with_reducible refine CU (eS _) ?_)
 | (with_reducible refine aX hQ ?_;exact bK))
     refine dg 0 0 (IH (rest,k+1,gH y.aH (gH y.aY e)) ⟨g2,hp,by dsimp only;omega,r1⟩ (zae _))
    | cons a ars=>
     obtain⟨hZ,k2,hD,k5⟩:=drop_cons k1
     simp only[kj]at hw
     by_cases he:e≤20000
     ·have e1:decide (e≤20000)=true:=by simp;omega
      have w4:IntKind.wrap .i64 ((j:Int)+1)=((j+1:Nat):Int):=by rw[dE]<;>omega
      rw[if_pos he]at hw
      obtain⟨u1,u2,u3,u4⟩:=yW _ a.x (zak _) e (by omega)
      have u2:=u2 he
      obtain⟨v1,v2,v3⟩:=nq (t:=a.name) (n:=fO a.x e) u3 u1
      have eX:=fun s=>Qf _ a.x (zak _) (n:=e) (by omega) he s
      have eM:=fun s=>tY a.name (n:=fO a.x e) u3 u1 s
      repeat' (first
 |simp only[go_sem,hD,hZ,gC,gD,e1,w4]
 |(with_reducible refine CU (eX _) ?_)
 |(with_reducible refine CU (eM _) ?_)
 |(with_reducible refine aX hQ ?_;exact bK))
      refine dg 1 0 (rZ (ars,j+1,dw a.name (fO a.x e)) ⟨k2,hw,by dsimp only;omega,v2⟩ (zae _))
     ·have e1:decide (e≤20000)=false:=by simp;omega
      rw[if_neg he]at hw
      subst hw
      repeat' (first
 |simp only[go_sem,hD,hZ,gC,gD,e1,w3]
 |(with_reducible refine CU (eT _) ?_)
 |(with_reducible refine CU (eS _) ?_)
 | (with_reducible refine aX hQ ?_;exact bK))
      refine dg 0 0 (IH (rest,k+1,gH y.aH (gH y.aY e)) ⟨g2,hp,by dsimp only;omega,r1⟩ (zae _))
   ·have c1:decide (c≤20000)=false:=by simp;omega
    rw[if_neg hc]at hp
    subst hp
    exact dR c1
theorem ajY (p:Pg) (s:St):ay Tryz.prog 5 [.agg (bG p)] s (.bool (decide (p.FQ≤20000))) s:=by
 refine ay.pure ?_ (by simp only[D.bJ,D.ok,fW];rfl) rfl s
 unfold S0
 generalize hp:p.FQ=W
 unfold Pg.FQ at hp
 obtain⟨a1,a2,a3⟩:=mX p.globals (n:=0) (by omega) (by omega)
 have eG:=fun s=>Al (l:=p.globals) (n:=0) (by omega) (by omega) s
 refine ay.go MV.h rfl fun B Q hB hQ=>?_
 have⟨hD,hZ,gC,gD⟩:=bc
 repeat' (first
 |simp only[go_sem,hD,hZ,gC,gD]
 |(with_reducible refine CU (eG _) ?_)
 |(with_reducible refine aX hQ ?_;exact bK))
 refine dg 1 0 (aJ.ind (ι:=List Pc×Nat×Int) (fun i=>p.procs.drop i.2.1=i.1∧qa i.1 i.2.2=W∧(i.2.1:Int)≤i.2.2∧i.2.2≤20001) (fun i=>i.1.length)
  (fun i=> [(1, .ptr 0 0),(3, .int .i64 i.2.2),(4, .int .i64 (i.2.1:Int))]) (fun i=>⟨[bG p],[]⟩) ?_ (p.procs,0,er p.globals 0) ⟨rfl,hp,a2,a1⟩)
 rintro⟨rest,k,c⟩ ⟨g1,hp,g3,g4⟩ IH
 dsimp only at g1 hp g3 g4
 cases rest with
 |nil=>
  have hD:=drop_nil g1
  simp only[qa]at hp
  subst hp
  exact dR trivial
 | cons f rest=>
  obtain⟨hZ,g2,hD,g5⟩:=drop_cons g1
  simp only[qa]at hp
  by_cases hc:c≤20000
  ·have c1:decide (c≤20000)=true:=by simp;omega
   have w3:IntKind.wrap .i64 ((k:Int)+1)=((k+1:Nat):Int):=by rw[dE]<;>omega
   rw[if_pos hc]at hp
   obtain⟨r1,r2,r3⟩:=Mz f (n:=c) (by omega) hc
   unfold w6 at hp r1 r2
   obtain⟨c1',c2,c3⟩:=nq (t:=f.name) (n:=c) (by omega) g4
   obtain⟨d1,d2,d3⟩:=mX f.vars (n:=dw f.name c) (by omega) c2
   obtain⟨e1,e2,e3⟩:=mX f.fin (n:=er f.vars (dw f.name c)) (by omega) d1
   have eN:=fun s=>tY f.name (n:=c) (by omega) g4 s
   have eV:=fun s=>Al (l:=f.vars) (n:=dw f.name c) (by omega) c2 s
   have eF:=fun s=>Al (l:=f.fin) (n:=er f.vars (dw f.name c)) (by omega) d1 s
   generalize hC:er f.fin (er f.vars (dw f.name c))=C at *
   obtain⟨s1,s2,s3⟩:=C8 f.params (n:=C) (by omega) e1
   have eT:=fun s=>YY _ f.body (zak _) (n:=mD f.params C) (by omega) s1 s
   generalize hM:mD f.params C=M at *
   repeat' (first
 |simp only[go_sem,hD,hZ,gC,gD,c1,w3]
 |(with_reducible refine CU (eN _) ?_)
 |(with_reducible refine CU (eV _) ?_)
 |(with_reducible refine CU (eF _) ?_)
 | (with_reducible refine aX hQ ?_;exact bK))
   refine dg 2 0 (aJ.ind (ι:=List Pm×Nat×Int) (fun i=>f.params.drop i.2.1=i.1∧mD i.1 i.2.2=M∧(i.2.1:Int)≤i.2.2∧i.2.2≤20001) (fun i=>i.1.length)
    (fun i=> [(1, .ptr 0 0),(3, .int .i64 i.2.2),(4, .int .i64 (k:Int)),(5, .ptr 1 0),(6, .int .i64 (i.2.1:Int))]) (fun i=>⟨[bG p,bP f],[]⟩) ?_ (f.params,0,C) ⟨rfl,hM,by dsimp only;omega,e1⟩)
   rintro⟨ms,j,e⟩ ⟨k1,hw,k3,k4⟩ rZ
   dsimp only at k1 hw k3 k4
   cases ms with
   |nil=>
    have hD:=drop_nil k1
    simp only[mD]at hw
    subst hw
    repeat' (first
 |simp only[go_sem,hD,hZ,gC,gD,w3]
 |(with_reducible refine CU (eT _) ?_)
 | (with_reducible refine aX hQ ?_;exact bK))
    refine dg 1 0 (IH (rest,k+1,gH f.body e) ⟨g2,hp,by dsimp only;omega,r1⟩ (zae _))
   | cons a ms=>
    obtain⟨hZ,k2,hD,k5⟩:=drop_cons k1
    simp only[mD]at hw
    by_cases he:e≤20000
    ·have e1:decide (e≤20000)=true:=by simp;omega
     have w4:IntKind.wrap .i64 ((j:Int)+1)=((j+1:Nat):Int):=by rw[dE]<;>omega
     rw[if_pos he]at hw
     obtain⟨v1,v2,v3⟩:=nq (t:=a.name) (n:=e) (by omega) k4
     have v4:=(oM (t:=a.name) (n:=e) (by omega)).2.1 he
     have eM:=fun s=>tY a.name (n:=e) (by omega) k4 s
     repeat' (first
 |simp only[go_sem,hD,hZ,gC,gD,e1,w4]
 |(with_reducible refine CU (eM _) ?_)
 | (with_reducible refine aX hQ ?_;exact bK))
     refine dg 2 0 (rZ (ms,j+1,dw a.name e) ⟨k2,hw,by dsimp only;omega,v2⟩ (zae _))
    ·have e1:decide (e≤20000)=false:=by simp;omega
     rw[if_neg he]at hw
     subst hw
     repeat' (first
 |simp only[go_sem,hD,hZ,gC,gD,e1,w3]
 |(with_reducible refine CU (eT _) ?_)
 |(with_reducible first|refine fv fun hc=>?_|refine fw fun hc=>?_|refine fx (fun hc=>?_) fun hc=>?_)<;>(try simp only[hc,bs,↓reduceIte]at h)<;>try simp only[hc]
 | (with_reducible refine aX hQ ?_;simp only [bZ,cd,dn,dq,go_sem,hD,hZ,gC,gD,e1,w3];try exact kI))
     refine dg 1 0 (IH (rest,k+1,gH f.body e) ⟨g2,hp,by dsimp only;omega,r1⟩ (zae _))
  ·have c1:decide (c≤20000)=false:=by simp;omega
   rw[if_neg hc]at hp
   subst hp
   exact iX c1
def HS:List aD→List aD→Bool
 | [],_=>true
 |_::_,[]=>true
 |x::l,y::l'=>if !(x==y)then false else HS l l'
def GR (l l':List aD):Bool:=if(l.length:Int) != (l'.length:Int)then false else HS l l'
def Ar.ik:List Ar→List Ar→Bool
 | [],_=>true
 |_::_,[]=>true
 |a::l,b::l'=>if !(a.ref==b.ref) || !(a.name==b.name) || !(Ex.beq a.x b.x)then false else Ar.ik l l'
mutual
def Sm.beq:Sm→Sm→Bool
 |⟨id,kind,labels,name,proc,x,has,args,aY,aH⟩,⟨Y0,Jw,ye,tD,sF,x',Qg,rj,E6,E7⟩=>
  if id != Y0 ||kind != Jw || !(name==tD) || !(proc==sF) || !(has==Qg) || !(GR labels ye) || !(Ex.beq x x') ||(args.length:Int) != (rj.length:Int)then false
  else if !(Ar.ik args rj)then false
  else if(if(aY.length:Int) != (E6.length:Int)then false else Sm.ik aY E6)then(if(aH.length:Int) != (E7.length:Int)then false else Sm.ik aH E7)else false
def Sm.ik:List Sm→List Sm→Bool
 | [],_=>true
 |_::_,[]=>true
 |s::l,t::l'=>if !(Sm.beq s t)then false else Sm.ik l l'
end
def Sm.yX (l l':List Sm):Bool:=if(l.length:Int) != (l'.length:Int)then false else Sm.ik l l'
def Pm.ik:List Pm→List Pm→Bool
 | [],_=>true
 |_::_,[]=>true
 |a::l,b::l'=>if !((a.name==b.name) && (a.ref==b.ref))then false else Pm.ik l l'
def Pc.ik:List Pc→List Pc→Bool
 | [],_=>true
 |_::_,[]=>true
 |f::l,g::l'=>
  if !(f.name==g.name) ||(f.params.length:Int) != (g.params.length:Int) || !(GR f.vars g.vars) || !(GR f.fin g.fin) || !(Sm.yX f.body g.body)then false
  else if !(Pm.ik f.params g.params)then false else Pc.ik l l'
def Pg.beq (p q:Pg):Bool:=if !(GR p.globals q.globals) ||(p.procs.length:Int) != (q.procs.length:Int)then false else Pc.ik p.procs q.procs
theorem MA : ∀ l,HS l l=true
 | []=>rfl
 |x::l=>by simp[HS,MA l]
theorem HT (l:List aD):GR l l=true:=by simp[GR,MA]
theorem Ar.iY : ∀ l,Ar.ik l l=true
 | []=>rfl
 |x::l=>by simp[Ar.ik,Ar.iY l,Ex.beq_refl]
mutual
theorem Sm.beq_refl : ∀ s,Sm.beq s s=true
 |⟨id,kind,labels,name,proc,x,has,args,aY,aH⟩=>by simp[Sm.beq,HT,Ex.beq_refl,Ar.iY,Sm.iY aY,Sm.iY aH]
theorem Sm.iY : ∀ l,Sm.ik l l=true
 | []=>rfl
 |x::l=>by simp[Sm.ik,Sm.beq_refl x,Sm.iY l]
end
theorem Sm.Y1 (l:List Sm):Sm.yX l l=true:=by simp[Sm.yX,Sm.iY]
theorem Pm.iY : ∀ l,Pm.ik l l=true
 | []=>rfl
 |x::l=>by simp[Pm.ik,Pm.iY l]
theorem Pc.iY : ∀ l,Pc.ik l l=true
 | []=>rfl
 |x::l=>by simp[Pc.ik,Pc.iY l,HT,Sm.Y1,Pm.iY]
theorem Pg.beq_refl (p:Pg):Pg.beq p p=true:=by simp[Pg.beq,HT,Pc.iY]
theorem Am {l l':List aD} (hl:l.length<4611686018427387904) (s:St):ay Tryz.prog 26 [.slice .shared 1 (l.map encStr), .slice .shared 1 (l'.map encStr)] s (.bool (GR l l')) s:=by
 refine ay.pure ?_ (by simp[D.bJ,D.ok,Tag.ok,dv]) rfl s
 generalize h:GR l l'=p
 simp only[GR]at h
 unfold S0
 refine ay.go Hr.h rfl fun B Q hB hQ=>?_
 have⟨hD,hZ,gC,gD⟩:=bc
 repeat' (first
 |simp only[go_sem,hD,hZ,gC,gD]
 |(with_reducible first|refine fv fun hc=>?_|refine fw fun hc=>?_|refine fx (fun hc=>?_) fun hc=>?_)<;>(try simp only[hc,bs,↓reduceIte]at h)<;>try simp only[hc]
 |((with_reducible refine aX hQ ?_);exact oA))
 have hl5:l.length=l'.length:=by
  have:((l.length:Int) != (l'.length:Int))=false:=by assumption
  simp only[bne_eq_false_iff_eq]at this
  omega
 refine dg 0 0 (aJ.ind (ι:=List aD×List aD×Nat) (fun i=>l.drop i.2.2=i.1∧l'.drop i.2.2=i.2.1∧HS i.1 i.2.1=p) (fun i=>i.1.length)
  (fun i=> [(0, .slice .shared 1 (l.map encStr)),(1, .slice .shared 1 (l'.map encStr)),(12, .int .i64 (l.length:Int)),(13, .int .i64 (i.2.2:Int))]) (fun i=>⟨[],[]⟩) ?_ (l,l',0) ⟨rfl,rfl,h⟩)
 rintro⟨r1,r2,k⟩ ⟨h1,h2,h⟩ IH
 dsimp only at h1 h2 h
 cases r1 with
 |nil=>
  have hD:=drop_nil h1
  simp only[HS]at h
  exact iX trivial
 | cons a r1=>
  obtain⟨hZ,g2,hD,g4⟩:=drop_cons h1
  cases r2 with
  |nil=>have:=zaI.1 h2;omega
  |cons b r2=>
   obtain⟨lQ,b2,_,_⟩:=drop_cons h2
   have aV:k<4611686018427387904:=by omega
   simp only[HS]at h
   repeat' (first
 |simp only[go_sem,hD,hZ,gC,gD,lQ]
 |(with_reducible first|refine fv fun hc=>?_|refine fw fun hc=>?_|refine fx (fun hc=>?_) fun hc=>?_)<;>(try simp only[hc,bs,↓reduceIte]at h)<;>try simp only[hc]
 |((with_reducible refine aX hQ ?_);(try cases h);simp only[bZ,cd,dn,dq,go_sem,hD,hZ,gC,gD,lQ];try exact kI)
 | (cases h;done))
   refine cr 0 0 ?_ ?_ (IH (r1,r2,k+1) ⟨g2,b2,h⟩ (zae _))
   ·(simp only[go_sem,hD,hZ,gC,gD,ak aV];try exact aQ)
   ·(simp only[go_sem,hD,hZ,gC,gD,ak aV];try exact aQ)
abbrev KY (N:Nat):Prop:=∀ s t:Sm,s.size<N→∀ st:St,ay Tryz.prog 56 [.agg (aO s), .agg (aO t)] st (.bool (Sm.beq s t)) st
abbrev V0 (N:Nat):Prop:=∀ l l':List Sm,Sm.bB l<N→∀ st:St,ay Tryz.prog 27 [.slice .shared 13 (l.map aO), .slice .shared 13 (l'.map aO)] st (.bool (Sm.yX l l')) st
theorem acw {N:Nat} (hN:N<4611686018427387904) (one:KY N):V0 (N+1):=by
 intro l l' hs st
 have hl:l.length<4611686018427387904:=by have:=Sm.dk l;omega
 have hk : ∀ a∈l,∀ b s,ay Tryz.prog 56 [.agg (aO a), .agg (aO b)] s (.bool (Sm.beq a b)) s:=fun a ha b s=>
  one a b (by have:=Sm.cb ha;omega) s
 refine ay.pure ?_ (by simp[D.bJ,D.ok,Tag.ok,pB]) rfl st
 generalize h:Sm.yX l l'=p
 simp only[Sm.yX]at h
 unfold S0
 refine ay.go Hs.h rfl fun B Q hB hQ=>?_
 have⟨hD,hZ,gC,gD⟩:=bc
 repeat' (first
 |simp only[go_sem,hD,hZ,gC,gD]
 |(with_reducible first|refine fv fun hc=>?_|refine fw fun hc=>?_|refine fx (fun hc=>?_) fun hc=>?_)<;>(try simp only[hc,bs,↓reduceIte]at h)<;>try simp only[hc]
 |((with_reducible refine aX hQ ?_);exact oA)
 |(cases h;done))
 have hl5:l.length=l'.length:=by
  have:((l.length:Int) != (l'.length:Int))=false:=by assumption
  simp only[bne_eq_false_iff_eq]at this
  omega
 refine dg 0 0 (aJ.ind (ι:=List Sm×List Sm×Nat) (fun i=>l.drop i.2.2=i.1∧l'.drop i.2.2=i.2.1∧Sm.ik i.1 i.2.1=p) (fun i=>i.1.length)
  (fun i=> [(0, .slice .shared 13 (l.map aO)),(1, .slice .shared 13 (l'.map aO)),(12, .int .i64 (l.length:Int)),(13, .int .i64 (i.2.2:Int))]) (fun i=>⟨[],[]⟩) ?_ (l,l',0) ⟨rfl,rfl,h⟩)
 rintro⟨r1,r2,k⟩ ⟨h1,h2,h⟩ IH
 dsimp only at h1 h2 h
 cases r1 with
 |nil=>
  have hD:=drop_nil h1
  simp only[Sm.ik]at h
  exact iX trivial
 | cons a r1=>
  obtain⟨hZ,g2,hD,g4⟩:=drop_cons h1
  cases r2 with
  |nil=>have:=zaI.1 h2;omega
  |cons b r2=>
   obtain⟨lQ,b2,_,_⟩:=drop_cons h2
   have aV:k<4611686018427387904:=by omega
   have yK:=hk a (zad hZ)
   simp only[Sm.ik]at h
   repeat' (first
 |simp only[go_sem,hD,hZ,gC,gD,lQ]
 |(with_reducible refine CU (yK _ _) ?_)
 |(with_reducible first|refine fv fun hc=>?_|refine fw fun hc=>?_|refine fx (fun hc=>?_) fun hc=>?_)<;>(try simp only[hc,bs,↓reduceIte]at h)<;>try simp only[hc]
 |((with_reducible refine aX hQ ?_);(try cases h);simp only[bZ,cd,dn,dq,go_sem,hD,hZ,gC,gD,lQ];try exact kI)
 | (cases h;done))
   refine cr 0 0 ?_ ?_ (IH (r1,r2,k+1) ⟨g2,b2,h⟩ (zae _))
   ·(simp only[go_sem,hD,hZ,gC,gD,ak aV];try exact aQ)
   ·(simp only[go_sem,hD,hZ,gC,gD,ak aV];try exact aQ)
theorem V1 {N:Nat} (hN:N<4611686018427387904) (eql:V0 N):KY (N+1):=by
 rintro⟨id,kind,labels,name,proc,x,has,args,aY,aH⟩ ⟨Y0,Jw,ye,tD,sF,x',Qg,rj,E6,E7⟩ hs st
 simp only[Sm.size]at hs
 refine ay.pure ?_ (by simp[D.bJ,D.ok,nN]) rfl st
 have pg:=Ar.dk args
 have hT:=fun s=>Am (l:=labels) (l':=ye) (by omega) s
 have hX:=fun s=>Pw (x:=x) (y:=x') (by omega) s
 simp only[jc]at hX
 have h1:=eql aY E6 (by omega)
 have h2:=eql aH E7 (by omega)
 generalize h:Sm.beq ⟨id,kind,labels,name,proc,x,has,args,aY,aH⟩ ⟨Y0,Jw,ye,tD,sF,x',Qg,rj,E6,E7⟩=p
 simp only[Sm.beq]at h
 change (if id != Y0 ||kind != Jw || !(name==tD) || !(proc==sF) || !(has==Qg) || !(GR labels ye) || !(Ex.beq x x') ||(args.length:Int) != (rj.length:Int)then false
  else if !(Ar.ik args rj)then false else if Sm.yX aY E6 then Sm.yX aH E7 else false)=p at h
 unfold S0
 refine ay.go Kl.h rfl fun B Q hB hQ=>?_
 have⟨hD,hZ,gC,gD⟩:=bc
 repeat' (first
 |simp only[go_sem,hD,hZ,gC,gD]
 |(with_reducible refine CU (hT _) ?_)
 |(with_reducible refine CU (hX _) ?_)
 |(with_reducible first|refine fv fun hc=>?_|refine fw fun hc=>?_|refine fx (fun hc=>?_) fun hc=>?_)<;>(try simp only[hc,bs,↓reduceIte]at h)<;>try simp only[hc]
 |((with_reducible refine aX hQ ?_);exact oA)
 |(cases h;done))
 have hl5:args.length=rj.length:=by
  have:((args.length:Int) != (rj.length:Int))=false:=by assumption
  simp only[bne_eq_false_iff_eq]at this
  omega
 refine dg 2 0 (aJ.ind (ι:=List Ar×List Ar×Nat) (fun i=>args.drop i.2.2=i.1∧rj.drop i.2.2=i.2.1∧(if !(Ar.ik i.1 i.2.1)then false else if Sm.yX aY E6 then Sm.yX aH E7 else false)=p) (fun i=>i.1.length)
  (fun i=> [(2, .ptr 0 0),(3, .ptr 1 0),(66, .int .i64 (args.length:Int)),(67, .int .i64 (i.2.2:Int))]) (fun i=>⟨[aO ⟨id,kind,labels,name,proc,x,has,args,aY,aH⟩,aO ⟨Y0,Jw,ye,tD,sF,x',Qg,rj,E6,E7⟩],[]⟩) ?_ (args,rj,0) ⟨rfl,rfl,h⟩)
 rintro⟨r1,r2,k⟩ ⟨j1,j2,h⟩ IH
 dsimp only at j1 j2 h
 cases r1 with
 |nil=>
  have hD:=drop_nil j1
  simp only[Ar.ik,zav,zab,↓reduceIte]at h
  exact DG trivial h1 h2
 | cons a r1=>
  obtain⟨hZ,g2,hD,g4⟩:=drop_cons j1
  cases r2 with
  |nil=>have:=zaI.1 j2;omega
  |cons b r2=>
   obtain⟨lQ,b2,_,_⟩:=drop_cons j2
   have aV:k<4611686018427387904:=by omega
   have hax:a.x.size<4611686018427387904:=by have:=Ar.cb (zad hZ);omega
   have yK:=fun s=>Pw (x:=a.x) (y:=b.x) hax s
   simp only[Ar.ik]at h
   repeat' (first
 |simp only[go_sem,hD,hZ,gC,gD,lQ]
 |(with_reducible refine CU (yK _) ?_)
 |(with_reducible first|refine fv fun hc=>?_|refine fw fun hc=>?_|refine fx (fun hc=>?_) fun hc=>?_)<;>(try simp only[hc,bs,↓reduceIte]at h)<;>try simp only[hc]
 |((with_reducible refine aX hQ ?_);(try cases h);simp only[bZ,cd,dn,dq,go_sem,hD,hZ,gC,gD,lQ];try exact kI)
 | (cases h;done))
   refine cr 2 0 ?_ ?_ (IH (r1,r2,k+1) ⟨g2,b2,h⟩ (zae _))
   ·(simp only[go_sem,hD,hZ,gC,gD,ak aV];try exact aQ)
   ·(simp only[go_sem,hD,hZ,gC,gD,ak aV];try exact aQ)
theorem ajZ : ∀ N,N<4611686018427387904→KY N∧V0 N:=by
 intro N
 induction N with
 |zero=>exact fun _=>⟨fun s t h=>absurd h (zaT _),fun l l' h=>absurd h (zaT _)⟩
 |succ N ih=>
  intro h
  have:=ih (by omega)
  exact⟨V1 (by omega) this.2,acw (by omega) this.1⟩
theorem Y2 {l l':List Sm} (h:Sm.bB l<4611686018427387000) (st:St):ay Tryz.prog 27 [.slice .shared 13 (l.map aO), .slice .shared 13 (l'.map aO)] st (.bool (Sm.yX l l')) st:=
 (ajZ (Sm.bB l+1) (by omega)).2 l l' (zae _) st
theorem aqR {a b:Pg} (hs:a.size<1073741824) (st:St):ay Tryz.prog 11 [.agg (bG a), .agg (bG b)] st (.bool (Pg.beq a b)) st:=by
 obtain⟨g,ps⟩:=a
 obtain⟨g',Qh⟩:=b
 simp only[Pg.size]at hs
 have nX:=Pc.dk ps
 refine ay.pure ?_ (by simp[D.bJ,D.ok,fW]) rfl st
 have hT:=fun s=>Am (l:=g) (l':=g') (by omega) s
 generalize h:Pg.beq ⟨g,ps⟩ ⟨g',Qh⟩=p
 simp only[Pg.beq]at h
 unfold S0
 refine ay.go RH.h rfl fun B Q hB hQ=>?_
 have⟨hD,hZ,gC,gD⟩:=bc
 repeat' (first
 |simp only[go_sem,hD,hZ,gC,gD]
 |(with_reducible refine CU (hT _) ?_)
 |(with_reducible first|refine fv fun hc=>?_|refine fw fun hc=>?_|refine fx (fun hc=>?_) fun hc=>?_)<;>(try simp only[hc,bs,↓reduceIte]at h)<;>try simp only[hc]
 |((with_reducible refine aX hQ ?_);exact oA)
 |(cases h;done))
 have hl5:ps.length=Qh.length:=by
  have:((ps.length:Int) != (Qh.length:Int))=false:=by assumption
  simp only[bne_eq_false_iff_eq]at this
  omega
 refine dg 2 0 (aJ.ind (ι:=List Pc×List Pc×Nat) (fun i=>ps.drop i.2.2=i.1∧Qh.drop i.2.2=i.2.1∧Pc.ik i.1 i.2.1=p) (fun i=>i.1.length)
  (fun i=> [(2, .ptr 0 0),(3, .ptr 1 0),(26, .int .i64 (ps.length:Int)),(27, .int .i64 (i.2.2:Int))]) (fun i=>⟨[bG ⟨g,ps⟩,bG ⟨g',Qh⟩],[]⟩) ?_ (ps,Qh,0) ⟨rfl,rfl,h⟩)
 rintro⟨r1,r2,k⟩ ⟨j1,j2,h⟩ IH
 dsimp only at j1 j2 h
 cases r1 with
 |nil=>
  have hD:=drop_nil j1
  simp only[Pc.ik]at h
  exact iX trivial
 | cons x r1=>
  obtain⟨hZ,g2,hD,g4⟩:=drop_cons j1
  cases r2 with
  |nil=>have:=zaI.1 j2;omega
  |cons y r2=>
   obtain⟨lQ,b2,_,_⟩:=drop_cons j2
   have aV:k<4611686018427387904:=by omega
   have dJ:=Pc.cb (zad hZ)
   obtain⟨name,params,vars,body,fin⟩:=x
   obtain⟨tD,Ce,vars',aey,aj0⟩:=y
   simp only[Pc.size]at dJ
   have h1:=fun s=>Am (l:=vars) (l':=vars') (by omega) s
   have h2:=fun s=>Am (l:=fin) (l':=aj0) (by omega) s
   have h3:=fun s=>Y2 (l:=body) (l':=aey) (by omega) s
   simp only[Pc.ik]at h
   repeat' (first
 |simp only[go_sem,hD,hZ,gC,gD,lQ]
 |(with_reducible refine CU (h1 _) ?_)
 |(with_reducible refine CU (h2 _) ?_)
 |(with_reducible refine CU (h3 _) ?_)
 |(with_reducible first|refine fv fun hc=>?_|refine fw fun hc=>?_|refine fx (fun hc=>?_) fun hc=>?_)<;>(try simp only[hc,bs,↓reduceIte]at h)<;>try simp only[hc]
 |((with_reducible refine aX hQ ?_);(try cases h);simp only[bZ,cd,dn,dq,go_sem,hD,hZ,gC,gD,lQ];try exact kI)
 | (cases h;done))
   have hm5:params.length=Ce.length:=by
    have:((params.length:Int) != (Ce.length:Int))=false:=by assumption
    simp only[bne_eq_false_iff_eq]at this
    omega
   refine dg 4 0 (aJ.ind (ι:=List Pm×List Pm×Nat) (fun i=>params.drop i.2.2=i.1∧Ce.drop i.2.2=i.2.1∧(if !(Pm.ik i.1 i.2.1)then false else Pc.ik r1 r2)=p) (fun i=>i.1.length)
    (fun i=> [(2, .ptr 0 0),(3, .ptr 1 0),(6, .ptr 2 0),(7, .ptr 3 0),(26, .int .i64 (ps.length:Int)),(27, .int .i64 (k:Int)),(80, .int .i64 (params.length:Int)),(81, .int .i64 (i.2.2:Int))])
    (fun i=>⟨[bG ⟨g,ps⟩,bG ⟨g',Qh⟩,bP ⟨name,params,vars,body,fin⟩,bP ⟨tD,Ce,vars',aey,aj0⟩],[]⟩) ?_ (params,Ce,0) ⟨rfl,rfl,h⟩)
   rintro⟨s1,s2,q⟩ ⟨i1,i2,h⟩ IHm
   dsimp only at i1 i2 h
   cases s1 with
   |nil=>
    have hD:=drop_nil i1
    simp only[Pm.ik,zav,zab,↓reduceIte]at h
    refine bT trivial ?_
    refine cr 2 0 ?_ ?_ (IH (r1,r2,k+1) ⟨g2,b2,h⟩ (zae _))
    ·(simp only[go_sem,hD,hZ,gC,gD,ak aV];try exact aQ)
    ·(simp only[go_sem,hD,hZ,gC,gD,ak aV];try exact aQ)
   | cons u s1=>
    obtain⟨hZ,u2,hD,u4⟩:=drop_cons i1
    cases s2 with
    |nil=>have:=zaI.1 i2;omega
    | cons v s2=>
     obtain⟨lQ,v2,_,_⟩:=drop_cons i2
     have zF:q<4611686018427387904:=by omega
     simp only[Pm.ik]at h
     cases e1:(u.name==v.name)
     ·simp only [e1,zaN,zax, ↓reduceIte]at h
      repeat' (first
 |simp only[go_sem,hD,hZ,gC,gD,lQ,fc,e1]
 |(with_reducible first|refine fv fun hc=>?_|refine fw fun hc=>?_|refine fx (fun hc=>?_) fun hc=>?_)<;>(try simp only[hc,bs,↓reduceIte]at h)<;>try simp only[hc]
 |((with_reducible refine aX hQ ?_);(try cases h);simp only[bZ,cd,dn,dq,go_sem,hD,hZ,gC,gD,lQ,fc,e1];try exact kI)
 |(cases h;done))
     ·cases e2:(u.ref==v.ref)
      ·simp only [e1,e2,zbp,zax, ↓reduceIte]at h
       repeat' (first
 |simp only[go_sem,hD,hZ,gC,gD,lQ,fc,e1,e2]
 |(with_reducible first|refine fv fun hc=>?_|refine fw fun hc=>?_|refine fx (fun hc=>?_) fun hc=>?_)<;>(try simp only[hc,bs,↓reduceIte]at h)<;>try simp only[hc]
 |((with_reducible refine aX hQ ?_);(try cases h);simp only[bZ,cd,dn,dq,go_sem,hD,hZ,gC,gD,lQ,fc,e1,e2];try exact kI)
 |(cases h;done))
      ·simp only [e1,e2,zbz,zav,zab, ↓reduceIte]at h
       repeat' (first
 |simp only[go_sem,hD,hZ,gC,gD,lQ,fc,e1,e2]
 |(with_reducible first|refine fv fun hc=>?_|refine fw fun hc=>?_|refine fx (fun hc=>?_) fun hc=>?_)<;>(try simp only[hc,bs,↓reduceIte]at h)<;>try simp only[hc]
 |((with_reducible refine aX hQ ?_);(try cases h);simp only[bZ,cd,dn,dq,go_sem,hD,hZ,gC,gD,lQ,fc,e1,e2];try exact kI)
 |(cases h;done))
       refine cr 4 0 ?_ ?_ (IHm (s1,s2,q+1) ⟨u2,v2,h⟩ (zae _))
       ·(simp only[go_sem,hD,hZ,gC,gD,ak zF];try exact aQ)
       ·(simp only[go_sem,hD,hZ,gC,gD,ak zF];try exact aQ)
def FR (n:Int):Ex:=⟨1,n,[],[]⟩
def vb (s:aD):Ex:=⟨2,0,s,[]⟩
def Jx (op:Int) (a b:Ex):Ex:=⟨op,0,[],[a,b]⟩
theorem anm (n:Int) (s:St):ay Tryz.prog 37 [.int .i64 n] s (.agg (bQ (FR n))) s:=by
 refine ay.pure ?_ rfl (by simp[D.ok,je]) s
 unfold S0
 refine ay.go O9.h rfl fun B Q hB hQ=>?_
 have⟨hD,hZ,gC,gD⟩:=bc
 repeat' (first
 |simp only[go_sem,hD,hZ,gC,gD,FR]
 |(with_reducible first|refine fv fun hc=>?_|refine fw fun hc=>?_|refine fx (fun hc=>?_) fun hc=>?_)<;>(try simp only[hc,bs,↓reduceIte]at h)<;>try simp only[hc]
 |(with_reducible refine aX hQ ?_;simp only[bZ,cd,dn,dq,go_sem,hD,hZ,gC,gD,FR];try exact kI))
theorem V2 (t:aD) (s:St):ay Tryz.prog 38 [.str t] s (.agg (bQ (vb t))) s:=by
 refine ay.pure ?_ rfl (by simp[D.ok,je]) s
 unfold S0
 refine ay.go M3.h rfl fun B Q hB hQ=>?_
 have⟨hD,hZ,gC,gD⟩:=bc
 repeat' (first
 |simp only[go_sem,hD,hZ,gC,gD,vb]
 |(with_reducible first|refine fv fun hc=>?_|refine fw fun hc=>?_|refine fx (fun hc=>?_) fun hc=>?_)<;>(try simp only[hc,bs,↓reduceIte]at h)<;>try simp only[hc]
 |(with_reducible refine aX hQ ?_;simp only[bZ,cd,dn,dq,go_sem,hD,hZ,gC,gD,vb];try exact kI))
theorem Y3 (op:Int) (a b:Ex) (s:St):ay Tryz.prog 39 [.int .i64 op, .agg (bQ a), .agg (bQ b)] s (.agg (bQ (Jx op a b))) s:=by
 refine ay.pure ?_ (by simp[D.bJ,D.ok,je]) (by simp[D.ok,je]) s
 unfold S0
 refine ay.go Pa.h rfl fun B Q hB hQ=>?_
 have⟨hD,hZ,gC,gD⟩:=bc
 repeat' (first
 |simp only[go_sem,hD,hZ,gC,gD,Jx]
 |(with_reducible first|refine fv fun hc=>?_|refine fw fun hc=>?_|refine fx (fun hc=>?_) fun hc=>?_)<;>(try simp only[hc,bs,↓reduceIte]at h)<;>try simp only[hc]
 |(with_reducible refine aX hQ ?_;simp only[bZ,cd,dn,dq,go_sem,hD,hZ,gC,gD,Jx];try exact kI))
def source:aD:= [103,108,111,98,97,108,32,103,59,10,112,114,111,99,32,109,97,105,110,40,41,32,123,10,32,118,97,114,32,118,59,10,32,118,32,61,32,50,59,10,32,103,32,61,32,112,40,51,44,32,114,101,102,32,118,41,59,10,32,112,114,105,110,116,32,118,59,10,32,112,114,105,110,116,32,103,59,10,125,10,112,114,111,99,32,112,40,120,44,32,114,101,102,32,121,41,32,123,10,32,121,32,61,32,121,32,43,32,120,59,10,32,105,102,32,40,121,32,62,32,57,41,32,123,10,32,32,103,111,116,111,32,101,59,10,32,125,10,32,114,101,116,117,114,110,32,121,59,10,101,58,32,125,10]
def ve:Pg:=⟨[[103]],[
 ⟨[109,97,105,110],[],[[118]],[
  ⟨1,1,[],[118],[],FR 2,false,[],[],[]⟩,
  ⟨2,4,[],[103],[112],sM,false,[⟨false,[],FR 3⟩,⟨true,[118],sM⟩],[],[]⟩,
  ⟨3,3,[],[],[],vb [118],false,[],[],[]⟩,
  ⟨4,3,[],[],[],vb [103],false,[],[],[]⟩],[]⟩,
 ⟨[112],[⟨[120],false⟩,⟨[121],true⟩],[],[
  ⟨5,1,[],[121],[],Jx 8 (vb [121]) (vb [120]),false,[],[],[]⟩,
  ⟨6,5,[],[],[],Jx 12 (vb [121]) (FR 9),false,[],[⟨7,10,[],[101],[],sM,false,[],[],[]⟩],[]⟩,
  ⟨8,9,[],[],[],vb [121],true,[],[],[]⟩],[[101]]⟩]⟩
theorem aj1 (s:St):ay Tryz.prog 15 [] s (.agg (bG ve)) s:=by
 refine ay.pure ?_ rfl (by simp[D.ok,fW]) s
 unfold S0
 refine ay.go MX.h rfl fun B Q hB hQ=>?_
 have⟨hD,hZ,gC,gD⟩:=bc
 repeat' (first
 |simp only[go_sem,hD,hZ,gC,gD,ve]
 |(with_reducible refine CU (anm _ _) ?_)
 |(with_reducible refine CU (V2 _ _) ?_)
 |(with_reducible refine CU (Y3 _ _ _ _) ?_)
 |(with_reducible refine aX hQ ?_;simp only[bZ,cd,dn,dq,go_sem,hD,hZ,gC,gD];repeat' (first|exact Ok.out|with_reducible refine ej ?_ ?_|(simp;done))))
 repeat' (first|exact Ok.out|with_reducible refine Wk.agg ?_|with_reducible refine Wk.rows ?_|with_reducible refine Wk.slice ?_|with_reducible refine iF.cons ?_ ?_|with_reducible refine jM.cons ?_ ?_)
def Pg.atE (p:Pg) (n:Int):aD:=match p.procs[(ajR n p.procs.length).toNat]? with|some f=>f.name|none=> []
theorem acx {p:Pg} (h:(p.arity.1==0)=true) (h2:(p.alias.1==0)=true) : ∀ v∈p.pre,(v.kind==4)=true→v.vQ p=true:=by
 unfold Pg.alias at h2
 rw[if_pos h]at h2
 intro v hv hk
 have : ∀ l:List Sm,((jt 8 (Jt p l)).1==0)=true→∀ v∈l,(v.kind==4)=true→v.vQ p=true:=by
  intro l
  induction l with
  |nil=>intro _ v m;cases m
  | cons a l ih=>
   intro h v m hk
   simp only[Jt]at h
   split at h
   ·cases h
   ·rename_i c
    rcases zaq.1 m with rfl|m
    ·simpa[hk]using c
    ·exact ih h v m hk
 exact this _ h2 v hv hk
section
variable {a b:aD}
end
section
variable {a b:aD} (ha:isName a=true) (hb:isName b=true)
include ha hb
end
def Pg.check (p:Pg):Int×Int:=if p.scope.1==0 then(if p.arity.1==0 then(if p.jump.1==0 then p.alias else p.jump)else p.arity)else p.scope
end Go.Abs
namespace Go.Abs
mutual
def Sm.qb (g:Sm→Sm):Sm→Sm
 |⟨id,kind,labels,name,proc,x,has,args,aY,aH⟩=> {g ⟨id,kind,labels,name,proc,x,has,args,aY,aH⟩with aY:=Sm.mY g aY,aH:=Sm.mY g aH}
def Sm.mY (g:Sm→Sm):List Sm→List Sm
 | []=> []
 |s::l=>s.qb g::Sm.mY g l
end
def It.qb (g:Sm→Sm) (i:It):It:= {i with s:=i.s.qb g}
def Pc.qb (g:Sm→Sm) (f:Pc):Pc:= {f with body:=Sm.mY g f.body}
def Pg.qb (g:Sm→Sm) (p:Pg):Pg:= {p with procs:=p.procs.map (Pc.qb g)}
theorem SH (g:Sm→Sm) (s:Sm):s.qb g = {g s with aY:=Sm.mY g s.aY,aH:=Sm.mY g s.aH}:=by cases s;rfl
def nR (t:Sm) (v:Sm):Sm:=if v.id==t.id then t else v
theorem Jy {Bb fin:List aD} : ∀ {l:List (Sm×Int)} {seen:List aD},qD Bb fin seen l=none↔qU seen (fG (l.map Prod.fst)++fin)=false∧∀ q∈l,pE Bb q.1 q.2=true
 | [],seen=>by
  simp only[qD,zaj,fG,za1,zbG,false_imp_iff,implies_true,and_true]
  rw[Ag]
  cases qU seen fin<;>simp
 | (v,lp)::l,seen=>by
  simp only[qD,zaf,fG,zaB]
  rw[Ag,KX v.labels]
  cases h:qU seen v.labels
  ·simp only [zab,if_false,if_true,zbj]
   cases h2:pE Bb v lp
   ·simp only [zab,if_false,reduceCtorEq,false_iff,not_and]
    intro _ h3
    have:=h3 (v,lp) (zaz ..)
    rw[h2]at this;cases this
   ·simp only [if_true,Jy (l:=l),zaq]
    constructor
    ·rintro⟨h3,h4⟩
     refine⟨h3,fun q hq=>?_⟩
     rcases hq with rfl|hq
     ·exact h2
     ·exact h4 q hq
    ·rintro⟨h3,h4⟩
     exact⟨h3,fun q hq=>h4 q (.inr hq)⟩
  ·simp
theorem Jz : ∀ {l:List Pc},oK l=none↔∀ f∈l,eI f.labels=false∧∀ q∈f.pF,pE f.labels q.1 q.2=true
 | []=>by simp[oK]
 | f::l=>by
  have e:qD f.labels f.fin [] f.pF=none↔eI f.labels=false∧∀ q∈f.pF,pE f.labels q.1 q.2=true:=by
   rw[Jy,agt];rfl
  simp only[oK,zaq]
  split
  ·rename_i id h
   simp only[reduceCtorEq,false_iff]
   intro h3
   rw[e.2 (h3 f (.inl rfl))]at h
   cases h
  ·rename_i h
   rw[Jz (l:=l)]
   constructor
   ·intro h3 g hg
    rcases hg with rfl|hg
    ·exact e.1 h
    ·exact h3 g hg
   ·exact fun h3 g hg=>h3 g (.inr hg)
structure Pg.Right (p:Pg):Prop where
 may:p.may=true
 tg:eI p.globals=false
 tp:eI p.pn=false
 main:p.pZ=false
 own : ∀ f∈p.procs,eI (p.globals++f.own)=false
 known : ∀ f∈p.procs,∀ v∈Sm.cU f.body,v.known p f p.pn=true
 Bb : ∀ f∈p.procs,eI f.labels=false
 leads : ∀ f∈p.procs,∀ q∈f.pF,pE f.labels q.1 q.2=true
 fits : ∀ v∈p.pre,(v.kind==4)=true→v.mC p=true
 single : ∀ v∈p.pre,(v.kind==4)=true→v.vQ p=true
theorem HU {p:Pg} (h:(p.check.1==0)=true):p.Right:=by
 unfold Pg.check at h
 by_cases h1:(p.scope.1==0)=true
 ·rw [if_pos h1]at h
  by_cases h2:(p.arity.1==0)=true
  ·rw [if_pos h2]at h
   by_cases h3:(p.jump.1==0)=true
   ·rw [if_pos h3]at h
    obtain⟨k1,k2,k3,k4⟩:=HI h1
    have hj:oK p.procs=none:=by
     unfold Pg.jump at h3
     rw[if_pos h1]at h3
     cases e:oK p.procs with
     |none=>rfl
     |some id=>rw[e]at h3;cases h3
    rw[Jz]at hj
    exact⟨oI h1,k1,k2,k3,fun f hf=>(k4 f hf).1,fun f hf=>(k4 f hf).2,fun f hf=>(hj f hf).1,fun f hf=>(hj f hf).2,(HQ h2).2,acx h2 h⟩
   ·rw[if_neg h3]at h;exact absurd h h3
  ·rw[if_neg h2]at h;exact absurd h h2
 ·rw[if_neg h1]at h;exact absurd h h1
def AtR (R:Int→Prop) (a:Int):Prop:=a = -1∨R a
theorem FT {R:Int→Prop} {l:List Sm} {o:Int} (h : ∀ v∈Sm.cU l,R v.id) (ho:AtR R o):AtR R (eR l o):=by
 cases l with
 |nil=>exact ho
 |cons s l=>exact .inr (h s (by rw[Sm.cU,Sm.mO];exact zaK _ (zaz ..)))
mutual
theorem aj2 {R:Int→Prop} (proc up next loop:Int) : ∀ s:Sm,(∀ v∈s.pre,R v.id)→AtR R next→(loop=0∨R loop)→
 ∀ x∈s.uw proc up next loop,x.proc=proc∧AtR R x.next∧(x.loop=0∨R x.loop)∧AtR R (eR x.s.aY (-1))∧AtR R (eR x.s.aH (-1))∧x.s∈s.pre
 | ⟨id,kind,labels,name,pc,x,has,args,aY,aH⟩,h,hn,hl,y,m=>by
  have nV:=h _ (by rw[Sm.mO];exact zaz ..)
  have h1 : ∀ v∈Sm.cU aY,R v.id:=fun v m=>h v (by rw[Sm.mO];exact zan _ (zaK _ m))
  have h2 : ∀ v∈Sm.cU aH,R v.id:=fun v m=>h v (by rw[Sm.mO];exact zan _ (za7 _ m))
  have uK:AtR R (if kind==6 then id else next):=by split;exact .inr nV;exact hn
  have qJ:(if kind==6 then id else loop)=0∨R (if kind==6 then id else loop):=by split;exact .inr nV;exact hl
  rw[Sm.mO]
  simp only[Sm.uw,zaq,zar]at m
  rcases m with rfl|m|m
  ·exact⟨rfl,hn,hl,FT h1 (.inl rfl),FT h2 (.inl rfl),zaz ..⟩
  ·obtain⟨g1,g2,g3,g4,g5,g6⟩:=yf proc id _ _ aY h1 uK qJ y m
   exact⟨g1,g2,g3,g4,g5,zan _ (zaK _ g6)⟩
  ·obtain⟨g1,g2,g3,g4,g5,g6⟩:=yf proc id _ _ aH h2 uK qJ y m
   exact⟨g1,g2,g3,g4,g5,zan _ (za7 _ g6)⟩
theorem yf {R:Int→Prop} (proc up next loop:Int) : ∀ l:List Sm,(∀ v∈Sm.cU l,R v.id)→AtR R next→(loop=0∨R loop)→
 ∀ x∈Sm.iV proc up next loop l,x.proc=proc∧AtR R x.next∧(x.loop=0∨R x.loop)∧AtR R (eR x.s.aY (-1))∧AtR R (eR x.s.aH (-1))∧x.s∈Sm.cU l
 | [],_,_,_,x,m=>by simp[Sm.iV]at m
 | s::l,h,hn,hl,x,m=>by
  simp only[Sm.cU,zar]at h
  simp only[Sm.iV,zar]at m
  simp only[Sm.cU,zar]
  rcases m with m|m
  ·obtain⟨g1,g2,g3,g4,g5,g6⟩:=aj2 proc up _ loop s (fun v m=>h v (.inl m)) (FT (fun v m=>h v (.inr m)) hn) hl x m
   exact⟨g1,g2,g3,g4,g5, .inl g6⟩
  ·obtain⟨g1,g2,g3,g4,g5,g6⟩:=yf proc up next loop l (fun v m=>h v (.inr m)) hn hl x m
   exact⟨g1,g2,g3,g4,g5, .inr g6⟩
end
theorem HV {x:Im} : ∀ (l:List Pc) (k:Nat),x∈sY k l→∃ i f,l[i]? = some f∧x∈Sm.iV ((k+i:Nat):Int) 0 (-1) 0 f.body
 | [],_,h=>by simp[sY]at h
 | f::l,k,h=>by
  simp only[sY,zar]at h
  rcases h with h|h
  ·exact⟨0,f,rfl,h⟩
  ·obtain⟨i,g,h1,h2⟩:=HV l (k+1) h
   exact⟨i+1,g,by simpa using h1,by rw[show k+(i+1)=k+1+i by omega];exact h2⟩
theorem Qi {x:Im} : ∀ (l:List Pc) (k:Nat) {i:Nat} {f:Pc},l[i]? = some f→x∈Sm.iV ((k+i:Nat):Int) 0 (-1) 0 f.body→x∈sY k l
 |f::l,k,0,g,h,m=>by simp at h;subst h;exact zaK _ m
 |f::l,k,i+1,g,h,m=>za7 _ (Qi l (k+1) (i:=i) (by simpa using h) (by rw[show k+1+i=k+(i+1) by omega];exact m))
theorem Qj : ∀ (l:List Pc) (k:Nat),(sY k l).map Im.s=(l.map fun f=>Sm.cU f.body).flatten
 | [],_=>rfl
 |f::l,k=>by simp only[sY,zag,u6,Qj l,zaf,zbi]
theorem SI {R:Int→Prop} {fin:List aD} {X8:aD} : ∀ {l:List Sm},(∀ v∈l,R v.id)→(jH fin X8 l).2=true→AtR R (jH fin X8 l).1
 | [],_,h=>by
  simp only[jH]at h ⊢
  split at h
  ·rename_i c;rw[if_pos c];exact .inl rfl
  ·cases h
 | v::l,hv,h=>by
  simp only[jH]at h ⊢
  split
  ·exact .inr (hv v (zaz ..))
  ·rename_i c
   rw[if_neg c]at h
   exact SI (fun w m=>hv w (zan _ m)) h
def Hm (L:List Im) (k:Int) (a:Int):Prop:=1≤a∧a≤(L.length:Int)∧(fp L a).proc=k
structure yY (p:Pg) (L:List Im) (x:Im) (f:Pc):Prop where
 self:fp L x.s.id=x∧1≤x.s.id∧x.s.id≤(L.length:Int)
 proc:p.procs[x.proc.toNat]? = some f∧0≤x.proc
 mem:x.s∈Sm.cU f.body
 next:AtR (Hm L x.proc) x.next
 loop:x.s.kind=7∨x.s.kind=8→Hm L x.proc x.loop
 aY:AtR (Hm L x.proc) (eR x.s.aY (-1))
 aH:AtR (Hm L x.proc) (eR x.s.aH (-1))
 VX:x.s.kind=10→AtR (Hm L x.proc) (jH f.fin x.s.name (Sm.cU f.body)).1
structure POk (p:Pg) (L:List Im):Prop where
 im : ∀ x∈L,∃ f,yY p L x f
 head : ∀ (i:Nat) (f:Pc),p.procs[i]? = some f→AtR (Hm L i) (eR f.body (-1))
theorem qo {p:Pg} (h:p.Right):POk p p.aU.L:=by
 have hL:=E1 h.may
 have hs:p.aU.L.map Im.s=p.pre:=by rw[hL,Qj];rfl
 have hlen:p.aU.L.length=p.pre.length:=by rw[← hs,zau]
 have self : ∀ x∈p.aU.L,fp p.aU.L x.s.id=x∧1≤x.s.id∧x.s.id≤(p.aU.L.length:Int):=fun x m=>by
  obtain⟨i,hi⟩:=zbM m
  have h1:=EO h.may (i:=i) (v:=x.s) (by rw[← hs,zap,hi];rfl)
  have h2:=(zac.1 hi).1
  refine⟨?_,by omega,by omega⟩
  unfold fp
  rw[h1,show(((i+1:Nat):Int) - 1).toNat=i by omega,zay,hi];rfl
 have there : ∀ (i:Nat) (f:Pc),p.procs[i]? = some f→∀ v∈Sm.cU f.body,Hm p.aU.L i v.id:=fun i f hf v m=>by
  rw[← u6 (i:Int) 0 (-1) 0 f.body]at m
  obtain⟨x,hx,rfl⟩:=zaG.1 m
  have hxL:x∈p.aU.L:=by rw[hL];exact Qi p.procs 0 hf (by simpa using hx)
  obtain⟨g1,g2,g3⟩:=self x hxL
  exact⟨g2,g3,by rw[g1];exact(yf (R:=fun _=>True) _ 0 (-1) 0 f.body (fun _ _=>trivial) (.inl rfl) (.inl rfl) x hx).1⟩
 refine⟨fun x m=>?_,fun i f hf=>FT (there i f hf) (.inl rfl)⟩
 have m':=m
 rw[hL]at m'
 obtain⟨i,f,h1,h2⟩:=HV p.procs 0 m'
 have hf:=zad h1
 rw[zaS]at h2
 obtain⟨g1,g2,g3,g4,g5,g6⟩:=yf (R:=Hm p.aU.L i) _ 0 (-1) 0 f.body (there i f h1) (.inl rfl) (.inl rfl) x h2
 have hl:=h.leads f hf (x.s,x.loop) (by rw[← HM (i:Int) f];exact zaG.2 ⟨x,h2,rfl⟩)
 refine⟨f,self x m,⟨by rw[g1];simpa using h1,by rw[g1];exact zbU _⟩,g6,by rw[g1];exact g2,fun hk=>?_,by rw[g1];exact g4,by rw[g1];exact g5,fun hk=>?_⟩
 ·rw [g1]
  refine g3.resolve_left fun e=>?_
  unfold pE at hl
  rw[if_pos (by rcases hk with hk|hk<;>simp[hk]),e]at hl
  cases hl
 ·rw [g1]
  refine SI (there i f h1) ?_
  unfold pE at hl
  rw[if_neg (by simp[hk]),if_pos (by simp[hk])]at hl
  rw[E2];exact hl
theorem Qk {vars globals:List aD} {n:aD} : ∀ {l:List Pm},uX vars globals n l≠0→n∈l.map (·.name)∨n∈vars∨n∈globals
 | [],h=>by
  simp only[uX]at h
  split at h
  ·rename_i e;exact .inr (.inl ((il _ _).1 e))
  ·split at h
   ·rename_i e;exact .inr (.inr ((il _ _).1 e))
   ·exact absurd rfl h
 | a::l,h=>by
  simp only[uX]at h
  split at h
  ·rename_i e;exact .inl (by simp only[zaf,zaq];exact .inl (by simpa using Eq.symm (by simpa using e)))
  ·rcases Qk h with h | h
   ·exact .inl (zan _ h)
   ·exact .inr h
theorem acy {p:Pg} {f:Pc} {v:Sm} (h:v.known p f p.pn=true) {n:aD} (m:n∈v.said):n∈p.globals++f.own:=by
 simp only[Sm.known,zat,zaL]at h
 have h1:f.kV p n≠0:=fun e=>by
  have:v.said.any (fun n=>f.kV p n==0)=true:=List.any_eq_true.2 ⟨n,m,by simp[e]⟩
  rw[h.1]at this;cases this
 simp only[zar,Pc.own,Pc.mg]
 rcases Qk h1 with h2|h2|h2
 ·exact .inr (.inl h2)
 ·exact .inr (.inr h2)
 ·exact .inl h2
theorem vf {n:aD} : ∀ {l:List Ar} {out:List aD},n∈out∨(∃ a∈l,a.ref=true∧a.name=n)→n∈Ar.said out l
 | [],out,h=>by rcases h with h|⟨a,m,_⟩;exact h;cases m
 | b::l,out,h=>by
  simp only[Ar.said]
  refine vf ?_
  rcases h with h|⟨a,m,h1,h2⟩
  ·left;split<;>simp[h]
  ·rcases zaq.1 m with rfl | m
   ·left;rw[if_pos h1];simp[h2]
   ·exact .inr ⟨a,m,h1,h2⟩
theorem Ql {x:aD} : ∀ {l:List aD} {k:Nat},x∈l→∃ j:Nat,gi x (k:Int) l=((k+j:Nat):Int)∧j<l.length
 | s::l,k,m=>by
  by_cases e:x=s
  ·subst e;exact⟨0,by simp[gi],by simp⟩
  ·have e':(x==s)=false:=by simp [e]
   obtain⟨j,h1,h2⟩:=Ql (l:=l) (k:=k+1) ((zaq.1 m).resolve_left e)
   refine⟨j+1, ?_,by simp;omega⟩
   simp only[gi,e',zab,if_false]
   rw[show(k:Int)+1=((k+1:Nat):Int) by omega,h1];congr 1;omega
theorem Db {name:aD} {f:Pc} : ∀ {l:List Pc} {k:Nat},iB name l=some f→∃ j:Nat,mV (fun f:Pc=>f.name==name) (k:Int) l=((k+j:Nat):Int)∧l[j]? = some f
 | g::l,k,h=>by
  simp only[iB]at h
  by_cases e:(g.name==name)=true
  ·rw [if_pos e]at h;cases h
   exact⟨0,by simp only[mV,e,if_true,zaP],rfl⟩
  ·have e':(g.name==name)=false:=by simpa using e
   rw[if_neg e]at h
   obtain⟨j,h1,h2⟩:=Db (l:=l) (k:=k+1) h
   refine⟨j+1, ?_,by simpa using h2⟩
   simp only[mV,e',zab,if_false]
   rw[show(k:Int)+1=((k+1:Nat):Int) by omega,h1];congr 1;omega
def HW (p:Pg) (n:Nat) (fr:Fr):Prop:=∃ f,p.procs[fr.proc.toNat]? = some f∧0≤fr.proc∧fr.names=p.globals++f.own∧fr.vars.length=fr.names.length∧∀ c∈fr.vars,c<n
def FU (L:List Im):List Fr→Prop
 | []=>False
 | [fr]=>fr.call=0
 |fr::kh::l=>(Hm L kh.proc fr.call∧(fp L fr.call).s.kind=4)∧FU L (kh::l)
structure nS (p:Pg) (L:List Im) (a:Int) (m:Mc):Prop where
 st:FU L m.st
 fr : ∀ fr∈m.st,HW p m.mem.length fr
 at_:AtR (Hm L m.top.proc) a
 sV:p.globals.length≤m.mem.length
theorem HW.mono {p:Pg} {n n':Nat} {fr:Fr} (h:HW p n fr) (hn:n≤n'):HW p n' fr:=by
 obtain⟨f,h1,h2,h3,h4,h5⟩:=h
 exact⟨f,h1,h2,h3,h4,fun c m=>zaX (h5 c m) hn⟩
theorem FU.ne {L:List Im} {l:List Fr} (h:FU L l) : ∃ fr r,l=fr::r:=by
 cases l with
 |nil=>exact h.elim
 |cons fr r=>exact⟨fr,r,rfl⟩
theorem Mc.agB {L:List Im} {m:Mc} (h:FU L m.st):m.top∈m.st:=by
 obtain⟨fr,r,e⟩:=h.ne
 simp[Mc.top,e]
theorem nS.of {p:Pg} {L:List Im} {a a':Int} {m m':Mc} (h:nS p L a m) (h1:m'.st=m.st) (h2:m.mem.length≤m'.mem.length) (h3:AtR (Hm L m.top.proc) a'):nS p L a' m':=by
 have ht:m'.top=m.top:=by unfold Mc.top;rw[h1]
 exact⟨by rw[h1];exact h.st,fun fr hf=>(h.fr fr (by rw[← h1];exact hf)).mono h2,by rw[ht];exact h3,zaZ h.sV h2⟩
section
variable {p:Pg} {L:List Im} {m:Mc}
theorem agC {n:aD} {k:Nat} (h:HW p k m.top) (hn:n∈m.top.names):m.cell n<k∧∃ j:Nat,gi n 0 m.top.names=(j:Int)∧m.top.vars[j]? = some (m.cell n):=by
 obtain⟨f,h1,h2,h3,h4,h5⟩:=h
 obtain⟨j,e1,e2⟩:=Ql (k:=0) hn
 have e3:gi n 0 m.top.names=(j:Int):=by simpa using e1
 have e4:m.top.vars[j]? = some (m.cell n):=by
  unfold Mc.cell
  rw[e3,zaW,zay,zah (by omega)];rfl
 exact⟨h5 _ (zad e4),j,e3,e4⟩
theorem KZ {k:Nat} (hk:p.globals.length≤k) : ∀ (l:List Ar) (m:Mc) (out:List Nat),HW p m.mem.length m.top→(∀ a∈l,a.ref=true→a.name∈m.top.names)→(∀ c∈out,c<m.mem.length)→
 m.mem.length≤(Mc.args l m out).2.mem.length∧∀ o,(Mc.args l m out).1=some o→o.length=out.length+l.length∧∀ c∈o,c<(Mc.args l m out).2.mem.length
 | [],m,out,h,_,ho=>⟨zak _,fun o e=>by cases e;exact⟨rfl,ho⟩⟩
 | a::l,m,out,h,hn,ho=>by
  simp only[Mc.args]
  by_cases c:a.ref=true
  ·rw [if_pos c]
   obtain⟨g1,g2⟩:=KZ hk l m (out++ [m.cell a.name]) h (fun b mb=>hn b (zan _ mb)) fun x mx=>by
    rcases zar.1 mx with mx|mx
    ·exact ho x mx
    ·rw[zaJ.1 mx];exact(agC h (hn a (zaz ..) c)).1
   exact⟨g1,fun o e=>⟨by rw[(g2 o e).1];simp;omega,(g2 o e).2⟩⟩
  ·rw [if_neg c]
   have he:=iu m a.x
   by_cases c2:(m.bE a.x).1.2=true
   ·rw [if_pos c2]
    have ht:({(m.bE a.x).2 with mem:=(m.bE a.x).2.mem++ [(m.bE a.x).1.1]} : Mc).top=m.top:=by unfold Mc.top;rw[he.1]
    have hl:(m.bE a.x).2.mem.length=m.mem.length:=by rw[he.2.1]
    obtain⟨g1,g2⟩:=KZ hk l {(m.bE a.x).2 with mem:=(m.bE a.x).2.mem++ [(m.bE a.x).1.1]} (out++ [(m.bE a.x).2.mem.length]) (by rw[ht];exact h.mono (by simp[hl])) (by rw[ht];exact fun b mb=>hn b (zan _ mb)) fun x mx=>by
     rcases zar.1 mx with mx|mx
     ·have:=ho x mx;simp[hl];omega
     ·rw[zaJ.1 mx];simp
    exact⟨zaZ (by simp[hl]) g1,fun o e=>⟨by rw[(g2 o e).1];simp;omega,(g2 o e).2⟩⟩
   ·rw [if_neg c2]
    exact⟨by rw[he.2.1];exact zak _,fun o e=>by cases e⟩
theorem K5 (hP:POk p L) {i:Nat} {f:Pc} (hf:p.procs[i]? = some f) {l:List Nat} {call:Int} (hl:l.length=f.params.length) (hc : ∀ c∈l,c<m.mem.length) (hg:p.globals.length≤m.mem.length)
 (DE : ∀ fr∈m.st,HW p m.mem.length fr) (gG:(m.st = []∧call=0)∨(FU L m.st∧Hm L m.top.proc call∧(fp L call).s.kind=4)):nS p L (m.open p (i:Int) l call).1 (m.open p (i:Int) l call).2:=by
 unfold Mc.open
 rw[zaW,hf]
 dsimp only
 refine⟨?_,fun fr h=>?_,by exact hP.head i f hf,by simp;omega⟩
 ·rcases gG with ⟨h1,h2⟩ | ⟨h1,h2⟩
  ·rw[h1];exact h2
  ·obtain⟨fr,r,e⟩:=h1.ne
   dsimp only
   rw[e]at h1 ⊢
   have:m.top=fr:=by simp[Mc.top,e]
   rw[this]at h2
   exact⟨h2,h1⟩
 ·rcases zaq.1 h with rfl | h
  ·refine⟨f,by rw [zaW];exact hf,zbU _,rfl,by simp [Pc.own,Pc.mg,hl],fun c m=> ?_⟩
   simp only[zar,zbQ,zaG]at m
   simp only[zal,List.length_replicate]
   rcases m with (m|m)|⟨x,m,rfl⟩
   ·omega
   ·have:=hc c m;omega
   ·omega
  ·exact(DE fr h).mono (by simp)
theorem SJ (hP:POk p L) {a:Int} (h:nS p L a m) {g:Int} {a':Int} {m':Mc} (e:m.back L g=(some a',m')):nS p L a' m':=by
 have hs:=h.st
 unfold Mc.back Mc.close at e
 dsimp only at e
 obtain⟨fr,r,es⟩:=hs.ne
 have ht:m.top=fr:=by simp[Mc.top,es]
 by_cases c:(m.top.call==0)=true
 ·rw[if_pos c]at e;cases e
 ·rw [if_neg c]at e
  rw[es]at hs
  cases r with
  |nil=>rw[ht]at c;exact absurd (beq_iff_eq.2 (show fr.call=0 from hs)) c
  | cons kh r=>
   obtain⟨⟨h1,_⟩,h2⟩:=hs
   have iJ:fp L m.top.call∈L:=C6 (.inr (by rw[ht];exact⟨h1.1,h1.2.1⟩)) (by have:=h1.1;rw[ht];omega)
   obtain⟨f,o⟩:=hP.im _ iJ
   have ho:=o.next
   rw[show(fp L m.top.call).proc=kh.proc by rw[ht];exact h1.2.2]at ho
   rw[ht]at ho
   split at e<;>(dsimp only at e;split at e)<;>first|(cases e;done)|skip
   all_goals
    cases e
    refine⟨by simp only[Mc.set,es,List.tail_cons];exact h2,fun q hq=>?_,by simp only[Mc.set,Mc.top,es,List.tail_cons,List.headD_cons];exact ho,by simp only[Mc.set,zbr];exact h.sV⟩
    simp only[Mc.set,zbr]at hq ⊢
    exact h.fr q (by rw[es]at hq ⊢;exact zan _ hq)
end
theorem vS {p:Pg} (hR:p.Right) {x:Im} {f:Pc} (h:yY p p.aU.L x f) {n:aD} (m:n∈x.s.said):n∈p.globals++f.own:=
 acy (hR.known f (zad h.proc.1) x.s h.mem) m
theorem SK {p:Pg} (hR:p.Right) {x:Im} {f:Pc} (h:yY p p.aU.L x f) (hk:x.s.kind=4) : ∃ (j:Nat) (q:Pc),p.at x.s.proc=(j:Int)∧p.procs[j]? = some q∧x.s.args.length=q.params.length:=by
 have kN:x.s∈p.pre:=by
  simp only[Pg.pre,zbx,zaG];exact⟨_,⟨f,zad h.proc.1,rfl⟩,h.mem⟩
 have hf:=hR.fits x.s kN (by simp[hk])
 unfold Sm.mC at hf
 simp only[zat]at hf
 cases e:p.find x.s.proc with
 |none=>rw[e]at hf;cases hf.2
 |some q=>
  rw[e]at hf
  obtain⟨j,h1,h2⟩:=Db (k:=0) e
  refine⟨j,q,by simpa[Pg.at]using h1,h2, ?_⟩
  have:=hf.2
  simp only[xX]at this
  split at this
  ·rename_i h3;have:=(beq_iff_eq.1 h3);omega
  ·cases this
theorem SL {p:Pg} (hR:p.Right) {m:Mc} {W:List Int} {x:Im} {f:Pc} {a a':Int} {m':Mc} (h:nS p p.aU.L a m) (hx:yY p p.aU.L x f) (hk:x.s.kind=4) (hp:x.proc=m.top.proc) (Qm:(m.call p W x.s).2.fin=0)
 (e:m.call p W x.s=(a',m')) (h0:m.fin=0):nS p p.aU.L a' m':=by
 have hP:=qo hR
 have kn:=h.fr _ (Mc.agB h.st)
 obtain⟨f',t1,t2,t3,t4,t5⟩:=kn
 have ef:f'=f:=by have:=hx.proc.1;rw[hp,t1]at this;exact Option.some.inj this
 subst ef
 have aj4 : ∀ b∈x.s.args,b.ref=true→b.name∈m.top.names:=fun b mb hb=>by
  rw[t3];exact vS hR hx (vf (.inr ⟨b,mb,hb,rfl⟩))
 obtain⟨j,q,c1,c2,c3⟩:=SK hR hx hk
 have g1:=KZ h.sV x.s.args m [] ⟨f',t1,t2,t3,t4,t5⟩ aj4 (by simp)
 have g2:=Cc x.s.args m []
 have g3:=HP x.s.args m [] h0
 unfold Mc.call at e Qm
 generalize Mc.args x.s.args m [] = r at *
 obtain⟨o,m1⟩:=r
 cases o with
 |none=>
  dsimp only at Qm g3
  rw[g3.2]at Qm;cases Qm
 | some l=>
  dsimp only at e Qm g1 g2 g3
  by_cases c:m1.st.length > 100
  ·rw[if_pos c]at Qm;cases Qm
  ·rw [if_neg c]at e
   have he:=dV W m1 x.s.id []
   have ht:(m1.event W x.s.id []).top=m.top:=by unfold Mc.top;rw[he.1,g2.1]
   have:=K5 (m:=m1.event W x.s.id []) hP c2 (l:=l) (call:=x.s.id) (by rw[(g1.2 l rfl).1,c3];simp) (by rw[he.2.1];exact(g1.2 l rfl).2) (by rw[he.2.1];exact zaZ h.sV g1.1)
    (by rw[he.1,he.2.1,g2.1];exact fun fr DE=>(h.fr fr DE).mono g1.1) (.inr ⟨by rw[he.1,g2.1];exact h.st,by rw[ht];exact⟨hx.self.2.1,hx.self.2.2,by rw[hx.self.1];exact hp⟩,by rw[hx.self.1];exact hk⟩)
   rw[← c1,e]at this
   exact this
theorem aez {p:Pg} (hR:p.Right) {m:Mc} {T W:List Int} {x:Im} {f:Pc} {a:Int} (h:nS p p.aU.L a m) (hx:yY p p.aU.L x f) (hp:x.proc=m.top.proc) :
 ((m.do p p.aU.L T W x).2.fin=0→nS p p.aU.L (m.do p p.aU.L T W x).1 (m.do p p.aU.L T W x).2):=by
 intro h0
 have ev : ∀ (m1:Mc) (id:Int) (bq:List Int),(m1.event W id bq).st=m1.st∧(m1.event W id bq).mem=m1.mem:=fun m1 id bq=>⟨(dV W m1 id bq).1,(dV W m1 id bq).2.1⟩
 have key : ∀ (m1:Mc) (b:Int),m1.st=m.st→m1.mem.length=m.mem.length→AtR (Hm p.aU.L x.proc) b→nS p p.aU.L b m1:=fun m1 b h1 h2 h3=>h.of h1 (Nat.le_of_eq h2.symm) (by rw[← hp];exact h3)
 have hw:=iu m x.s.x
 unfold Mc.do at h0 ⊢
 dsimp only at h0 ⊢
 by_cases c7:(x.s.kind==7)=true
 ·rw [if_pos c7]
  have hk:x.s.kind=7:=by simpa using c7
  have hl:=hx.loop (.inl hk)
  have iJ:=C6 (L:=p.aU.L) (a:=x.loop) (.inr ⟨hl.1,hl.2.1⟩) (by have:=hl.1;omega)
  obtain⟨g,o⟩:=(qo hR).im _ iJ
  refine key _ _ (ev _ _ _).1 (by rw[(ev _ _ _).2]) ?_
  have:=o.next
  rw[hl.2.2]at this;exact this
 rw[if_neg c7]at h0 ⊢
 by_cases c8:(x.s.kind==8)=true
 ·rw [if_pos c8]
  exact key _ _ (ev _ _ _).1 (by rw[(ev _ _ _).2]) (.inr (hx.loop (.inr (by simpa using c8))))
 rw[if_neg c8]at h0 ⊢
 by_cases c10:(x.s.kind==10)=true
 ·rw [if_pos c10]
  refine key _ _ (ev _ _ _).1 (by rw[(ev _ _ _).2]) ?_
  have:=hx.VX (by simpa using c10)
  rw[hx.proc.1];exact this
 rw[if_neg c10]at h0 ⊢
 by_cases c2:(x.s.kind==2)=true
 ·rw [if_pos c2]at h0 ⊢
  split at h0
  ·cases h0
  ·rename_i n e
   exact key _ _ (ev _ _ _).1 (by rw[(ev _ _ _).2];simp[Mc.set]) hx.next
 rw[if_neg c2]at h0 ⊢
 by_cases cw:(m.bE x.s.x).1.2=true
 ·rw [if_pos cw]at h0 ⊢
  have e1:((m.bE x.s.x).2.event W x.s.id [(m.bE x.s.x).1.1]).st=m.st:=(ev _ _ _).1.trans hw.1
  have e2:((m.bE x.s.x).2.event W x.s.id [(m.bE x.s.x).1.1]).mem.length=m.mem.length:=by rw[(ev _ _ _).2,hw.2.1]
  have fo : ∀ (l:List Sm) (b:Int),AtR (Hm p.aU.L x.proc) (eR l (-1))→AtR (Hm p.aU.L x.proc) b→AtR (Hm p.aU.L x.proc) (firstM l b):=fun l b h1 h2=>by
   cases l with
   |nil=>exact h2
   |cons s l=>exact h1
  split
  ·exact key _ _ e1 (by simp only[Mc.set,zbr];exact e2) hx.next
  split
  ·exact key _ _ e1 e2 hx.next
  split
  ·refine key _ _ e1 e2 ?_
   split
   ·exact fo _ _ hx.aH hx.next
   ·exact fo _ _ hx.aY hx.next
  split
  ·refine key _ _ e1 e2 ?_
   split
   ·exact hx.next
   ·exact fo _ _ hx.aY (.inr ⟨hx.self.2.1,hx.self.2.2,by rw[hx.self.1]⟩)
  ·exact key _ _ e1 e2 hx.next
 ·rw [if_neg cw]at h0
  have:(m.bE x.s.x).2.fin=4:=by unfold Mc.bE;dsimp only;rw[if_neg (show ¬ (x.s.x.bE m.top.names m.bq).2=true from cw)]
  rw[this]at h0;cases h0
end Go.Abs
namespace Go.Abs
structure Lay where
 κ:List Nat
 φ:List Nat
 sd:D
 vd:D
 ev:List Nat -- of each doing that is told, the token of what it tells
def D.arr:D→List Nat
 | .dr _ o _ _=> [o]
 |_=> []
def Lay.own (y:Lay):List Nat:=0::(y.κ++(y.sd.arr++y.vd.arr))
def gE (o:Nat):List D:= [.ptr o 0]
def si (κ:List Nat) (f:Fr):List D:= [.int .i64 f.proc, .slice .shared 1 (f.names.map encStr), .slice .shared 1 (f.vars.map fun c=>gE (κ.getD c 0)), .int .i64 f.call]
def jv (e:Int×List Int):List D:= [.int .i64 e.1, .slice .shared 1 (e.2.map bl)]
def Qn (bq:List Int) (k:Nat):D:= .slice (if bq = []then .shared else .tok k) 1 (bq.map bl)
def rE (e:Int×List Int) (k:Nat):List D:= [.int .i64 e.1,Qn e.2 k]
abbrev fZ (p:Pg) (T W:List Int) (y:Lay) (m:Mc):List D:=
 [.dW (gn p) 0, .slice .shared 1 ((y.κ.take p.globals.length).map gE), .slice .shared 1 (T.map bl), .slice .shared 1 (W.map bl),y.sd,y.vd,
  .int .i64 m.fin, .int .i64 m.steps, .int .i64 m.reads, .slice (.tok 0) 1 (m.out.map bl), .slice (.tok 1) 2 (List.zipWith rE m.trace y.ev)]
def gj (n:Int):D:= .int .i64 n
def Bc (o:Nat):D:= .ptr o 0
def lf (s:St) (d:D) (cs:List D):Prop:=(d = .ew 1∧cs = [])∨∃ o g more,d = .dr 1 o g cs.length∧s.ag[o]? = some (.int .i64 ((g:Nat):Int)::(cs++more))
structure vy (ts:List (Option Nat)) (tr:List (Int×List Int)) (ev:List Nat):Prop where
 len:ev.length=tr.length
 own : ∀ (i:Nat) (e:Int×List Int) (k:Nat),tr[i]? = some e→ev[i]? = some k→e.2≠ []→2≤k∧ts[k]? = some (some e.2.length)∧∀ j,ev[j]? = some k→j=i
 lt : ∀ k∈ev,k<ts.length
theorem vy.keep {ts pP:List (Option Nat)} {tr:List (Int×List Int)} {ev:List Nat} (h:vy ts tr ev) (k : ∀ t∈ev,2≤t→pP[t]? = ts[t]?) (hl:ts.length≤pP.length):vy pP tr ev:=
 ⟨h.len,fun i e t h1 h2 h3=>by
  obtain⟨g1,g2,g3⟩:=h.own i e t h1 h2 h3
  exact⟨g1,by rw[k t (zad h2) g1];exact g2,g3⟩,fun t m=>zaX (h.lt t m) hl⟩
theorem vy.set {ts:List (Option Nat)} {tr:List (Int×List Int)} {ev:List Nat} (h:vy ts tr ev) {t:Nat} (ht:t<2) (x:Option Nat):vy (ts.set t x) tr ev:=
 h.keep (fun q _ hq=>zam (by omega)) (by simp)
theorem vy.more {ts:List (Option Nat)} {tr:List (Int×List Int)} {ev:List Nat} (h:vy ts tr ev) {id:Int} {bq:List Int} {k:Nat} (hk:k<ts.length) (hv:bq≠ []→2≤k∧ts[k]? = some (some bq.length)∧k∉ev) (h0:bq = []→k=0):vy ts (tr++ [(id,bq)]) (ev++ [k]):=by
 refine⟨by simp[h.len],fun i e t h1 h2 h3=>?_,fun t mt=>?_⟩
 ·have hi:=(zac.1 h1).1
  simp only[zal,zaH]at hi
  rcases zaE i tr.length with hl|hl
  ·rw [zai hl]at h1
   rw[zai (by rw[h.len];exact hl)]at h2
   obtain⟨g1,g2,g3⟩:=h.own i e t h1 h2 h3
   refine⟨g1,g2,fun j hj=>?_⟩
   rcases zaE j ev.length with xG|xG
   ·rw[zai xG]at hj;exact g3 j hj
   ·rw [zao xG,List.getElem?_singleton]at hj
    split at hj
    ·cases hj
     by_cases An:bq = []
     ·have:=h0 An;omega
     ·exact absurd (zad h2) (hv An).2.2
    ·cases hj
  ·have:i=tr.length:=by omega
   subst this
   rw[zao (zak _),Nat.sub_self]at h1
   rw[zao (by rw[h.len];exact zak _),h.len,Nat.sub_self]at h2
   cases h1;cases h2
   obtain⟨g1,g2,g3⟩:=hv h3
   refine⟨g1,g2,fun j hj=>?_⟩
   rcases zaE j ev.length with xG|xG
   ·rw[zai xG]at hj;exact absurd (zad hj) g3
   ·have:=(zac.1 hj).1
    have:=h.len
    simp only[zal,zaH]at *
    omega
 ·rcases zar.1 mt with mt | mt
  ·exact h.lt t mt
  ·rw[zaJ.1 mt];exact hk
structure Inv (p:Pg) (T W:List Int) (y:Lay) (m:Mc) (loc:List (Nat×List D)) (s:St):Prop where
 fi:s.ag[0]? = some (fZ p T W y m)
 t0:s.au[0]? = some (some m.out.length)
 t1:s.au[1]? = some (some m.trace.length)
 ev:vy s.au m.trace y.ev
 len:y.κ.length=m.mem.length
 cell : ∀ (i c:Nat) (v:Int),y.κ[i]? = some c→m.mem[i]? = some v→s.ag[c]? = some [.int .i64 v]
 vT:y.φ.length=m.st.length
 frame : ∀ (i o:Nat) (fr:Fr),y.φ[i]? = some o→m.st[i]? = some fr→s.ag[o]? = some (si y.κ fr)∧o∉y.own∧∀ c∈fr.vars,c<m.mem.length
 stack:lf s y.sd (y.φ.reverse.map Bc)
 bq : ∃ l:List Int,lf s y.vd (l.map gj)
 own:y.own.Nodup
 loc : ∀ q∈loc,s.ag[q.1]? = some q.2∧q.1∉y.own
theorem lf.lt {s:St} {d:D} {cs:List D} (h:lf s d cs) : ∀ o∈d.arr,o<s.ag.length:=by
 rcases h with ⟨rfl,_⟩|⟨o,g,more,rfl,h⟩
 ·intro o m;simp[D.arr]at m
 ·intro o' m
  have:o'=o:=by simpa[D.arr]using m
  subst this;exact cY h
theorem lf.keep {s s':St} {d:D} {cs:List D} (h:lf s d cs) (k : ∀ o∈d.arr,s'.ag[o]? = s.ag[o]?):lf s' d cs:=by
 rcases h with h|⟨o,g,more,rfl,h⟩
 ·exact .inl h
 ·exact .inr ⟨o,g,more,rfl,by rw[k o (by simp[D.arr])];exact h⟩
theorem MB {κ e:List Nat} {fr:Fr} (h : ∀ c∈fr.vars,c<κ.length):si (κ++e) fr=si κ fr:=by
 unfold si
 rw[zbB (g:=fun c=>gE (κ.getD c 0)) fun c m=>by rw[zay,zay,zai (h c m)]]
section
variable {p:Pg} {T W:List Int} {y:Lay} {m:Mc} {loc:List (Nat×List D)} {s:St}
theorem Inv.tu (h:Inv p T W y m loc s) : ∀ o∈y.own,o<s.ag.length:=by
 intro o mo
 simp only[Lay.own,zaq,zar]at mo
 rcases mo with rfl|mo|mo|mo
 ·exact cY h.fi
 ·obtain⟨i,hi⟩:=zbM mo
  have hD:=(zac.1 hi).1
  exact cY (h.cell i o _ hi (zah (by rw[← h.len];exact hD)))
 ·exact h.stack.lt o mo
 ·obtain⟨l,hl⟩:=h.bq
  exact hl.lt o mo
theorem Inv.xM (h:Inv p T W y m loc s):0<s.ag.length:=cY h.fi
theorem Inv.sub (h:Inv p T W y m loc s) {Qo:List (Nat×List D)} (hl : ∀ q∈Qo,q∈loc):Inv p T W y m Qo s:= {h with loc:=fun q m=>h.loc q (hl q m)}
theorem Inv.keep (h:Inv p T W y m loc s) {s':St} (k : ∀ (o:Nat) (r:List D),s.ag[o]? = some r→s'.ag[o]? = some r) (kt : ∀ t,t<2∨t∈y.ev→s'.au[t]? = s.au[t]?) (kl:s.au.length≤s'.au.length):Inv p T W y m loc s':=by
 have ka : ∀ {d:D} {cs:List D},lf s d cs→lf s' d cs:=fun ha=>ha.keep fun o mo=>by
  rw[zah (ha.lt o mo)];exact k o _ (zah _)
 obtain⟨l,hl⟩:=h.bq
 exact⟨k _ _ h.fi,by rw[kt 0 (.inl (by decide))];exact h.t0,by rw[kt 1 (.inl (by decide))];exact h.t1,h.ev.keep (fun t m _=>kt t (.inr m)) kl,h.len,fun i c v h1 h2=>k _ _ (h.cell i c v h1 h2),h.vT,fun i o fr h1 h2=>⟨k _ _ (h.frame i o fr h1 h2).1,(h.frame i o fr h1 h2).2⟩,
  ka h.stack,⟨l,ka hl⟩,h.own,fun q m=>⟨k _ _ (h.loc q m).1,(h.loc q m).2⟩⟩
theorem Inv.new (h:Inv p T W y m loc s) (row:List D):Inv p T W y m ((s.ag.length,row)::loc) ⟨s.ag++ [row],s.au⟩:=by
 have h':=h.keep (s':=⟨s.ag++ [row],s.au⟩) (fun o r e=>by rw[zai (cY e)];exact e) (fun _ _=>rfl) (zak _)
 refine {h' with loc:=fun q mq=>?_}
 rcases zaq.1 mq with rfl|mq
 ·exact⟨by simp,fun mo=>zbY _ (h.tu _ mo)⟩
 ·exact h'.loc q mq
theorem Inv.tlt (h:Inv p T W y m loc s) : ∀ t,t<2∨t∈y.ev→t<s.au.length:=fun t ht=>by
 have:=(zac.1 h.t1).1
 rcases ht with ht|ht
 ·omega
 ·exact h.ev.lt t ht
theorem Inv.au (h:Inv p T W y m loc s) (ts:List (Option Nat)):Inv p T W y m loc ⟨s.ag,s.au++ts⟩:=
 h.keep (fun _ _ e=>e) (fun t ht=>zai (h.tlt t ht)) (by simp)
theorem Inv.J3 (h:Inv p T W y m loc s) {o:Nat} (ho:o∈y.own) (row:List D) {q:Nat} {r:List D} (hq:s.ag[q]? = some r) (hn:q≠o):(s.ag.set o row)[q]? = some r:=by
 rw[zam (Ne.symm hn)];exact hq
theorem Inv.yZ (h:Inv p T W y m loc s) {o:Nat} (ho:o∈y.κ++(y.sd.arr++y.vd.arr)):o≠0:=fun e=>by
 have:=h.own
 rw[Lay.own,za4]at this
 exact this.1 (e ▸ ho)
theorem Inv.aj7 (h:Inv p T W y m loc s) {m':Mc} {ev:List Nat} (h1:m'.st=m.st) (h2:m'.mem=m.mem) {ts:List (Option Nat)} (k0:ts[0]? = some (some m'.out.length)) (k1:ts[1]? = some (some m'.trace.length)) (he:vy ts m'.trace ev) :
 Inv p T W {y with ev:=ev} m' loc ⟨s.ag.set 0 (fZ p T W {y with ev:=ev} m'),ts⟩:=by
 have ne : ∀ {q:Nat} {r:List D},s.ag[q]? = some r→q≠0→(s.ag.set 0 (fZ p T W {y with ev:=ev} m'))[q]? = some r:=fun e hn=>h.J3 (by simp[Lay.own]) _ e hn
 have nf : ∀ {q:Nat},q∉y.own→q≠0:=fun hq e=>hq (by rw[e];simp[Lay.own])
 have ka : ∀ {d:D} {cs:List D},(∀ o∈d.arr,o∈y.κ++(y.sd.arr++y.vd.arr))→lf s d cs→lf ⟨s.ag.set 0 (fZ p T W {y with ev:=ev} m'),ts⟩ d cs:=fun hd ha=>ha.keep fun o mo=>by
  show(s.ag.set 0 _)[o]? = _
  rw[zam (Ne.symm (h.yZ (hd o mo)))]
 obtain⟨l,hl⟩:=h.bq
 refine⟨by simp[h.xM],k0,k1,he,by rw[h2];exact h.len,fun i c v e1 e2=>ne (h.cell i c v e1 (by rw[← h2];exact e2)) (h.yZ (zaK _ (zad e1))),by rw[h1];exact h.vT,fun i o fr e1 e2=>?_,
  ka (fun o m=>by simp[m]) h.stack,⟨l,ka (fun o m=>by simp[m]) hl⟩,h.own,fun q mq=>⟨ne (h.loc q mq).1 (nf (h.loc q mq).2),(h.loc q mq).2⟩⟩
 rw[h1]at e2
 obtain⟨g1,g2,g3⟩:=h.frame i o fr e1 e2
 exact⟨ne g1 (nf g2),g2,by rw[h2];exact g3⟩
theorem Inv.nJ (h:Inv p T W y m loc s) {m':Mc} (h1:m'.st=m.st) (h2:m'.mem=m.mem) {ts:List (Option Nat)} (k0:ts[0]? = some (some m'.out.length)) (k1:ts[1]? = some (some m'.trace.length)) (he:vy ts m'.trace y.ev) :
 Inv p T W y m' loc ⟨s.ag.set 0 (fZ p T W y m'),ts⟩:=h.aj7 h1 h2 k0 k1 he
theorem Inv.K6 (h:Inv p T W y m loc s) {i c:Nat} (hc:y.κ[i]? = some c) (v:Int):Inv p T W y {m with mem:=m.mem.set i v} loc ⟨s.ag.set c [.int .i64 v],s.au⟩:=by
 have iJ:c∈y.κ:=zad hc
 have kP:c<s.ag.length:=h.tu c (by simp[Lay.own,iJ])
 have BJ:=h.own
 rw[Lay.own,za4,za8]at BJ
 have hκ : ∀ i',y.κ[i']? = some c→i'=i:=fun i' e=>(List.getElem?_inj (zac.1 e).1 BJ.2.1).1 (e.trans hc.symm)
 have ne : ∀ {q:Nat} {r:List D},s.ag[q]? = some r→q≠c→(s.ag.set c [.int .i64 v])[q]? = some r:=fun e hn=>h.J3 (o:=c) (by simp[Lay.own,iJ]) _ e hn
 have nf : ∀ {q:Nat},q∉y.own→q≠c:=fun hq e=>hq (by rw[e];simp[Lay.own,iJ])
 have ka : ∀ {d:D} {cs:List D},(∀ o∈d.arr,o∈y.sd.arr++y.vd.arr)→lf s d cs→lf ⟨s.ag.set c [.int .i64 v],s.au⟩ d cs:=fun hd ha=>ha.keep fun o mo=>by
  show(s.ag.set c _)[o]? = _
  rw[zam (fun e=>BJ.2.2.2 c iJ o (hd o mo) e)]
 obtain⟨l,hl⟩:=h.bq
 refine⟨ne h.fi (fun e=>h.yZ (zaK _ iJ) e.symm),h.t0,h.t1,h.ev,by rw[h.len,zbr],fun i' c' v' e1 e2=>?_,h.vT,fun i' o fr e1 e2=>?_,
  ka (fun o m=>by simp[m]) h.stack,⟨l,ka (fun o m=>by simp[m]) hl⟩,h.own,fun q mq=>⟨ne (h.loc q mq).1 (nf (h.loc q mq).2),(h.loc q mq).2⟩⟩
 ·show(s.ag.set c _)[c']? = _
  simp only[zaM]at e2
  by_cases e:i=i'
  ·subst e
   rw[hc]at e1;cases e1
   rw[if_pos rfl]at e2
   split at e2
   ·cases e2;simp[kP]
   ·cases e2
  ·rw [if_neg e]at e2
   have:c'≠c:=fun ec=>e (hκ i' (by rw[e1,ec])).symm
   exact ne (h.cell i' c' v' e1 e2) this
 ·obtain⟨g1,g2,g3⟩:=h.frame i' o fr e1 e2
  exact⟨ne g1 (nf g2),g2,by simpa using g3⟩
theorem Inv.K7 (h:Inv p T W y m loc s) (v:Int) (hg:p.globals.length≤m.mem.length):Inv p T W {y with κ:=y.κ++ [s.ag.length]} {m with mem:=m.mem++ [v]} loc ⟨s.ag++ [[.int .i64 v]],s.au⟩:=by
 have h':=h.keep (s':=⟨s.ag++ [[.int .i64 v]],s.au⟩) (fun o r e=>by rw[zai (cY e)];exact e) (fun _ _=>rfl) (zak _)
 have qw:s.ag.length∉y.own:=fun mo=>zbY _ (h.tu _ mo)
 have BJ:=h.own
 have ho : ∀ o,o∈Lay.own {y with κ:=y.κ++ [s.ag.length]}→o∈y.own∨o=s.ag.length:=fun o mo=>by
  simp only[Lay.own,zaq,zar]at mo ⊢
  rcases mo with rfl|(mo|rfl|mo)|mo|mo
  ·exact .inl (.inl rfl)
  ·exact .inl (.inr (.inl mo))
  ·exact .inr rfl
  ·cases mo
  ·exact .inl (.inr (.inr (.inl mo)))
  ·exact .inl (.inr (.inr (.inr mo)))
 refine⟨by rw[h'.fi];simp only[fZ];rw[zbN (by rw[h.len];exact hg)],h'.t0,h'.t1,h'.ev,by simp[h.len],fun i c v' e1 e2=>?_,h'.vT,fun i o fr e1 e2=>?_,h'.stack,h'.bq, ?_,fun q mq=>⟨(h'.loc q mq).1,fun mo=>?_⟩⟩
 ·rcases zaE i y.κ.length with hi | hi
  ·rw [zai hi]at e1
   rw[zai (by rw[← h.len];exact hi)]at e2
   exact h'.cell i c v' e1 e2
  ·have jL:i=y.κ.length:=by
    have:=(zac.1 e1).1
    simp at this;omega
   subst jL
   rw[zao (zak _)]at e1
   rw[zao (by rw[h.len];exact zak _)]at e2
   simp at e1;subst e1
   simp[h.len]at e2;subst e2
   simp
 ·obtain⟨g1,g2,g3⟩:=h'.frame i o fr e1 e2
  refine⟨by rw[MB (by rw[h.len];exact g3)];exact g1,fun mo=>?_,fun c mc=>by simp only[zal];have:=g3 c mc;omega⟩
  rcases ho o mo with mo|rfl
  ·exact g2 mo
  ·exact absurd (cY (h.frame i _ fr e1 e2).1) (zbY _)
 ·have:(Lay.own {y with κ:=y.κ++ [s.ag.length]}).Perm (s.ag.length::y.own):=by
   simp only[Lay.own,zaB,List.singleton_append]
   exact(List.Perm.cons _ List.perm_middle).trans (List.Perm.swap _ _ _)
  rw[this.nodup_iff,za4]
  exact⟨qw,BJ⟩
 ·rcases ho _ mo with mo | e
  ·exact(h'.loc q mq).2 mo
  ·exact absurd (cY (h.loc q mq).1) (by rw[e];exact zbY _)
theorem Inv.K8 (h:Inv p T W y m loc s) {vd:D} {s1:St} (k : ∀ (o:Nat) (r:List D),s.ag[o]? = some r→o∉y.vd.arr→s1.ag[o]? = some r) (hv : ∃ l:List Int,lf s1 vd (l.map gj)) (hn:vd.arr=y.vd.arr∨vd.arr = []∨vd.arr = [s.ag.length]) (ht:s1.au=s.au) :
 Inv p T W {y with vd:=vd} m loc ⟨s1.ag.set 0 (fZ p T W {y with vd:=vd} m),s1.au⟩:=by
 have BJ:=h.own
 have aj8:=BJ
 rw[Lay.own,za4,za8,za8]at aj8
 obtain⟨n0,nκ,⟨ns,nv,nsv⟩,Qp⟩:=aj8
 have v0 : ∀ o∈y.vd.arr,o≠0:=fun o mo=>h.yZ (by simp[mo])
 have xx:0<s1.ag.length:=cY (k 0 _ h.fi fun mo=>v0 0 mo rfl)
 have g : ∀ {o:Nat} {r:List D},s.ag[o]? = some r→o∉y.vd.arr→o≠0→(s1.ag.set 0 (fZ p T W {y with vd:=vd} m))[o]? = some r:=fun e hv hn=>by
  rw[zam (Ne.symm hn)];exact k _ _ e hv
 have Qq : ∀ o,o∈Lay.own {y with vd:=vd}→o∈y.own∨o=s.ag.length:=fun o mo=>by
  simp only[Lay.own,zaq,zar]at mo ⊢
  rcases mo with rfl|mo|mo|mo
  ·exact .inl (.inl rfl)
  ·exact .inl (.inr (.inl mo))
  ·exact .inl (.inr (.inr (.inl mo)))
  ·rcases hn with e | e | e
   ·rw[e]at mo;exact .inl (.inr (.inr (.inr mo)))
   ·rw[e]at mo;cases mo
   ·rw[e]at mo;exact .inr (zaJ.1 mo)
 have nk : ∀ o∈y.κ,o∉y.vd.arr:=fun o mo mv=>Qp o mo o (za7 _ mv) rfl
 have nsd : ∀ o∈y.sd.arr,o∉y.vd.arr:=fun o mo mv=>nsv o mo o mv rfl
 have nfr : ∀ {o:Nat},o∉y.own→o∉y.vd.arr∧o≠0:=fun ho=>⟨fun mv=>ho (by simp[Lay.own,mv]),fun e=>ho (by rw[e];simp[Lay.own])⟩
 obtain⟨l,hl⟩:=hv
 refine⟨by simp[xx],by rw[ht];exact h.t0,by rw[ht];exact h.t1,by rw[ht];exact h.ev,h.len,fun i c v e1 e2=>g (h.cell i c v e1 e2) (nk c (zad e1)) (h.yZ (by simp[zad e1])),h.vT,fun i o fr e1 e2=>?_, ?_,⟨l, ?_⟩, ?_,fun q mq=>?_⟩
 ·obtain⟨f1,f2,f3⟩:=h.frame i o fr e1 e2
  refine⟨g f1 (nfr f2).1 (nfr f2).2,fun mo=>?_,f3⟩
  rcases Qq o mo with mo|e
  ·exact f2 mo
  ·exact absurd (cY f1) (by rw[e];exact zbY _)
 ·refine h.stack.keep fun o mo=> ?_
  rw[zah (h.stack.lt o mo)]
  exact g (zah _) (nsd o mo) (h.yZ (by simp[mo]))
 ·refine hl.keep fun o mo=> ?_
  have:o≠0:=by
   rcases hn with e|e|e
   ·rw[e]at mo;exact v0 o mo
   ·rw[e]at mo;cases mo
   ·rw[e]at mo;rw[zaJ.1 mo];have:=h.xM;omega
  show(s1.ag.set 0 _)[o]? = _
  rw[zam (Ne.symm this)]
 ·rcases hn with e | e | e
  ·simp only[Lay.own,e];exact BJ
  ·simp only [Lay.own,e,zaF]
   rw[za4,za8]
   exact⟨fun m=>n0 (by rcases zar.1 m with m|m<;>simp[m]),nκ,ns,fun a ma b mb=>Qp a ma b (zaK _ mb)⟩
  ·simp only [Lay.own,e]
   have dF : ∀ o∈y.own,o≠s.ag.length:=fun o mo e=>by have:=h.tu o mo;omega
   rw[za4,za8,za8]
   refine⟨fun m=>?_,nκ,⟨ns,by simp,fun a ma b mb=>?_⟩,fun a ma b mb=>?_⟩
   ·rcases zar.1 m with m | m
    ·exact n0 (by simp[m])
    ·rcases zar.1 m with m | m
     ·exact n0 (by simp[m])
     ·have:=zaJ.1 m;have:=h.xM;omega
   ·rw[zaJ.1 mb];exact dF a (by simp[Lay.own,ma])
   ·rcases zar.1 mb with mb | mb
    ·exact Qp a ma b (zaK _ mb)
    ·rw[zaJ.1 mb];exact dF a (by simp[Lay.own,ma])
 ·obtain⟨f1,f2⟩:=h.loc q mq
  refine⟨g f1 (nfr f2).1 (nfr f2).2,fun mo=>?_⟩
  rcases Qq q.1 mo with mo|e
  ·exact f2 mo
  ·exact absurd (cY f1) (by rw[e];exact zbY _)
end
end Go.Abs
namespace Go.Abs
set_option maxRecDepth 8000
open Go.Proofs
theorem V3 (b:Bool) (s:St):ay Tryz.prog 178 [.bool b] s (.int .i64 (o7 b)) s:=by
 refine ay.pure ?_ rfl rfl s
 generalize h:o7 b=R
 simp only[o7]at h
 unfold S0
 refine ay.go Pk.h rfl fun B Q hB hQ=>?_
 have⟨hD,hZ,gC,gD⟩:=bc
 exact iX trivial
theorem agD (a:Int) (s:St):ay Tryz.prog 156 [.int .i64 a] s (.bool (!(a==0))) s:=by
 refine ay.pure ?_ rfl rfl s
 have e:(a != 0) = !(a==0):=rfl
 unfold S0
 refine ay.go KH.h rfl fun B Q hB hQ=>?_
 have⟨hD,hZ,gC,gD⟩:=bc
 exact dR e
abbrev qc (r:Int×Bool):D:= .tuple [.int .i64 r.1, .bool r.2]
theorem anp (op a:Int) (s:St):ay Tryz.prog 155 [.int .i64 op, .int .i64 a] s (qc (C4 op a)) s:=by
 refine ay.pure ?_ rfl rfl s
 generalize h:C4 op a=R
 simp only[C4,np]at h
 unfold S0
 refine ay.go Ps.h rfl fun B Q hB hQ=>?_
 have⟨hD,hZ,gC,gD⟩:=bc
 exact wT trivial V3
theorem acz (op a b:Int) (s:St):ay Tryz.prog 179 [.int .i64 op, .int .i64 a, .int .i64 b] s (qc (HN op a b)) s:=by
 refine ay.pure ?_ rfl rfl s
 generalize h:HN op a b=R
 simp only[HN,np]at h
 unfold S0
 rcases zaa (b==0)with b0|b0
 ·refine ay.go zT.h rfl fun B Q hB hQ=> ?_
  have⟨hD,hZ,gC,gD⟩:=bc
  exact iX trivial
 ·have hb:b≠0:=by simpa using b0
  refine ay.go zT.h rfl fun B Q hB hQ=>?_
  have⟨hD,hZ,gC,gD⟩:=bc
  exact iX hb
theorem Y6 (op a b:Int) (s:St):ay Tryz.prog 180 [.int .i64 op, .int .i64 a, .int .i64 b] s (qc (C5 op a b)) s:=by
 refine ay.pure ?_ rfl rfl s
 have e:(a != b) = !(a==b):=rfl
 generalize h:C5 op a b=R
 simp only[C5]at h
 unfold S0
 refine ay.go Hx.h rfl fun B Q hB hQ=>?_
 have⟨hD,hZ,gC,gD⟩:=bc
 exact wT e V3
theorem anq (op a b:Int) (s:St):ay Tryz.prog 157 [.int .i64 op, .int .i64 a, .int .i64 b] s (qc (vP op a b)) s:=by
 refine ay.pure ?_ rfl rfl s
 have e1:(a != 0) = !(a==0):=rfl
 have e2:(b != 0) = !(b==0):=rfl
 generalize h:vP op a b=R
 simp only[vP,np]at h
 unfold S0
 refine ay.go Pu.h rfl fun B Q hB hQ=>?_
 have⟨hD,hZ,gC,gD⟩:=bc
 repeat' (first
 |simp only[go_sem,hD,hZ,gC,gD,e1,e2]
 |(with_reducible refine CU (V3 _ _) ?_)
 |(with_reducible refine CU (acz _ _ _ _) ?_)
 |(with_reducible refine CU (Y6 _ _ _ _) ?_)
 |(with_reducible first|refine fv fun hc=>?_|refine fw fun hc=>?_|refine fx (fun hc=>?_) fun hc=>?_)<;>(try simp only[hc,bs,↓reduceIte]at h)<;>try simp only[hc]
 |((with_reducible refine aX hQ ?_);(try cases h);simp only[bZ,cd,dn,dq,go_sem,hD,hZ,gC,gD,e1,e2];try exact kI))
def za (x:Int) (k:Int):List Int→Int
 | []=> -1
 |s::l=>if x==s then k else za x (k+1) l
theorem SM (x:Int) : ∀ (l:List Int) (k:Int),0≤k→(za x k l≥0↔l.contains x=true)
 | [],k,h=>by simp[za]
 | s::l,k,h=>by
  by_cases e:x=s
  ·simp[za,e];omega
  ·have e':(x==s)=false:=by simp [e]
   simp only[za,e',zab,if_false,List.contains_cons,zbj]
   exact SM x l (k+1) (by omega)
theorem acA {l:List Int} (hl:l.length<4611686018427387904) (x:Int) (s:St):ay Tryz.prog 131 [.slice .shared 1 (l.map bl), .int .i64 x] s (.int .i64 (za x 0 l)) s:=by
 refine ay.pure ?_ (by simp[D.bJ,D.ok,Tag.ok,gY]) rfl s
 generalize h:za x 0 l=p
 unfold S0
 refine ay.go CN.h rfl fun B Q hB hQ=>?_
 have⟨hD,hZ,gC,gD⟩:=bc
 refine bT trivial ?_
 refine dg 0 0 (aJ.ind (ι:=List Int×Nat) (fun i=>l.drop i.2=i.1∧za x (i.2:Int) i.1=p) (fun i=>i.1.length)
  (fun i=> [(0, .slice .shared 1 (l.map bl)),(1, .int .i64 x),(7, .int .i64 (l.length:Int)),(8, .int .i64 (i.2:Int))]) (fun i=>⟨[],[]⟩) ?_ (l,0) ⟨rfl,h⟩)
 rintro⟨rest,k⟩ ⟨h1,h⟩ IH
 dsimp only at h1 h
 cases rest with
 |nil=>
  have hD:=drop_nil h1
  simp only[za]at h
  exact iX trivial
 |cons a rest=>
  obtain⟨hZ,g2,hD,g4⟩:=drop_cons h1
  have aV:k<4611686018427387904:=by omega
  simp only[za]at h
  repeat' (first
 |simp only[go_sem,hD,hZ,gC,gD]
 |(with_reducible first|refine fv fun hc=>?_|refine fw fun hc=>?_|refine fx (fun hc=>?_) fun hc=>?_)<;>(try simp only[hc,bs,↓reduceIte]at h)<;>try simp only[hc]
 |((with_reducible refine aX hQ ?_);exact oA))
  refine cr 0 0 ?_ ?_ (IH (rest,k+1) ⟨g2,h⟩ (zae _))
  ·(simp only[go_sem,hD,hZ,gC,gD,ak aV];try exact aQ)
  ·(simp only[go_sem,hD,hZ,gC,gD,ak aV];try exact aQ)
theorem RR {l:List Int} (hl:l.length<4611686018427387904) (x:Int) (s:St):ay Tryz.prog 92 [.slice .shared 1 (l.map bl), .int .i64 x] s (.bool (l.contains x)) s:=by
 refine ay.pure ?_ (by simp[D.bJ,D.ok,Tag.ok,gY]) rfl s
 have hi:=fun s=>acA hl x s
 have e:decide (za x 0 l≥0)=l.contains x:=by
  have:=SM x l 0 (zbc 0)
  cases h:l.contains x<;>simp_all
 unfold S0
 refine ay.go zr.h rfl fun B Q hB hQ=>?_
 have⟨hD,hZ,gC,gD⟩:=bc
 exact jn e hi
theorem nH (names:List aD) (bq:List Int) (op n:Int) (name:aD) (kids:List Ex):Ex.val names bq ⟨op,n,name,kids⟩=if op==1 then(n,true)else if op==2 then(Ai name names bq,true)else x8 op (kids.map (Ex.val names bq)):=by
 have e : ∀ l:List Ex,Ex.VV names bq l=l.map (Ex.val names bq):=fun l=>by
  induction l with
  |nil=>rfl
  |cons x l ih=>simp only[Ex.VV,zaf,ih]
 simp only[Ex.val,e]
theorem aj9 {names:List aD} {bq:List Int} (hn:names.length<4611686018427387904) (hv:bq.length<4611686018427387904) : ∀ (n:Nat) (x:Ex),x.dp (n:Int)=true→
 ay Tryz.prog 130 [.agg (bQ x), .slice .shared 1 (names.map encStr), .slice .shared 1 (bq.map bl)] S0 (qc (x.val names bq)) S0:=by
 intro n
 induction n with
 |zero=>rintro⟨op,v,name,kids⟩ h;rw[wY]at h;omega
 | succ n ih=>
  rintro⟨op,v,name,kids⟩ h
  rw[wY]at h
  obtain⟨_,hk,h⟩:=h
  have GG:=fun s=>FE hn name s
  generalize hR:Ex.val names bq ⟨op,v,name,kids⟩=R
  rw[nH]at hR
  unfold S0
  by_cases o1:op=1
  ·subst o1
   simp only[beq_self_eq_true,if_true]at hR
   rw[← hR]
   show ay Tryz.prog 130 _ _ (.tuple [.int .i64 v, .bool true]) _
   refine ay.go q6.h rfl fun B Q hB hQ=>?_
   have⟨hD,hZ,gC,gD⟩:=bc
   exact dR @beq_self_eq_true.{0}
  rw[if_neg o1]at h
  have b1:(op==1)=false:=by simp[o1]
  by_cases o2:op=2
  ·subst o2
   simp only[b1,zab,if_false,beq_self_eq_true,if_true,Ai]at hR
   by_cases hi:gi name 0 names≥0
   ·obtain⟨j,hj⟩:=Int.eq_ofNat_of_zero_le hi
    rw[if_pos hi]at hR
    have b2:decide (gi name 0 names≥0)=true:=by simpa using hi
    rw[hj]at b2 hR
    rw[hj]at GG
    rcases zaE j bq.length with hl|hl
    ·have b3:decide ((j:Int)<(bq.length:Int))=true:=by simp [hl]
     have hg:bq[j]? = some (bq.getD j 0):=by rw[zay,zah hl];rfl
     rw[zaW]at hR
     rw[← hR]
     show ay Tryz.prog 130 _ _ (.tuple [.int .i64 (bq.getD j 0), .bool true]) _
     refine ay.go q6.h rfl fun B Q hB hQ=>?_
     have⟨hD,hZ,gC,gD⟩:=bc
     exact jn (BG b1 b2 b3 hg @beq_self_eq_true.{0} @decide_true) GG
    ·have b3:decide ((j:Int)<(bq.length:Int))=false:=by simp;omega
     rw[zaW,zay,zbF hl,zbJ]at hR
     rw[← hR]
     show ay Tryz.prog 130 _ _ (.tuple [.int .i64 0, .bool true]) _
     refine ay.go q6.h rfl fun B Q hB hQ=>?_
     have⟨hD,hZ,gC,gD⟩:=bc
     exact jn (um b1 b2 b3 @beq_self_eq_true.{0} @decide_true) GG
   ·rw [if_neg hi]at hR
    have b2:decide (gi name 0 names≥0)=false:=by simpa using hi
    rw[← hR]
    show ay Tryz.prog 130 _ _ (.tuple [.int .i64 0, .bool true]) _
    refine ay.go q6.h rfl fun B Q hB hQ=>?_
    have⟨hD,hZ,gC,gD⟩:=bc
    exact wT (ly b1 b2 @beq_self_eq_true.{0}) GG
  rw[if_neg o2]at h
  have b2:(op==2)=false:=by simp[o2]
  simp only[b1,b2,zab,if_false]at hR
  have hd:=h.2.2
  rw[show((n+1:Nat):Int) - 1=(n:Int) by omega]at hd
  have MC : ∀ {y:Ex},y∈kids→∀ s,ay Tryz.prog 130 [.agg (bQ y), .slice .shared 1 (names.map encStr), .slice .shared 1 (bq.map bl)] s (qc (y.val names bq)) s:=fun {y} hy s=>by
   have:y.dp (n:Int)=true:=by
    have key : ∀ l:List Ex,Ex.B1 (n:Int) l=true→y∈l→y.dp (n:Int)=true:=fun l=>by
     induction l with
     |nil=>intro _ m;cases m
     | cons z l YS=>
      intro hz m
      simp only[Ex.B1]at hz
      split at hz
      ·cases hz
      ·rename_i hz'
       rcases zaq.1 m with rfl|m
       ·simpa using hz'
       ·exact YS hz m
    exact key kids hd hy
   exact ay.pure (ih y this) (by simp[D.bJ,D.ok,Tag.ok,je,dv,gY]) rfl s
  clear h GG
  have n1:((1:Nat):Int)=1:=rfl
  have e1:((1:Int)==1)=true:=rfl
  have e2:((2:Int)==1)=false:=rfl
  rename _=R=>h
  cases kids with
  |nil=>simp[kJ]at hk;omega
  | cons a kids=>
   have c1:=fun s=>MC (y:=a) (by simp) s
   cases kids with
   |nil=>
    simp only[zaf,zaj,x8]at h
    refine ay.go q6.h rfl fun B Q hB hQ=>?_
    have⟨hD,hZ,gC,gD⟩:=bc
    exact DG (ly b1 b2 e1) c1 anp
   | cons b kids=>
    cases kids with
    |nil=>
     have c2:=fun s=>MC (y:=b) (by simp) s
     have e3 : [bQ a,bQ b][Int.toNat 1]? = some (bQ b):=rfl
     simp only[zaf,zaj,x8]at h
     refine ay.go q6.h rfl fun B Q hB hQ=>?_
     have⟨hD,hZ,gC,gD⟩:=bc
     repeat' (first
 |simp only[go_sem,hD,hZ,gC,gD,b1,b2,e2,e3]
 |(with_reducible refine CU (c1 _) ?_)
 |(with_reducible refine CU (c2 _) ?_)
 |(with_reducible refine CU (agD _ _) ?_)
 |(with_reducible refine CU (anq _ _ _ _) ?_)
 |(with_reducible first|refine fv fun hc=>?_|refine fw fun hc=>?_|refine fx (fun hc=>?_) fun hc=>?_)<;>(try simp only[hc,bs,↓reduceIte]at h)<;>try simp only[hc]
 | ((with_reducible refine aX hQ ?_);(try cases h);simp only [bZ,cd,dn,dq,go_sem,hD,hZ,gC,gD,b1,b2,e2,e3];try exact kI))
    |cons c kids=>simp[kJ]at hk;omega
theorem acB {x:Ex} {names:List aD} {bq:List Int} (hx:x.size<4611686018427387904) (ht:x.texts) (hn:names.length<4611686018427387904) (hv:bq.length<4611686018427387904) (s:St) :
 ay Tryz.prog 91 [.agg (bQ x), .slice .shared 1 (names.map encStr), .slice .shared 1 (bq.map bl)] s (qc (x.bE names bq)) s:=by
 refine ay.pure ?_ (by simp[D.bJ,D.ok,Tag.ok,je,dv,gY]) rfl s
 have hm:=fun s=>CT hx ht s
 rw[yO]at hm
 generalize h:x.bE names bq=R
 simp only[Ex.bE]at h
 unfold S0
 rcases zaa x.may with b|b
 ·rw [if_pos b]at h
  have c1:=fun s=>ay.pure (aj9 hn hv 20 x (by rw[show((20:Nat):Int)=20 from rfl,yO];exact b)) (by simp[D.bJ,D.ok,Tag.ok,je,dv,gY]) rfl s
  rw[h]at c1
  refine ay.go Gz.h rfl fun B Q hB hQ=>?_
  have⟨hD,hZ,gC,gD⟩:=bc
  exact DG b hm c1
 ·rw [if_neg (by simp [b])]at h
  refine ay.go Gz.h rfl fun B Q hB hQ=>?_
  have⟨hD,hZ,gC,gD⟩:=bc
  exact wT b hm
end Go.Abs
