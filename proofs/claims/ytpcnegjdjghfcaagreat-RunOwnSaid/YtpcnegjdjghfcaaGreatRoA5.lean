/-
  What is proved here: part 5 of the road to the claim (MirLex, MirMay, Prs, Lex1, Lex2, RefLex1, Prs2, Ref1, Ref2, Ref3, RefMay1, RefMay2, Flat1, Flat2, Flat3, Sl1, MirFlat2, Sl2, TMay1, TMay2, RefMay3, RefMay4, TMay3, TMay4, MayFine, MayEq, Nm1, Nm2, Nm3, MayEq2, Sc1, Sc2, Sc3, ScP, Sc4, Rng, FineM, Sc5, Ar1, Ar2).
  No conditions.
-/
import Derived.Test.YtpcnegjdjghfcaaGreatRoA2
import Derived.Test.YtpcnegjdjghfcaaGreatRoA3
import Derived.Test.YtpcnegjdjghfcaaGreatRoA4

set_option linter.unusedSimpArgs false
set_option linter.unusedVariables false
namespace Go.Abs
def zW (c:UInt8):Bool:=decide ((c.toNat:Int)≥97) && decide ((c.toNat:Int)≤122)
def DP (c:UInt8):Bool:=decide ((c.toNat:Int)≥48) && decide ((c.toNat:Int)≤57)
def isB (c:UInt8):Bool:=(c.toNat:Int)==32 ||(c.toNat:Int)==9 ||(c.toNat:Int)==10 ||(c.toNat:Int)==13
def rW:aD→Nat
 | []=>0
 |c::r=>if zW c ||DP c then rW r+1 else 0
def ai0:aD→Nat
 | []=>0
 |c::r=>if DP c then ai0 r+1 else 0
def VD:aD→Nat
 | []=>0
 |c::r=>if(c.toNat:Int) != 10 then VD r+1 else 0
def isWord (s:aD):Bool:=
 s == [103,108,111,98,97,108] ||s == [112,114,111,99] ||s == [118,97,114] ||s == [114,101,102] ||s == [105,102] ||s == [101,108,115,101] ||s == [119,104,105,108,101] ||s == [98,114,101,97,107] ||s == [99,111,110,116,105,110,117,101] ||s == [114,101,116,117,114,110] ||s == [103,111,116,111] ||s == [114,101,97,100] ||s == [112,114,105,110,116]
def amS (s:aD):Bool:=s == [61,61] ||s == [33,61] ||s == [60,61] ||s == [62,61] ||s == [38,38] ||s == [124,124]
def aeg (c:UInt8):Bool:=
 (c.toNat:Int)==40 ||(c.toNat:Int)==41 ||(c.toNat:Int)==123 ||(c.toNat:Int)==125 ||(c.toNat:Int)==44 ||(c.toNat:Int)==59 ||(c.toNat:Int)==58 ||(c.toNat:Int)==61 ||
 (c.toNat:Int)==33 ||(c.toNat:Int)==60 ||(c.toNat:Int)==62 ||(c.toNat:Int)==43 ||(c.toNat:Int)==45 ||(c.toNat:Int)==42 ||(c.toNat:Int)==47 ||(c.toNat:Int)==37
def aeh:aD→Nat
 | []=>0
 | [c]=>if aeg c then 1 else 0
 |c::d::_=>if amS [c,d]then 2 else if aeg c then 1 else 0
def bE:Int→aD→Option Int
 |n,[]=>some n
 |n,c::r=>if n > (9223372036854775807 - ((c.toNat:Int) - 48)) / 10 then none else bE (n*10+((c.toNat:Int) - 48)) r
def aqt (pos:Nat):aD→s7 ⊕ Int
 | []=> .inr 2
 | c::r=>
  if zW c then
   let s:=(c::r).take (rW (c::r))
   if s.length > 8 then .inr 4 else .inl ⟨if isWord s then 3 else 1,s,0,pos⟩
  else if DP c then
   let s:=(c::r).take (ai0 (c::r))
   if s.length > 1∧(c.toNat:Int)=48 then .inr 2 else
   match bE 0 s with
   |some n=> .inl ⟨2,s,n,pos⟩
   |none=> .inr 4
  else
   if aeh (c::r)=0 then .inr 2 else .inl ⟨4,(c::r).take (aeh (c::r)),0,pos⟩
def VE:Nat→Nat→aD→List s7→List s7×Int×Int
 | 0,_,_,_=>([],0,0)
 |_+1,pos,[],out=>(out++ [⟨0,[],0,pos⟩],0,0)
 | n+1,pos,c::r,out=>
  if isB c then VE n (pos+1) r out
  else if(c.toNat:Int)==35 then VE n (pos+VD (c::r)) ((c::r).drop (VD (c::r))) out
  else match aqt pos (c::r)with
   | .inr e=>([],e,pos)
   | .inl t=>if out.length=2000 then([],4,pos)else VE n (pos+t.text.length) ((c::r).drop t.text.length) (out++ [t])
def BX (text:aD):List s7×Int×Int:=if text.length > 100000 then([],4,0)else VE (text.length+1) 0 text []
def xU:aD→Bool
 | []=>true
 |c::r=>if !(zW c) && !(DP c)then false else xU r
def isName:aD→Bool
 | []=>false
 |c::r=>if decide (((r.length+1:Nat):Int) > 8) || !(zW c)then false else if xU r then !(isWord (c::r))else false
def kJ (op:Int):Int:=if op==1 ||op==2 then 0 else if op==3 ||op==4 then 1 else if decide (op≥5) && decide (op≤17)then 2 else -1
mutual
def Ex.form:Ex→Bool
 |⟨op,n,name,kids⟩=>
  if kJ op != (kids.length:Int) ||(op != 1 && n != 0) ||decide (n<0) || !((op==2) == !(name == [])) ||(!(name == []) && !(isName name))then false else Ex.sD kids
def Ex.sD:List Ex→Bool
 | []=>true
 |x::l=>if !(Ex.form x)then false else Ex.sD l
end
mutual
def Ex.texts:Ex→Prop
 |⟨_,_,name,kids⟩=>name.length<4611686018427387904∧Ex.yJ kids
def Ex.yJ:List Ex→Prop
 | []=>True
 |x::l=>x.texts∧Ex.yJ l
end
theorem Ex.I9 {x:Ex} : ∀ {l:List Ex},Ex.yJ l→x∈l→x.texts
 |y::l,h,m=>by
  rcases zaq.1 m with rfl|m
  ·exact h.1
  ·exact Ex.I9 h.2 m
theorem Ex.LY {op n:Int} {name:aD} {kids:List Ex} (h:Ex.texts ⟨op,n,name,kids⟩) {y:Ex} (m:y∈kids):y.texts:=Ex.I9 h.2 m
def Ex.may (x:Ex):Bool:=decide (((min x.depth 21:Nat):Int)≤20) && x.form
def Ex.none (x:Ex):Bool:=x.op==0 && x.n==0 && x.name == [] && (x.kids.length:Int)==0
def eQ:List aD→Bool
 | []=>true
 |s::l=>if !(isName s)then false else eQ l
def Ar.may (a:Ar):Bool:=if a.ref then isName a.name && a.x.none else a.name == [] && a.x.may
def Ar.fh:List Ar→Bool
 | []=>true
 |a::l=>if !(a.may)then false else Ar.fh l
def Sm.sU (s:Sm):Bool:=s.kind==1 ||s.kind==3 ||s.kind==5 ||s.kind==6 ||(s.kind==9 && s.has)
def Sm.hasName (s:Sm):Bool:=s.kind==1 ||s.kind==2 ||s.kind==10
def Sm.wW (s:Sm):Bool:=s.kind==4
def Sm.one (s:Sm):Bool:=
 if decide (s.kind<1) ||decide (s.kind > 10) || !(eQ s.labels) ||(s.sU && !(s.x.may)) ||(!(s.sU) && !(s.x.none)) ||(s.has && s.kind != 9)then false
 else if(s.hasName && !(isName s.name)) ||(!(s.hasName) && !(s.name == []) && !(s.wW && isName s.name))then false
 else if !(s.wW == !(s.proc == [])) ||(s.wW && !(isName s.proc)) ||(!(s.wW) && decide ((s.args.length:Int) > 0))then false
 else if !(Ar.fh s.args)then false
 else((s.aY.length:Int)==0 ||s.kind==5 ||s.kind==6) && ((s.aH.length:Int)==0 ||s.kind==5)
structure It where
 s:Sm
 deep:Int
 bp:Int
 aH:Bool
mutual
def ix (deep bp:Int) (aH:Bool) (out:List It):Sm→List It
 |⟨id,kind,labels,name,proc,x,has,args,aY,e⟩=>
  if decide (deep≤12)then dT (deep+1) id true (dT (deep+1) id false (out++ [⟨⟨id,kind,labels,name,proc,x,has,args,aY,e⟩,deep,bp,aH⟩]) aY) e
  else out++ [⟨⟨id,kind,labels,name,proc,x,has,args,aY,e⟩,deep,bp,aH⟩]
def dT (deep bp:Int) (aH:Bool) (out:List It):List Sm→List It
 | []=>out
 |s::l=>if decide ((out.length:Int)≤200)then dT deep bp aH (ix deep bp aH out s) l else out
end
def Pc.flat (f:Pc):List It:=dT 1 0 false [] f.body
def allM (out:List It):List Pc→List It
 | []=>out
 |f::l=>if decide (((out++f.flat).length:Int) > 200)then out++f.flat else allM (out++f.flat) l
def Pg.all (p:Pg):List It:=allM [] p.procs
def Pm.fh:List Pm→Bool
 | []=>true
 |a::l=>if !(isName a.name)then false else Pm.fh l
def Pc.mA:List Pc→Bool
 | []=>true
 |f::l=>
  if !(isName f.name) ||decide ((f.params.length:Int) > 8) ||decide ((f.vars.length:Int) > 16) || !(eQ f.vars) || !(eQ f.fin)then false
  else if !(Pm.fh f.params)then false else Pc.mA l
def It.fh (n:Nat):List It→Bool
 | []=>true
 |i::l=>if i.s.id != ((n+1:Nat):Int) ||decide (i.deep > 12) || !(i.s.one)then false else It.fh (n+1) l
def Pg.may (p:Pg):Bool:=
 if decide ((p.globals.length:Int) > 16) ||decide ((p.procs.length:Int) > 16) || !(eQ p.globals)then false
 else if !(Pc.mA p.procs)then false
 else if decide ((p.all.length:Int) > 200)then false else It.fh 0 p.all
open Go.Proofs
@[go_sem] def auT (r:Rd):List D:= [.slice .shared 4 (r.l.map lI), .int .i64 r.i, .int .i64 r.code, .int .i64 r.O4, .int .i64 r.n]
set_option maxRecDepth 8000
open Go.Proofs
theorem vH (c:UInt8) (s:St):ay Tryz.prog 132 [.int .u8 (c.toNat:Int)] s (.bool (zW c)) s:=by
 refine ay.pure ?_ rfl rfl s
 generalize h:zW c=b
 unfold zW at h
 unfold S0
 refine ay.go KB.h rfl fun B Q hB hQ=>?_
 have⟨hD,hZ,gC,gD⟩:=bc
 exact iX trivial
theorem KM (c:UInt8) (s:St):ay Tryz.prog 158 [.int .u8 (c.toNat:Int)] s (.bool (DP c)) s:=by
 refine ay.pure ?_ rfl rfl s
 generalize h:DP c=b
 unfold DP at h
 unfold S0
 refine ay.go Nj.h rfl fun B Q hB hQ=>?_
 have⟨hD,hZ,gC,gD⟩:=bc
 exact iX trivial
theorem ai1 (t:aD) (s:St):ay Tryz.prog 134 [.str t] s (.bool (isWord t)) s:=by
 refine ay.pure ?_ rfl rfl s
 generalize h:isWord t=b
 unfold isWord at h
 unfold S0
 refine ay.go Pp.h rfl fun B Q hB hQ=>?_
 have⟨hD,hZ,gC,gD⟩:=bc
 exact iX trivial
theorem amT {text:aD} {pos:Nat} (hl:text.length<4611686018427387904) (s:St):ay Tryz.prog 133 [.str text, .int .i64 (pos:Int)] s (.int .i64 ((pos+rW (text.drop pos):Nat):Int)) s:=by
 refine ay.pure ?_ rfl rfl s
 unfold S0
 refine ay.go RJ.h rfl fun B Q hB hQ=>?_
 have⟨hD,hZ,gC,gD⟩:=bc
 refine bT trivial ?_
 refine dg 0 0 (aJ.ind (ι:=aD×Nat) (fun i=>text.drop i.2=i.1∧i.2+rW i.1=pos+rW (text.drop pos)) (fun i=>i.1.length)
  (fun i=> [(0, .str text),(1, .int .i64 (i.2:Int))]) (fun i=>⟨[],[]⟩) ?_ (text.drop pos,pos) ⟨rfl,rfl⟩)
 rintro⟨rest,k⟩ ⟨h1,h2⟩ IH
 dsimp only at h1 h2
 cases rest with
 |nil=>
  have hD:=drop_nil h1
  simp only[rW,zaP]at h2
  rw[← h2]at hQ
  exact dR trivial
 | cons c rest=>
  obtain⟨hZ,g2,hD,g4⟩:=drop_cons h1
  have gC:k<4611686018427387904:=by omega
  cases hb:(zW c ||DP c)
  ·simp only [rW,hb,zab, ↓reduceIte,zaP]at h2
   rw[← h2]at hQ
   simp only[Bool.or_eq_false_iff]at hb
   exact pT (eK hb.1 hb.2) vH KM
  ·simp only [rW,hb, ↓reduceIte]at h2
   cases Ix:zW c
   ·rw [Ix,zbj]at hb
    repeat' (first
 |simp only[go_sem,hD,hZ,gC,gD,hb,Ix]
 |(with_reducible refine CU (vH _ _) ?_)
 |(with_reducible refine CU (KM _ _) ?_)
 | (with_reducible refine aX hQ ?_;exact bK))
    refine dg 0 0 (IH (rest,k+1) ⟨g2,by dsimp only;omega⟩ (zae _))
   ·repeat' (first
 |simp only[go_sem,hD,hZ,gC,gD,Ix]
 |(with_reducible refine CU (vH _ _) ?_)
 |(with_reducible refine CU (KM _ _) ?_)
 | (with_reducible refine aX hQ ?_;exact bK))
    refine dg 0 0 (IH (rest,k+1) ⟨g2,by dsimp only;omega⟩ (zae _))
def as2 (s:aD):Int×Bool:=match bE 0 s with|some n=>(n,true)|none=>(0,false)
open Go.Proofs
def aqu (f:Int×Int):List D:= [.int .i64 f.1, .int .i64 f.2]
def amU (text:aD) (out:List s7) (pos:Nat):Tm:= [(0, .str text),(3, .ptr 0 0),(4, .slice (.tok 0) 4 (out.map lI)),(5, .ptr 1 0),(6, .int .i64 (pos:Int))]
def amV (out:List s7):St:=⟨[[.int .i64 0, .int .i64 0],[.junk, .junk, .junk, .junk]],[some out.length]⟩
attribute [go_sem] amU amV aqu
end Go.Abs
namespace Go.Abs
set_option maxRecDepth 8000
open Go.Proofs
theorem Pv (c:UInt8) (s:St):ay Tryz.prog 168 [.int .u8 (c.toNat:Int)] s (.bool (zW c)) s:=by
 refine ay.pure ?_ rfl rfl s
 generalize h:zW c=b
 unfold zW at h
 unfold S0
 refine ay.go Kv.h rfl fun B Q hB hQ=>?_
 have⟨hD,hZ,gC,gD⟩:=bc
 exact iX trivial
theorem abD (c:UInt8) (s:St):ay Tryz.prog 169 [.int .u8 (c.toNat:Int)] s (.bool (DP c)) s:=by
 refine ay.pure ?_ rfl rfl s
 generalize h:DP c=b
 unfold DP at h
 unfold S0
 refine ay.go Kw.h rfl fun B Q hB hQ=>?_
 have⟨hD,hZ,gC,gD⟩:=bc
 exact iX trivial
theorem af6 (s:St):ay Tryz.prog 194 [] s (.slice .shared 1 [[.str [103,108,111,98,97,108]],[.str [112,114,111,99]],[.str [118,97,114]],[.str [114,101,102]],[.str [105,102]],[.str [101,108,115,101]],[.str [119,104,105,108,101]],[.str [98,114,101,97,107]],[.str [99,111,110,116,105,110,117,101]],[.str [114,101,116,117,114,110]],[.str [103,111,116,111]],[.str [114,101,97,100]],[.str [112,114,105,110,116]]]) s:=by
 refine ay.pure ?_ rfl rfl s
 unfold S0
 refine ay.go Kx.h rfl fun B Q hB hQ=>?_
 have⟨hD,hZ,gC,gD⟩:=bc
 exact dR trivial
def FD (s:aD):Bool:=
 [103,108,111,98,97,108] == s || [112,114,111,99] == s || [118,97,114] == s || [114,101,102] == s || [105,102] == s || [101,108,115,101] == s || [119,104,105,108,101] == s || [98,114,101,97,107] == s || [99,111,110,116,105,110,117,101] == s || [114,101,116,117,114,110] == s || [103,111,116,111] == s || [114,101,97,100] == s || [112,114,105,110,116] == s
theorem VF (s:aD):FD s=isWord s:=by
 have e : ∀ a:aD,(a==s)=(s==a):=fun a=>BEq.comm
 simp only[FD,isWord,e]
theorem af7 (text:aD) (s:St):ay Tryz.prog 170 [.str text] s (.bool (isWord text)) s:=by
 refine ay.pure ?_ rfl rfl s
 rw[← VF]
 generalize h:FD text=p
 unfold FD at h
 unfold S0
 refine ay.go M8.h rfl fun B Q hB hQ=>?_
 have⟨hD,hZ,gC,gD⟩:=bc
 repeat' (first
 |simp only[go_sem,hD,hZ,gC,gD,Int.cast_ofNat_Int,dE,Int.reduceAdd,Int.reduceLT,Int.reduceNeg,decide_true,decide_false,Int.reduceToNat]
 |(with_reducible refine CU (af6 _) ?_)
 |(with_reducible refine aJ.fl ?_)
 |(with_reducible first|refine fv fun hc=>?_|refine fw fun hc=>?_|refine fx (fun hc=>?_) fun hc=>?_)<;>(try simp only[hc,bs,↓reduceIte]at h)<;>try simp only[hc]
 |((with_reducible refine aX hQ ?_);(try cases h);simp only[bZ,cd,dn,dq,go_sem,hD,hZ,gC,gD,Int.cast_ofNat_Int,dE,Int.reduceAdd,Int.reduceLT,Int.reduceNeg,decide_true,decide_false,Int.reduceToNat];try exact kI))
def OpR (p:Int×Int):Prop:=0≤p.2∧p.2≤6
@[go_sem] def auU (z:D) (r:Rd):List D:= [.slice .shared 4 (r.l.map lI), .int .i64 r.i, .int .i64 r.code, .int .i64 r.O4,z]
class Cell (z:D):Prop where
 ok:D.ok 0 0 z=true
 fg : ∀ n m,D.fg n m z=z
instance (n:Int):Cell (.int .i64 n):=⟨rfl,fun _ _=>rfl⟩
instance:Cell .junk:=⟨rfl,fun _ _=>rfl⟩
theorem af8 (z:D) [h:Cell z] (n m:Nat):D.fg n m z=z:=h.fg n m
attribute [go_sem] af8
def Rd.isO (text:aD) (r:Rd):Option Bool:=if r.good then r.is text else some false
end Go.Abs
namespace Go.Abs
open Go.Proofs
def ai2 (s:aD):Int×Int:=
 if [42] == s then(6,5)else if [47] == s then(6,6)else if [37] == s then(6,7)else if [43] == s then(5,8)else if [45] == s then(5,9)
 else if [60] == s then(4,10)else if [60,61] == s then(4,11)else if [62] == s then(4,12)else if [62,61] == s then(4,13)
 else if [61,61] == s then(3,14)else if [33,61] == s then(3,15)else if [38,38] == s then(2,16)else if [124,124] == s then(1,17)else(0,0)
def BZ (p:Int×Int):Prop:=(p.2==0)=(p.1==0)
set_option maxRecDepth 8000
open Go.Proofs
theorem ai3 : ∀ (k7:Nat),k7<1000000→∀ x:Ex,x.size<4611686018427387904→∀ s:St,ay Tryz.prog 195 [.agg (bQ x), .int .i64 (k7:Int)] s (.int .i64 ((min x.depth (k7+1):Nat):Int)) s:=by
 intro k7
 induction k7 with
 |zero=>
  rintro _ ⟨op,m,name,kids⟩ hx s
  refine ay.pure ?_ (by simp[D.bJ,D.ok,je]) rfl s
  have hz:((0:Int)==0)=true:=rfl
  have e:min (Ex.depth ⟨op,m,name,kids⟩) (0+1)=1:=by simp only[Ex.depth];omega
  rw[e]
  unfold S0
  refine ay.go DK.h rfl fun B Q hB hQ=>?_
  have⟨hD,hZ,gC,gD⟩:=bc
  exact dR hz
 | succ k7 ih=>
  rintro auV ⟨op,m,name,kids⟩ hx s
  refine ay.pure ?_ (by simp[D.bJ,D.ok,je]) rfl s
  have hlen:kids.length<4611686018427387904:=by simp only[Ex.size]at hx;have:=Ex.dk kids;omega
  have hk : ∀ y∈kids,∀ s,ay Tryz.prog 195 [.agg (bQ y), .int .i64 (k7:Int)] s (.int .i64 ((min y.depth (k7+1):Nat):Int)) s:=fun y hy s=>
   ih (by omega) y (by simp only[Ex.size]at hx;have:=Ex.cb hy;omega) s
  have hz:(((k7+1:Nat):Int)==0)=false:=by simp;omega
  have w1:IntKind.wrap .i64 (((k7+1:Nat):Int) - 1)=(k7:Int):=by rw[dE]<;>omega
  unfold S0
  refine ay.go DK.h rfl fun B Q hB hQ=>?_
  have⟨hD,hZ,gC,gD⟩:=bc
  refine bT hz ?_
  refine dg 1 0 (aJ.ind (ι:=List Ex×Nat×Nat) (fun i=>kids.drop i.2.1=i.1∧i.2.2≤k7+1∧min (max i.2.2 (Ex.mN i.1)) (k7+1)=min (Ex.mN kids) (k7+1)) (fun i=>i.1.length)
   (fun i=> [(1, .int .i64 ((k7+1:Nat):Int)),(2, .ptr 0 0),(5, .int .i64 (i.2.2:Int)),(6, .int .i64 (i.2.1:Int))]) (fun i=>⟨[bQ ⟨op,m,name,kids⟩],[]⟩) ?_ (kids,0,0) ⟨rfl,zaA _,by simp⟩)
  rintro⟨rest,k,d⟩ ⟨h1,h2,h3⟩ IH
  dsimp only at h1 h2 h3
  have hd:min (Ex.depth ⟨op,m,name,kids⟩) (k7+1+1)=min (Ex.mN kids) (k7+1)+1:=by simp only[Ex.depth];omega
  rw[hd, ← h3]at hQ
  have w2:IntKind.wrap .i64 ((d:Int)+1)=((d+1:Nat):Int):=by rw[dE]<;>omega
  by_cases avh:d<k7+1
  ·have c2:decide ((d:Int)<((k7+1:Nat):Int))=true:=by simp;omega
   cases rest with
   |nil=>
    have hD:=drop_nil h1
    simp only[Ex.mN,Nat.max_zero]at hQ
    have e:min d (k7+1)=d:=by omega
    rw[e]at hQ
    exact dR (eK c2 w2)
   | cons y rest=>
    obtain⟨hZ,g2,hD,g4⟩:=drop_cons h1
    have hy:=hk y (zad hZ)
    simp only[Ex.mN]at h3
    have aV:k<4611686018427387904:=by omega
    by_cases hgt:min y.depth (k7+1) > d
    ·have c3:decide (((min y.depth (k7+1):Nat):Int) > (d:Int))=true:=by simp only [decide_eq_true_eq];omega
     repeat' (first
 |simp only[go_sem,hD,hZ,gC,gD,c2,w1,c3]
 |(with_reducible refine CU (hy _) ?_)
 | (with_reducible refine aX hQ ?_;exact bK))
     refine cr 1 0 ?_ ?_ (IH (rest,k+1,min y.depth (k7+1)) ⟨g2,by dsimp only;omega,by dsimp only;omega⟩ (zae _))
     ·(simp only[go_sem,hD,hZ,gC,gD,ak aV];try exact aQ)
     ·(simp only[go_sem,hD,hZ,gC,gD,ak aV];try exact aQ)
    ·have c3:decide (((min y.depth (k7+1):Nat):Int) > (d:Int))=false:=by simp only [decide_eq_false_iff_not];omega
     repeat' (first
 |simp only[go_sem,hD,hZ,gC,gD,c2,w1,c3]
 |(with_reducible refine CU (hy _) ?_)
 | (with_reducible refine aX hQ ?_;exact bK))
     refine cr 1 0 ?_ ?_ (IH (rest,k+1,d) ⟨g2,h2,by dsimp only;omega⟩ (zae _))
     ·(simp only[go_sem,hD,hZ,gC,gD,ak aV];try exact aQ)
     ·(simp only[go_sem,hD,hZ,gC,gD,ak aV];try exact aQ)
  ·have c2:decide ((d:Int)<((k7+1:Nat):Int))=false:=by simp;omega
   have e:min (max d (Ex.mN rest)) (k7+1)=d:=by omega
   rw[e]at hQ
   cases rest with
   |nil=>
    have hD:=drop_nil h1
    exact dR (eK c2 w2)
   |cons y rest=>
    obtain⟨hZ,g2,hD,g4⟩:=drop_cons h1
    exact dR (eK c2 w2)
theorem abE : ∀ N,N<4611686018427387904→∀ x y:Ex,x.size≤N→∀ s:St,ay Tryz.prog 86 [.agg (bQ x), .agg (bQ y)] s (.bool (Ex.beq x y)) s:=by
 intro N
 induction N with
 |zero=>rintro _ ⟨op,m,name,kids⟩ y h;simp only[Ex.size]at h;omega
 |succ N ih=>
 rintro hN ⟨op,m,name,kids⟩ ⟨op',m',tD,xT⟩ hx s
 refine ay.pure ?_ (by simp[D.bJ,D.ok,je]) rfl s
 have hk : ∀ a∈kids,∀ b s,ay Tryz.prog 86 [.agg (bQ a), .agg (bQ b)] s (.bool (Ex.beq a b)) s:=fun a ha b s=>
  ih (by omega) a b (by simp only[Ex.size]at hx;have:=Ex.cb ha;omega) s
 have hlen:kids.length<4611686018427387904:=by simp only[Ex.size]at hx;have:=Ex.dk kids;omega
 generalize h:Ex.beq ⟨op,m,name,kids⟩ ⟨op',m',tD,xT⟩=p
 simp only[Ex.beq]at h
 unfold S0
 refine ay.go IY.h rfl fun B Q hB hQ=>?_
 have⟨hD,hZ,gC,gD⟩:=bc
 repeat' (first
 |simp only[go_sem,hD,hZ,gC,gD]
 |(with_reducible first|refine fv fun hc=>?_|refine fw fun hc=>?_|refine fx (fun hc=>?_) fun hc=>?_)<;>(try simp only[hc,bs,↓reduceIte]at h)<;>try simp only[hc]
 |((with_reducible refine aX hQ ?_);exact oA)
 |(cases h;done))
 rename_i hl4
 have hl5:kids.length=xT.length:=by
  have:((kids.length:Int) != (xT.length:Int))=false:=by assumption
  simp only[bne_eq_false_iff_eq]at this
  omega
 refine dg 2 0 (aJ.ind (ι:=List Ex×List Ex×Nat) (fun i=>kids.drop i.2.2=i.1∧xT.drop i.2.2=i.2.1∧Ex.ik i.1 i.2.1=p) (fun i=>i.1.length)
  (fun i=> [(2, .ptr 0 0),(3, .ptr 1 0),(36, .int .i64 (kids.length:Int)),(37, .int .i64 (i.2.2:Int))]) (fun i=>⟨[bQ ⟨op,m,name,kids⟩,bQ ⟨op',m',tD,xT⟩],[]⟩) ?_ (kids,xT,0) ⟨rfl,rfl,h⟩)
 rintro⟨r1,r2,k⟩ ⟨h1,h2,h⟩ IH
 dsimp only at h1 h2 h
 cases r1 with
 |nil=>
  have hD:=drop_nil h1
  simp only[Ex.ik]at h
  exact iX trivial
 | cons a r1=>
  obtain⟨hZ,g2,hD,g4⟩:=drop_cons h1
  cases r2 with
  |nil=>have:=zaI.1 h2;omega
  |cons b r2=>
   obtain⟨lQ,b2,_,_⟩:=drop_cons h2
   have aV:k<4611686018427387904:=by omega
   have yK:=hk a (zad hZ)
   simp only[Ex.ik]at h
   repeat' (first
 |simp only[go_sem,hD,hZ,gC,gD,lQ]
 |(with_reducible refine CU (yK _ _) ?_)
 |(with_reducible first|refine fv fun hc=>?_|refine fw fun hc=>?_|refine fx (fun hc=>?_) fun hc=>?_)<;>(try simp only[hc,bs,↓reduceIte]at h)<;>try simp only[hc]
 |((with_reducible refine aX hQ ?_);(try cases h);simp only[bZ,cd,dn,dq,go_sem,hD,hZ,gC,gD,lQ];try exact kI)
 | (cases h;done))
   refine cr 2 0 ?_ ?_ (IH (r1,r2,k+1) ⟨g2,b2,h⟩ (zae _))
   ·(simp only[go_sem,hD,hZ,gC,gD,ak aV];try exact aQ)
   ·(simp only[go_sem,hD,hZ,gC,gD,ak aV];try exact aQ)
theorem Pw {x y:Ex} (hx:x.size<4611686018427387904) (s:St):ay Tryz.prog 86 [.agg (bQ x), .agg (bQ y)] s (.bool (Ex.beq x y)) s:=abE _ hx x y (zak _) s
theorem vI (text:aD) (hl:text.length<4611686018427387904) (s:St):ay Tryz.prog 145 [.str text] s (.bool (isName text)) s:=by
 refine ay.pure ?_ rfl rfl s
 unfold S0
 cases text with
 |nil=>
  have e:(([] : aD) == [])=true:=rfl
  refine ay.go DM.h rfl fun B Q hB hQ=>?_
  have⟨hD,hZ,gC,gD⟩:=bc
  repeat' (first
 |simp only[go_sem,hD,hZ,gC,gD,e,isName]
 |(with_reducible first|refine fv fun hc=>?_|refine fw fun hc=>?_|refine fx (fun hc=>?_) fun hc=>?_)<;>(try simp only[hc,bs,↓reduceIte]at h)<;>try simp only[hc]
 |(with_reducible refine aX hQ ?_;simp only[bZ,cd,dn,dq,go_sem,hD,hZ,gC,gD,e,isName];try exact kI))
 |cons c r=>
  have e:((c::r) == [])=false:=rfl
  generalize h:isName (c::r)=p
  simp only[isName]at h
  refine ay.go DM.h rfl fun B Q hB hQ=>?_
  have⟨hD,hZ,gC,gD⟩:=bc
  repeat' (first
 |simp only[go_sem,hD,hZ,gC,gD,e]
 |(with_reducible refine CU (Pv _ _) ?_)
 |(with_reducible first|refine fv fun hc=>?_|refine fw fun hc=>?_|refine fx (fun hc=>?_) fun hc=>?_)<;>(try simp only[hc,bs,↓reduceIte]at h)<;>try simp only[hc]
 | ((with_reducible refine aX hQ ?_);(try cases h);simp only [bZ,cd,dn,dq,go_sem,hD,hZ,gC,gD,e];try exact kI))
  refine dg 0 0 (aJ.ind (ι:=aD×Nat) (fun i=>(c::r).drop i.2=i.1∧(if xU i.1 then !(isWord (c::r))else false)=p) (fun i=>i.1.length)
   (fun i=> [(0, .str (c::r)),(3, .int .i64 (i.2:Int))]) (fun i=>⟨[],[]⟩) ?_ (r,1) ⟨rfl,h⟩)
  rintro⟨rest,k⟩ ⟨h1,h⟩ IH
  dsimp only at h1 h
  cases rest with
  |nil=>
   have hD:=drop_nil h1
   simp only[zas]at hD
   simp only[xU,↓reduceIte]at h
   exact wT trivial af7
  |cons d rest=>
   obtain⟨hZ,g2,hD,g4⟩:=drop_cons h1
   simp only[zas]at hD
   have gC:k<4611686018427387904:=by omega
   simp only[xU]at h
   repeat' (first
 |simp only[go_sem,hD,hZ,gC,gD]
 |(with_reducible refine CU (Pv _ _) ?_)
 |(with_reducible refine CU (abD _ _) ?_)
 |(with_reducible first|refine fv fun hc=>?_|refine fw fun hc=>?_|refine fx (fun hc=>?_) fun hc=>?_)<;>(try simp only[hc,bs,↓reduceIte]at h)<;>try simp only[hc]
 |((with_reducible refine aX hQ ?_);(try cases h);simp only[bZ,cd,dn,dq,go_sem,hD,hZ,gC,gD];repeat' (first|exact Ok.out|with_reducible refine ej ?_ ?_|(simp;done)))
 | (cases h;done))
   all_goals
    refine dg 0 0 (IH (rest,k+1) ⟨g2,h⟩ (zae _))
theorem Sl (op:Int) (s:St):ay Tryz.prog 81 [.int .i64 op] s (.int .i64 (kJ op)) s:=by
 refine ay.pure ?_ rfl rfl s
 unfold S0
 generalize h:kJ op=p
 unfold kJ at h
 refine ay.go Kp.h rfl fun B Q hB hQ=>?_
 have⟨hD,hZ,gC,gD⟩:=bc
 exact iX trivial
theorem CO {l:List aD} (hl:l.length<4611686018427387904) (hs : ∀ t∈l,t.length<4611686018427387904) (s:St):ay Tryz.prog 144 [.slice .shared 1 (l.map encStr)] s (.bool (eQ l)) s:=by
 refine ay.pure ?_ (by simp[D.bJ,D.ok,dv,Tag.ok]) rfl s
 unfold S0
 generalize h:eQ l=p
 refine ay.go KF.h rfl fun B Q hB hQ=>?_
 have⟨hD,hZ,gC,gD⟩:=bc
 refine bT trivial ?_
 refine dg 0 0 (aJ.ind (ι:=List aD×Nat) (fun i=>l.drop i.2=i.1∧eQ i.1=p) (fun i=>i.1.length)
  (fun i=> [(5, .slice .shared 1 (l.map encStr)),(6, .int .i64 (l.length:Int)),(7, .int .i64 (i.2:Int))]) (fun i=>⟨[],[]⟩) ?_ (l,0) ⟨rfl,h⟩)
 rintro⟨rest,k⟩ ⟨h1,h⟩ IH
 dsimp only at h1 h
 cases rest with
 |nil=>
  have hD:=drop_nil h1
  simp only[eQ]at h
  exact iX trivial
 |cons t rest=>
  obtain⟨hZ,g2,hD,g4⟩:=drop_cons h1
  have gC:k<4611686018427387904:=by omega
  have hn:=vI t (hs t (zad hZ))
  simp only[eQ]at h
  repeat' (first
 |simp only[go_sem,hD,hZ,gC,gD]
 |(with_reducible refine CU (hn _) ?_)
 |(with_reducible first|refine fv fun hc=>?_|refine fw fun hc=>?_|refine fx (fun hc=>?_) fun hc=>?_)<;>(try simp only[hc,bs,↓reduceIte]at h)<;>try simp only[hc]
 |((with_reducible refine aX hQ ?_);exact oA))
  refine dg 0 0 (IH (rest,k+1) ⟨g2,h⟩ (zae _))
theorem ai4 : ∀ (n:Nat) (x:Ex),x.size≤n→x.size<4611686018427387904→x.texts→∀ s:St,ay Tryz.prog 196 [.agg (bQ x)] s (.bool x.form) s:=by
 intro n
 induction n with
 |zero=>rintro⟨op,m,name,kids⟩ h;simp only[Ex.size]at h;omega
 | succ n ih=>
  rintro⟨op,m,name,kids⟩ h hx ht s
  refine ay.pure ?_ (by simp[D.bJ,D.ok,je]) rfl s
  have hlen:kids.length<4611686018427387904:=by simp only[Ex.size]at hx;have:=Ex.dk kids;omega
  have hk : ∀ y∈kids,∀ s,ay Tryz.prog 196 [.agg (bQ y)] s (.bool y.form) s:=fun y hy s=>
   ih y (by simp only[Ex.size]at h;have:=Ex.cb hy;omega) (by simp only[Ex.size]at hx;have:=Ex.cb hy;omega) (Ex.LY ht hy) s
  have hn:=vI name ht.1
  unfold S0
  generalize h:Ex.form ⟨op,m,name,kids⟩=p
  simp only[Ex.form]at h
  refine ay.go Nc.h rfl fun B Q hB hQ=>?_
  have⟨hD,hZ,gC,gD⟩:=bc
  repeat' (first
 |simp only[go_sem,hD,hZ,gC,gD]
 |(with_reducible refine CU (Sl _ _) ?_)
 |(with_reducible refine CU (hn _) ?_)
 |(with_reducible first|refine fv fun hc=>?_|refine fw fun hc=>?_|refine fx (fun hc=>?_) fun hc=>?_)<;>(try simp only[hc,bs,↓reduceIte]at h)<;>try simp only[hc]
 | ((with_reducible refine aX hQ ?_);(try cases h);simp only [bZ,cd,dn,dq,go_sem,hD,hZ,gC,gD];repeat' (first | exact Ok.out | with_reducible refine ej ?_ ?_ | (simp;done))))
  all_goals
   refine dg 1 0 (aJ.ind (ι:=List Ex×Nat) (fun i=>kids.drop i.2=i.1∧Ex.sD i.1=p) (fun i=>i.1.length)
    (fun i=> [(1, .ptr 0 0),(48, .int .i64 (kids.length:Int)),(49, .int .i64 (i.2:Int))]) (fun i=>⟨[bQ ⟨op,m,name,kids⟩],[]⟩) ?_ (kids,0) ⟨rfl,h⟩)
   rintro⟨rest,k⟩ ⟨h1,h⟩ IH
   dsimp only at h1 h
   cases rest with
   |nil=>
    have hD:=drop_nil h1
    simp only[Ex.sD]at h
    exact iX trivial
   |cons y rest=>
    obtain⟨hZ,g2,hD,g4⟩:=drop_cons h1
    have hy:=hk y (zad hZ)
    have gC:k<4611686018427387904:=by omega
    simp only[Ex.sD]at h
    repeat' (first
 |simp only[go_sem,hD,hZ,gC,gD]
 |(with_reducible refine CU (hy _) ?_)
 |(with_reducible first|refine fv fun hc=>?_|refine fw fun hc=>?_|refine fx (fun hc=>?_) fun hc=>?_)<;>(try simp only[hc,bs,↓reduceIte]at h)<;>try simp only[hc]
 | ((with_reducible refine aX hQ ?_);exact oA))
    refine dg 1 0 (IH (rest,k+1) ⟨g2,h⟩ (zae _))
theorem EE {x:Ex} (hx:x.size<4611686018427387904) (ht:x.texts) (s:St):ay Tryz.prog 171 [.agg (bQ x)] s (.bool x.may) s:=by
 refine ay.pure ?_ (by simp[D.bJ,D.ok,je]) rfl s
 have hd:=fun s=>ai3 20 (by decide) x hx s
 have c20:((20:Nat):Int)=20:=rfl
 rw[c20]at hd
 have hf:=ai4 _ x (zak _) hx ht
 unfold S0
 generalize h:Ex.may x=p
 unfold Ex.may at h
 refine ay.go Hw.h rfl fun B Q hB hQ=>?_
 have⟨hD,hZ,gC,gD⟩:=bc
 exact DG trivial hd hf
theorem X7 (x:Ex) (s:St):ay Tryz.prog 172 [.agg (bQ x)] s (.bool x.none) s:=by
 refine ay.pure ?_ (by simp[D.bJ,D.ok,je]) rfl s
 unfold S0
 generalize h:Ex.none x=p
 unfold Ex.none at h
 refine ay.go M9.h rfl fun B Q hB hQ=>?_
 have⟨hD,hZ,gC,gD⟩:=bc
 exact iX trivial
theorem amW {a:Ar} (hx:a.x.size<4611686018427387904) (ht:a.x.texts) (hn:a.name.length<4611686018427387904) (s:St):ay Tryz.prog 173 [.agg (dH a)] s (.bool a.may) s:=by
 refine ay.pure ?_ (by simp[D.bJ,D.ok,OZ]) rfl s
 have hm:=EE hx ht
 have h1:=vI a.name hn
 unfold S0
 generalize h:Ar.may a=p
 simp only[Ar.may]at h
 refine ay.go Pj.h rfl fun B Q hB hQ=>?_
 have⟨hD,hZ,gC,gD⟩:=bc
 exact zf3 trivial hm h1 X7
structure Sm.lB (s:Sm):Prop where
 X8 : ∀ t∈s.labels,t.length<4611686018427387904
 ai5:s.labels.length<4611686018427387904
 name:s.name.length<4611686018427387904
 proc:s.proc.length<4611686018427387904
 x:s.x.size<4611686018427387904
 xt:s.x.texts
 ai6:s.args.length<4611686018427387904
 arg : ∀ a∈s.args,a.x.size<4611686018427387904∧a.x.texts∧a.name.length<4611686018427387904
section
variable {v:Sm} {B:gK} {Q:Exit→Tm→St→Prop} {p:Bool}
theorem amX (hf:v.lB) (hB:B.s = ⟨[],[]⟩) (hQ:oa 0 0 [(2,none)] (.bool p) ⟨[],[]⟩=Q)
 (h:(if !(Ar.fh v.args)then false else((v.aY.length:Int)==0 ||v.kind==5 ||v.kind==6) && ((v.aH.length:Int)==0 ||v.kind==5))=p) :
 Sem Tryz.prog B 178 Q18 Q [(1, .ptr 0 0)] ⟨[aO v],[]⟩:=by
 have auW:=hf.ai6
 have abF:=fun a ha s=>amW (hf.arg a ha).1 (hf.arg a ha).2.1 (hf.arg a ha).2.2 s
 have⟨hD,hZ,gC,gD⟩:=bc
 refine iM ?_
 refine bT trivial ?_
 refine dg 1 0 (aJ.ind (ι:=List Ar×Nat) (fun i=>v.args.drop i.2=i.1∧(if !(Ar.fh i.1)then false else((v.aY.length:Int)==0 ||v.kind==5 ||v.kind==6) && ((v.aH.length:Int)==0 ||v.kind==5))=p) (fun i=>i.1.length)
  (fun i=> [(1, .ptr 0 0),(143, .slice .shared 6 (v.args.map dH)),(144, .int .i64 (v.args.length:Int)),(145, .int .i64 (i.2:Int))]) (fun i=>⟨[aO v],[]⟩) ?_ (v.args,0) ⟨rfl,h⟩)
 rintro⟨rest,k⟩ ⟨h1,h⟩ IH
 dsimp only at h1 h
 cases rest with
 |nil=>
  have hD:=drop_nil h1
  simp only[Ar.fh,zav,zab,↓reduceIte]at h
  repeat' (first
 |simp only[go_sem,hD,hZ,gC,gD]
 |(with_reducible first|refine fv fun hc=>?_|refine fw fun hc=>?_|refine fx (fun hc=>?_) fun hc=>?_)<;>(try simp only[hc,bs,↓reduceIte]at h)<;>try simp only[hc]
 | ((with_reducible refine aX hQ ?_);(try cases h);simp only [bZ,cd,dn,dq,go_sem,hD,hZ,gC,gD];repeat' (first | exact Ok.out | with_reducible refine ej ?_ ?_ | (simp;done))))
  all_goals
   simp only[*]
   exact Ok.out
 |cons a rest=>
  obtain⟨hZ,g2,hD,g4⟩:=drop_cons h1
  have ha:=abF a (zad hZ)
  have gC:k<4611686018427387904:=by omega
  simp only[Ar.fh]at h
  repeat' (first
 |simp only[go_sem,hD,hZ,gC,gD]
 |(with_reducible refine CU (ha _) ?_)
 |(with_reducible first|refine fv fun hc=>?_|refine fw fun hc=>?_|refine fx (fun hc=>?_) fun hc=>?_)<;>(try simp only[hc,bs,↓reduceIte]at h)<;>try simp only[hc]
 |((with_reducible refine aX hQ ?_);exact oA))
  refine dg 1 0 (IH (rest,k+1) ⟨g2,h⟩ (zae _))
theorem amY {cl:Bool} (hf:v.lB) (hB:B.s = ⟨[],[]⟩) (hQ:oa 0 0 [(2,none)] (.bool p) ⟨[],[]⟩=Q)
 (h:(if !(cl == !(v.proc == [])) || (cl && !(isName v.proc)) || (!cl && decide ((v.args.length:Int) > 0))then false
  else if !(Ar.fh v.args)then false else((v.aY.length:Int)==0 ||v.kind==5 ||v.kind==6) && ((v.aH.length:Int)==0 ||v.kind==5))=p) :
 Sem Tryz.prog B 178 Q17 Q [(1, .ptr 0 0),(5, .bool cl)] ⟨[aO v],[]⟩:=by
 have VG:=vI v.proc hf.proc
 have⟨hD,hZ,gC,gD⟩:=bc
 refine Sem.lN ?_
 repeat' (first
 |simp only[go_sem,hD,hZ,gC,gD]
 |(with_reducible refine CU (VG _) ?_)
 |(with_reducible first|refine fv fun hc=>?_|refine fw fun hc=>?_|refine fx (fun hc=>?_) fun hc=>?_)<;>(try simp only[hc,bs,↓reduceIte]at h)<;>try simp only[hc]
 |((with_reducible refine aX hQ ?_);(try cases h);simp only[bZ,cd,dn,dq,go_sem,hD,hZ,gC,gD];repeat' (first|exact Ok.out|with_reducible refine ej ?_ ?_|(simp;done))))
 all_goals
  refine Sem.re _ _ 1 0 (by rw[hB];exact rk rfl) (by rw[hB];exact rk rfl) ?_ ?_ (amX hf hB hQ h)
  ·(simp only[go_sem,hD,hZ,gC,gD];repeat' (first|exact Ok.out|with_reducible refine ej ?_ ?_))
  ·(simp only[go_sem,hD,hZ,gC,gD];repeat' (first|exact Ok.out|with_reducible refine ej ?_ ?_))
theorem amZ {hn cl:Bool} (hf:v.lB) (hB:B.s = ⟨[],[]⟩) (hQ:oa 0 0 [(2,none)] (.bool p) ⟨[],[]⟩=Q)
 (h:(if(hn && !(isName v.name)) || (!hn && !(v.name == []) && !(cl && isName v.name))then false
  else if !(cl == !(v.proc == [])) ||(cl && !(isName v.proc)) ||(!cl && decide ((v.args.length:Int) > 0))then false
  else if !(Ar.fh v.args)then false else((v.aY.length:Int)==0 ||v.kind==5 ||v.kind==6) && ((v.aH.length:Int)==0 ||v.kind==5))=p) :
 Sem Tryz.prog B 178 Q16 Q [(1, .ptr 0 0),(4, .bool hn),(5, .bool cl)] ⟨[aO v],[]⟩:=by
 have TD:=vI v.name hf.name
 have⟨hD,hZ,gC,gD⟩:=bc
 have k:=@amY v B Q p cl hf hB hQ
 cases cl
 all_goals
  refine Sem.lN ?_
  repeat' (first
 |simp only[go_sem,hD,hZ,gC,gD]
 |(with_reducible refine CU (TD _) ?_)
 |(with_reducible first|refine fv fun hc=>?_|refine fw fun hc=>?_|refine fx (fun hc=>?_) fun hc=>?_)<;>(try simp only[hc,bs,↓reduceIte]at h)<;>try simp only[hc]
 |((with_reducible refine aX hQ ?_);(try cases h);simp only[bZ,cd,dn,dq,go_sem,hD,hZ,gC,gD];repeat' (first|exact Ok.out|with_reducible refine ej ?_ ?_|(simp;done))))
 all_goals
  refine Sem.re _ _ 1 0 (by rw[hB];exact rk rfl) (by rw[hB];exact rk rfl) ?_ ?_ (k (by simpa only[bs,↓reduceIte]using h))
  ·(simp only[go_sem,hD,hZ,gC,gD];repeat' (first|exact Ok.out|with_reducible refine ej ?_ ?_))
  ·(simp only[go_sem,hD,hZ,gC,gD];repeat' (first|exact Ok.out|with_reducible refine ej ?_ ?_))
theorem am0 {hx hn cl:Bool} (hf:v.lB) (hB:B.s = ⟨[],[]⟩) (hQ:oa 0 0 [(2,none)] (.bool p) ⟨[],[]⟩=Q)
 (h:(if decide (v.kind<1) || decide (v.kind > 10) || !(eQ v.labels) || (hx && !(v.x.may)) || (!hx && !(v.x.none)) || (v.has && v.kind != 9)then false
  else if(hn && !(isName v.name)) ||(!hn && !(v.name == []) && !(cl && isName v.name))then false
  else if !(cl == !(v.proc == [])) ||(cl && !(isName v.proc)) ||(!cl && decide ((v.args.length:Int) > 0))then false
  else if !(Ar.fh v.args)then false else((v.aY.length:Int)==0 ||v.kind==5 ||v.kind==6) && ((v.aH.length:Int)==0 ||v.kind==5))=p) :
 Sem Tryz.prog B 178 Q15 Q [(1, .ptr 0 0),(3, .bool hx),(4, .bool hn),(5, .bool cl)] ⟨[aO v],[]⟩:=by
 have hns:=fun s=>CO hf.ai5 hf.X8 s
 have hm:=EE hf.x hf.xt
 have⟨hD,hZ,gC,gD⟩:=bc
 refine Sem.lN ?_
 repeat' (first
 |simp only[go_sem,hD,hZ,gC,gD]
 |(with_reducible refine CU (hns _) ?_)
 |(with_reducible refine CU (hm _) ?_)
 |(with_reducible refine CU (X7 _ _) ?_)
 |(with_reducible first|refine fv fun hc=>?_|refine fw fun hc=>?_|refine fx (fun hc=>?_) fun hc=>?_)<;>(try simp only[hc,bs,↓reduceIte]at h)<;>try simp only[hc]
 |((with_reducible refine aX hQ ?_);(try cases h);simp only[bZ,cd,dn,dq,go_sem,hD,hZ,gC,gD];repeat' (first|exact Ok.out|with_reducible refine ej ?_ ?_|(simp;done))))
 all_goals
  refine Sem.re _ _ 1 0 (by rw[hB];exact rk rfl) (by rw[hB];exact rk rfl) ?_ ?_ (amZ hf hB hQ h)
  ·(simp only[go_sem,hD,hZ,gC,gD];repeat' (first|exact Ok.out|with_reducible refine ej ?_ ?_))
  ·(simp only[go_sem,hD,hZ,gC,gD];repeat' (first|exact Ok.out|with_reducible refine ej ?_ ?_))
theorem am1 {hx hn:Bool} (hf:v.lB) (hB:B.s = ⟨[],[]⟩) (hQ:oa 0 0 [(2,none)] (.bool p) ⟨[],[]⟩=Q) (ex:v.sU=hx) (en:v.hasName=hn) (h:v.one=p) :
 Sem Tryz.prog B 178 Q14 Q [(1, .ptr 0 0),(3, .bool hx),(4, .bool hn)] ⟨[aO v],[]⟩:=by
 unfold Sm.one at h
 rw[ex,en]at h
 have⟨hD,hZ,gC,gD⟩:=bc
 refine Sem.lN ?_
 refine bT trivial ?_
 refine Sem.re _ _ 1 0 (by rw[hB];exact rk rfl) (by rw[hB];exact rk rfl) ?_ ?_ (am0 hf hB hQ h)
 ·(simp only[go_sem,hD,hZ,gC,gD,Sm.wW];repeat' (first|exact Ok.out|with_reducible refine ej ?_ ?_))
 ·(simp only[go_sem,hD,hZ,gC,gD,Sm.wW];repeat' (first|exact Ok.out|with_reducible refine ej ?_ ?_))
theorem am2 {hx:Bool} (hf:v.lB) (hB:B.s = ⟨[],[]⟩) (hQ:oa 0 0 [(2,none)] (.bool p) ⟨[],[]⟩=Q) (ex:v.sU=hx) (hp:v.one=p) :
 Sem Tryz.prog B 178 Q13 Q [(1, .ptr 0 0),(3, .bool hx)] ⟨[aO v],[]⟩:=by
 generalize h:v.hasName=hn
 have hn:=h
 unfold Sm.hasName at h
 have⟨hD,hZ,gC,gD⟩:=bc
 refine Sem.lN ?_
 repeat' (first
 |simp only[go_sem,hD,hZ,gC,gD]
 |(with_reducible first|refine fv fun hc=>?_|refine fw fun hc=>?_|refine fx (fun hc=>?_) fun hc=>?_)<;>(try simp only[hc,bs,↓reduceIte]at h)<;>try simp only[hc]
 |(with_reducible refine aX hQ ?_;simp only[bZ,cd,dn,dq,go_sem,hD,hZ,gC,gD];repeat' (first|exact Ok.out|with_reducible refine ej ?_ ?_|(simp;done))))
 all_goals
  refine Sem.re _ _ 1 0 (by rw[hB];exact rk rfl) (by rw[hB];exact rk rfl) ?_ ?_ (am1 hf hB hQ ex hn hp)
  ·(simp only[go_sem,hD,hZ,gC,gD,h];repeat' (first|exact Ok.out|with_reducible refine ej ?_ ?_))
  ·(simp only[go_sem,hD,hZ,gC,gD,h];repeat' (first|exact Ok.out|with_reducible refine ej ?_ ?_))
theorem am3 (hf:v.lB) (hB:B.s = ⟨[],[]⟩) (hQ:oa 0 0 [(2,none)] (.bool p) ⟨[],[]⟩=Q) (hp:v.one=p) :
 Sem Tryz.prog B 178 Q12 Q [(1, .ptr 0 0)] ⟨[aO v],[]⟩:=by
 generalize h:v.sU=hx
 have ex:=h
 unfold Sm.sU at h
 have⟨hD,hZ,gC,gD⟩:=bc
 refine Sem.lN ?_
 repeat' (first
 |simp only[go_sem,hD,hZ,gC,gD]
 |(with_reducible first|refine fv fun hc=>?_|refine fw fun hc=>?_|refine fx (fun hc=>?_) fun hc=>?_)<;>(try simp only[hc,bs,↓reduceIte]at h)<;>try simp only[hc]
 |(with_reducible refine aX hQ ?_;simp only[bZ,cd,dn,dq,go_sem,hD,hZ,gC,gD];repeat' (first|exact Ok.out|with_reducible refine ej ?_ ?_|(simp;done))))
 all_goals
  refine Sem.re _ _ 1 0 (by rw[hB];exact rk rfl) (by rw[hB];exact rk rfl) ?_ ?_ (am2 hf hB hQ ex hp)
  ·(simp only[go_sem,hD,hZ,gC,gD,h];repeat' (first|exact Ok.out|with_reducible refine ej ?_ ?_))
  ·(simp only[go_sem,hD,hZ,gC,gD,h];repeat' (first|exact Ok.out|with_reducible refine ej ?_ ?_))
end
theorem ay.goS {P:Program} {f:FuncId} {nt:Nat} {res:List (Nat×Option (Bool×Nat))} {body:AC} {args:List D} {s:St} {d:D} {s':St} (h0:Has P f nt res body) (hl:Nat.ble args.length nt=true)
 (h : ∀ (B:gK) (Q:Exit→Tm→St→Prop),B.s=s→oa s.ag.length s.au.length res d s'=Q→Sem P B nt body Q (ox 0 args) s):ay P f args s d s':=by
 obtain⟨fn,hf,hc⟩:=h0
 exact ay.intro ⟨fn,hf,hc⟩ (zbl hl) fun B hB=>h B _ hB rfl
theorem am4 {v:Sm} (hf:v.lB) (s:St):ay Tryz.prog 146 [.agg (aO v)] s (.bool v.one) s:=by
 refine ay.pure ?_ (by simp[D.bJ,D.ok,nN]) rfl s
 unfold S0
 refine ay.goS l9.h rfl fun B Q hB hQ=>?_
 have⟨hD,hZ,gC,gD⟩:=bc
 refine Sem.lN ?_
 refine bT trivial ?_
 refine Sem.re _ _ 1 0 (by rw[hB];exact rk rfl) (by rw[hB];exact rk rfl) ?_ ?_ (am3 hf hB hQ rfl)
 ·(simp only[go_sem,hD,hZ,gC,gD];repeat' (first|exact Ok.out|with_reducible refine ej ?_ ?_))
 ·(simp only[go_sem,hD,hZ,gC,gD];repeat' (first|exact Ok.out|with_reducible refine ej ?_ ?_))
end Go.Abs
namespace Go.Abs
set_option maxRecDepth 8000
open Go.Proofs
def dU (i:Im):List D:= [.int .i64 i.s.id, .int .i64 i.s.kind, .slice .shared 1 (i.s.labels.map encStr), .str i.s.name, .str i.s.proc,
 .int .i64 i.s.x.op, .int .i64 i.s.x.n, .str i.s.x.name, .slice .shared 4 (i.s.x.kids.map bQ), .bool i.s.has, .slice .shared 6 (i.s.args.map dH), .slice .shared 13 (i.s.aY.map aO), .slice .shared 13 (i.s.aH.map aO), .int .i64 i.proc, .int .i64 i.up, .int .i64 i.next, .int .i64 i.loop]
def bl (n:Int):List D:= [.int .i64 n]
theorem VH (i:Im):D.bJ 0 0 (dU i)=true:=by simp[dU,D.bJ,D.ok,Tag.ok,dv,aea,NB,pB]
theorem ND (l:List Im):D.jB 0 0 (l.map dU)=true:=jC VH l
theorem aej (n m:Nat) (l:List Im):D.kY n m (l.map dU)=l.map dU:=oe VH n m l
theorem am5 (n m:Nat) (i:Im):D.iI n m (dU i)=dU i:=jN n m _ (VH i)
theorem am6 (x:Im):(dU x).length=17:=nd rfl
theorem af9 (x:Im):List.take 17 (dU x)=dU x:=nd rfl
theorem ai7 (x:Im):List.drop 17 (dU x) = []:=nd rfl
theorem ai8 (x:Im):List.take 13 (dU x)=aO x.s:=by simp only[dU,ep];rfl
theorem abG (x:Im):(dU x)[0]? = some (.int .i64 x.s.id):=nd rfl
theorem abH (x:Im):(dU x)[1]? = some (.int .i64 x.s.kind):=nd rfl
theorem abI (x:Im):(dU x)[4]? = some (.str x.s.proc):=nd rfl
theorem X9 (x:Im):(dU x)[13]? = some (.int .i64 x.proc):=nd rfl
theorem Ya (x:Im):(dU x)[14]? = some (.int .i64 x.up):=nd rfl
theorem Yb (x:Im):(dU x)[15]? = some (.int .i64 x.next):=nd rfl
theorem Yc (x:Im):(dU x)[16]? = some (.int .i64 x.loop):=nd rfl
theorem VI (s:Sm) (a b c d:Int):dU ⟨s,a,b,c,d⟩ = [.int .i64 s.id, .int .i64 s.kind, .slice .shared 1 (s.labels.map encStr), .str s.name, .str s.proc,
 .int .i64 s.x.op, .int .i64 s.x.n, .str s.x.name, .slice .shared 4 (s.x.kids.map bQ), .bool s.has, .slice .shared 6 (s.args.map dH), .slice .shared 13 (s.aY.map aO), .slice .shared 13 (s.aH.map aO), .int .i64 a, .int .i64 b, .int .i64 c, .int .i64 d]:=nd rfl
theorem aek (n:Int):D.bJ 0 0 (bl n)=true:=rfl
theorem gY (l:List Int):D.jB 0 0 (l.map bl)=true:=jC aek l
theorem Yd (n m:Nat) (l:List Int):D.kY n m (l.map bl)=l.map bl:=oe aek n m l
attribute [go_sem] aej am5 am6 af9 ai7 ai8 abG abH abI X9 Ya Yb Yc Yd bl
theorem ai9 : ∀ n,n<1000000000→∀ v:Sm,v.size≤n→ay Tryz.prog 87 [.agg (aO v)] S0 (.int .i64 (v.k8:Int)) S0:=by
 intro n
 induction n with
 |zero=>intro _ v h;obtain⟨_,_,_,_,_,_,_,_,_,_⟩:=v;simp only[Sm.size]at h;omega
 |succ n ih=>
 intro hn v hv
 have dJ:Sm.bB v.aY≤n∧Sm.bB v.aH≤n∧v.k8=1+Sm.kB v.aY+Sm.kB v.aH:=by
  obtain⟨_,_,_,_,_,_,_,_,_,_⟩:=v
  simp only[Sm.size]at hv;exact⟨by dsimp only;omega,by dsimp only;omega,rfl⟩
 obtain⟨h1,h2,h3⟩:=dJ
 have c1:=qm v.aY
 have c2:=qm v.aH
 have l1:=Sm.dk v.aY
 have l2:=Sm.dk v.aH
 have hk : ∀ y,y∈v.aY∨y∈v.aH→∀ s,ay Tryz.prog 87 [.agg (aO y)] s (.int .i64 (y.k8:Int)) s:=fun y hy s=>
  (ih (by omega) y (by rcases hy with hy|hy<;>(have:=Sm.cb hy;omega))).pure (by simp only[D.bJ,D.ok,nN];rfl) rfl s
 rw[h3]
 unfold S0
 refine ay.go M5.h rfl fun B Q hB hQ=>?_
 have⟨hD,hZ,gC,gD⟩:=bc
 refine bT trivial ?_
 refine dg 1 0 (aJ.ind (ι:=List Sm×Nat×Nat) (fun i=>v.aY.drop i.2.1=i.1∧i.2.2+Sm.kB i.1=1+Sm.kB v.aY) (fun i=>i.1.length)
  (fun i=> [(1, .ptr 0 0),(3, .int .i64 (i.2.2:Int)),(9, .slice .shared 13 (v.aY.map aO)),(10, .int .i64 (v.aY.length:Int)),(11, .int .i64 (i.2.1:Int))]) (fun i=>⟨[aO v],[]⟩) ?_ (v.aY,0,1) ⟨rfl,rfl⟩)
 rintro⟨rest,k,c⟩ ⟨g1,g2⟩ IH
 dsimp only at g1 g2
 cases rest with
 |cons y rest=>
  obtain⟨hZ,g3,hD,g4⟩:=drop_cons g1
  have hy:=hk y (.inl (zad hZ))
  simp only[Sm.kB]at g2
  have Ye:=Hq y
  have LB:=Sm.cb (zad hZ)
  have w1:IntKind.wrap .i64 ((k:Int)+1)=((k+1:Nat):Int):=by rw[dE]<;>omega
  have w2:IntKind.wrap .i64 ((c:Int)+(y.k8:Int))=((c+y.k8:Nat):Int):=by rw[dE]<;>omega
  repeat' (first
 |simp only[go_sem,hD,hZ,gC,gD,w1,w2]
 |(with_reducible refine CU (hy _) ?_)
 |(with_reducible refine aX hQ ?_;exact bK))
  refine dg 1 0 (IH (rest,k+1,c+y.k8) ⟨g3,by dsimp only;omega⟩ (zae _))
 | nil=>
  have hD:=drop_nil g1
  simp only[Sm.kB,zaP]at g2
  subst g2
  refine bT trivial ?_
  refine dg 1 0 (aJ.ind (ι:=List Sm×Nat×Nat) (fun i=>v.aH.drop i.2.1=i.1∧i.2.2+Sm.kB i.1=1+Sm.kB v.aY+Sm.kB v.aH) (fun i=>i.1.length)
   (fun i=> [(1, .ptr 0 0),(3, .int .i64 (i.2.2:Int)),(21, .slice .shared 13 (v.aH.map aO)),(22, .int .i64 (v.aH.length:Int)),(23, .int .i64 (i.2.1:Int))]) (fun i=>⟨[aO v],[]⟩) ?_ (v.aH,0,1+Sm.kB v.aY) ⟨rfl,rfl⟩)
  rintro⟨rest,k,c⟩ ⟨g1,g2⟩ IH
  dsimp only at g1 g2
  cases rest with
  |cons y rest=>
   obtain⟨hZ,g3,hD,g4⟩:=drop_cons g1
   have hy:=hk y (.inr (zad hZ))
   simp only[Sm.kB]at g2
   have Ye:=Hq y
   have LB:=Sm.cb (zad hZ)
   have w1:IntKind.wrap .i64 ((k:Int)+1)=((k+1:Nat):Int):=by rw[dE]<;>omega
   have w2:IntKind.wrap .i64 ((c:Int)+(y.k8:Int))=((c+y.k8:Nat):Int):=by rw[dE]<;>omega
   repeat' (first
 |simp only[go_sem,hD,hZ,gC,gD,w1,w2]
 |(with_reducible refine CU (hy _) ?_)
 | (with_reducible refine aX hQ ?_;exact bK))
   refine dg 1 0 (IH (rest,k+1,c+y.k8) ⟨g3,by dsimp only;omega⟩ (zae _))
  |nil=>
   have hD:=drop_nil g1
   simp only[Sm.kB,zaP]at g2
   subst g2
   exact dR trivial
theorem aja {v:Sm} (h:v.size<1000000000) (s:St):ay Tryz.prog 87 [.agg (aO v)] s (.int .i64 (v.k8:Int)) s:=
 (ai9 v.size h v (zak _)).pure (by simp only[D.bJ,D.ok,nN];rfl) rfl s
end Go.Abs
namespace Go.Abs
set_option maxRecDepth 8000
open Go.Proofs
abbrev ku (g ps:D) (L:List Im) (lo hi:List Int):List D:= [g,ps, .slice (.tok 0) 17 (L.map dU), .slice (.tok 1) 1 (lo.map bl), .slice (.tok 2) 1 (hi.map bl)]
abbrev abJ (proc up next loop:Int):List D:= [.int .i64 0, .int .i64 0, .slice .full 0 [], .str [], .str [], .int .i64 0, .int .i64 0, .str [], .slice .full 0 [], .bool false, .slice .full 0 [], .slice .full 0 [], .slice .full 0 [], .int .i64 proc, .int .i64 up, .int .i64 next, .int .i64 loop]
theorem ay.am7 {P:Program} {f:Nat} {args:List D} {g ps:D} {L L':List Im} {lo hi LG jL:List Int} {a b c a' b' c':Option Nat}
 (h:ay P f (.ptr 0 0::args) ⟨[ku g ps L lo hi],[a,b,c]⟩ (.tuple []) ⟨[ku g ps L' LG jL],[a',b',c']⟩)
 (ha:D.bJ 0 0 args=true) (hg:D.ok 0 0 g=true) (hp:D.ok 0 0 ps=true)
 {s:St} {o:Nat} (ho:s.ag[o]? = some (ku g ps L lo hi)) (ht:s.au = [a,b,c]):ay P f (.ptr o 0::args) s (.tuple []) ⟨s.ag.set o (ku g ps L' LG jL),[a',b',c']⟩:=by
 have hr : ∀ (L:List Im) (lo hi:List Int),D.eJ [o] [0,1,2] (ku g ps L lo hi)=ku g ps L lo hi:=fun L lo hi=>by
  simp[D.eJ,D.di,Tag.di,tQ _ _ _ hg,tQ _ _ _ hp,kH _ _ _ (ND L),kH _ _ _ (gY lo),kH _ _ _ (gY hi)]
 have hk : ∀ (L:List Im) (lo hi:List Int),D.bJ 1 3 (ku g ps L lo hi)=true:=fun L lo hi=>by
  simp[D.bJ,D.ok,Tag.ok,Kb (zaA 1) (zaA 3) _ hg,Kb (zaA 1) (zaA 3) _ hp,oU (zaA 1) (zaA 3) _ (ND L),oU (zaA 1) (zaA 3) _ (gY lo),oU (zaA 1) (zaA 3) _ (gY hi)]
 refine bk.frame [o] [0,1,2] h (by simp) (by decide) (by simpa using (zac.1 ho).1) (by rw[ht];simp) rfl (fun i o' ds e1 e2=>?_) rfl (fun i t' e1=>?_)
  (by simp[D.eJ,D.di,fN _ _ _ ha])
  (by simp[D.bJ,D.ok,jW (zaA 1) (zaA 3) _ ha]) ?_
 ·cases i with
  |zero=>simp only[zbh,Option.some.injEq]at e1 e2;subst e1;subst e2;exact⟨by rw[hr];exact ho,hk L lo hi⟩
  |succ i=>simp at e1
 ·rw [ht]
  match i,e1 with
  | 0,e1=>simp at e1;subst e1;rfl
  | 1,e1=>simp at e1;subst e1;rfl
  | 2,e1=>simp at e1;subst e1;rfl
  |i+3,e1=>simp at e1
 ·rintro _ _ ⟨rfl,rfl⟩
  refine⟨by simp[D.back,D.di,D.eJ], ?_⟩
  have:=hr L' LG jL
  simp[St.back,l6,lj,this,ht]
abbrev ael (N:Nat):Prop:=∀ (l:List Sm) (proc up next loop:Int) (out:List Im) (g ps:D) (lo hi:List Int) (b c:Option Nat),Sm.bB l<N→out.length+Sm.kB l<1000000000→D.ok 0 0 g=true→D.ok 0 0 ps=true→
 ∀ {s:St} {o:Nat},s.ag[o]? = some (ku g ps out lo hi)→s.au = [some out.length,b,c]→
 ay Tryz.prog 57 [.ptr o 0, .slice .shared 13 (l.map aO), .agg (abJ proc up next loop)] s (.tuple []) ⟨s.ag.set o (ku g ps (Im.rows proc up next loop out l) lo hi),[some (Im.rows proc up next loop out l).length,b,c]⟩
theorem am8 {N:Nat} (ih:ael N) {l:List Sm} {proc up next loop:Int} {out:List Im} {g ps:D} {lo hi:List Int} {b c:Option Nat} (hs:Sm.bB l<N+1) (hc:out.length+Sm.kB l<1000000000) (hg:D.ok 0 0 g=true) (hp:D.ok 0 0 ps=true) (hN:N<1000000000) :
 ay Tryz.prog 57 [.ptr 0 0, .slice .shared 13 (l.map aO), .agg (abJ proc up next loop)] ⟨[ku g ps out lo hi],[some out.length,b,c]⟩ (.tuple []) ⟨[ku g ps (Im.rows proc up next loop out l) lo hi],[some (Im.rows proc up next loop out l).length,b,c]⟩:=by
 obtain⟨R,hR⟩ : ∃ R,R=Im.rows proc up next loop out l:=⟨_,rfl⟩
 have hlR:R.length=out.length+Sm.kB l:=by rw[hR,jf]
 rw[← hR]
 have k1 : ∀ n m,D.fg n m g=g:=fun n m=>Vt n m _ hg
 have k2 : ∀ n m,D.fg n m ps=ps:=fun n m=>Vt n m _ hp
 refine ay.go ED.h rfl fun B Q hB hQ=>?_
 have⟨hD,hZ,gC,gD⟩:=bc
 refine bT (eK k1 k2) ?_
 refine cr 2 3 ?_ ?_ (aJ.ind (ι:=List Sm×Nat×List Im) (fun i=>l.drop i.2.1=i.1∧Im.rows proc up next loop i.2.2 i.1=R∧i.2.2.length+Sm.kB i.1=out.length+Sm.kB l) (fun i=>i.1.length)
  (fun i=> [(0, .ptr 0 0),(1, .slice .shared 13 (l.map aO)),(5, .ptr 1 0),(11, .slice .shared 13 (l.map aO)),(12, .int .i64 (l.length:Int)),(13, .int .i64 (i.2.1:Int))]) (fun i=>⟨[ku g ps i.2.2 lo hi,abJ proc up next loop],[some i.2.2.length,b,c]⟩) ?_ (l,0,out) ⟨rfl,hR.symm,rfl⟩)
 ·(simp only[go_sem,hD,hZ,gC,gD,k1,k2];try exact aQ)
 ·(simp only[go_sem,hD,hZ,gC,gD,k1,k2];try exact aQ)
 rintro⟨rest,k,bW⟩ ⟨h1,h2,h3⟩ IH
 dsimp only at h1 h2 h3
 have hlen:l.length<1000000000:=by have:=Sm.dk l;omega
 cases rest with
 |nil=>
  have hD:=drop_nil h1
  simp only[Im.rows]at h2
  subst h2
  exact iX (eK k1 k2)
 | cons v rest=>
  obtain⟨hZ,g2,hD,g4⟩:=drop_cons h1
  have aV:k<4611686018427387904:=by omega
  have hv:=Sm.cb (zad hZ)
  have nh:Sm.bB v.aY<N∧Sm.bB v.aH<N∧v.k8=1+Sm.kB v.aY+Sm.kB v.aH:=by
   obtain⟨_,_,_,_,_,_,_,_,_,_⟩:=v
   simp only[Sm.size]at hv
   exact⟨by dsimp only;omega,by dsimp only;omega,rfl⟩
  obtain⟨xB,Oi,hv3⟩:=nh
  simp only[Sm.kB]at h3
  simp only[Im.rows,Im.aiZ]at h2
  have gC:(bW.length+1)*241≤aT:=by unfold aT;omega
  have Sn:IntKind.wrap .i64 ((bW.length:Int)+1)=(bW.length:Int)+1:=dE (by omega) (by omega)
  have ta:IntKind.wrap .i64 ((k:Int)+1)=((k+1:Nat):Int):=by rw[dE]<;>omega
  have Sp:IntKind.wrap .i64 ((bW.length:Int)+1+(v.k8:Int))=(bW.length:Int)+1+(v.k8:Int):=dE (by omega) (by omega)
  have dJ:=fun s=>aja (v:=v) (by omega) s
  simp only[ep]at dJ
  have wF:rest.length=l.length - (k+1):=by rw[← g2,List.length_drop]
  by_cases auX:k+1<l.length
  ·have d1:decide (((k+1:Nat):Int)<(l.length:Int))=true:=by simp;omega
   have e1:(rest.length=0)=False:=by simp;intro h;rw[h]at wF;simp at wF;omega
   by_cases Yf:v.kind=6
   ·have d2:(v.kind==6)=true:=by simp [Yf]
    simp only[e1,d2,↓reduceIte,zab]at h2
    have f1:=fun {s:St} {o:Nat}=>@ih v.aY proc ((bW.length:Int)+1) ((bW.length:Int)+1) ((bW.length:Int)+1) (bW++ [⟨v,proc,up,((bW.length:Int)+1+(v.k8:Int)),loop⟩]) g ps lo hi b c xB (by simp;omega) hg hp s o
    have f2:=fun {s:St} {o:Nat}=>@ih v.aH proc ((bW.length:Int)+1) ((bW.length:Int)+1) ((bW.length:Int)+1) _ g ps lo hi b c Oi (by rw[jf proc ((bW.length:Int)+1) ((bW.length:Int)+1) ((bW.length:Int)+1) (bW++ [⟨v,proc,up,((bW.length:Int)+1+(v.k8:Int)),loop⟩]) v.aY];simp;omega) hg hp s o
    have hl:(Im.rows proc ((bW.length:Int)+1) ((bW.length:Int)+1) ((bW.length:Int)+1) (Im.rows proc ((bW.length:Int)+1) ((bW.length:Int)+1) ((bW.length:Int)+1) (bW++ [⟨v,proc,up,((bW.length:Int)+1+(v.k8:Int)),loop⟩]) v.aY) v.aH).length=bW.length+v.k8:=by rw[jf,jf];simp;omega
    simp only[ku,zag,zaf,zaj,VI,zal,zas,zaC]at f1
    repeat' (first
 |simp only[go_sem,hD,hZ,gC,gD,k1,k2,Sn,ta,Sp,d1,d2,ep]
 |(with_reducible refine CU (dJ _) ?_)
 |(with_reducible refine CU (f1 (by with_unfolding_all rfl) (by with_unfolding_all rfl)) ?_)
 |(with_reducible refine CU (f2 (by with_unfolding_all rfl) (by with_unfolding_all rfl)) ?_)
 | (with_reducible refine aX hQ ?_;exact bK))
    refine cr 2 3 ?_ ?_ (IH (rest,k+1,_) ⟨g2,h2,by dsimp only;rw[hl];omega⟩ (zae _))
    ·(simp only[go_sem,hD,hZ,gC,gD,ta,k1,k2];try exact aQ)
    ·(simp only[go_sem,hD,hZ,gC,gD,ta,k1,k2];try exact aQ)
   ·have d2:(v.kind==6)=false:=by simp [Yf]
    simp only[e1,d2,↓reduceIte,zab]at h2
    have f1:=fun {s:St} {o:Nat}=>@ih v.aY proc ((bW.length:Int)+1) ((bW.length:Int)+1+(v.k8:Int)) loop (bW++ [⟨v,proc,up,((bW.length:Int)+1+(v.k8:Int)),loop⟩]) g ps lo hi b c xB (by simp;omega) hg hp s o
    have f2:=fun {s:St} {o:Nat}=>@ih v.aH proc ((bW.length:Int)+1) ((bW.length:Int)+1+(v.k8:Int)) loop _ g ps lo hi b c Oi (by rw[jf proc ((bW.length:Int)+1) ((bW.length:Int)+1+(v.k8:Int)) loop (bW++ [⟨v,proc,up,((bW.length:Int)+1+(v.k8:Int)),loop⟩]) v.aY];simp;omega) hg hp s o
    have hl:(Im.rows proc ((bW.length:Int)+1) ((bW.length:Int)+1+(v.k8:Int)) loop (Im.rows proc ((bW.length:Int)+1) ((bW.length:Int)+1+(v.k8:Int)) loop (bW++ [⟨v,proc,up,((bW.length:Int)+1+(v.k8:Int)),loop⟩]) v.aY) v.aH).length=bW.length+v.k8:=by rw[jf,jf];simp;omega
    simp only[ku,zag,zaf,zaj,VI,zal,zas,zaC]at f1
    repeat' (first
 |simp only[go_sem,hD,hZ,gC,gD,k1,k2,Sn,ta,Sp,d1,d2,ep]
 |(with_reducible refine CU (dJ _) ?_)
 |(with_reducible refine CU (f1 (by with_unfolding_all rfl) (by with_unfolding_all rfl)) ?_)
 |(with_reducible refine CU (f2 (by with_unfolding_all rfl) (by with_unfolding_all rfl)) ?_)
 | (with_reducible refine aX hQ ?_;exact bK))
    refine cr 2 3 ?_ ?_ (IH (rest,k+1,_) ⟨g2,h2,by dsimp only;rw[hl];omega⟩ (zae _))
    ·(simp only[go_sem,hD,hZ,gC,gD,ta,k1,k2];try exact aQ)
    ·(simp only[go_sem,hD,hZ,gC,gD,ta,k1,k2];try exact aQ)
  ·have d1:decide (((k+1:Nat):Int)<(l.length:Int))=false:=by simp;omega
   have e1:(rest.length=0)=True:=by simp only[eq_iff_iff,iff_true];omega
   by_cases Yf:v.kind=6
   ·have d2:(v.kind==6)=true:=by simp [Yf]
    simp only[e1,d2,↓reduceIte,zab]at h2
    have f1:=fun {s:St} {o:Nat}=>@ih v.aY proc ((bW.length:Int)+1) ((bW.length:Int)+1) ((bW.length:Int)+1) (bW++ [⟨v,proc,up,next,loop⟩]) g ps lo hi b c xB (by simp;omega) hg hp s o
    have f2:=fun {s:St} {o:Nat}=>@ih v.aH proc ((bW.length:Int)+1) ((bW.length:Int)+1) ((bW.length:Int)+1) _ g ps lo hi b c Oi (by rw[jf proc ((bW.length:Int)+1) ((bW.length:Int)+1) ((bW.length:Int)+1) (bW++ [⟨v,proc,up,next,loop⟩]) v.aY];simp;omega) hg hp s o
    have hl:(Im.rows proc ((bW.length:Int)+1) ((bW.length:Int)+1) ((bW.length:Int)+1) (Im.rows proc ((bW.length:Int)+1) ((bW.length:Int)+1) ((bW.length:Int)+1) (bW++ [⟨v,proc,up,next,loop⟩]) v.aY) v.aH).length=bW.length+v.k8:=by rw[jf,jf];simp;omega
    simp only[ku,zag,zaf,zaj,VI,zal,zas,zaC]at f1
    repeat' (first
 |simp only[go_sem,hD,hZ,gC,gD,k1,k2,Sn,ta,Sp,d1,d2,ep]
 |(with_reducible refine CU (dJ _) ?_)
 |(with_reducible refine CU (f1 (by with_unfolding_all rfl) (by with_unfolding_all rfl)) ?_)
 |(with_reducible refine CU (f2 (by with_unfolding_all rfl) (by with_unfolding_all rfl)) ?_)
 | (with_reducible refine aX hQ ?_;exact bK))
    refine cr 2 3 ?_ ?_ (IH (rest,k+1,_) ⟨g2,h2,by dsimp only;rw[hl];omega⟩ (zae _))
    ·(simp only[go_sem,hD,hZ,gC,gD,ta,k1,k2];try exact aQ)
    ·(simp only[go_sem,hD,hZ,gC,gD,ta,k1,k2];try exact aQ)
   ·have d2:(v.kind==6)=false:=by simp [Yf]
    simp only[e1,d2,↓reduceIte,zab]at h2
    have f1:=fun {s:St} {o:Nat}=>@ih v.aY proc ((bW.length:Int)+1) next loop (bW++ [⟨v,proc,up,next,loop⟩]) g ps lo hi b c xB (by simp;omega) hg hp s o
    have f2:=fun {s:St} {o:Nat}=>@ih v.aH proc ((bW.length:Int)+1) next loop _ g ps lo hi b c Oi (by rw[jf proc ((bW.length:Int)+1) next loop (bW++ [⟨v,proc,up,next,loop⟩]) v.aY];simp;omega) hg hp s o
    have hl:(Im.rows proc ((bW.length:Int)+1) next loop (Im.rows proc ((bW.length:Int)+1) next loop (bW++ [⟨v,proc,up,next,loop⟩]) v.aY) v.aH).length=bW.length+v.k8:=by rw[jf,jf];simp;omega
    simp only[ku,zag,zaf,zaj,VI,zal,zas,zaC]at f1
    repeat' (first
 |simp only[go_sem,hD,hZ,gC,gD,k1,k2,Sn,ta,Sp,d1,d2,ep]
 |(with_reducible refine CU (dJ _) ?_)
 |(with_reducible refine CU (f1 (by with_unfolding_all rfl) (by with_unfolding_all rfl)) ?_)
 |(with_reducible refine CU (f2 (by with_unfolding_all rfl) (by with_unfolding_all rfl)) ?_)
 | (with_reducible refine aX hQ ?_;exact bK))
    refine cr 2 3 ?_ ?_ (IH (rest,k+1,_) ⟨g2,h2,by dsimp only;rw[hl];omega⟩ (zae _))
    ·(simp only[go_sem,hD,hZ,gC,gD,ta,k1,k2];try exact aQ)
    ·(simp only[go_sem,hD,hZ,gC,gD,ta,k1,k2];try exact aQ)
theorem aga : ∀ N,N<1000000000→ael N:=by
 intro N
 induction N with
 |zero=>exact fun _ l proc up next loop out g ps lo hi b c h=>absurd h (zaT _)
 |succ N ih=>
  intro h l proc up next loop out g ps lo hi b c hs hc hg hp s o ho ht
  exact(am8 (ih (by omega)) hs hc hg hp (by omega)).am7 (by simp[D.bJ,D.ok,Tag.ok,pB,D.jB]) hg hp ho ht
def gn (p:Pg):List D:= [.slice .shared 1 (p.globals.map encStr), .slice .shared 5 (p.procs.map bP), .slice .shared 17 (p.aU.L.map dU), .slice .shared 1 (p.aU.lo.map bl), .slice .shared 1 (p.aU.hi.map bl)]
theorem rX (p:Pg):gn p = [.slice .shared 1 (p.globals.map encStr), .slice .shared 5 (p.procs.map bP), .slice .shared 17 (p.aU.L.map dU), .slice .shared 1 (p.aU.lo.map bl), .slice .shared 1 (p.aU.hi.map bl)]:=nd rfl
theorem xl (p:Pg):D.bJ 0 0 (gn p)=true:=by simp[gn,D.bJ,D.ok,Tag.ok,dv,zO,ND,gY]
theorem Px (p:Pg):bG p = [.slice .shared 1 (p.globals.map encStr), .slice .shared 5 (p.procs.map bP)]:=nd rfl
theorem am9 {p:Pg} (hs:Pc.bB p.procs<1000000000):ay Tryz.prog 30 [.agg (bG p)] S0 (.ptr 1 0) ⟨[bG p,ku (.slice .shared 1 (p.globals.map encStr)) (.slice .shared 5 (p.procs.map bP)) p.aU.L p.aU.lo p.aU.hi],[some p.aU.L.length,some p.aU.lo.length,some p.aU.hi.length]⟩:=by
 have hlen:p.procs.length<1000000000:=by have:=Pc.dk p.procs;omega
 obtain⟨R,hR⟩ : ∃ R,R=p.aU:=⟨_,rfl⟩
 have Py:=hR
 unfold Pg.aU at Py
 unfold S0
 rw[Px, ← hR]
 refine ay.goK 2 3 (zaA _) (zaA _) O8.h rfl fun B Q hB hQ=>?_
 have⟨hD,hZ,gC,gD⟩:=bc
 refine bT @Px ?_
 refine aJ.tR 1 2 17 rfl rfl ?_
 simp only[go_sem,hD,hZ,gC,gD]
 refine aJ.tR 1 3 1 rfl rfl ?_
 simp only[go_sem,hD,hZ,gC,gD]
 refine aJ.tR 1 4 1 rfl rfl ?_
 simp only[go_sem,hD,hZ,gC,gD]
 refine cr 2 3 ?_ ?_ (aJ.ind (ι:=List Pc×Nat×Sh×Nat×Nat) (fun i=>p.procs.drop i.2.1=i.1∧Sh.go i.2.1 i.2.2.1 i.1=R∧i.2.2.1.L.length+Pc.bB i.1≤Pc.bB p.procs∧i.2.2.1.lo.length=i.2.1∧i.2.2.1.hi.length=i.2.1∧i.2.2.2.1=i.2.2.1.lo.length∧i.2.2.2.2=i.2.2.1.hi.length) (fun i=>i.1.length)
  (fun i=> [(1, .ptr 0 0),(3, .ptr 1 0),(10, .slice .shared 5 (p.procs.map bP)),(11, .int .i64 (p.procs.length:Int)),(12, .int .i64 (i.2.1:Int))]) (fun i=>⟨[[.slice .shared 1 (p.globals.map encStr), .slice .shared 5 (p.procs.map bP)],ku (.slice .shared 1 (p.globals.map encStr)) (.slice .shared 5 (p.procs.map bP)) i.2.2.1.L i.2.2.1.lo i.2.2.1.hi],[some i.2.2.1.L.length,some i.2.2.2.1,some i.2.2.2.2]⟩) ?_ (p.procs,0,⟨[],[],[]⟩,0,0) ⟨rfl,Py.symm,by simp,rfl,rfl,rfl,rfl⟩)
 ·(simp only[go_sem,hD,hZ,gC,gD,ku];try exact aQ)
 ·(simp only[go_sem,hD,hZ,gC,gD,ku];try exact aQ)
 rintro⟨rest,k,h,n1,n2⟩ ⟨h1,h2,h3,h4,h5,h6,h7⟩ IH
 dsimp only at h1 h2 h3 h4 h5 h6 h7
 subst h6 h7
 cases rest with
 |nil=>
  have hD:=drop_nil h1
  simp only[Sh.go]at h2
  rw[← h2]at hQ
  repeat' (first
 |simp only[go_sem,hD,hZ,gC,gD,ku]
 |(with_reducible refine aX hQ ?_;exact bK))
 |cons f rest=>
  obtain⟨hZ,g2,hD,g4⟩:=drop_cons h1
  have aV:k<4611686018427387904:=by omega
  simp only[Pc.bB,Pc.size]at h3
  simp only[Sh.go]at h2
  have c1:=qm f.body
  have gC:(h.lo.length+1)*9≤aT:=by unfold aT;omega
  have aqx:(h.hi.length+1)*9≤aT:=by unfold aT;omega
  have Sn:IntKind.wrap .i64 ((h.L.length:Int)+1)=(h.L.length:Int)+1:=dE (by omega) (by omega)
  have hl:(Im.rows (k:Int) 0 (-1) 0 h.L f.body).length=h.L.length+Sm.kB f.body:=jf ..
  have ta:IntKind.wrap .i64 (((Im.rows (k:Int) 0 (-1) 0 h.L f.body).length:Int)+1)=((Im.rows (k:Int) 0 (-1) 0 h.L f.body).length:Int)+1:=dE (by omega) (by omega)
  have hr:=fun {s:St} {o:Nat}=>@aga (Sm.bB f.body+1) (by omega) f.body (k:Int) 0 (-1) 0 h.L (.slice .shared 1 (p.globals.map encStr)) (.slice .shared 5 (p.procs.map bP)) (h.lo++ [(h.L.length:Int)+1]) h.hi (some (h.lo.length+1)) (some h.hi.length) (zae _) (by omega) (by simp[D.ok,Tag.ok,dv]) (by simp[D.ok,Tag.ok,zO]) s o
  simp only[ku,zag,zaf,zaj,bl]at hr
  repeat' (first
 |simp only[go_sem,hD,hZ,gC,gD,Sn,ta,aqx,ku]
 |(with_reducible refine CU (hr (by with_unfolding_all rfl) (by with_unfolding_all rfl)) ?_)
 |(with_reducible refine aX hQ ?_;exact bK))
  refine cr 2 3 ?_ ?_ (IH (rest,k+1,⟨Im.rows (k:Int) 0 (-1) 0 h.L f.body,h.lo++ [(h.L.length:Int)+1],h.hi++ [((Im.rows (k:Int) 0 (-1) 0 h.L f.body).length:Int)+1]⟩,_,_) ⟨g2,h2,by dsimp only;rw[hl];omega,by simp[h4],by simp[h5],by simp,by simp⟩ (zae _))
  ·(simp only[go_sem,hD,hZ,gC,gD,ku,ak aV,zag,zaf,zaj,bl];try exact aQ)
  ·(simp only[go_sem,hD,hZ,gC,gD,ku,ak aV,zag,zaf,zaj,bl];try exact aQ)
theorem CP {p:Pg} (hs:Pc.bB p.procs<1000000000) (s:St):ay Tryz.prog 30 [.agg (bG p)] s (.dW (gn p) 0) s:=by
 refine ay.pure ?_ (by simp only[D.bJ,D.ok,fW];rfl) (by simp only[D.ok,xl]) s
 have h:=(am9 hs).Gi (n:=0) (m:=0) rfl (zak _) (zaA _) (zak _)
 simpa[D.iI,D.fg,Tag.fg,O0,aeb,aej,Yd,St.cut,gn,S0]using h
def gi (x:aD) (k:Int):List aD→Int
 | []=> -1
 |s::l=>if x==s then k else gi x (k+1) l
def dZ (l:List aD) (x:aD):Bool:=decide (gi x 0 l≥0)
def mV {α:Type} (b:α→Bool) (k:Int):List α→Int
 | []=> -1
 |s::l=>if b s then k else mV b (k+1) l
theorem Sq (x:aD) : ∀ (l:List aD) (k:Int),0≤k→(gi x k l≥0↔x∈l)
 | [],k,h=>by simp[gi]
 | s::l,k,h=>by
  by_cases e:x=s
  ·simp[gi,e];omega
  ·have e':(x==s)=false:=by simp [e]
   simp only[gi,e',zab,if_false,zaq,e,false_or]
   exact Sq x l (k+1) (by omega)
theorem il (l:List aD) (x:aD):dZ l x=true↔x∈l:=by
 simp only[dZ,decide_eq_true_eq];exact Sq x l 0 (zbc 0)
theorem KN {α:Type} (b:α→Bool) : ∀ (l:List α) (k:Int),0≤k→(mV b k l≥0↔l.any b=true)
 | [],k,h=>by simp[mV]
 | s::l,k,h=>by
  by_cases e:b s=true
  ·simp[mV,e];omega
  ·have e':b s=false:=by simpa using e
   simp only[mV,e',zab,if_false,List.any_cons,zaD,false_or]
   exact KN b l (k+1) (by omega)
theorem FE {l:List aD} (hl:l.length<4611686018427387904) (x:aD) (s:St):ay Tryz.prog 90 [.slice .shared 1 (l.map encStr), .str x] s (.int .i64 (gi x 0 l)) s:=by
 refine ay.pure ?_ (by simp[D.bJ,D.ok,Tag.ok,dv]) rfl s
 generalize h:gi x 0 l=p
 unfold S0
 refine ay.go zp.h rfl fun B Q hB hQ=>?_
 have⟨hD,hZ,gC,gD⟩:=bc
 refine bT trivial ?_
 refine dg 0 0 (aJ.ind (ι:=List aD×Nat) (fun i=>l.drop i.2=i.1∧gi x (i.2:Int) i.1=p) (fun i=>i.1.length)
  (fun i=> [(0, .slice .shared 1 (l.map encStr)),(1, .str x),(7, .int .i64 (l.length:Int)),(8, .int .i64 (i.2:Int))]) (fun i=>⟨[],[]⟩) ?_ (l,0) ⟨rfl,h⟩)
 rintro⟨rest,k⟩ ⟨h1,h⟩ IH
 dsimp only at h1 h
 cases rest with
 |nil=>
  have hD:=drop_nil h1
  simp only[gi]at h
  exact iX trivial
 |cons a rest=>
  obtain⟨hZ,g2,hD,g4⟩:=drop_cons h1
  have aV:k<4611686018427387904:=by omega
  simp only[gi]at h
  repeat' (first
 |simp only[go_sem,hD,hZ,gC,gD]
 |(with_reducible first|refine fv fun hc=>?_|refine fw fun hc=>?_|refine fx (fun hc=>?_) fun hc=>?_)<;>(try simp only[hc,bs,↓reduceIte]at h)<;>try simp only[hc]
 |((with_reducible refine aX hQ ?_);exact oA))
  refine cr 0 0 ?_ ?_ (IH (rest,k+1) ⟨g2,h⟩ (zae _))
  ·(simp only[go_sem,hD,hZ,gC,gD,ak aV];try exact aQ)
  ·(simp only[go_sem,hD,hZ,gC,gD,ak aV];try exact aQ)
theorem uV {l:List aD} (hl:l.length<4611686018427387904) (x:aD) (s:St):ay Tryz.prog 94 [.slice .shared 1 (l.map encStr), .str x] s (.bool (dZ l x)) s:=by
 refine ay.pure ?_ (by simp[D.bJ,D.ok,Tag.ok,dv]) rfl s
 have hi:=fun s=>FE hl x s
 unfold S0
 refine ay.go xj.h rfl fun B Q hB hQ=>?_
 have⟨hD,hZ,gC,gD⟩:=bc
 repeat' (first
 |simp only[go_sem,hD,hZ,gC,gD,dZ]
 |(with_reducible refine CU (hi _) ?_)
 |(with_reducible first|refine fv fun hc=>?_|refine fw fun hc=>?_|refine fx (fun hc=>?_) fun hc=>?_)<;>(try simp only[hc,bs,↓reduceIte]at h)<;>try simp only[hc]
 |(with_reducible refine aX hQ ?_;simp only[bZ,cd,dn,dq,go_sem,hD,hZ,gC,gD,dZ];try exact kI))
theorem ay.Pz {P:Program} {f:Nat} {d d':D} {r:List D} {s s':St} {x:D} (h:ay P f (d'::r) s x s') (hw:Wk d d'):ay P f (d::r) s x s':=bk.mT (.cons hw (jM.refl r)) h
theorem la {l:List aD} (hl:l.length<4611686018427387904) (x:aD) (g:Tag) (s:St):ay Tryz.prog 94 [.slice g 1 (l.map encStr), .str x] s (.bool (dZ l x)) s:=
 (uV hl x s).Pz (Wk.shared _ _ _)
theorem PA (x:aD) (z:Nat) (g:Tag) (s:St):ay Tryz.prog 94 [.slice g z [], .str x] s (.bool false) s:=
 (uV (l:= []) (by simp) x s).Pz (Wk.nil _ _ _)
theorem EF {l:List aD} (hl:l.length<4611686018427387904) {f:Nat} {row:List D} {b:aD→Bool} (xJ:D.bJ 0 0 row=true) (he:enters Tryz.prog f=true)
 (hb : ∀ x∈l,ay Tryz.prog f ([.str x]++ [.ptr 0 0]) ⟨[row],[]⟩ (.bool (b x)) ⟨[row],[]⟩) :
 ay Tryz.prog 136 [.slice .shared 1 (l.map encStr), .iL f [.ptr 0 0]] ⟨[row],[]⟩ (.int .i64 (mV b 0 l)) ⟨[row],[]⟩:=by
 generalize h:mV b 0 l=p
 have k1 : ∀ n m,D.iI n m row=row:=fun n m=>jN n m _ xJ
 refine ay.go wV.h rfl fun B Q hB hQ=>?_
 have⟨hD,hZ,gC,gD⟩:=bc
 refine bT k1 ?_
 refine cr 1 0 ?_ ?_ (aJ.ind (ι:=List aD×Nat) (fun i=>l.drop i.2=i.1∧mV b (i.2:Int) i.1=p) (fun i=>i.1.length)
  (fun i=> [(0, .slice .shared 1 (l.map encStr)),(1, .iL f [.ptr 0 0]),(7, .int .i64 (l.length:Int)),(8, .int .i64 (i.2:Int))]) (fun i=>⟨[row],[]⟩) ?_ (l,0) ⟨rfl,h⟩)
 ·(simp only[go_sem,hD,hZ,gC,gD,k1];try exact aQ)
 ·(simp only[go_sem,hD,hZ,gC,gD,k1];try exact aQ)
 rintro⟨rest,k⟩ ⟨h1,h⟩ IH
 dsimp only at h1 h
 cases rest with
 |nil=>
  have hD:=drop_nil h1
  simp only[mV]at h
  exact iX k1
 |cons a rest=>
  obtain⟨hZ,g2,hD,g4⟩:=drop_cons h1
  have aV:k<4611686018427387904:=by omega
  have hba:=hb a (zad hZ)
  simp only[mV]at h
  repeat' (first
 |simp only[go_sem,hD,hZ,gC,gD,k1]
 |(with_reducible refine CV.use (he) (hba) ?_)
 |(with_reducible first|refine fv fun hc=>?_|refine fw fun hc=>?_|refine fx (fun hc=>?_) fun hc=>?_)<;>(try simp only[hc,bs,↓reduceIte]at h)<;>try simp only[hc]
 |((with_reducible refine aX hQ ?_);(try cases h);simp only[bZ,cd,dn,dq,go_sem,hD,hZ,gC,gD,k1];try exact kI))
  refine cr 1 0 ?_ ?_ (IH (rest,k+1) ⟨g2,h⟩ (zae _))
  ·(simp only[go_sem,hD,hZ,gC,gD,k1,ak aV];try exact aQ)
  ·(simp only[go_sem,hD,hZ,gC,gD,k1,ak aV];try exact aQ)
theorem EG {P:Program} {g f:Nat} {row:List D} {rows:List (List D)} {z:Nat} {d:D} (h:ay P g [.slice .shared z rows, .iL f [.ptr 0 0]] ⟨[row],[]⟩ d ⟨[row],[]⟩) (xJ:D.bJ 0 0 row=true) (hw:D.jB 0 0 rows=true) (hd:D.ok 0 0 d=true) {s:St} {o:Nat} (ho:s.ag[o]? = some row) :
 ay P g [.slice .shared z rows, .iL f [.ptr o 0]] s d s:=by
 refine bk.frame [o] [] h (by simp) zbP (by simpa using (zac.1 ho).1) (by simp) rfl (fun i o' ds e1 e2=>?_) rfl (by simp) (by simp[D.eJ,D.di,Tag.di,kH _ _ _ hw])
  (by simp[D.bJ,D.ok,Tag.ok,oU (zaA 1) (zak 0) _ hw]) ?_
 ·cases i with
  |zero=>simp at e1 e2;subst e1;subst e2;exact⟨by rw[fN _ _ _ xJ];exact ho,jW (zaA 1) (zak 0) _ xJ⟩
  |succ i=>simp at e1
 ·rintro _ _ ⟨rfl,rfl⟩
  refine⟨tQ _ _ _ hd, ?_⟩
  have:s.ag.set o row=s.ag:=by
   apply zbZ
   intro i
   rw[zaM]
   split
   ·rename_i e;subst e;rw [ho];split
    ·rfl
    ·rename_i hh;exact absurd (zac.1 ho).1 hh
   ·rfl
  simp[St.back,l6,fN _ _ _ xJ,this]
theorem BY {l:List aD} (hl:l.length<4611686018427387904) {f:Nat} {row:List D} {b:aD→Bool} (xJ:D.bJ 0 0 row=true) (he:enters Tryz.prog f=true)
 (hb : ∀ x∈l,ay Tryz.prog f ([.str x]++ [.ptr 0 0]) ⟨[row],[]⟩ (.bool (b x)) ⟨[row],[]⟩) :
 ay Tryz.prog 99 [.slice .shared 1 (l.map encStr), .iL f [.ptr 0 0]] ⟨[row],[]⟩ (.bool (l.any b)) ⟨[row],[]⟩:=by
 have k1 : ∀ n m,D.iI n m row=row:=fun n m=>jN n m _ xJ
 have hi:=EF hl xJ he hb
 have e:decide (mV b 0 l≥0)=l.any b:=by
  have:=KN b l 0 (zbc 0)
  cases hh:l.any b<;>simp_all
 refine ay.go uT.h rfl fun B Q hB hQ=>?_
 have⟨hD,hZ,gC,gD⟩:=bc
 exact wT (eK k1 e) hi
theorem B0 {l:List aD} (hl:l.length<4611686018427387904) {f:Nat} {row:List D} {b:aD→Bool} (xJ:D.bJ 0 0 row=true) (he:enters Tryz.prog f=true)
 (hb : ∀ x∈l,ay Tryz.prog f ([.str x]++ [.ptr 0 0]) ⟨[row],[]⟩ (.bool (b x)) ⟨[row],[]⟩) {s:St} {o:Nat} (ho:s.ag[o]? = some row) :
 ay Tryz.prog 99 [.slice .shared 1 (l.map encStr), .iL f [.ptr o 0]] s (.bool (l.any b)) s:=
 EG (BY hl xJ he hb) xJ (dv l) rfl ho
theorem yL {l:List Pc} (hl:l.length<4611686018427387904) {f:Nat} {row:List D} {b:Pc→Bool} (xJ:D.bJ 0 0 row=true) (he:enters Tryz.prog f=true)
 (hb : ∀ x∈l,ay Tryz.prog f ([.agg (bP x)]++ [.ptr 0 0]) ⟨[row],[]⟩ (.bool (b x)) ⟨[row],[]⟩) :
 ay Tryz.prog 60 [.slice .shared 5 (l.map bP), .iL f [.ptr 0 0]] ⟨[row],[]⟩ (.int .i64 (mV b 0 l)) ⟨[row],[]⟩:=by
 generalize h:mV b 0 l=p
 have k1 : ∀ n m,D.iI n m row=row:=fun n m=>jN n m _ xJ
 refine ay.go vq.h rfl fun B Q hB hQ=>?_
 have⟨hD,hZ,gC,gD⟩:=bc
 refine bT k1 ?_
 refine cr 1 0 ?_ ?_ (aJ.ind (ι:=List Pc×Nat) (fun i=>l.drop i.2=i.1∧mV b (i.2:Int) i.1=p) (fun i=>i.1.length)
  (fun i=> [(0, .slice .shared 5 (l.map bP)),(1, .iL f [.ptr 0 0]),(7, .int .i64 (l.length:Int)),(8, .int .i64 (i.2:Int))]) (fun i=>⟨[row],[]⟩) ?_ (l,0) ⟨rfl,h⟩)
 ·(simp only[go_sem,hD,hZ,gC,gD,k1];try exact aQ)
 ·(simp only[go_sem,hD,hZ,gC,gD,k1];try exact aQ)
 rintro⟨rest,k⟩ ⟨h1,h⟩ IH
 dsimp only at h1 h
 cases rest with
 |nil=>
  have hD:=drop_nil h1
  simp only[mV]at h
  exact iX k1
 |cons a rest=>
  obtain⟨hZ,g2,hD,g4⟩:=drop_cons h1
  have aV:k<4611686018427387904:=by omega
  have hba:=hb a (zad hZ)
  simp only[mV]at h
  repeat' (first
 |simp only[go_sem,hD,hZ,gC,gD,k1]
 |(with_reducible refine CV.use (he) (hba) ?_)
 |(with_reducible first|refine fv fun hc=>?_|refine fw fun hc=>?_|refine fx (fun hc=>?_) fun hc=>?_)<;>(try simp only[hc,bs,↓reduceIte]at h)<;>try simp only[hc]
 |((with_reducible refine aX hQ ?_);(try cases h);simp only[bZ,cd,dn,dq,go_sem,hD,hZ,gC,gD,k1];try exact kI))
  refine cr 1 0 ?_ ?_ (IH (rest,k+1) ⟨g2,h⟩ (zae _))
  ·(simp only[go_sem,hD,hZ,gC,gD,k1,ak aV];try exact aQ)
  ·(simp only[go_sem,hD,hZ,gC,gD,k1,ak aV];try exact aQ)
theorem DV {l:List Pc} (hl:l.length<4611686018427387904) {f:Nat} {row:List D} {b:Pc→Bool} (xJ:D.bJ 0 0 row=true) (he:enters Tryz.prog f=true)
 (hb : ∀ x∈l,ay Tryz.prog f ([.agg (bP x)]++ [.ptr 0 0]) ⟨[row],[]⟩ (.bool (b x)) ⟨[row],[]⟩) :
 ay Tryz.prog 163 [.slice .shared 5 (l.map bP), .iL f [.ptr 0 0]] ⟨[row],[]⟩ (.bool (l.any b)) ⟨[row],[]⟩:=by
 have k1 : ∀ n m,D.iI n m row=row:=fun n m=>jN n m _ xJ
 have hi:=yL hl xJ he hb
 have e:decide (mV b 0 l≥0)=l.any b:=by
  have:=KN b l 0 (zbc 0)
  cases hh:l.any b<;>simp_all
 refine ay.go tV.h rfl fun B Q hB hQ=>?_
 have⟨hD,hZ,gC,gD⟩:=bc
 exact wT (eK k1 e) hi
mutual
def Sm.pre:Sm→List Sm
 |⟨id,kind,labels,name,pc,x,has,args,aY,aH⟩=>⟨id,kind,labels,name,pc,x,has,args,aY,aH⟩::(Sm.cU aY++Sm.cU aH)
def Sm.cU:List Sm→List Sm
 | []=> []
 |s::l=>s.pre++Sm.cU l
end
def Pg.pre (p:Pg):List Sm:=(p.procs.map fun f=>Sm.cU f.body).flatten
theorem Sm.mO (s:Sm):s.pre=s::(Sm.cU s.aY++Sm.cU s.aH):=by cases s;simp only[Sm.pre]
mutual
theorem agb (proc up next loop:Int) (out:List Im) : ∀ s:Sm,∃ e:List Im,Im.one proc up next loop out s=out++e∧e.map Im.s=s.pre
 |⟨id,kind,labels,name,pc,x,has,args,aY,aH⟩=>by
  simp only[Im.one,Sm.pre]
  obtain⟨e1,h1,k1⟩:=CQ proc ((out.length:Int)+1) (if kind==6 then(out.length:Int)+1 else next) (if kind==6 then(out.length:Int)+1 else loop) (out++ [⟨⟨id,kind,labels,name,pc,x,has,args,aY,aH⟩,proc,up,next,loop⟩]) aY
  obtain⟨e2,h2,k2⟩:=CQ proc ((out.length:Int)+1) (if kind==6 then(out.length:Int)+1 else next) (if kind==6 then(out.length:Int)+1 else loop) (Im.rows proc ((out.length:Int)+1) (if kind==6 then(out.length:Int)+1 else next) (if kind==6 then(out.length:Int)+1 else loop) (out++ [⟨⟨id,kind,labels,name,pc,x,has,args,aY,aH⟩,proc,up,next,loop⟩]) aY) aH
  refine⟨⟨⟨id,kind,labels,name,pc,x,has,args,aY,aH⟩,proc,up,next,loop⟩::(e1++e2), ?_, ?_⟩
  ·rw[h2,h1];simp
  ·simp[k1,k2]
theorem CQ (proc up next loop:Int) (out:List Im) : ∀ l:List Sm,∃ e:List Im,Im.rows proc up next loop out l=out++e∧e.map Im.s=Sm.cU l
 | []=>⟨[],by simp[Im.rows],rfl⟩
 |s::l=>by
  simp only[Im.rows,Sm.cU]
  obtain⟨e1,h1,k1⟩:=agb proc up (if l.length=0 then next else(out.length:Int)+1+(s.k8:Int)) loop out s
  obtain⟨e2,h2,k2⟩:=CQ proc up next loop (Im.one proc up (if l.length=0 then next else(out.length:Int)+1+(s.k8:Int)) loop out s) l
  refine⟨e1++e2, ?_,by simp[k1,k2]⟩
  rw[h2,h1];simp
end
theorem Yg : ∀ (l:List Pc) (n:Nat) (h:Sh),h.lo.length=n→h.hi.length=n→
 ∃ e lo hi,Sh.go n h l = ⟨h.L++e,h.lo++lo,h.hi++hi⟩∧e.map Im.s=(l.map fun f=>Sm.cU f.body).flatten∧lo.length=l.length∧hi.length=l.length∧
  ∀ (i:Nat) (f:Pc),l[i]? = some f→∃ a b e' RY:List Im,lo[i]? = some (((h.L++a).length:Int)+1)∧hi[i]? = some (((h.L++a++b).length:Int)+1)∧b.map Im.s=Sm.cU f.body∧e=a++b++e'
 | [],n,h,hl,hh=>⟨[],[],[],by simp[Sh.go],rfl,rfl,rfl,fun i f h=>by simp at h⟩
 | f::l,n,h,hl,hh=>by
  simp only[Sh.go]
  obtain⟨e1,h1,k1⟩:=CQ (n:Int) 0 (-1) 0 h.L f.body
  obtain⟨e2,lo,hi,h2,k2,h3,h4,h5⟩:=Yg l (n+1) ⟨Im.rows (n:Int) 0 (-1) 0 h.L f.body,h.lo++ [(h.L.length:Int)+1],h.hi++ [((Im.rows (n:Int) 0 (-1) 0 h.L f.body).length:Int)+1]⟩ (by simp[hl]) (by simp[hh])
  refine⟨e1++e2,((h.L.length:Int)+1)::lo,(((Im.rows (n:Int) 0 (-1) 0 h.L f.body).length:Int)+1)::hi, ?_,by simp[k1,k2],by simp[h3],by simp[h4],fun i g jL=>?_⟩
  ·rw[h2,h1];simp
  ·cases i with
   |zero=>
    simp only[zbh,Option.some.injEq]at jL
    subst jL
    exact⟨[],e1,e2,[],by simp,by rw[h1];simp,k1,by simp⟩
   |succ i=>
    simp only[za5]at jL
    obtain⟨a,b,e',RY,g1,g2,g3,g4⟩:=h5 i g jL
    refine⟨e1++a,b,e',RY, ?_, ?_,g3,by rw[g4];simp⟩
    ·rw[za5,g1,h1];simp
    ·rw[za5,g2,h1];simp
theorem qn (p:Pg):p.aU.L.map Im.s=p.pre∧∀ (i:Nat) (f:Pc),p.procs[i]? = some f→∃ a b e:List Im,p.aU.lo[i]? = some ((a.length:Int)+1)∧p.aU.hi[i]? = some (((a++b).length:Int)+1)∧b.map Im.s=Sm.cU f.body∧p.aU.L=a++b++e:=by
 obtain⟨e,lo,hi,h1,h2,h3,h4,h5⟩:=Yg p.procs 0 ⟨[],[],[]⟩ rfl rfl
 unfold Pg.aU
 rw[h1]
 refine⟨by simpa[Pg.pre]using h2,fun i f hf=>?_⟩
 obtain⟨a,b,e',_,g1,g2,g3,g4⟩:=h5 i f hf
 exact⟨a,b,e',by simpa using g1,by simpa using g2,g3,by simpa using g4⟩
def Pg.at (p:Pg) (name:aD):Int:=mV (fun f:Pc=>f.name==name) 0 p.procs
theorem agc (name:aD) (f:Pc):ay Tryz.prog 61 ([.agg (bP f)]++ [.ptr 0 0]) ⟨[[.str name]],[]⟩ (.bool (f.name==name)) ⟨[[.str name]],[]⟩:=by
 show ay Tryz.prog 61 [.agg (bP f), .ptr 0 0] _ _ _
 refine ay.go BN.h rfl fun B Q hB hQ=>?_
 have⟨hD,hZ,gC,gD⟩:=bc
 exact dR trivial
theorem Ja {p:Pg} (hs:p.procs.length<4611686018427387904) (name:aD) (s:St):ay Tryz.prog 32 [.dW (gn p) 0, .str name] s (.int .i64 (p.at name)) s:=by
 refine ay.pure ?_ (by simp[D.bJ,D.ok,xl]) rfl s
 have hi:=fun {s:St} {o:Nat} (ho:s.ag[o]? = some [.str name])=>EG (yL (l:=p.procs) (f:=61) (row:= [.str name]) (b:=fun f:Pc=>f.name==name) hs rfl (by with_unfolding_all rfl) (fun x _=>agc name x)) rfl (zO _) rfl ho
 have jL:=fun {s:St} {o:Nat} (ho:s.ag[o]? = some [.str name])=>(show ay Tryz.prog 60 [.slice .shared 5 (p.procs.map bP), .iL 61 [.ptr o 0]] s (.int .i64 (p.at name)) s from hi ho)
 unfold S0
 rw[rX]
 refine ay.go DT.h rfl fun B Q hB hQ=>?_
 have⟨hD,hZ,gC,gD⟩:=bc
 repeat' (first
 |simp only[go_sem,hD,hZ,gC,gD]
 |(with_reducible refine CU (jL (by with_unfolding_all rfl)) ?_)
 |(with_reducible refine aX hQ ?_;exact bK))
theorem Yh : ∀ (l:List Pc) (n:Nat) (h:Sh),(Sh.go n h l).L.length≤h.L.length+Pc.bB l
 | [],n,h=>by simp[Sh.go]
 |f::l,n,h=>by
  simp only[Sh.go]
  refine zaZ (Yh l _ _) ?_
  have:=jf (n:Int) 0 (-1) 0 h.L f.body
  have:=qm f.body
  simp only[Pc.bB,Pc.size];omega
theorem rY (p:Pg):p.aU.L.length≤Pc.bB p.procs:=by have:=Yh p.procs 0 ⟨[],[],[]⟩;simpa[Pg.aU]using this
theorem ajc {p:Pg} {i:Nat} (hs:Pc.bB p.procs<1000000000) {a b e:List Im} (h1:p.aU.lo[i]? = some ((a.length:Int)+1)) (h2:p.aU.hi[i]? = some (((a++b).length:Int)+1)) (h4:p.aU.L=a++b++e) (s:St) :
 ay Tryz.prog 93 [.dW (gn p) 0, .int .i64 (i:Int)] s (.slice .shared 17 (b.map dU)) s:=by
 refine ay.pure ?_ (by simp[D.bJ,D.ok,xl]) (by simp[D.ok,Tag.ok,ND]) s
 have hL:p.aU.L.length<1000000000:=zbV (rY p) hs
 have l1:(i:Int)<(p.aU.lo.length:Int):=by have:=(zac.1 h1).1;omega
 have l2:(i:Int)<(p.aU.hi.length:Int):=by have:=(zac.1 h2).1;omega
 have yK:a.length+b.length≤p.aU.L.length:=by rw[h4];simp
 have w1:IntKind.wrap .i64 ((a.length:Int)+1 - 1)=(a.length:Int):=by rw[show(a.length:Int)+1 - 1=(a.length:Int) by omega];exact dE (by omega) (by omega)
 have w2:IntKind.wrap .i64 (((a.length+b.length:Nat):Int)+1 - 1)=((a.length+b.length:Nat):Int):=by rw[show((a.length+b.length:Nat):Int)+1 - 1=((a.length+b.length:Nat):Int) by omega];exact dE (by omega) (by omega)
 have c1:((a.length:Int)≤((a.length+b.length:Nat):Int))=True:=by simp only[eq_iff_iff,iff_true];omega
 have c2:(((a.length+b.length:Nat):Int)≤(p.aU.L.length:Int))=True:=by simp only[eq_iff_iff,iff_true];omega
 have hb:List.drop a.length (List.take (a.length+b.length) (List.map dU p.aU.L))=List.map dU b:=by rw[h4];simp[zag,List.take_append,List.drop_append]
 unfold S0
 rw[rX]
 refine ay.go F9.h rfl fun B Q hB hQ=>?_
 have⟨hD,hZ,gC,gD⟩:=bc
 exact iX (ah3 h1 h2 @List.length_append.{0} w1 w2 c1 c2 @or_true true_and @and_self @ite_self.{0} @Int.toNat_natCast hb)
theorem abK {p:Pg} {i:Nat} {f:Pc} (hf:p.procs[i]? = some f) (hs:Pc.bB p.procs<1000000000) : ∃ it:List Im,it.map Im.s=Sm.cU f.body∧∀ s,ay Tryz.prog 93 [.dW (gn p) 0, .int .i64 (i:Int)] s (.slice .shared 17 (it.map dU)) s:=by
 obtain⟨a,b,e,h1,h2,h3,h4⟩:=(qn p).2 i f hf
 exact⟨b,h3,ajc hs h1 h2 h4⟩
theorem LZ {r:aD} : xU r=true↔rW r=r.length:=by
 induction r with
 |nil=>simp[xU,rW]
 |cons c r ih=>
  simp only[xU,rW]
  cases h1:zW c<;>cases h2:DP c<;>simp[ih]
theorem EH (t:aD) (hl:t.length<4611686018427387904) (s:St):ay Tryz.prog 96 [.str t] s (.bool (isName t)) s:=by
 refine ay.pure ?_ rfl rfl s
 have hr:=fun s=>amT (pos:=0) hl s
 simp only[List.drop_zero,zaS]at hr
 unfold S0
 cases t with
 |nil=>
  have z:decide (((0:Nat):Int)<1)=true:=rfl
  have z':decide ((0:Int)<1)=true:=rfl
  have e:isName [] = false:=rfl
  rw[e]
  refine ay.go pV.h rfl fun B Q hB hQ=>?_
  have⟨hD,hZ,gC,gD⟩:=bc
  exact dR (eK z z')
 | cons c r=>
  have l1:decide (((r.length+1:Nat):Int)<1)=false:=by simp;omega
  generalize h:isName (c::r)=p
  simp only[isName]at h
  cases hL:zW c
  ·simp only [hL,zax,zbI, ↓reduceIte]at h
   subst h
   by_cases c8:decide (((r.length+1:Nat):Int) > 8)=true
   ·refine ay.go pV.h rfl fun B Q hB hQ=> ?_
    have⟨hD,hZ,gC,gD⟩:=bc
    exact dR (eK l1 c8)
   ·have c8:decide (((r.length+1:Nat):Int) > 8)=false:=by simpa using c8
    refine ay.go pV.h rfl fun B Q hB hQ=>?_
    have⟨hD,hZ,gC,gD⟩:=bc
    exact jn (ly l1 c8 hL) vH
  ·simp only [hL,zav,zb3]at h
   by_cases c8:decide (((r.length+1:Nat):Int) > 8)=true
   ·simp only [c8, ↓reduceIte]at h
    subst h
    refine ay.go pV.h rfl fun B Q hB hQ=>?_
    have⟨hD,hZ,gC,gD⟩:=bc
    exact dR (eK l1 c8)
   ·have c8:decide (((r.length+1:Nat):Int) > 8)=false:=by simpa using c8
    simp only[c8,zab,↓reduceIte]at h
    have ek:rW (c::r)=rW r+1:=by simp[rW,hL]
    cases hn:xU r
    ·simp only [hn,zab, ↓reduceIte]at h
     have:rW r≠r.length:=fun e=>by rw[LZ.2 e]at hn;cases hn
     have e:(((rW (c::r):Nat):Int)==((r.length+1:Nat):Int))=false:=by rw[ek];simp;omega
     subst h
     refine ay.go pV.h rfl fun B Q hB hQ=>?_
     have⟨hD,hZ,gC,gD⟩:=bc
     exact pT (ql l1 c8 hL e) vH hr
    ·simp only [hn, ↓reduceIte]at h
     have:=LZ.1 hn
     have e:(((rW (c::r):Nat):Int)==((r.length+1:Nat):Int))=true:=by rw[ek];simp;omega
     subst h
     refine ay.go pV.h rfl fun B Q hB hQ=>?_
     have⟨hD,hZ,gC,gD⟩:=bc
     exact zN (ql l1 c8 hL e) vH hr ai1
theorem Sr (op:Int) (s:St):ay Tryz.prog 177 [.int .i64 op] s (.int .i64 (kJ op)) s:=by
 refine ay.pure ?_ rfl rfl s
 unfold S0
 generalize h:kJ op=p
 unfold kJ at h
 refine ay.go Na.h rfl fun B Q hB hQ=>?_
 have⟨hD,hZ,gC,gD⟩:=bc
 exact iX trivial
theorem CS {l:List aD} (hl:l.length<4611686018427387904) (hs : ∀ t∈l,t.length<4611686018427387904) (s:St):ay Tryz.prog 95 [.slice .shared 1 (l.map encStr)] s (.bool (eQ l)) s:=by
 refine ay.pure ?_ (by simp[D.bJ,D.ok,dv,Tag.ok]) rfl s
 unfold S0
 generalize h:eQ l=p
 refine ay.go Kr.h rfl fun B Q hB hQ=>?_
 have⟨hD,hZ,gC,gD⟩:=bc
 refine bT trivial ?_
 refine dg 0 0 (aJ.ind (ι:=List aD×Nat) (fun i=>l.drop i.2=i.1∧eQ i.1=p) (fun i=>i.1.length)
  (fun i=> [(5, .slice .shared 1 (l.map encStr)),(6, .int .i64 (l.length:Int)),(7, .int .i64 (i.2:Int))]) (fun i=>⟨[],[]⟩) ?_ (l,0) ⟨rfl,h⟩)
 rintro⟨rest,k⟩ ⟨h1,h⟩ IH
 dsimp only at h1 h
 cases rest with
 |nil=>
  have hD:=drop_nil h1
  simp only[eQ]at h
  exact iX trivial
 |cons t rest=>
  obtain⟨hZ,g2,hD,g4⟩:=drop_cons h1
  have gC:k<4611686018427387904:=by omega
  have hn:=EH t (hs t (zad hZ))
  simp only[eQ]at h
  repeat' (first
 |simp only[go_sem,hD,hZ,gC,gD]
 |(with_reducible refine CU (hn _) ?_)
 |(with_reducible first|refine fv fun hc=>?_|refine fw fun hc=>?_|refine fx (fun hc=>?_) fun hc=>?_)<;>(try simp only[hc,bs,↓reduceIte]at h)<;>try simp only[hc]
 |((with_reducible refine aX hQ ?_);exact oA))
  refine dg 0 0 (IH (rest,k+1) ⟨g2,h⟩ (zae _))
mutual
def Ex.dp (left:Int):Ex→Bool
 |⟨op,n,name,kids⟩=>
  if decide (left<1) ||(kids.length:Int) != kJ op then false
  else if op==1 then decide (n≥0) && name == []
  else if op==2 then n==0 && isName name
  else if n != 0 || !(name == [])then false
  else Ex.B1 (left - 1) kids
def Ex.B1 (left:Int):List Ex→Bool
 | []=>true
 |x::l=>if !(Ex.dp left x)then false else Ex.B1 left l
end
theorem agd : ∀ (m:Nat) (x:Ex),x.size≤m→x.size<4611686018427387904→x.texts→∀ left:Int,0≤left→left≤100→∀ s:St,ay Tryz.prog 154 [.agg (bQ x), .int .i64 left] s (.bool (x.dp left)) s:=by
 intro m
 induction m with
 |zero=>rintro⟨op,v,name,kids⟩ h;simp only[Ex.size]at h;omega
 | succ m ih=>
  rintro⟨op,v,name,kids⟩ h hx ht left h0 KO s
  refine ay.pure ?_ (by simp[D.bJ,D.ok,je]) rfl s
  have hlen:kids.length<4611686018427387904:=by simp only[Ex.size]at hx;have:=Ex.dk kids;omega
  have hn:=EH name ht.1
  generalize hp:Ex.dp left ⟨op,v,name,kids⟩=p
  simp only[Ex.dp]at hp
  unfold S0
  by_cases B2:left<1
  ·have d1:decide (left<1)=true:=by simpa using B2
   simp only[d1,zbk,↓reduceIte]at hp
   subst hp
   refine ay.go DO.h rfl fun B Q hB hQ=>?_
   have⟨hD,hZ,gC,gD⟩:=bc
   exact pT d1 Sr hn
  ·have d1:decide (left<1)=false:=by simpa using B2
   have w1:IntKind.wrap .i64 (left - 1)=left - 1:=dE (by omega) (by omega)
   have hk : ∀ y∈kids,∀ s,ay Tryz.prog 154 [.agg (bQ y), .int .i64 (left - 1)] s (.bool (y.dp (left - 1))) s:=fun y hy s=>
    ih y (by simp only[Ex.size]at h;have:=Ex.cb hy;omega) (by simp only[Ex.size]at hx;have:=Ex.cb hy;omega) (Ex.LY ht hy) (left - 1) (by omega) (by omega) s
   simp only[d1,zbj]at hp
   have h:=hp
   clear hp
   refine ay.go DO.h rfl fun B Q hB hQ=>?_
   have⟨hD,hZ,gC,gD⟩:=bc
   repeat' (first
 |simp only[go_sem,hD,hZ,gC,gD,d1]
 |(with_reducible refine CU (Sr _ _) ?_)
 |(with_reducible refine CU (hn _) ?_)
 |(with_reducible first|refine fv fun hc=>?_|refine fw fun hc=>?_|refine fx (fun hc=>?_) fun hc=>?_)<;>(try simp only[hc,bs,↓reduceIte]at h)<;>try simp only[hc]
 | ((with_reducible refine aX hQ ?_);(try cases h);simp only [bZ,cd,dn,dq,go_sem,hD,hZ,gC,gD,d1];repeat' (first | exact Ok.out | with_reducible refine ej ?_ ?_ | (simp;done))))
   all_goals
    refine dg 1 0 (aJ.ind (ι:=List Ex×Nat) (fun i=>kids.drop i.2=i.1∧Ex.B1 (left - 1) i.1=p) (fun i=>i.1.length)
     (fun i=> [(1, .int .i64 left),(49, .slice .shared 4 (kids.map bQ)),(50, .int .i64 (kids.length:Int)),(51, .int .i64 (i.2:Int))]) (fun i=>⟨[bQ ⟨op,v,name,kids⟩],[]⟩) ?_ (kids,0) ⟨rfl,h⟩)
    rintro⟨rest,k⟩ ⟨h1,h⟩ IH
    dsimp only at h1 h
    cases rest with
    |nil=>
     have hD:=drop_nil h1
     simp only[Ex.B1]at h
     exact iX trivial
    |cons y rest=>
     obtain⟨hZ,g2,hD,g4⟩:=drop_cons h1
     have hy:=hk y (zad hZ)
     have gC:k<4611686018427387904:=by omega
     simp only[Ex.B1]at h
     repeat' (first
 |simp only[go_sem,hD,hZ,gC,gD,w1]
 |(with_reducible refine CU (hy _) ?_)
 |(with_reducible first|refine fv fun hc=>?_|refine fw fun hc=>?_|refine fx (fun hc=>?_) fun hc=>?_)<;>(try simp only[hc,bs,↓reduceIte]at h)<;>try simp only[hc]
 | ((with_reducible refine aX hQ ?_);(try cases h);simp only [bZ,cd,dn,dq,go_sem,hD,hZ,gC,gD,w1];try exact kI))
     refine dg 1 0 (IH (rest,k+1) ⟨g2,h⟩ (zae _))
theorem CT {x:Ex} (hx:x.size<4611686018427387904) (ht:x.texts) (s:St):ay Tryz.prog 129 [.agg (bQ x)] s (.bool (x.dp 20)) s:=by
 refine ay.pure ?_ (by simp[D.bJ,D.ok,je]) rfl s
 have hd:=fun s=>agd _ x (zak _) hx ht 20 (by omega) (by omega) s
 unfold S0
 refine ay.go Hy.h rfl fun B Q hB hQ=>?_
 have⟨hD,hZ,gC,gD⟩:=bc
 exact jn trivial hd
theorem age (x:Ex) (s:St):ay Tryz.prog 181 [.agg (bQ x)] s (.bool x.none) s:=by
 refine ay.pure ?_ (by simp[D.bJ,D.ok,je]) rfl s
 unfold S0
 generalize h:Ex.none x=p
 unfold Ex.none at h
 refine ay.go Nb.h rfl fun B Q hB hQ=>?_
 have⟨hD,hZ,gC,gD⟩:=bc
 exact iX trivial
def wX (t:aD) (is:Bool):Bool:=(is && isName t) ||(!is && t == [])
theorem HA (t:aD) (is:Bool) (hl:t.length<4611686018427387904) (s:St):ay Tryz.prog 159 [.str t, .bool is] s (.bool (wX t is)) s:=by
 refine ay.pure ?_ rfl rfl s
 have hn:=EH t hl
 unfold S0
 generalize h:wX t is=p
 unfold wX at h
 refine ay.go KI.h rfl fun B Q hB hQ=>?_
 have⟨hD,hZ,gC,gD⟩:=bc
 exact wT trivial hn
def yM (x:Ex) (is:Bool):Bool:=(is && x.dp 20) ||(!is && x.none)
theorem Ss {x:Ex} (is:Bool) (hx:x.size<4611686018427387904) (ht:x.texts) (s:St):ay Tryz.prog 160 [.agg (bQ x), .bool is] s (.bool (yM x is)) s:=by
 refine ay.pure ?_ (by simp[D.bJ,D.ok,je]) rfl s
 have hm:=CT hx ht
 unfold S0
 generalize h:yM x is=p
 unfold yM at h
 refine ay.go KK.h rfl fun B Q hB hQ=>?_
 have⟨hD,hZ,gC,gD⟩:=bc
 exact DG trivial hm age
def sE:List Ar→Bool
 | []=>true
 |a::l=>if !(wX a.name a.ref) || !(yM a.x !a.ref)then false else sE l
theorem abL {l:List Ar} (hl:l.length<4611686018427387904) (hs : ∀ a∈l,a.x.size<4611686018427387904∧a.x.texts∧a.name.length<4611686018427387904) (s:St) :
 ay Tryz.prog 161 [.slice .shared 6 (l.map dH)] s (.bool (sE l)) s:=by
 refine ay.pure ?_ (by simp[D.bJ,D.ok,NB,Tag.ok]) rfl s
 unfold S0
 generalize h:sE l=p
 refine ay.go I8.h rfl fun B Q hB hQ=>?_
 have⟨hD,hZ,gC,gD⟩:=bc
 refine bT trivial ?_
 refine dg 0 0 (aJ.ind (ι:=List Ar×Nat) (fun i=>l.drop i.2=i.1∧sE i.1=p) (fun i=>i.1.length)
  (fun i=> [(5, .slice .shared 6 (l.map dH)),(6, .int .i64 (l.length:Int)),(7, .int .i64 (i.2:Int))]) (fun i=>⟨[],[]⟩) ?_ (l,0) ⟨rfl,h⟩)
 rintro⟨rest,k⟩ ⟨h1,h⟩ IH
 dsimp only at h1 h
 cases rest with
 |nil=>
  have hD:=drop_nil h1
  simp only[sE]at h
  exact iX trivial
 |cons a rest=>
  obtain⟨hZ,g2,hD,g4⟩:=drop_cons h1
  have gC:k<4611686018427387904:=by omega
  obtain⟨a1,a2,a3⟩:=hs a (zad hZ)
  have hn:=fun b s=>HA a.name b a3 s
  have hw:=fun b s=>Ss b a1 a2 s
  simp only[sE]at h
  repeat' (first
 |simp only[go_sem,hD,hZ,gC,gD]
 |(with_reducible refine CU (hn _ _) ?_)
 |(with_reducible refine CU (hw _ _) ?_)
 |(with_reducible first|refine fv fun hc=>?_|refine fw fun hc=>?_|refine fx (fun hc=>?_) fun hc=>?_)<;>(try simp only[hc,bs,↓reduceIte]at h)<;>try simp only[hc]
 |((with_reducible refine aX hQ ?_);exact oA))
  refine dg 0 0 (IH (rest,k+1) ⟨g2,h⟩ (zae _))
def Sm.flags (s:Sm):Option (Bool×Bool×Bool×Bool×Bool×Bool):=
 if s.kind==1 then some (true,false,true,s.has,false,false)
 else if s.kind==2 ||s.kind==10 then some (true,false,false,s.has,false,false)
 else if s.kind==3 then some (false,false,true,s.has,false,false)
 else if s.kind==4 then some (!(s.name == []),true,false,s.has,false,false)
 else if s.kind==5 then some (false,false,true,s.has,true,true)
 else if s.kind==6 then some (false,false,true,s.has,true,false)
 else if s.kind==9 then some (false,false,s.has,false,false,false)
 else if s.kind==7 ||s.kind==8 then some (false,false,false,s.has,false,false)
 else none
def Sm.NF (s:Sm) (nm pr x:Bool):Bool:=if !(wX s.name nm) || !(wX s.proc pr) || !(yM s.x x)then false else sE s.args
def Sm.NG (s:Sm) (f:Bool×Bool×Bool×Bool×Bool×Bool):Bool:=
 if f.2.2.2.1 ||(!f.2.2.2.2.1 && decide ((s.aY.length:Int) > 0)) ||(!f.2.2.2.2.2 && decide ((s.aH.length:Int) > 0)) ||(!(s.kind==4) && decide ((s.args.length:Int) > 0))then false
 else s.NF f.1 f.2.1 f.2.2.1
def Sm.fields (s:Sm):Bool:=match s.flags with
 |none=>false
 |some f=>s.NG f
section
variable {v:Sm} {B:gK} {Q:Exit→Tm→St→Prop} {p:Bool}
theorem abM {nm pr x:Bool} (hf:v.lB) (hB:B.s = ⟨[],[]⟩) (hQ:oa 0 0 [(2,none)] (.bool p) ⟨[],[]⟩=Q) (h:v.NF nm pr x=p) :
 Sem Tryz.prog B 93 Q10 Q [(1, .ptr 0 0),(3, .bool nm),(4, .bool pr),(5, .bool x)] ⟨[aO v],[]⟩:=by
 have h1:=fun b s=>HA v.name b hf.name s
 have h2:=fun b s=>HA v.proc b hf.proc s
 have h3:=fun b s=>Ss b hf.x hf.xt s
 have h4:=fun s=>abL hf.ai6 hf.arg s
 unfold Sm.NF at h
 have⟨hD,hZ,gC,gD⟩:=bc
 refine iM ?_
 exact zf4 trivial h1 h2 h3 h4
theorem abN {nm pr x has th ot ar:Bool} (hf:v.lB) (hB:B.s = ⟨[],[]⟩) (hQ:oa 0 0 [(2,none)] (.bool p) ⟨[],[]⟩=Q) (e:(v.kind==4)=ar) (h:v.NG (nm,pr,x,has,th,ot)=p) :
 Sem Tryz.prog B 93 Q0Z Q [(1, .ptr 0 0),(3, .bool nm),(4, .bool pr),(5, .bool x),(6, .bool has),(7, .bool th),(8, .bool ot),(9, .bool ar)] ⟨[aO v],[]⟩:=by
 simp only[Sm.NG,e]at h
 have⟨hD,hZ,gC,gD⟩:=bc
 refine Sem.lN ?_
 repeat' (first
 |simp only[go_sem,hD,hZ,gC,gD]
 |(with_reducible first|refine fv fun hc=>?_|refine fw fun hc=>?_|refine fx (fun hc=>?_) fun hc=>?_)<;>(try simp only[hc,bs,↓reduceIte]at h)<;>try simp only[hc]
 |((with_reducible refine aX hQ ?_);(try cases h);simp only[bZ,cd,dn,dq,go_sem,hD,hZ,gC,gD];repeat' (first|exact Ok.out|with_reducible refine ej ?_ ?_|(simp;done))))
 all_goals
  refine Sem.re _ _ 1 0 (by rw[hB];exact rk rfl) (by rw[hB];exact rk rfl) ?_ ?_ (abM hf hB hQ h)
  ·(simp only[go_sem,hD,hZ,gC,gD];repeat' (first|exact Ok.out|with_reducible refine ej ?_ ?_))
  ·(simp only[go_sem,hD,hZ,gC,gD];repeat' (first|exact Ok.out|with_reducible refine ej ?_ ?_))
theorem abO {ar:Bool} (hf:v.lB) (hB:B.s = ⟨[],[]⟩) (hQ:oa 0 0 [(2,none)] (.bool p) ⟨[],[]⟩=Q) (e:(v.kind==4)=ar) (h:v.fields=p) :
 Sem Tryz.prog B 93 Q0Y Q [(1, .ptr 0 0),(3, .bool false),(4, .bool false),(5, .bool false),(6, .bool v.has),(7, .bool false),(8, .bool false),(9, .bool ar)] ⟨[aO v],[]⟩:=by
 simp only[Sm.fields,Sm.flags]at h
 have⟨hD,hZ,gC,gD⟩:=bc
 refine Sem.lN ?_
 repeat' (first
 |simp only[go_sem,hD,hZ,gC,gD]
 |(with_reducible first|refine fv fun hc=>?_|refine fw fun hc=>?_|refine fx (fun hc=>?_) fun hc=>?_)<;>(try simp only[hc,bs,↓reduceIte]at h)<;>try simp only[hc]
 |((with_reducible refine aX hQ ?_);(try cases h);simp only[bZ,cd,dn,dq,go_sem,hD,hZ,gC,gD];repeat' (first|exact Ok.out|with_reducible refine ej ?_ ?_|(simp;done))))
 all_goals
  refine Sem.re _ _ 1 0 (by rw[hB];exact rk rfl) (by rw[hB];exact rk rfl) ?_ ?_ (abN hf hB hQ e h)
  ·(simp only[go_sem,hD,hZ,gC,gD];repeat' (first|exact Ok.out|with_reducible refine ej ?_ ?_))
  ·(simp only[go_sem,hD,hZ,gC,gD];repeat' (first|exact Ok.out|with_reducible refine ej ?_ ?_))
end
theorem abP {v:Sm} (hf:v.lB) (s:St):ay Tryz.prog 135 [.agg (aO v)] s (.bool v.fields) s:=by
 refine ay.pure ?_ (by simp[D.bJ,D.ok,nN]) rfl s
 unfold S0
 refine ay.goS mz.h rfl fun B Q hB hQ=>?_
 have⟨hD,hZ,gC,gD⟩:=bc
 refine Sem.seq (b:=Q0W) (iM ?_)
 refine bT trivial ?_
 refine Sem.seq (b:=Q0X) (iM ?_)
 refine bT trivial ?_
 refine Sem.seq (b:=Q0Y) (iM ?_)
 refine bT trivial ?_
 refine Sem.re _ _ 1 0 (by rw[hB];exact rk rfl) (by rw[hB];exact rk rfl) ?_ ?_ (abO hf hB hQ rfl rfl)
 ·(simp only[go_sem,hD,hZ,gC,gD];repeat' (first|exact Ok.out|with_reducible refine ej ?_ ?_))
 ·(simp only[go_sem,hD,hZ,gC,gD];repeat' (first|exact Ok.out|with_reducible refine ej ?_ ?_))
end Go.Abs
namespace Go.Abs
set_option maxRecDepth 8000
open Go.Proofs
def du (i:It):List D:= [.int .i64 i.s.id, .int .i64 i.s.kind, .slice .shared 1 (i.s.labels.map encStr), .str i.s.name, .str i.s.proc,
 .int .i64 i.s.x.op, .int .i64 i.s.x.n, .str i.s.x.name, .slice .shared 4 (i.s.x.kids.map bQ), .bool i.s.has, .slice .shared 6 (i.s.args.map dH), .slice .shared 13 (i.s.aY.map aO), .slice .shared 13 (i.s.aH.map aO), .int .i64 i.deep, .int .i64 i.bp, .bool i.aH]
theorem PB (i:It):D.bJ 0 0 (du i)=true:=by simp[du,D.bJ,D.ok,Tag.ok,dv,aea,NB,pB]
theorem tF (l:List It):D.jB 0 0 (l.map du)=true:=jC PB l
theorem ana (n m:Nat) (l:List It):D.kY n m (l.map du)=l.map du:=oe PB n m l
theorem anb (n m:Nat) (i:It):D.iI n m (du i)=du i:=jN n m _ (PB i)
theorem anc (x:It):(du x).length=16:=nd rfl
theorem Yj (x:It):List.take 13 (du x)=aO x.s:=by simp only[du,ep];rfl
theorem abQ (x:It):(du x)[0]? = some (.int .i64 x.s.id):=nd rfl
theorem Yk (x:It):(du x)[13]? = some (.int .i64 x.deep):=nd rfl
theorem KP (s:Sm) (d n:Int) (e:Bool):du ⟨s,d,n,e⟩ = [.int .i64 s.id, .int .i64 s.kind, .slice .shared 1 (s.labels.map encStr), .str s.name, .str s.proc,
 .int .i64 s.x.op, .int .i64 s.x.n, .str s.x.name, .slice .shared 4 (s.x.kids.map bQ), .bool s.has, .slice .shared 6 (s.args.map dH), .slice .shared 13 (s.aY.map aO), .slice .shared 13 (s.aH.map aO), .int .i64 d, .int .i64 n, .bool e]:=nd rfl
attribute [go_sem] ana anb anc Yj abQ Yk
theorem PC (deep bp:Int) (aH:Bool) (out:List It) (s:Sm) :
 ix deep bp aH out s=if decide (deep≤12)then dT (deep+1) s.id true (dT (deep+1) s.id false (out++ [⟨s,deep,bp,aH⟩]) s.aY) s.aH else out++ [⟨s,deep,bp,aH⟩]:=by
 cases s;simp only[ix]
mutual
theorem Yl (deep bp:Int) (aH:Bool) (out:List It) (h:out.length≤200) : ∀ s:Sm,(ix deep bp aH out s).length≤201
 |⟨id,kind,labels,name,proc,x,has,args,aY,e⟩=>by
  simp only[ix]
  have h1:(out++ [(⟨⟨id,kind,labels,name,proc,x,has,args,aY,e⟩,deep,bp,aH⟩:It)]).length≤201:=by simp;omega
  split
  ·exact ni _ _ _ _ (ni _ _ _ _ h1 aY) e
  ·exact h1
theorem ni (deep bp:Int) (aH:Bool) (out:List It) (h:out.length≤201) : ∀ l:List Sm,(dT deep bp aH out l).length≤201
 | []=>by simpa only[dT]using h
 | s::l=>by
  simp only[dT]
  split
  ·rename_i hc
   simp only[decide_eq_true_eq]at hc
   exact ni deep bp aH _ (Yl _ _ _ _ (by omega) s) l
  ·exact h
end
abbrev Ym (N:Nat):Prop:=∀ (l:List Sm) (deep bp:Int) (aH:Bool) (out:List It),Sm.bB l<N→0≤deep→deep≤13→out.length≤201→∀ {s:St} {t:Nat},s.au[t]? = some (some out.length)→
 ay Tryz.prog 78 [.slice .shared 13 (l.map aO), .int .i64 deep, .int .i64 bp, .bool aH, .slice (.tok t) 16 (out.map du)] s (.slice (.tok t) 16 ((dT deep bp aH out l).map du)) ⟨s.ag,s.au.set t (some (dT deep bp aH out l).length)⟩
theorem ajd {N:Nat} (hN:N<4611686018427387904) (ih:Ym N) {l:List Sm} {deep bp:Int} {aH:Bool} {out:List It} (hs:Sm.bB l<N+1) (L0:0≤deep) (hd:deep≤13) (ho:out.length≤201) :
 ay Tryz.prog 78 [.slice .shared 13 (l.map aO), .int .i64 deep, .int .i64 bp, .bool aH, .slice (.tok 0) 16 (out.map du)] ⟨[],[some out.length]⟩ (.slice (.tok 0) 16 ((dT deep bp aH out l).map du)) ⟨[],[some (dT deep bp aH out l).length]⟩:=by
 generalize hR:dT deep bp aH out l=R
 refine ay.go DJ.h rfl fun B Q hB hQ=>?_
 have⟨hD,hZ,gC,gD⟩:=bc
 refine bT trivial ?_
 refine dg 0 1 (aJ.ind (ι:=List Sm×Nat×List It×Nat) (fun i=>l.drop i.2.1=i.1∧dT deep bp aH i.2.2.1 i.1=R∧i.2.2.1.length≤201∧i.2.2.2=i.2.2.1.length) (fun i=>i.1.length)
  (fun i=> [(0, .slice .shared 13 (l.map aO)),(1, .int .i64 deep),(2, .int .i64 bp),(3, .bool aH),(4, .slice (.tok 0) 16 (i.2.2.1.map du)),(11, .int .i64 (i.2.1:Int))]) (fun i=>⟨[],[some i.2.2.2]⟩) ?_ (l,0,out,out.length) ⟨rfl,hR,ho,rfl⟩)
 rintro⟨rest,k,out,n⟩ ⟨h1,h2,h3,h4⟩ IH
 dsimp only at h1 h2 h3 h4
 subst h4
 have hlen:l.length<4611686018427387904:=by have:=Sm.dk l;omega
 cases rest with
 |nil=>
  have hD:=drop_nil h1
  simp only[dT]at h2
  subst h2
  exact dR trivial
 | cons v rest=>
  obtain⟨hZ,g2,hD,g4⟩:=drop_cons h1
  have aV:k<4611686018427387904:=by omega
  have hv:=Sm.cb (zad hZ)
  have nh:Sm.bB v.aY<N∧Sm.bB v.aH<N:=by
   obtain⟨_,_,_,_,_,_,_,_,_,_⟩:=v
   simp only[Sm.size]at hv ⊢;omega
  simp only[dT]at h2
  by_cases hc:out.length≤200
  ·have c1:decide ((out.length:Int)≤200)=true:=by simp;omega
   simp only[c1,↓reduceIte,PC]at h2
   have gC:(out.length+1)*233≤aT:=by unfold aT;omega
   have ke:(out++ [(⟨v,deep,bp,aH⟩:It)]).length≤201:=by simp;omega
   have hw:IntKind.wrap .i64 (deep+1)=deep+1:=dE (by omega) (by omega)
   by_cases aqy:deep≤12
   ·have c2:decide (deep≤12)=true:=by simp;omega
    simp only[c2,↓reduceIte]at h2
    have f1:=fun {s:St} {t:Nat} (ht:s.au[t]? = some (some (out++ [(⟨v,deep,bp,aH⟩:It)]).length))=>ih v.aY (deep+1) v.id false _ nh.1 (by omega) (by omega) ke ht
    have f2:=fun {s:St} {t:Nat} (ht:s.au[t]? = some (some (dT (deep+1) v.id false (out++ [(⟨v,deep,bp,aH⟩:It)]) v.aY).length))=>ih v.aH (deep+1) v.id true _ nh.2 (by omega) (by omega) (ni _ _ _ _ ke _) ht
    simp only[zag,zaf,zaj,KP,zal,zas,zaC]at f1
    repeat' (first
 |simp only[go_sem,hD,hZ,gC,gD,c1,c2,hw,ep]
 |(with_reducible refine CU (f1 (by with_unfolding_all rfl)) ?_)
 |(with_reducible refine CU (f2 (by with_unfolding_all rfl)) ?_)
 | (with_reducible refine aX hQ ?_;exact bK))
    refine cr 0 1 ?_ ?_ (IH (rest,k+1,_,_) ⟨g2,h2,ni _ _ _ _ (ni _ _ _ _ ke _) _,rfl⟩ (zae _))
    ·(simp only[go_sem,hD,hZ,gC,gD,ak aV];try exact aQ)
    ·(simp only[go_sem,hD,hZ,gC,gD,ak aV];try exact aQ)
   ·have c2:decide (deep≤12)=false:=by simp;omega
    simp only[c2,zab,↓reduceIte]at h2
    refine bT (ly c1 c2 @ep) ?_
    refine cr 0 1 ?_ ?_ (IH (rest,k+1,out++ [⟨v,deep,bp,aH⟩],out.length+1) ⟨g2,h2,ke,by simp⟩ (zae _))
    ·(simp only[go_sem,hD,hZ,gC,gD,ak aV,KP,zag,zaf,zaj];try exact aQ)
    ·(simp only[go_sem,hD,hZ,gC,gD,ak aV,KP,zag,zaf,zaj];try exact aQ)
  ·have c1:decide ((out.length:Int)≤200)=false:=by simp;omega
   simp only[c1,zab,↓reduceIte]at h2
   subst h2
   exact dR c1
theorem abR : ∀ N,N<4611686018427387904→Ym N:=by
 intro N
 induction N with
 |zero=>exact fun _ l deep bp aH out h=>absurd h (zaT _)
 |succ N ih=>
  intro h l deep bp aH out hs L0 hd ho s t ht
  exact(ajd (by omega) (ih (by omega)) hs L0 hd ho).Ul (pre:= [_,_,_,_]) (post:= []) (by simp[D.bJ,D.ok,Tag.ok,pB]) rfl (tF out) (tF _) ht
theorem abS {l:List Sm} (hs:Sm.bB l<4611686018427387000) (s:St) :
 ay Tryz.prog 78 [.slice .shared 13 (l.map aO), .int .i64 1, .int .i64 0, .bool false, .slice .full 0 []] s (.slice .shared 16 ((dT 1 0 false [] l).map du)) s:=by
 refine ay.pure ?_ (by simp[D.bJ,D.ok,Tag.ok,pB,D.jB]) (by simp[D.ok,Tag.ok,tF]) s
 obtain⟨N,hN⟩ : ∃ N,N=Sm.bB l:=⟨_,rfl⟩
 have ih:=abR N (by omega)
 replace hs:Sm.bB l<N+1∧N<4611686018427387000:=by omega
 obtain⟨hs,hN⟩:=hs
 generalize hR:dT 1 0 false [] l=R
 obtain⟨deep,VJ⟩ : ∃ d:Int,d=1:=⟨_,rfl⟩
 obtain⟨bp,HC⟩ : ∃ d:Int,d=0:=⟨_,rfl⟩
 obtain⟨aH,abT⟩ : ∃ d:Bool,d=false:=⟨_,rfl⟩
 rw[← VJ, ← HC, ← abT]at hR
 rw[← VJ, ← HC, ← abT]
 have L0:0≤deep:=by omega
 have hd:deep≤13:=by omega
 clear VJ HC abT
 have ho:([] : List It).length≤201:=zaA _
 unfold S0
 refine ay.go DJ.h rfl fun B Q hB hQ=>?_
 have⟨hD,hZ,gC,gD⟩:=bc
 refine bT trivial ?_
 refine aJ.lA 4 16 rfl ?_
 simp only[go_sem,hD,hZ,gC,gD]
 refine dg 0 1 (aJ.ind (ι:=List Sm×Nat×List It×Nat) (fun i=>l.drop i.2.1=i.1∧dT deep bp aH i.2.2.1 i.1=R∧i.2.2.1.length≤201∧i.2.2.2=i.2.2.1.length) (fun i=>i.1.length)
  (fun i=> [(0, .slice .shared 13 (l.map aO)),(1, .int .i64 deep),(2, .int .i64 bp),(3, .bool aH),(4, .slice (.tok 0) 16 (i.2.2.1.map du)),(11, .int .i64 (i.2.1:Int))]) (fun i=>⟨[],[some i.2.2.2]⟩) ?_ (l,0,[],0) ⟨rfl,hR,ho,rfl⟩)
 rintro⟨rest,k,out,n⟩ ⟨h1,h2,h3,h4⟩ IH
 dsimp only at h1 h2 h3 h4
 subst h4
 have hlen:l.length<4611686018427387904:=by have:=Sm.dk l;omega
 cases rest with
 |nil=>
  have hD:=drop_nil h1
  simp only[dT]at h2
  subst h2
  exact dR trivial
 | cons v rest=>
  obtain⟨hZ,g2,hD,g4⟩:=drop_cons h1
  have aV:k<4611686018427387904:=by omega
  have hv:=Sm.cb (zad hZ)
  have nh:Sm.bB v.aY<N∧Sm.bB v.aH<N:=by
   obtain⟨_,_,_,_,_,_,_,_,_,_⟩:=v
   simp only[Sm.size]at hv ⊢;omega
  simp only[dT]at h2
  by_cases hc:out.length≤200
  ·have c1:decide ((out.length:Int)≤200)=true:=by simp;omega
   simp only[c1,↓reduceIte,PC]at h2
   have gC:(out.length+1)*233≤aT:=by unfold aT;omega
   have ke:(out++ [(⟨v,deep,bp,aH⟩:It)]).length≤201:=by simp;omega
   have hw:IntKind.wrap .i64 (deep+1)=deep+1:=dE (by omega) (by omega)
   by_cases aqy:deep≤12
   ·have c2:decide (deep≤12)=true:=by simp;omega
    simp only[c2,↓reduceIte]at h2
    have f1:=fun {s:St} {t:Nat} (ht:s.au[t]? = some (some (out++ [(⟨v,deep,bp,aH⟩:It)]).length))=>ih v.aY (deep+1) v.id false _ nh.1 (by omega) (by omega) ke ht
    have f2:=fun {s:St} {t:Nat} (ht:s.au[t]? = some (some (dT (deep+1) v.id false (out++ [(⟨v,deep,bp,aH⟩:It)]) v.aY).length))=>ih v.aH (deep+1) v.id true _ nh.2 (by omega) (by omega) (ni _ _ _ _ ke _) ht
    simp only[zag,zaf,zaj,KP,zal,zas,zaC]at f1
    repeat' (first
 |simp only[go_sem,hD,hZ,gC,gD,c1,c2,hw,ep]
 |(with_reducible refine CU (f1 (by with_unfolding_all rfl)) ?_)
 |(with_reducible refine CU (f2 (by with_unfolding_all rfl)) ?_)
 | (with_reducible refine aX hQ ?_;exact bK))
    refine cr 0 1 ?_ ?_ (IH (rest,k+1,_,_) ⟨g2,h2,ni _ _ _ _ (ni _ _ _ _ ke _) _,rfl⟩ (zae _))
    ·(simp only[go_sem,hD,hZ,gC,gD,ak aV];try exact aQ)
    ·(simp only[go_sem,hD,hZ,gC,gD,ak aV];try exact aQ)
   ·have c2:decide (deep≤12)=false:=by simp;omega
    simp only[c2,zab,↓reduceIte]at h2
    refine bT (ly c1 c2 @ep) ?_
    refine cr 0 1 ?_ ?_ (IH (rest,k+1,out++ [⟨v,deep,bp,aH⟩],out.length+1) ⟨g2,h2,ke,by simp⟩ (zae _))
    ·(simp only[go_sem,hD,hZ,gC,gD,ak aV,KP,zag,zaf,zaj];try exact aQ)
    ·(simp only[go_sem,hD,hZ,gC,gD,ak aV,KP,zag,zaf,zaj];try exact aQ)
  ·have c1:decide ((out.length:Int)≤200)=false:=by simp;omega
   simp only[c1,zab,↓reduceIte]at h2
   subst h2
   exact dR c1
theorem yN {f:Pc} (hs:Sm.bB f.body<4611686018427387000) (s:St):ay Tryz.prog 46 [.agg (bP f)] s (.slice .shared 16 (f.flat.map du)) s:=by
 refine ay.pure ?_ (by simp only[D.bJ,D.ok,tT];rfl) (by simp[D.ok,Tag.ok,tF]) s
 have h:=fun s=>abS hs s
 unfold S0
 refine ay.go M4.h rfl fun B Q hB hQ=>?_
 have⟨hD,hZ,gC,gD⟩:=bc
 repeat' (first
 |simp only[go_sem,hD,hZ,gC,gD,Pc.flat]
 |(with_reducible refine CU (h _) ?_)
 |(with_reducible first|refine fv fun hc=>?_|refine fw fun hc=>?_|refine fx (fun hc=>?_) fun hc=>?_)<;>(try simp only[hc,bs,↓reduceIte]at h)<;>try simp only[hc]
 |(with_reducible refine aX hQ ?_;simp only[bZ,cd,dn,dq,go_sem,hD,hZ,gC,gD,Pc.flat];try exact kI))
end Go.Abs
namespace Go.Abs
set_option maxRecDepth 8000
open Go.Proofs
theorem Pc.tW (f:Pc):f.flat.length≤201:=ni _ _ _ _ (zaA _) _
theorem NH {p:Pg} (hs:Pc.bB p.procs<4611686018427387000) (s:St):ay Tryz.prog 25 [.agg (bG p)] s (.slice .shared 16 (p.all.map du)) s:=by
 refine ay.pure ?_ (by simp only[D.bJ,D.ok,fW];rfl) (by simp[D.ok,Tag.ok,tF]) s
 have hlen:p.procs.length<4611686018427387904:=by have:=Pc.dk p.procs;omega
 generalize hR:p.all=R
 unfold Pg.all at hR
 unfold S0
 refine ay.go O7.h rfl fun B Q hB hQ=>?_
 have⟨hD,hZ,gC,gD⟩:=bc
 refine bT trivial ?_
 refine aJ.lA 3 16 rfl ?_
 simp only[go_sem,hD,hZ,gC,gD]
 refine dg 1 1 (aJ.ind (ι:=List Pc×Nat×List It×Nat) (fun i=>p.procs.drop i.2.1=i.1∧allM i.2.2.1 i.1=R∧i.2.2.1.length≤200∧i.2.2.2=i.2.2.1.length) (fun i=>i.1.length)
  (fun i=> [(1, .ptr 0 0),(3, .slice (.tok 0) 16 (i.2.2.1.map du)),(7, .slice .shared 5 (p.procs.map bP)),(8, .int .i64 (p.procs.length:Int)),(9, .int .i64 (i.2.1:Int))]) (fun i=>⟨[bG p],[some i.2.2.2]⟩) ?_ (p.procs,0,[],0) ⟨rfl,hR,zaA _,rfl⟩)
 rintro⟨rest,k,out,n⟩ ⟨h1,h,h3,h4⟩ IH
 dsimp only at h1 h h3 h4
 subst h4
 cases rest with
 |nil=>
  have hD:=drop_nil h1
  simp only[allM]at h
  subst h
  exact dR trivial
 |cons f rest=>
  obtain⟨hZ,g2,hD,g4⟩:=drop_cons h1
  have aV:k<4611686018427387904:=by omega
  have hf:=Pc.cb (zad hZ)
  have hb:Sm.bB f.body<4611686018427387000:=by simp only[Pc.size]at hf;omega
  have fM:=fun s=>yN hb s
  have avi:=f.tW
  have gC:(out.length+f.flat.length)*233≤aT:=by unfold aT;omega
  simp only[allM,zal]at h
  have dc:=fun(o:List (List D))=>kZ (size:=16) (bytes:=232) (t:=0) (rows:=out.map du) (new:=f.flat.map du) (g:= .shared) (s:=⟨o,[some out.length]⟩) (by simpa using gC) (by simp)
  repeat' (first
 |simp only[go_sem,hD,hZ,gC,gD,dc]
 |(with_reducible refine CU (fM _) ?_)
 |(with_reducible first|refine fv fun hc=>?_|refine fw fun hc=>?_|refine fx (fun hc=>?_) fun hc=>?_)<;>(try simp only[hc,bs,↓reduceIte]at h)<;>try simp only[hc]
 |((with_reducible refine aX hQ ?_);(try cases h);simp only[bZ,cd,dn,dq,go_sem,hD,hZ,gC,gD,dc];try exact kI))
  refine cr 1 1 ?_ ?_ (IH (rest,k+1,out++f.flat,out.length+f.flat.length) ⟨g2,h,by rename_i hc;simp only[decide_eq_false_iff_not]at hc;simp only[zal];omega,by simp⟩ (zae _))
  ·(simp only[go_sem,hD,hZ,gC,gD,ak aV];try exact aQ)
  ·(simp only[go_sem,hD,hZ,gC,gD,ak aV];try exact aQ)
structure Pg.lB (p:Pg):Prop where
 sz:p.size<4611686018427387000
 sV : ∀ t∈p.globals,t.length<4611686018427387904
 mA : ∀ f∈p.procs,f.name.length<4611686018427387904∧(∀ t∈f.vars,t.length<4611686018427387904)∧(∀ t∈f.fin,t.length<4611686018427387904)∧∀ a∈f.params,a.name.length<4611686018427387904
 items : ∀ i∈p.all,i.s.lB
theorem PD : ∀ (l:List Pc) (out:List It),out.length≤200→(allM out l).length≤401
 | [],out,h=>by simp only[allM];omega
 | f::l,out,h=>by
  have:=f.tW
  simp only[allM]
  split
  ·simp;omega
  ·rename_i hc
   exact PD l _ (by simp only[decide_eq_true_eq]at hc;omega)
theorem ane {p:Pg} (hf:p.lB) (s:St):ay Tryz.prog 109 [.agg (bG p)] s (.bool p.may) s:=by
 refine ay.pure ?_ (by simp only[D.bJ,D.ok,fW];rfl) rfl s
 obtain⟨dJ,mB,PE,aje⟩:=hf
 have oE:Pc.bB p.procs<4611686018427387000:=by simp only[Pg.size]at dJ;omega
 have VK:p.globals.length<4611686018427387904:=by simp only[Pg.size]at dJ;omega
 have anf:p.procs.length<4611686018427387904:=by have:=Pc.dk p.procs;omega
 have hg:=fun s=>CO VK mB s
 have pg:=fun s=>NH oE s
 have sL:p.all.length≤401:=PD _ _ (zaA _)
 unfold S0
 generalize h:p.may=R
 unfold Pg.may at h
 refine ay.go Ph.h rfl fun B Q hB hQ=>?_
 have⟨hD,hZ,gC,gD⟩:=bc
 repeat' (first
 |simp only[go_sem,hD,hZ,gC,gD]
 |(with_reducible refine CU (hg _) ?_)
 |(with_reducible first|refine fv fun hc=>?_|refine fw fun hc=>?_|refine fx (fun hc=>?_) fun hc=>?_)<;>(try simp only[hc,bs,↓reduceIte]at h)<;>try simp only[hc]
 |((with_reducible refine aX hQ ?_);exact oA))
 refine dg 1 0 (aJ.ind (ι:=List Pc×Nat) (fun i=>p.procs.drop i.2=i.1∧(if !(Pc.mA i.1)then false else if decide ((p.all.length:Int) > 200)then false else It.fh 0 p.all)=R) (fun i=>i.1.length)
  (fun i=> [(1, .ptr 0 0),(26, .slice .shared 5 (p.procs.map bP)),(27, .int .i64 (p.procs.length:Int)),(28, .int .i64 (i.2:Int))]) (fun i=>⟨[bG p],[]⟩) ?_ (p.procs,0) ⟨rfl,h⟩)
 rintro⟨rest,k⟩ ⟨h1,h⟩ IH
 dsimp only at h1 h
 cases rest with
 |nil=>
  have hD:=drop_nil h1
  simp only[Pc.mA,zav,zab,↓reduceIte]at h
  repeat' (first
 |simp only[go_sem,hD,hZ,gC,gD]
 |(with_reducible refine CU (pg _) ?_)
 |(with_reducible first|refine fv fun hc=>?_|refine fw fun hc=>?_|refine fx (fun hc=>?_) fun hc=>?_)<;>(try simp only[hc,bs,↓reduceIte]at h)<;>try simp only[hc]
 |((with_reducible refine aX hQ ?_);exact oA)
 | (cases h;done))
  clear IH
  refine dg 1 0 (aJ.ind (ι:=List It×Nat) (fun i=>p.all.drop i.2=i.1∧It.fh i.2 i.1=R) (fun i=>i.1.length)
   (fun i=> [(1, .ptr 0 0),(7, .slice .shared 16 (p.all.map du)),(79, .int .i64 (p.all.length:Int)),(80, .int .i64 (i.2:Int))]) (fun i=>⟨[bG p],[]⟩) ?_ (p.all,0) ⟨rfl,h⟩)
  rintro⟨rest,k⟩ ⟨h1,h⟩ IH
  dsimp only at h1 h
  cases rest with
  |nil=>
   have hD:=drop_nil h1
   simp only[It.fh]at h
   exact iX trivial
  |cons i rest=>
   obtain⟨hZ,g2,hD,g4⟩:=drop_cons h1
   have hi:=fun s=>am4 (aje i (zad hZ)) s
   have gC:k<4611686018427387904:=by omega
   simp only[It.fh]at h
   repeat' (first
 |simp only[go_sem,hD,hZ,gC,gD,ak gC]
 |(with_reducible refine CU (hi _) ?_)
 |(with_reducible first|refine fv fun hc=>?_|refine fw fun hc=>?_|refine fx (fun hc=>?_) fun hc=>?_)<;>(try simp only[hc,bs,↓reduceIte]at h)<;>try simp only[hc]
 |((with_reducible refine aX hQ ?_);(try cases h);simp only[bZ,cd,dn,dq,go_sem,hD,hZ,gC,gD,ak gC];try exact kI)
 | (cases h;done))
   refine cr 1 0 ?_ ?_ (IH (rest,k+1) ⟨g2,h⟩ (zae _))
   ·(simp only[go_sem,hD,hZ,gC,gD,ak gC];try exact aQ)
   ·(simp only[go_sem,hD,hZ,gC,gD,ak gC];try exact aQ)
 |cons f rest=>
  obtain⟨hZ,g2,hD,g4⟩:=drop_cons h1
  have aV:k<4611686018427387904:=by omega
  have pW:=Pc.cb (zad hZ)
  simp only[Pc.size]at pW
  obtain⟨xK,Yn,hff,hfp⟩:=PE f (zad hZ)
  have hn:=vI f.name xK
  have hv:=fun s=>CO (by omega) Yn s
  have he:=fun s=>CO (by omega) hff s
  simp only[Pc.mA]at h
  repeat' (first
 |simp only[go_sem,hD,hZ,gC,gD]
 |(with_reducible refine CU (hn _) ?_)
 |(with_reducible refine CU (hv _) ?_)
 |(with_reducible refine CU (he _) ?_)
 |(with_reducible first|refine fv fun hc=>?_|refine fw fun hc=>?_|refine fx (fun hc=>?_) fun hc=>?_)<;>(try simp only[hc,bs,↓reduceIte]at h)<;>try simp only[hc]
 |((with_reducible refine aX hQ ?_);exact oA)
 | (cases h;done))
  refine dg 1 0 (aJ.ind (ι:=List Pm×Nat) (fun i=>f.params.drop i.2=i.1∧(if !(if !(Pm.fh i.1)then false else Pc.mA rest)then false else if decide ((p.all.length:Int) > 200)then false else It.fh 0 p.all)=R) (fun i=>i.1.length)
   (fun i=> [(1, .ptr 0 0),(26, .slice .shared 5 (p.procs.map bP)),(27, .int .i64 (p.procs.length:Int)),(28, .int .i64 (k:Int)),(61, .slice .shared 2 (f.params.map fc)),(62, .int .i64 (f.params.length:Int)),(63, .int .i64 (i.2:Int))]) (fun i=>⟨[bG p],[]⟩) ?_ (f.params,0) ⟨rfl,h⟩)
  rintro⟨CW,j⟩ ⟨j1,h⟩ rZ
  dsimp only at j1 h
  cases CW with
  |nil=>
   have hD:=drop_nil j1
   simp only[Pm.fh,zav,zab,↓reduceIte]at h
   refine bT trivial ?_
   refine cr 1 0 ?_ ?_ (IH (rest,k+1) ⟨g2,h⟩ (zae _))
   ·(simp only[go_sem,hD,hZ,gC,gD,ak aV];try exact aQ)
   ·(simp only[go_sem,hD,hZ,gC,gD,ak aV];try exact aQ)
  |cons a CW=>
   obtain⟨hZ,b2,hD,b4⟩:=drop_cons j1
   have L1:j<4611686018427387904:=by omega
   have ha:=vI a.name (hfp a (zad hZ))
   simp only[Pm.fh]at h
   repeat' (first
 |simp only[go_sem,hD,hZ,gC,gD]
 |(with_reducible refine CU (ha _) ?_)
 |(with_reducible first|refine fv fun hc=>?_|refine fw fun hc=>?_|refine fx (fun hc=>?_) fun hc=>?_)<;>(try simp only[hc,bs,↓reduceIte]at h)<;>try simp only[hc]
 |((with_reducible refine aX hQ ?_);exact oA)
 | (cases h;done))
   refine cr 1 0 ?_ ?_ (rZ (CW,j+1) ⟨b2,h⟩ (zae _))
   ·(simp only[go_sem,hD,hZ,gC,gD,ak L1];try exact aQ)
   ·(simp only[go_sem,hD,hZ,gC,gD,ak L1];try exact aQ)
def gate (nest:Int) (len n:Nat) (r:Bool×Nat):Bool×Nat:=if decide (nest > 12) && decide ((len:Int) > 0)then(false,n)else r
mutual
def Sm.sW (nest:Int) (n:Nat):Sm→Bool×Nat
 |⟨id,kind,labels,name,proc,x,has,args,aY,aH⟩=>
  if decide (((n+1:Nat):Int) > 200) ||id != ((n+1:Nat):Int) || !(eQ labels) || !(Sm.fields ⟨id,kind,labels,name,proc,x,has,args,aY,aH⟩)then(false,n+1)
  else if !(gate (nest+1) aY.length (n+1) (Sm.fX (nest+1) (n+1) aY)).1 then(false,(gate (nest+1) aY.length (n+1) (Sm.fX (nest+1) (n+1) aY)).2)
  else gate (nest+1) aH.length (gate (nest+1) aY.length (n+1) (Sm.fX (nest+1) (n+1) aY)).2 (Sm.fX (nest+1) (gate (nest+1) aY.length (n+1) (Sm.fX (nest+1) (n+1) aY)).2 aH)
def Sm.fX (nest:Int) (n:Nat):List Sm→Bool×Nat
 | []=>(true,n)
 |s::l=>if !(Sm.sW nest n s).1 then(false,(Sm.sW nest n s).2)else Sm.fX nest (Sm.sW nest n s).2 l
end
def Sm.iU (nest:Int) (n:Nat) (l:List Sm):Bool×Nat:=gate nest l.length n (Sm.fX nest n l)
theorem KQ (nest:Int) (n:Nat) (s:Sm):Sm.sW nest n s =
 if decide (((n+1:Nat):Int) > 200) ||s.id != ((n+1:Nat):Int) || !(eQ s.labels) || !(s.fields)then(false,n+1)
 else if !(Sm.iU (nest+1) (n+1) s.aY).1 then(false,(Sm.iU (nest+1) (n+1) s.aY).2)
 else Sm.iU (nest+1) (Sm.iU (nest+1) (n+1) s.aY).2 s.aH:=by
 cases s;simp only[Sm.sW,Sm.iU];rfl
mutual
def Sm.wx:Sm→Prop
 |⟨id,kind,labels,name,proc,x,has,args,aY,aH⟩=>Sm.lB ⟨id,kind,labels,name,proc,x,has,args,aY,aH⟩∧Sm.kK aY∧Sm.kK aH
def Sm.kK:List Sm→Prop
 | []=>True
 |s::l=>s.wx∧Sm.kK l
end
theorem HD (s:Sm):s.wx↔s.lB∧Sm.kK s.aY∧Sm.kK s.aH:=by cases s;simp only[Sm.wx]
theorem Jc {s:Sm} : ∀ {l:List Sm},Sm.kK l→s∈l→s.wx
 |y::l,h,m=>by
  simp only[Sm.kK]at h
  rcases zaq.1 m with rfl|m
  ·exact h.1
  ·exact Jc h.2 m
mutual
theorem agf (nest:Int) (n:Nat) : ∀ s:Sm,n≤201→(Sm.sW nest n s).2≤202∧((Sm.sW nest n s).1=true→(Sm.sW nest n s).2≤200)
 | ⟨id,kind,labels,name,proc,x,has,args,aY,aH⟩,hn=>by
  simp only[Sm.sW]
  split
  ·exact⟨by dsimp only;omega,fun h=>by cases h⟩
  rename_i hc
  simp only[zaD,decide_eq_true_eq,not_or]at hc
  have DQ:n+1≤200:=by omega
  have g1 : ∀ (nest:Int) (l:List Sm) (m:Nat),m≤200→(Sm.fX nest m l).2≤202∧((Sm.fX nest m l).1=true→(Sm.fX nest m l).2≤200)→
   (gate nest l.length m (Sm.fX nest m l)).2≤202∧((gate nest l.length m (Sm.fX nest m l)).1=true→(gate nest l.length m (Sm.fX nest m l)).2≤200):=by
   intro nest l m hm h
   unfold gate
   split
   ·exact⟨by dsimp only;omega,fun h=>by cases h⟩
   ·exact h
  have h1:=g1 (nest+1) aY (n+1) DQ (FF (nest+1) (n+1) aY DQ)
  split
  ·exact⟨h1.1,fun h=>by cases h⟩
  rename_i N6
  have h2:=h1.2 (by simpa using N6)
  exact g1 (nest+1) aH _ h2 (FF (nest+1) _ aH h2)
theorem FF (nest:Int) (n:Nat) : ∀ l:List Sm,n≤200→(Sm.fX nest n l).2≤202∧((Sm.fX nest n l).1=true→(Sm.fX nest n l).2≤200)
 | [],hn=>by simp only[Sm.fX];exact⟨by omega,fun _=>hn⟩
 |s::l,hn=>by
  simp only[Sm.fX]
  have h1:=agf nest n s (by omega)
  split
  ·exact⟨h1.1,fun h=>by cases h⟩
  rename_i hc
  exact FF nest _ l (h1.2 (by simpa using hc))
end
theorem KR {nest:Int} {n:Nat} {l:List Sm} (hn:n≤200):(Sm.iU nest n l).2≤202∧((Sm.iU nest n l).1=true→(Sm.iU nest n l).2≤200):=by
 unfold Sm.iU gate
 split
 ·exact⟨by dsimp only;omega,fun h=>by cases h⟩
 ·exact FF nest n l hn
theorem agh : ∀ (m:Nat) (l:List Sm),Sm.bB l≤m→Sm.bB l<4611686018427387000→Sm.kK l→∀ (nest:Int) (n:Nat),0≤nest→nest≤13→n≤200→
 ay Tryz.prog 97 [.ptr 0 0, .slice .shared 13 (l.map aO), .int .i64 nest] ⟨[[.int .i64 n]],[]⟩ (.bool (Sm.iU nest n l).1) ⟨[[.int .i64 (Sm.iU nest n l).2]],[]⟩:=by
 intro m
 induction m with
 | zero=>
  intro l h hs hf nest n h0 h13 hn
  cases l with
  |nil=>
   have d1:decide ((0:Int) > 0)=false:=rfl
   have e:Sm.iU nest n [] = (true,n):=by simp[Sm.iU,gate,Sm.fX]
   have z:decide ((0:Int)<0)=false:=rfl
   rw[e]
   refine ay.go uS.h rfl fun B Q hB hQ=>?_
   have⟨hD,hZ,gC,gD⟩:=bc
   repeat' (first
 |simp only[go_sem,hD,hZ,gC,gD,d1,z]
 |(with_reducible refine aJ.fl ?_)
 |(with_reducible first|refine fv fun hc=>?_|refine fw fun hc=>?_|refine fx (fun hc=>?_) fun hc=>?_)<;>(try simp only[hc,bs,↓reduceIte]at h)<;>try simp only[hc]
 |(with_reducible refine aX hQ ?_;exact bK))
  |cons s l=>simp only[Sm.bB]at h;omega
 |succ m ih=>
  intro l h hs hf nest n h0 h13 hn
  generalize hR:Sm.iU nest n l=R
  have hlen:=Sm.dk l
  unfold Sm.iU gate at hR
  have h:=hR
  refine ay.go uS.h rfl fun B Q hB hQ=>?_
  have⟨hD,hZ,gC,gD⟩:=bc
  repeat' (first
 |simp only[go_sem,hD,hZ,gC,gD]
 |(with_reducible first|refine fv fun hc=>?_|refine fw fun hc=>?_|refine fx (fun hc=>?_) fun hc=>?_)<;>(try simp only[hc,bs,↓reduceIte]at h)<;>try simp only[hc]
 | ((with_reducible refine aX hQ ?_);(try cases h);simp only [bZ,cd,dn,dq,go_sem,hD,hZ,gC,gD];repeat' (first | exact Ok.out | with_reducible refine ej ?_ ?_ | (simp;done))))
  all_goals
   have ang:l≠ []→nest≤12:=by
    intro dj
    have:l.length≠0:=by simpa using dj
    simp_all<;>omega
   refine dg 1 0 (aJ.ind (ι:=List Sm×Nat×Nat) (fun i=>l.drop i.2.1=i.1∧Sm.fX nest i.2.2 i.1=R∧i.2.2≤200) (fun i=>i.1.length)
    (fun i=> [(0, .ptr 0 0),(2, .int .i64 nest),(16, .slice .shared 13 (l.map aO)),(17, .int .i64 (l.length:Int)),(18, .int .i64 (i.2.1:Int))]) (fun i=>⟨[[.int .i64 (i.2.2:Int)]],[]⟩) ?_ (l,0,n) ⟨rfl,h,hn⟩)
   rintro⟨rest,k,j⟩ ⟨h1,h,hj⟩ IH
   dsimp only at h1 h hj
   cases rest with
   |nil=>
    have hD:=drop_nil h1
    simp only[Sm.fX]at h
    exact iX trivial
   | cons s rest=>
    obtain⟨hZ,g2,hD,g4⟩:=drop_cons h1
    have gC:k<4611686018427387904:=by omega
    have iJ:=zad hZ
    have dJ:=Sm.cb iJ
    have avj:=ang (by rintro rfl;simp at iJ)
    obtain⟨sK,EI,hfe⟩:=(HD s).1 (Jc hf iJ)
    have aac:Sm.bB s.aY<s.size∧Sm.bB s.aH<s.size:=by cases s;simp only[Sm.size];omega
    have w1:IntKind.wrap .i64 ((j:Int)+1)=((j+1:Nat):Int):=by rw[dE]<;>omega
    have w2:IntKind.wrap .i64 (nest+1)=nest+1:=dE (by omega) (by omega)
    have c1:=fun s=>CS sK.ai5 sK.X8 s
    have c2:=fun s=>abP sK s
    simp only[Sm.fX,KQ]at h
    by_cases L1:j+1≤200
    ·have r1:=KR (nest:=nest+1) (l:=s.aY) L1
     have c3:=fun s' ho=>(ih s.aY (by omega) (by omega) EI (nest+1) (j+1) (by omega) (by omega) L1).aai (s:=s') (o:=0) (by simp[D.bJ,D.ok,pB,Tag.ok]) rfl rfl rfl ho
     by_cases vw:(Sm.iU (nest+1) (j+1) s.aY).1=true
     ·have c4:=fun s' ho=>(ih s.aH (by omega) (by omega) hfe (nest+1) _ (by omega) (by omega) (r1.2 vw)).aai (s:=s') (o:=0) (by simp [D.bJ,D.ok,pB,Tag.ok]) rfl rfl rfl ho
      have r2:=KR (nest:=nest+1) (l:=s.aH) (r1.2 vw)
      simp only[vw]at c3
      simp only[vw,zav,zab,↓reduceIte]at h
      repeat' (first
 |simp only[go_sem,hD,hZ,gC,gD,w1,w2,vw]
 |(with_reducible refine CU (c1 _) ?_)
 |(with_reducible refine CU (c2 _) ?_)
 |(with_reducible refine CU (c3 _ rfl) ?_)
 |(with_reducible refine CU (c4 _ rfl) ?_)
 |(with_reducible first|refine fv fun hc=>?_|refine fw fun hc=>?_|refine fx (fun hc=>?_) fun hc=>?_)<;>(try simp only[hc,bs,↓reduceIte]at h)<;>try simp only[hc]
 | ((with_reducible refine aX hQ ?_);(try cases h);simp only [bZ,cd,dn,dq,go_sem,hD,hZ,gC,gD,w1,w2,vw];try exact kI))
      refine dg 1 0 (IH (rest,k+1,(Sm.iU (nest+1) (Sm.iU (nest+1) (j+1) s.aY).2 s.aH).2) ⟨g2,h,r2.2 (by assumption)⟩ (zae _))
     ·have vw:(Sm.iU (nest+1) (j+1) s.aY).1=false:=by simpa using vw
      simp only[vw]at c3
      simp only[vw,zax,↓reduceIte]at h
      exact zf3 (ly w1 w2 vw) c1 c2 (c3 _ rfl)
    ·have d1:decide (((j+1:Nat):Int) > 200)=true:=by simp;omega
     simp only[d1,zbk,zax,↓reduceIte]at h
     exact DG (ly w1 w2 d1) c1 c2
def Pc.fX (n:Nat):List Pc→Bool
 | []=>true
 |f::l=>
  if decide ((f.params.length:Int) > 8) ||decide ((f.vars.length:Int) > 16) || !(isName f.name) || !(eQ f.vars) || !(eQ f.fin)then false
  else if !(Pm.fh f.params)then false
  else if !(Sm.iU 1 n f.body).1 then false
  else Pc.fX (Sm.iU 1 n f.body).2 l
def Pg.KS (p:Pg):Bool:=
 if decide ((p.globals.length:Int) > 16) ||decide ((p.procs.length:Int) > 16) || !(eQ p.globals)then false
 else Pc.fX 0 p.procs
structure Pg.Jd (p:Pg):Prop where
 sz:p.size<4611686018427387000
 sV : ∀ t∈p.globals,t.length<4611686018427387904
 mA : ∀ f∈p.procs,f.name.length<4611686018427387904∧(∀ t∈f.vars,t.length<4611686018427387904)∧(∀ t∈f.fin,t.length<4611686018427387904)∧∀ a∈f.params,a.name.length<4611686018427387904
 body : ∀ f∈p.procs,Sm.kK f.body
theorem PF {p:Pg} (hf:p.Jd) (s:St):ay Tryz.prog 68 [.agg (bG p)] s (.bool p.KS) s:=by
 refine ay.pure ?_ (by simp only[D.bJ,D.ok,fW];rfl) rfl s
 obtain⟨dJ,mB,PE,Fy⟩:=hf
 have oE:Pc.bB p.procs<4611686018427387000:=by simp only[Pg.size]at dJ;omega
 have VK:p.globals.length<4611686018427387904:=by simp only[Pg.size]at dJ;omega
 have anf:p.procs.length<4611686018427387904:=by have:=Pc.dk p.procs;omega
 have hg:=fun s=>CS VK mB s
 unfold S0
 generalize h:p.KS=R
 unfold Pg.KS at h
 refine ay.go Pe.h rfl fun B Q hB hQ=>?_
 have⟨hD,hZ,gC,gD⟩:=bc
 repeat' (first
 |simp only[go_sem,hD,hZ,gC,gD]
 |(with_reducible refine CU (hg _) ?_)
 |(with_reducible first|refine fv fun hc=>?_|refine fw fun hc=>?_|refine fx (fun hc=>?_) fun hc=>?_)<;>(try simp only[hc,bs,↓reduceIte]at h)<;>try simp only[hc]
 |((with_reducible refine aX hQ ?_);exact oA))
 refine dg 2 0 (aJ.ind (ι:=List Pc×Nat×Nat) (fun i=>p.procs.drop i.2.1=i.1∧Pc.fX i.2.2 i.1=R∧i.2.2≤200) (fun i=>i.1.length)
  (fun i=> [(1, .ptr 0 0),(3, .ptr 1 0),(27, .slice .shared 5 (p.procs.map bP)),(28, .int .i64 (p.procs.length:Int)),(29, .int .i64 (i.2.1:Int))]) (fun i=>⟨[bG p,[.int .i64 (i.2.2:Int)]],[]⟩) ?_ (p.procs,0,0) ⟨rfl,h,zaA _⟩)
 rintro⟨rest,k,n⟩ ⟨h1,h,hn⟩ IH
 dsimp only at h1 h hn
 cases rest with
 |nil=>
  have hD:=drop_nil h1
  simp only[Pc.fX]at h
  exact iX trivial
 |cons f rest=>
  obtain⟨hZ,g2,hD,g4⟩:=drop_cons h1
  have aV:k<4611686018427387904:=by omega
  have iJ:=zad hZ
  have pW:=Pc.cb iJ
  simp only[Pc.size]at pW
  obtain⟨xK,Yn,hff,hfp⟩:=PE f iJ
  have td:=EH f.name xK
  have hv:=fun s=>CS (by omega) Yn s
  have he:=fun s=>CS (by omega) hff s
  have hb:=fun s' o ho=>(agh _ f.body (zak _) (by omega) (Fy f iJ) 1 n (by omega) (by omega) hn).aai (s:=s') (o:=o) (by simp[D.bJ,D.ok,pB,Tag.ok]) rfl rfl rfl ho
  have hle:=KR (nest:=1) (l:=f.body) hn
  simp only[Pc.fX]at h
  repeat' (first
 |simp only[go_sem,hD,hZ,gC,gD]
 |(with_reducible refine CU (td _) ?_)
 |(with_reducible refine CU (hv _) ?_)
 |(with_reducible refine CU (he _) ?_)
 |(with_reducible first|refine fv fun hc=>?_|refine fw fun hc=>?_|refine fx (fun hc=>?_) fun hc=>?_)<;>(try simp only[hc,bs,↓reduceIte]at h)<;>try simp only[hc]
 |((with_reducible refine aX hQ ?_);exact oA)
 | (cases h;done))
  refine dg 3 0 (aJ.ind (ι:=List Pm×Nat) (fun i=>f.params.drop i.2=i.1∧(if !(Pm.fh i.1)then false else if !(Sm.iU 1 n f.body).1 then false else Pc.fX (Sm.iU 1 n f.body).2 rest)=R) (fun i=>i.1.length)
   (fun i=> [(1, .ptr 0 0),(3, .ptr 1 0),(5, .ptr 2 0),(27, .slice .shared 5 (p.procs.map bP)),(28, .int .i64 (p.procs.length:Int)),(29, .int .i64 (k:Int)),(62, .slice .shared 2 (f.params.map fc)),(63, .int .i64 (f.params.length:Int)),(64, .int .i64 (i.2:Int))]) (fun i=>⟨[bG p,[.int .i64 (n:Int)],bP f],[]⟩) ?_ (f.params,0) ⟨rfl,h⟩)
  rintro⟨CW,j⟩ ⟨j1,h⟩ rZ
  dsimp only at j1 h
  cases CW with
  |nil=>
   have hD:=drop_nil j1
   simp only[Pm.fh,zav,zab,↓reduceIte]at h
   repeat' (first
 |simp only[go_sem,hD,hZ,gC,gD]
 |(with_reducible refine CU (hb _ _ rfl) ?_)
 |(with_reducible first|refine fv fun hc=>?_|refine fw fun hc=>?_|refine fx (fun hc=>?_) fun hc=>?_)<;>(try simp only[hc,bs,↓reduceIte]at h)<;>try simp only[hc]
 |((with_reducible refine aX hQ ?_);exact oA)
 | (cases h;done))
   refine cr 2 0 ?_ ?_ (IH (rest,k+1,(Sm.iU 1 n f.body).2) ⟨g2,h,hle.2 (by assumption)⟩ (zae _))
   ·(simp only[go_sem,hD,hZ,gC,gD,ak aV];try exact aQ)
   ·(simp only[go_sem,hD,hZ,gC,gD,ak aV];try exact aQ)
  |cons a CW=>
   obtain⟨hZ,b2,hD,b4⟩:=drop_cons j1
   have L1:j<4611686018427387904:=by omega
   have ha:=EH a.name (hfp a (zad hZ))
   simp only[Pm.fh]at h
   repeat' (first
 |simp only[go_sem,hD,hZ,gC,gD]
 |(with_reducible refine CU (ha _) ?_)
 |(with_reducible first|refine fv fun hc=>?_|refine fw fun hc=>?_|refine fx (fun hc=>?_) fun hc=>?_)<;>(try simp only[hc,bs,↓reduceIte]at h)<;>try simp only[hc]
 |((with_reducible refine aX hQ ?_);exact oA)
 | (cases h;done))
   refine cr 3 0 ?_ ?_ (rZ (CW,j+1) ⟨b2,h⟩ (zae _))
   ·(simp only[go_sem,hD,hZ,gC,gD,ak L1];try exact aQ)
   ·(simp only[go_sem,hD,hZ,gC,gD,ak L1];try exact aQ)
theorem CX {s:aD} (h:isName s=true):s.length≤8:=by
 cases s with
 |nil=>simp
 | cons c r=>
  simp only[isName]at h
  split at h
  ·cases h
  ·rename_i hc
   simp only[zaD,decide_eq_true_eq,not_or]at hc
   simp only[zas];omega
theorem sa {t:aD} : ∀ {l:List aD},eQ l=true→t∈l→isName t=true
 | s::l,h,m=>by
  simp only[eQ]at h
  cases hs:isName s
  ·simp[hs]at h
  ·simp [hs]at h
   rcases zaq.1 m with rfl|m
   ·exact hs
   ·exact sa h m
theorem PG {a:Ar} : ∀ {l:List Ar},Ar.fh l=true→a∈l→a.may=true
 | s::l,h,m=>by
  simp only[Ar.fh]at h
  cases hs:s.may
  ·simp[hs]at h
  ·simp [hs]at h
   rcases zaq.1 m with rfl|m
   ·exact hs
   ·exact PG h m
theorem L2 {a:Pm} : ∀ {l:List Pm},Pm.fh l=true→a∈l→isName a.name=true
 | s::l,h,m=>by
  simp only[Pm.fh]at h
  cases hs:isName s.name
  ·simp[hs]at h
  ·simp [hs]at h
   rcases zaq.1 m with rfl|m
   ·exact hs
   ·exact L2 h m
mutual
theorem Je : ∀ x:Ex,x.form=true→x.texts
 | ⟨op,n,name,kids⟩,h=>by
  simp only[Ex.form]at h
  split at h
  ·cases h
  ·rename_i hc
   refine⟨?_,GC kids h⟩
   simp only[zaD,zat,zaL,not_or,not_and,zbd]at hc
   cases hn:(name == [])
   ·have:=CX (hc.2 hn);omega
   ·simp at hn;subst hn;simp
theorem GC : ∀ l:List Ex,Ex.sD l=true→Ex.yJ l
 | [],_=>trivial
 | x::l,h=>by
  simp only[Ex.sD]at h
  cases hx:x.form
  ·simp[hx]at h
  ·simp [hx]at h
   exact⟨Je x hx,GC l h⟩
end
theorem L3 {x:Ex} (h:x.may=true):x.texts:=by
 unfold Ex.may at h
 simp only[zat]at h
 exact Je x h.2
theorem Jf {x:Ex} (h:x.none=true):x.texts:=by
 obtain⟨op,n,name,kids⟩:=x
 simp[Ex.none]at h
 obtain⟨⟨_,h1⟩,h2⟩:=h
 subst h1 h2
 exact⟨by simp,trivial⟩
mutual
theorem Yo {deep bp:Int} {aH:Bool} {out:List It} {i:It} : ∀ s:Sm,i∈ix deep bp aH out s→i∈out∨i.s.size≤s.size
 | ⟨id,kind,labels,name,proc,x,has,args,aY,e⟩,h=>by
  simp only[ix]at h
  have key:i∈out++ [(⟨⟨id,kind,labels,name,proc,x,has,args,aY,e⟩,deep,bp,aH⟩:It)]→i∈out∨i.s.size≤(⟨id,kind,labels,name,proc,x,has,args,aY,e⟩:Sm).size:=by
   intro h
   rcases zar.1 h with h|h
   ·exact .inl h
   ·simp at h;subst h;exact .inr (zak _)
  split at h
  ·rcases zX e h with h | h
   ·rcases zX aY h with h | h
    ·exact key h
    ·right;simp only[Sm.size];omega
   ·right;simp only[Sm.size];omega
  ·exact key h
theorem zX {deep bp:Int} {aH:Bool} {out:List It} {i:It} : ∀ l:List Sm,i∈dT deep bp aH out l→i∈out∨i.s.size<Sm.bB l
 | [],h=>by simp only[dT]at h;exact .inl h
 | s::l,h=>by
  simp only[dT]at h
  split at h
  ·rcases zX l h with h | h
   ·rcases Yo s h with h | h
    ·exact .inl h
    ·right;simp only[Sm.bB];omega
   ·right;simp only[Sm.bB];omega
  ·exact .inl h
end
theorem PH {i:It} : ∀ (l:List Pc) (out:List It),i∈allM out l→i∈out∨i.s.size<Pc.bB l
 | [],out,h=>by simp only[allM]at h;exact .inl h
 | f::l,out,h=>by
  have key:i∈out++f.flat→i∈out∨i.s.size<Pc.bB (f::l):=by
   intro h
   rcases zar.1 h with h|h
   ·exact .inl h
   ·rcases zX _ h with h | h
    ·simp at h
    ·right;simp only[Pc.bB,Pc.size];omega
  simp only[allM]at h
  split at h
  ·exact key h
  ·rcases PH l _ h with h | h
   ·exact key h
   ·right;simp only[Pc.bB];omega
theorem Jg {i:It} : ∀ (l:List It) (n:Nat),It.fh n l=true→i∈l→i.s.one=true
 | s::l,n,h,m=>by
  simp only[It.fh]at h
  split at h
  ·cases h
  ·rename_i hc
   simp only[zaD,zaL,not_or,zbd]at hc
   rcases zaq.1 m with rfl|m
   ·exact hc.2
   ·exact Jg l (n+1) h m
theorem PI {s:Sm} (h:s.one=true) (hs:s.size<4611686018427387000):s.lB:=by
 unfold Sm.one at h
 split at h
 ·cases h
 split at h
 ·cases h
 split at h
 ·cases h
 split at h
 ·cases h
 rename_i c1 c2 c3 c4
 simp only[zaD,zat,zaL,not_or,not_and,zbd,decide_eq_true_eq]at c1 c2 c3 c4
 obtain⟨⟨⟨⟨⟨_,_⟩,aqz⟩,cx⟩,cn⟩,_⟩:=c1
 obtain⟨c21,c22⟩:=c2
 obtain⟨⟨c31,c32⟩,c33⟩:=c3
 have nm : ∀ {t:aD},isName t=true→t.length<4611686018427387904:=fun h=>by have:=CX h;omega
 have dJ:1+s.labels.length+s.x.size+Ar.bB s.args≤s.size:=by cases s;simp only[Sm.size];omega
 have pg:=Ar.dk s.args
 refine⟨fun t ht=>nm (sa aqz ht),by omega, ?_, ?_,by omega, ?_,by omega,fun a ha=>?_⟩
 ·cases hn:s.hasName
  ·cases he:(s.name == [])
   ·exact nm (c22 ⟨hn,he⟩).2
   ·simp at he;rw[he];simp
  ·exact nm (c21 hn)
 ·cases kP:s.wW
  ·rw [kP]at c31
   have:s.proc = []:=by simpa using c31
   rw[this];simp
  ·exact nm (c32 kP)
 ·cases hx:s.sU
  ·exact Jf (cn hx)
  ·exact L3 (cx hx)
 ·have hm:=PG c4 ha
  have L4:=Ar.cb ha
  unfold Ar.may at hm
  split at hm
  ·simp only [zat]at hm
   exact⟨by omega,Jf hm.2,nm hm.1⟩
  ·simp only [zat,beq_iff_eq]at hm
   exact⟨by omega,L3 hm.2,by rw[hm.1];simp⟩
theorem L5 {f:Pc} : ∀ {l:List Pc},Pc.mA l=true→f∈l→isName f.name=true∧eQ f.vars=true∧eQ f.fin=true∧Pm.fh f.params=true
 |s::l,h,m=>by
  simp only[Pc.mA]at h
  split at h
  ·cases h
  split at h
  ·cases h
  rename_i c1 c2
  simp only[zaD,zaL,not_or,zbd]at c1 c2
  rcases zaq.1 m with rfl|m
  ·exact⟨c1.1.1.1.1,c1.1.2,c1.2,c2⟩
  ·exact L5 h m
theorem abU {p:Pg} (h:p.may=true) (hs:p.size<4611686018427387000):p.lB:=by
 unfold Pg.may at h
 split at h
 ·cases h
 split at h
 ·cases h
 split at h
 ·cases h
 rename_i c1 c2 c3
 simp only[zaD,zaL,not_or,zbd]at c1 c2
 have nm : ∀ {t:aD},isName t=true→t.length<4611686018427387904:=fun h=>by have:=CX h;omega
 refine⟨hs,fun t ht=>nm (sa c1.2 ht),fun f hf=>?_,fun i hi=>?_⟩
 ·obtain⟨a,b,c,d⟩:=L5 c2 hf
  exact⟨nm a,fun t ht=>nm (sa b ht),fun t ht=>nm (sa c ht),fun t ht=>nm (L2 d ht)⟩
 ·refine PI (Jg _ _ h hi) ?_
  rcases PH _ _ hi with h1|h1
  ·simp at h1
  ·simp only[Pg.size]at hs;omega
theorem Yp {t:aD} (h:isName t=true):t≠ []:=by rintro rfl;cases h
theorem abV (op n:Int) (name:aD) (kids:List Ex):Ex.form ⟨op,n,name,kids⟩=true↔
 kJ op=(kids.length:Int)∧(op=1∨n=0)∧0≤n∧(op=2↔name≠ [])∧(name = []∨isName name=true)∧Ex.sD kids=true:=by
 simp only[Ex.form]
 split
 ·rename_i h
  simp only[zaD,zat,bne_iff_ne,ne_eq,decide_eq_true_eq,zaL]at h
  refine⟨fun h=>(Bool.false_ne_true h).elim,fun⟨h1,h2,h3,h4,h5,_⟩=>?_⟩
  exfalso
  rcases h with (((h|h)|h)|h)|h
  ·exact h h1
  ·rcases h2 with h2 | h2
   ·exact h.1 h2
   ·exact h.2 h2
  ·omega
  ·by_cases h2:op=2<;>cases name<;>simp_all
  ·rcases h5 with h5 | h5
   ·subst h5;simp at h
   ·rw[h5]at h;simp at h
 ·rename_i h
  simp only[zaD,zat,bne_iff_ne,ne_eq,decide_eq_true_eq,zaL,not_or,not_and,Decidable.not_not,zbd]at h
  obtain⟨⟨⟨⟨h1,h2⟩,h3⟩,h4⟩,h5⟩:=h
  refine⟨fun h=>⟨h1, ?_,by omega, ?_, ?_,h⟩,fun h=>h.2.2.2.2.2⟩
  ·by_cases h:op=1
   ·exact .inl h
   ·exact .inr (h2 h)
  ·by_cases h2:op=2<;>cases name<;>simp_all
  ·cases name with
   |nil=>exact .inl rfl
   |cons c r=>exact .inr (h5 rfl)
theorem wY (op n:Int) (name:aD) (kids:List Ex) (k:Int):Ex.dp k ⟨op,n,name,kids⟩=true↔
 1≤k∧(kids.length:Int)=kJ op∧(if op=1 then 0≤n∧name = []else if op=2 then n=0∧isName name=true else n=0∧name = []∧Ex.B1 (k - 1) kids=true):=by
 simp only[Ex.dp]
 split
 ·rename_i h
  simp only[zaD,decide_eq_true_eq,bne_iff_ne,ne_eq]at h
  refine⟨fun h=>(Bool.false_ne_true h).elim,fun⟨h1,h2,_⟩=>?_⟩
  rcases h with h|h
  ·omega
  ·exact(h h2).elim
 rename_i h
 simp only[zaD,decide_eq_true_eq,bne_iff_ne,ne_eq,not_or,Decidable.not_not]at h
 have h1:1≤k:=by omega
 simp only[h1,h.2,true_and]
 by_cases o1:op=1
 ·subst o1
  cases name<;>simp
 ·have o1' : ¬ (op==1)=true:=by simpa using o1
  rw[if_neg o1',if_neg o1]
  by_cases o2:op=2
  ·subst o2;simp
  ·have o2' : ¬ (op==2)=true:=by simpa using o2
   rw[if_neg o2',if_neg o2]
   by_cases hn:n=0
   ·subst hn
    cases name<;>simp
   ·simp[hn]
mutual
theorem aem : ∀ (x:Ex) (k:Int),0≤k→(x.dp k=true↔(x.depth:Int)≤k∧x.form=true)
 | ⟨op,n,name,kids⟩,k,hk=>by
  rw[wY,abV]
  have hd:Ex.depth ⟨op,n,name,kids⟩=Ex.mN kids+1:=by simp only[Ex.depth]
  rw[hd]
  by_cases h1:1≤k
  ·have ih:=Yq kids (k - 1) (by omega)
   by_cases o1:op=1
   ·subst o1
    have ha:kJ 1=0:=rfl
    rw[ha,if_pos rfl]
    constructor
    ·rintro⟨_,h2,h3,h4⟩
     have:kids = []:=za2 (by omega)
     subst this;subst h4
     simp[Ex.mN,Ex.sD,h3];omega
    ·rintro⟨h2,h3,_,h4,h5,_⟩
     refine⟨h1,h3.symm,h4, ?_⟩
     cases name
     ·rfl
     ·simp at h5
   ·rw [if_neg o1]
    by_cases o2:op=2
    ·subst o2
     have ha:kJ 2=0:=rfl
     rw[ha,if_pos rfl]
     constructor
     ·rintro⟨_,h2,h3,h4⟩
      have:kids = []:=za2 (by omega)
      subst this;subst h3
      have:=Yp h4
      simp[Ex.mN,Ex.sD,h4,this];omega
     ·rintro⟨h2,h3,h4,_,h5,h6,_⟩
      refine⟨h1,h3.symm,h4.resolve_left o1, ?_⟩
      exact h6.resolve_left (h5.1 rfl)
    ·rw [if_neg o2,ih]
     constructor
     ·rintro⟨_,h2,h3,h4,h5,h6⟩
      subst h3;subst h4
      exact⟨by omega,h2.symm, .inr rfl,zbc _,by simp[o2], .inl rfl,h6⟩
     ·rintro⟨h2,h3,h4,_,h5,h6,h7⟩
      refine⟨h1,h3.symm,h4.resolve_left o1, ?_,by omega,h7⟩
      exact Decidable.byContradiction fun h=>o2 (h5.2 h)
  ·constructor
   ·rintro⟨h,_⟩;exact(h1 h).elim
   ·rintro⟨h,_⟩;omega
theorem Yq : ∀ (l:List Ex) (k:Int),0≤k→(Ex.B1 k l=true↔(Ex.mN l:Int)≤k∧Ex.sD l=true)
 | [],k,hk=>by simp[Ex.B1,Ex.mN,Ex.sD,hk]
 | x::l,k,hk=>by
  have h1:=aem x k hk
  have h2:=Yq l k hk
  have hd:Ex.mN (x::l)=max x.depth (Ex.mN l):=by simp only[Ex.mN]
  rw[hd]
  simp only[Ex.B1,Ex.sD]
  cases hx:Ex.dp k x
  ·simp only [zax, ↓reduceIte,zab,false_iff,not_and]
   intro h3
   have : ¬ ((x.depth:Int)≤k∧x.form=true):=by rw[← h1,hx];simp
   have hf:x.form=false:=by
    cases hf:x.form
    ·rfl
    ·exact(this ⟨by omega,hf⟩).elim
   simp[hf]
  ·have:=h1.1 hx
   simp only[zav,zab,↓reduceIte,this.2,h2]
   have h3:=this.1
   refine and_congr_left fun _=>?_
   omega
end
theorem yO (x:Ex):x.dp 20=x.may:=by
 rw[Bool.eq_iff_iff,aem x 20 (by omega)]
 unfold Ex.may
 simp only[zat,decide_eq_true_eq]
 refine and_congr_left fun _=>?_
 omega
theorem L6 (x:Ex) (b:Bool):yM x b=if b then x.may else x.none:=by
 unfold yM
 rw[yO]
 cases b<;>simp
theorem L7 (t:aD) (b:Bool):wX t b=if b then isName t else t == []:=by
 unfold wX
 cases b<;>simp
theorem GD : ∀ l:List Ar,sE l=Ar.fh l
 | []=>rfl
 |a::l=>by
  simp only[sE,Ar.fh,Ar.may,L6,L7,GD l]
  grind
theorem T4 {α:Type} (l:List α):((l.length:Int)==0) = !(decide ((l.length:Int) > 0)):=by
 cases l with
 |nil=>rfl
 |cons a l=>
  have h1:(((a::l).length:Int)==0)=false:=by simp only[zas,beq_eq_false_iff_ne];omega
  have h2:decide (((a::l).length:Int) > 0)=true:=by simp only[zas,decide_eq_true_eq];omega
  rw[h1,h2];rfl
theorem Jh (s:Sm):s.one=(eQ s.labels && s.fields):=by
 have hk:s.kind=1∨s.kind=2∨s.kind=3∨s.kind=4∨s.kind=5∨s.kind=6∨s.kind=7∨s.kind=8∨s.kind=9∨s.kind=10∨s.kind<1∨s.kind > 10:=by omega
 unfold Sm.one Sm.fields Sm.flags Sm.sU Sm.hasName Sm.wW
 have p1:isName [] = false:=rfl
 rcases hk with h|h|h|h|h|h|h|h|h|h|h|h
 all_goals
  simp only[h,T4,GD,L6,L7,Sm.NG,Sm.NF]
  grind
mutual
def Ex.jX (out:List aD):Ex→List aD
 |⟨op,_,name,kids⟩=>Ex.iR (if op==2 && !(dZ out name)then out++ [name]else out) kids
def Ex.iR (out:List aD):List Ex→List aD
 | []=>out
 |x::l=>Ex.iR (Ex.jX out x) l
end
def Ex.names (x:Ex):List aD:=if x.may then x.jX []else []
mutual
theorem oZ (out:List aD) : ∀ x:Ex,(Ex.jX out x).length≤out.length+x.size
 |⟨op,n,name,kids⟩=>by
  simp only[Ex.jX,Ex.size]
  have h:=L8 (if op==2 && !(dZ out name)then out++ [name]else out) kids
  refine zaZ h ?_
  split<;>simp<;>omega
theorem L8 (out:List aD) : ∀ l:List Ex,(Ex.iR out l).length≤out.length+Ex.bB l
 | []=>by simp[Ex.iR,Ex.bB]
 |x::l=>by
  simp only[Ex.iR,Ex.bB]
  have h1:=oZ out x
  have h2:=L8 (Ex.jX out x) l
  omega
end
def oG (out:List aD) (x:aD):List aD:=if dZ out x then out else out++ [x]
def uW (x:aD):List aD→Bool
 | []=>false
 |s::l=>if s==x then true else uW x l
theorem EJ (x:aD) : ∀ l:List aD,uW x l=dZ l x
 | []=>rfl
 | s::l=>by
  have h1:=il (s::l) x
  have h2:=il l x
  have h3:=EJ x l
  simp only[uW]
  by_cases e:s=x
  ·subst e;simp only[beq_self_eq_true,if_true];exact(h1.2 zaz).symm
  ·have e':(s==x)=false:=by simp [e]
   simp only[e',zab,if_false,h3]
   cases ha:dZ l x<;>cases hb:dZ (s::l) x<;>simp_all [Ne.symm e]
theorem abW {out:List aD} (hl:out.length<1000000000) (x:aD):ay Tryz.prog 197 [.slice (.tok 0) 1 (out.map encStr), .str x] ⟨[],[some out.length]⟩ (.slice (.tok 0) 1 ((oG out x).map encStr)) ⟨[],[some (oG out x).length]⟩:=by
 rw[oG, ← EJ]
 cases h:uW x out
 all_goals
  simp only[zab,if_false,if_true]
  refine ay.go zU.h rfl fun B Q hB hQ=>?_
  have⟨hD,hZ,gC,gD⟩:=bc
  have gC:(out.length+1)*17≤aT:=by unfold aT;omega
  refine bT trivial ?_
  refine dg 0 1 (aJ.ind (ι:=List aD×Nat) (fun i=>out.drop i.2=i.1∧uW x i.1=_) (fun i=>i.1.length)
   (fun i=> [(0, .slice (.tok 0) 1 (out.map encStr)),(1, .str x),(7, .slice (.tok 0) 1 (out.map encStr)),(8, .int .i64 (out.length:Int)),(9, .int .i64 (i.2:Int))]) (fun i=>⟨[],[some out.length]⟩) ?_ (out,0) ⟨rfl,h⟩)
  rintro⟨rest,k⟩ ⟨h1,h⟩ IH
  dsimp only at h1 h
  cases rest with
  |nil=>
   have hD:=drop_nil h1
   simp only[uW]at h
   repeat' (first
 |simp only[go_sem,hD,hZ,gC,gD,zag,zaf,zaj,zal,zas,zaC,encStr]
 |(with_reducible first|refine fv fun hc=>?_|refine fw fun hc=>?_|refine fx (fun hc=>?_) fun hc=>?_)<;>(try simp only[hc,bs,↓reduceIte]at h)<;>try simp only[hc]
 |((with_reducible refine aX hQ ?_);(try cases h);simp only[bZ,cd,dn,dq,go_sem,hD,hZ,gC,gD,zag,zaf,zaj,zal,zas,zaC,encStr];try exact kI)
 | (cases h;done))
  |cons a rest=>
   obtain⟨hZ,g2,hD,g4⟩:=drop_cons h1
   have aV:k<4611686018427387904:=by omega
   simp only[uW]at h
   repeat' (first
 |simp only[go_sem,hD,hZ,gC,gD]
 |(with_reducible first|refine fv fun hc=>?_|refine fw fun hc=>?_|refine fx (fun hc=>?_) fun hc=>?_)<;>(try simp only[hc,bs,↓reduceIte]at h)<;>try simp only[hc]
 |((with_reducible refine aX hQ ?_);exact oA)
 | (cases h;done))
   refine cr 0 1 ?_ ?_ (IH (rest,k+1) ⟨g2,h⟩ (zae _))
   ·(simp only[go_sem,hD,hZ,gC,gD,ak aV];try exact aQ)
   ·(simp only[go_sem,hD,hZ,gC,gD,ak aV];try exact aQ)
theorem abX {out:List aD} (hl:out.length<1000000000) (x:aD) {s:St} {t:Nat} (ht:s.au[t]? = some (some out.length)):ay Tryz.prog 197 [.slice (.tok t) 1 (out.map encStr), .str x] s (.slice (.tok t) 1 ((oG out x).map encStr)) ⟨s.ag,s.au.set t (some (oG out x).length)⟩:=
 (abW hl x).Ul (pre:= []) (post:= [_]) rfl rfl (dv out) (dv _) ht
abbrev Yr (N:Nat):Prop:=∀ (x:Ex),x.size≤N→∀ out:List aD,out.length+x.size≤1000000000→∀ {s:St} {t:Nat},s.au[t]? = some (some out.length)→
 ay Tryz.prog 182 [.agg (bQ x), .slice (.tok t) 1 (out.map encStr)] s (.slice (.tok t) 1 ((x.jX out).map encStr)) ⟨s.ag,s.au.set t (some (x.jX out).length)⟩
theorem ajh {N:Nat} (ih:Yr N) {op m:Int} {name:aD} {kids:List Ex} (h:Ex.size ⟨op,m,name,kids⟩≤N+1) {out:List aD} (ho:out.length+Ex.size ⟨op,m,name,kids⟩≤1000000000) :
 ay Tryz.prog 182 [.agg (bQ ⟨op,m,name,kids⟩), .slice (.tok 0) 1 (out.map encStr)] ⟨[],[some out.length]⟩ (.slice (.tok 0) 1 ((Ex.jX out ⟨op,m,name,kids⟩).map encStr)) ⟨[],[some (Ex.jX out ⟨op,m,name,kids⟩).length]⟩:=by
 obtain⟨R,hG⟩ : ∃ R,Ex.jX out ⟨op,m,name,kids⟩=R:=⟨_,rfl⟩
 rw[hG]
 simp only[Ex.jX]at hG
 simp only[Ex.size]at h ho
 have hlen:kids.length<1000000000:=by have:=Ex.dk kids;omega
 have hk : ∀ y∈kids,∀ out:List aD,out.length+y.size≤1000000000→∀ {s:St} {t:Nat},s.au[t]? = some (some out.length)→
  ay Tryz.prog 182 [.agg (bQ y), .slice (.tok t) 1 (out.map encStr)] s (.slice (.tok t) 1 ((y.jX out).map encStr)) ⟨s.ag,s.au.set t (some (y.jX out).length)⟩:=fun y hy out ho=>
  ih y (by have:=Ex.cb hy;omega) out ho
 refine ay.go uU.h rfl fun B Q hB hQ=>?_
 have⟨hD,hZ,gC,gD⟩:=bc
 have gC:(out.length+1)*17≤aT:=by unfold aT;omega
 rcases zaa (op==2)with b1|b1
 ·rcases zaa (dZ out name)with b2 | b2
  ·simp only [b1,b2,zav,zbp,zab,if_false]at hG
   repeat' (first
 |simp only[go_sem,hD,hZ,gC,gD,b1,b2]
 |(with_reducible refine CU (la (l:=out) (by omega) name _ _) ?_)
 | (with_reducible refine aX hQ ?_;exact bK))
   refine dg 1 1 (aJ.ind (ι:=List Ex×Nat×List aD×Nat) (fun i=>kids.drop i.2.1=i.1∧Ex.iR i.2.2.1 i.1=R∧i.2.2.1.length+Ex.bB i.1≤1000000000∧i.2.2.2=i.2.2.1.length) (fun i=>i.1.length)
    (fun i=> [(1, .slice (.tok 0) 1 (i.2.2.1.map encStr)),(2, .ptr 0 0),(23, .slice .shared 4 (kids.map bQ)),(24, .int .i64 (kids.length:Int)),(25, .int .i64 (i.2.1:Int))]) (fun i=>⟨[bQ ⟨op,m,name,kids⟩],[some i.2.2.2]⟩) ?_ (kids,0,out,out.length) ⟨rfl,hG,by simp;omega,by simp⟩)
   rintro⟨rest,k,bW,n'⟩ ⟨h1,h2,h3,h4⟩ IH
   dsimp only at h1 h2 h3 h4
   subst h4
   cases rest with
   |nil=>
    have hD:=drop_nil h1
    simp only[Ex.iR]at h2
    subst h2
    exact dR trivial
   |cons y rest=>
    obtain⟨hZ,g2,hD,g4⟩:=drop_cons h1
    have aV:k<4611686018427387904:=by omega
    simp only[Ex.iR]at h2
    simp only[Ex.bB]at h3
    have hy:=fun {s:St} {t:Nat} (ht:s.au[t]? = some (some bW.length))=>hk y (zad hZ) bW (by omega) ht
    have hl:=oZ bW y
    repeat' (first
 |simp only[go_sem,hD,hZ,gC,gD]
 |(with_reducible refine CU (hy (by with_unfolding_all rfl)) ?_)
 | (with_reducible refine aX hQ ?_;exact bK))
    refine cr 1 1 ?_ ?_ (IH (rest,k+1,_,_) ⟨g2,h2,by dsimp only;omega,rfl⟩ (zae _))
    ·(simp only[go_sem,hD,hZ,gC,gD,ak aV];try exact aQ)
    ·(simp only[go_sem,hD,hZ,gC,gD,ak aV];try exact aQ)
  ·simp only [b1,b2,zax,zbz,if_true]at hG
   repeat' (first
 |simp only[go_sem,hD,hZ,gC,gD,b1,b2]
 |(with_reducible refine CU (la (l:=out) (by omega) name _ _) ?_)
 | (with_reducible refine aX hQ ?_;exact bK))
   refine cr 1 1 ?_ ?_ (aJ.ind (ι:=List Ex×Nat×List aD×Nat) (fun i=>kids.drop i.2.1=i.1∧Ex.iR i.2.2.1 i.1=R∧i.2.2.1.length+Ex.bB i.1≤1000000000∧i.2.2.2=i.2.2.1.length) (fun i=>i.1.length)
    (fun i=> [(1, .slice (.tok 0) 1 (i.2.2.1.map encStr)),(2, .ptr 0 0),(23, .slice .shared 4 (kids.map bQ)),(24, .int .i64 (kids.length:Int)),(25, .int .i64 (i.2.1:Int))]) (fun i=>⟨[bQ ⟨op,m,name,kids⟩],[some i.2.2.2]⟩) ?_ (kids,0,(out++ [name]),(out.length+1)) ⟨rfl,hG,by simp;omega,by simp⟩)
   ·(simp only[go_sem,hD,hZ,gC,gD,zag,zaf,zaj,zal,zas,zaC,encStr];try exact aQ)
   ·(simp only[go_sem,hD,hZ,gC,gD,zag,zaf,zaj,zal,zas,zaC,encStr];try exact aQ)
   rintro⟨rest,k,bW,n'⟩ ⟨h1,h2,h3,h4⟩ IH
   dsimp only at h1 h2 h3 h4
   subst h4
   cases rest with
   |nil=>
    have hD:=drop_nil h1
    simp only[Ex.iR]at h2
    subst h2
    exact dR trivial
   |cons y rest=>
    obtain⟨hZ,g2,hD,g4⟩:=drop_cons h1
    have aV:k<4611686018427387904:=by omega
    simp only[Ex.iR]at h2
    simp only[Ex.bB]at h3
    have hy:=fun {s:St} {t:Nat} (ht:s.au[t]? = some (some bW.length))=>hk y (zad hZ) bW (by omega) ht
    have hl:=oZ bW y
    repeat' (first
 |simp only[go_sem,hD,hZ,gC,gD]
 |(with_reducible refine CU (hy (by with_unfolding_all rfl)) ?_)
 | (with_reducible refine aX hQ ?_;exact bK))
    refine cr 1 1 ?_ ?_ (IH (rest,k+1,_,_) ⟨g2,h2,by dsimp only;omega,rfl⟩ (zae _))
    ·(simp only[go_sem,hD,hZ,gC,gD,ak aV];try exact aQ)
    ·(simp only[go_sem,hD,hZ,gC,gD,ak aV];try exact aQ)
 ·simp only [b1,zaN,zab,if_false]at hG
  refine bT b1 ?_
  refine dg 1 1 (aJ.ind (ι:=List Ex×Nat×List aD×Nat) (fun i=>kids.drop i.2.1=i.1∧Ex.iR i.2.2.1 i.1=R∧i.2.2.1.length+Ex.bB i.1≤1000000000∧i.2.2.2=i.2.2.1.length) (fun i=>i.1.length)
   (fun i=> [(1, .slice (.tok 0) 1 (i.2.2.1.map encStr)),(2, .ptr 0 0),(23, .slice .shared 4 (kids.map bQ)),(24, .int .i64 (kids.length:Int)),(25, .int .i64 (i.2.1:Int))]) (fun i=>⟨[bQ ⟨op,m,name,kids⟩],[some i.2.2.2]⟩) ?_ (kids,0,out,out.length) ⟨rfl,hG,by simp;omega,by simp⟩)
  rintro⟨rest,k,bW,n'⟩ ⟨h1,h2,h3,h4⟩ IH
  dsimp only at h1 h2 h3 h4
  subst h4
  cases rest with
  |nil=>
   have hD:=drop_nil h1
   simp only[Ex.iR]at h2
   subst h2
   exact dR trivial
  |cons y rest=>
   obtain⟨hZ,g2,hD,g4⟩:=drop_cons h1
   have aV:k<4611686018427387904:=by omega
   simp only[Ex.iR]at h2
   simp only[Ex.bB]at h3
   have hy:=fun {s:St} {t:Nat} (ht:s.au[t]? = some (some bW.length))=>hk y (zad hZ) bW (by omega) ht
   have hl:=oZ bW y
   repeat' (first
 |simp only[go_sem,hD,hZ,gC,gD]
 |(with_reducible refine CU (hy (by with_unfolding_all rfl)) ?_)
 | (with_reducible refine aX hQ ?_;exact bK))
   refine cr 1 1 ?_ ?_ (IH (rest,k+1,_,_) ⟨g2,h2,by dsimp only;omega,rfl⟩ (zae _))
   ·(simp only[go_sem,hD,hZ,gC,gD,ak aV];try exact aQ)
   ·(simp only[go_sem,hD,hZ,gC,gD,ak aV];try exact aQ)
theorem abY : ∀ N,Yr N:=by
 intro N
 induction N with
 |zero=>rintro⟨op,m,name,kids⟩ h;simp only[Ex.size]at h;omega
 |succ N ih=>
  rintro⟨op,m,name,kids⟩ h out ho s t ht
  exact(ajh ih h ho).Ul (pre:= [_]) (post:= []) (by simp only[D.bJ,D.ok,je];rfl) rfl (dv out) (dv _) ht
abbrev Sv (N:Nat):Prop:=∀ (x:Ex),x.size≤N→∀ out:List aD,out.length+x.size≤1000000000→∀ {s:St} {t:Nat},s.au[t]? = some (some out.length)→
 ay Tryz.prog 174 [.agg (bQ x), .slice (.tok t) 1 (out.map encStr)] s (.slice (.tok t) 1 ((x.jX out).map encStr)) ⟨s.ag,s.au.set t (some (x.jX out).length)⟩
theorem agi {N:Nat} (ih:Sv N) {op m:Int} {name:aD} {kids:List Ex} (h:Ex.size ⟨op,m,name,kids⟩≤N+1) {out:List aD} (ho:out.length+Ex.size ⟨op,m,name,kids⟩≤1000000000) :
 ay Tryz.prog 174 [.agg (bQ ⟨op,m,name,kids⟩), .slice (.tok 0) 1 (out.map encStr)] ⟨[],[some out.length]⟩ (.slice (.tok 0) 1 ((Ex.jX out ⟨op,m,name,kids⟩).map encStr)) ⟨[],[some (Ex.jX out ⟨op,m,name,kids⟩).length]⟩:=by
 obtain⟨R,hG⟩ : ∃ R,Ex.jX out ⟨op,m,name,kids⟩=R:=⟨_,rfl⟩
 rw[hG]
 simp only[Ex.jX]at hG
 simp only[Ex.size]at h ho
 have hlen:kids.length<1000000000:=by have:=Ex.dk kids;omega
 have hk : ∀ y∈kids,∀ out:List aD,out.length+y.size≤1000000000→∀ {s:St} {t:Nat},s.au[t]? = some (some out.length)→
  ay Tryz.prog 174 [.agg (bQ y), .slice (.tok t) 1 (out.map encStr)] s (.slice (.tok t) 1 ((y.jX out).map encStr)) ⟨s.ag,s.au.set t (some (y.jX out).length)⟩:=fun y hy out ho=>
  ih y (by have:=Ex.cb hy;omega) out ho
 have rS:=fun {s:St} {t:Nat} (ht:s.au[t]? = some (some out.length))=>abX (out:=out) (by omega) name ht
 refine ay.go xk.h rfl fun B Q hB hQ=>?_
 have⟨hD,hZ,gC,gD⟩:=bc
 have gC:(out.length+1)*17≤aT:=by unfold aT;omega
 rcases zaa (op==2)with b1|b1
 ·rcases zaa (dZ out name)with b2 | b2
  ·simp only [b1,b2,zav,zbp,zab,if_false]at hG
   simp only[oG,b2,if_true]at rS
   repeat' (first
 |simp only[go_sem,hD,hZ,gC,gD,b1,b2]
 |(with_reducible refine CU (rS (by with_unfolding_all rfl)) ?_)
 | (with_reducible refine aX hQ ?_;exact bK))
   refine dg 1 1 (aJ.ind (ι:=List Ex×Nat×List aD×Nat) (fun i=>kids.drop i.2.1=i.1∧Ex.iR i.2.2.1 i.1=R∧i.2.2.1.length+Ex.bB i.1≤1000000000∧i.2.2.2=i.2.2.1.length) (fun i=>i.1.length)
    (fun i=> [(1, .slice (.tok 0) 1 (i.2.2.1.map encStr)),(2, .ptr 0 0),(15, .int .i64 (kids.length:Int)),(16, .int .i64 (i.2.1:Int))]) (fun i=>⟨[bQ ⟨op,m,name,kids⟩],[some i.2.2.2]⟩) ?_ (kids,0,out,out.length) ⟨rfl,hG,by simp;omega,by simp⟩)
   rintro⟨rest,k,bW,n'⟩ ⟨h1,h2,h3,h4⟩ IH
   dsimp only at h1 h2 h3 h4
   subst h4
   cases rest with
   |nil=>
    have hD:=drop_nil h1
    simp only[Ex.iR]at h2
    subst h2
    exact dR trivial
   |cons y rest=>
    obtain⟨hZ,g2,hD,g4⟩:=drop_cons h1
    have aV:k<4611686018427387904:=by omega
    simp only[Ex.iR]at h2
    simp only[Ex.bB]at h3
    have hy:=fun {s:St} {t:Nat} (ht:s.au[t]? = some (some bW.length))=>hk y (zad hZ) bW (by omega) ht
    have hl:=oZ bW y
    repeat' (first
 |simp only[go_sem,hD,hZ,gC,gD]
 |(with_reducible refine CU (hy (by with_unfolding_all rfl)) ?_)
 | (with_reducible refine aX hQ ?_;exact bK))
    refine cr 1 1 ?_ ?_ (IH (rest,k+1,_,_) ⟨g2,h2,by dsimp only;omega,rfl⟩ (zae _))
    ·(simp only[go_sem,hD,hZ,gC,gD,ak aV];try exact aQ)
    ·(simp only[go_sem,hD,hZ,gC,gD,ak aV];try exact aQ)
  ·simp only [b1,b2,zax,zbz,if_true]at hG
   simp only[oG,b2,zab,if_false,zal,zas,zaC]at rS
   repeat' (first
 |simp only[go_sem,hD,hZ,gC,gD,b1,b2]
 |(with_reducible refine CU (rS (by with_unfolding_all rfl)) ?_)
 | (with_reducible refine aX hQ ?_;exact bK))
   refine cr 1 1 ?_ ?_ (aJ.ind (ι:=List Ex×Nat×List aD×Nat) (fun i=>kids.drop i.2.1=i.1∧Ex.iR i.2.2.1 i.1=R∧i.2.2.1.length+Ex.bB i.1≤1000000000∧i.2.2.2=i.2.2.1.length) (fun i=>i.1.length)
    (fun i=> [(1, .slice (.tok 0) 1 (i.2.2.1.map encStr)),(2, .ptr 0 0),(15, .int .i64 (kids.length:Int)),(16, .int .i64 (i.2.1:Int))]) (fun i=>⟨[bQ ⟨op,m,name,kids⟩],[some i.2.2.2]⟩) ?_ (kids,0,(out++ [name]),(out.length+1)) ⟨rfl,hG,by simp;omega,by simp⟩)
   ·(simp only[go_sem,hD,hZ,gC,gD,zag,zaf,zaj,zal,zas,zaC,encStr];try exact aQ)
   ·(simp only[go_sem,hD,hZ,gC,gD,zag,zaf,zaj,zal,zas,zaC,encStr];try exact aQ)
   rintro⟨rest,k,bW,n'⟩ ⟨h1,h2,h3,h4⟩ IH
   dsimp only at h1 h2 h3 h4
   subst h4
   cases rest with
   |nil=>
    have hD:=drop_nil h1
    simp only[Ex.iR]at h2
    subst h2
    exact dR trivial
   |cons y rest=>
    obtain⟨hZ,g2,hD,g4⟩:=drop_cons h1
    have aV:k<4611686018427387904:=by omega
    simp only[Ex.iR]at h2
    simp only[Ex.bB]at h3
    have hy:=fun {s:St} {t:Nat} (ht:s.au[t]? = some (some bW.length))=>hk y (zad hZ) bW (by omega) ht
    have hl:=oZ bW y
    repeat' (first
 |simp only[go_sem,hD,hZ,gC,gD]
 |(with_reducible refine CU (hy (by with_unfolding_all rfl)) ?_)
 | (with_reducible refine aX hQ ?_;exact bK))
    refine cr 1 1 ?_ ?_ (IH (rest,k+1,_,_) ⟨g2,h2,by dsimp only;omega,rfl⟩ (zae _))
    ·(simp only[go_sem,hD,hZ,gC,gD,ak aV];try exact aQ)
    ·(simp only[go_sem,hD,hZ,gC,gD,ak aV];try exact aQ)
 ·simp only [b1,zaN,zab,if_false]at hG
  refine bT b1 ?_
  refine dg 1 1 (aJ.ind (ι:=List Ex×Nat×List aD×Nat) (fun i=>kids.drop i.2.1=i.1∧Ex.iR i.2.2.1 i.1=R∧i.2.2.1.length+Ex.bB i.1≤1000000000∧i.2.2.2=i.2.2.1.length) (fun i=>i.1.length)
   (fun i=> [(1, .slice (.tok 0) 1 (i.2.2.1.map encStr)),(2, .ptr 0 0),(15, .int .i64 (kids.length:Int)),(16, .int .i64 (i.2.1:Int))]) (fun i=>⟨[bQ ⟨op,m,name,kids⟩],[some i.2.2.2]⟩) ?_ (kids,0,out,out.length) ⟨rfl,hG,by simp;omega,by simp⟩)
  rintro⟨rest,k,bW,n'⟩ ⟨h1,h2,h3,h4⟩ IH
  dsimp only at h1 h2 h3 h4
  subst h4
  cases rest with
  |nil=>
   have hD:=drop_nil h1
   simp only[Ex.iR]at h2
   subst h2
   repeat' (first
 |simp only[go_sem,hD,hZ,gC,gD]
 | (with_reducible refine aX hQ ?_;exact bK))
  |cons y rest=>
   obtain⟨hZ,g2,hD,g4⟩:=drop_cons h1
   have aV:k<4611686018427387904:=by omega
   simp only[Ex.iR]at h2
   simp only[Ex.bB]at h3
   have hy:=fun {s:St} {t:Nat} (ht:s.au[t]? = some (some bW.length))=>hk y (zad hZ) bW (by omega) ht
   have hl:=oZ bW y
   repeat' (first
 |simp only[go_sem,hD,hZ,gC,gD]
 |(with_reducible refine CU (hy (by with_unfolding_all rfl)) ?_)
 | (with_reducible refine aX hQ ?_;exact bK))
   refine cr 1 1 ?_ ?_ (IH (rest,k+1,_,_) ⟨g2,h2,by dsimp only;omega,rfl⟩ (zae _))
   ·(simp only[go_sem,hD,hZ,gC,gD,ak aV];try exact aQ)
   ·(simp only[go_sem,hD,hZ,gC,gD,ak aV];try exact aQ)
theorem Ys : ∀ N,Sv N:=by
 intro N
 induction N with
 |zero=>rintro⟨op,m,name,kids⟩ h;simp only[Ex.size]at h;omega
 |succ N ih=>
  rintro⟨op,m,name,kids⟩ h out ho s t ht
  exact(agi ih h ho).Ul (pre:= [_]) (post:= []) (by simp only[D.bJ,D.ok,je];rfl) rfl (dv out) (dv _) ht
theorem VL (x:aD) (s:St):ay Tryz.prog 197 [.slice .full 0 [], .str x] s (.slice .shared 1 [[.str x]]) s:=by
 refine ay.pure ?_ rfl rfl s
 unfold S0
 refine ay.go zU.h rfl fun B Q hB hQ=>?_
 have⟨hD,hZ,gC,gD⟩:=bc
 have gC:17≤aT:=by unfold aT;omega
 repeat' (first
 |simp only[go_sem,hD,hZ,gC,gD,Int.lt_irrefl,decide_false]
 |(with_reducible refine aJ.fl ?_)
 |(with_reducible refine aX hQ ?_;exact bK))
theorem L9 {op m:Int} {name:aD} {kids:List Ex} (h:Ex.form ⟨op,m,name,kids⟩=true) (h2:(op==2)=true):kids = []:=by
 have e:op=2:=by simpa using h2
 subst e
 simp only[Ex.form]at h
 split at h
 ·cases h
 ·rename_i hh
  simp only[zaD,not_or,bne_iff_ne,ne_eq,Decidable.not_not]at hh
  have:=hh.1.1.1.1
  have e:kJ 2=0:=rfl
  rw[e]at this
  exact List.length_eq_zero_iff.1 (by omega)
theorem abZ {op m:Int} {name:aD} {kids:List Ex} (hf:(op==2)=true→kids = []) (ho:Ex.size ⟨op,m,name,kids⟩≤1000000000) (s:St) :
 ay Tryz.prog 182 [.agg (bQ ⟨op,m,name,kids⟩), .slice .full 0 []] s (.slice .shared 1 ((Ex.jX [] ⟨op,m,name,kids⟩).map encStr)) s:=by
 refine ay.pure ?_ (by simp only[D.bJ,D.ok,je];rfl) (by simp only[D.ok,Tag.ok,dv];rfl) s
 obtain⟨R,hG⟩ : ∃ R,Ex.jX [] ⟨op,m,name,kids⟩=R:=⟨_,rfl⟩
 rw[hG]
 simp only[Ex.jX]at hG
 simp only[Ex.size]at ho
 have hlen:kids.length<1000000000:=by have:=Ex.dk kids;omega
 have hk : ∀ y∈kids,∀ out:List aD,out.length+y.size≤1000000000→∀ {s:St} {t:Nat},s.au[t]? = some (some out.length)→
  ay Tryz.prog 182 [.agg (bQ y), .slice (.tok t) 1 (out.map encStr)] s (.slice (.tok t) 1 ((y.jX out).map encStr)) ⟨s.ag,s.au.set t (some (y.jX out).length)⟩:=fun y hy out ho=>
  abY y.size y (zak _) out ho
 unfold S0
 rcases zaa (op==2)with b1|b1
 ·have Yt:=hf b1
  subst Yt
  have e:dZ [] name=false:=rfl
  simp only[b1,e,zax,zbz,if_true,Ex.iR,za1]at hG
  subst hG
  refine ay.go uU.h rfl fun B Q hB hQ=>?_
  have⟨hD,hZ,gC,gD⟩:=bc
  have gC:17≤aT:=by unfold aT;omega
  repeat' (first
 |simp only[go_sem,hD,hZ,gC,gD,b1,zaj,zaf,zaC,encStr,Int.natCast_zero,Int.lt_irrefl,decide_false]
 |(with_reducible refine CU (PA name _ _ _) ?_)
 |(with_reducible refine aJ.fl ?_)
 |(with_reducible refine aX hQ ?_;exact bK))
 ·simp only [b1,zaN,zab,if_false]at hG
  refine ay.go uU.h rfl fun B Q hB hQ=>?_
  have⟨hD,hZ,gC,gD⟩:=bc
  refine bT b1 ?_
  refine aJ.lA 1 1 rfl ?_
  simp only[go_sem,hD,hZ,gC,gD]
  refine dg 1 1 (aJ.ind (ι:=List Ex×Nat×List aD×Nat) (fun i=>kids.drop i.2.1=i.1∧Ex.iR i.2.2.1 i.1=R∧i.2.2.1.length+Ex.bB i.1≤1000000000∧i.2.2.2=i.2.2.1.length) (fun i=>i.1.length)
   (fun i=> [(1, .slice (.tok 0) 1 (i.2.2.1.map encStr)),(2, .ptr 0 0),(23, .slice .shared 4 (kids.map bQ)),(24, .int .i64 (kids.length:Int)),(25, .int .i64 (i.2.1:Int))]) (fun i=>⟨[bQ ⟨op,m,name,kids⟩],[some i.2.2.2]⟩) ?_ (kids,0,[],0) ⟨rfl,hG,by simp;omega,by simp⟩)
  rintro⟨rest,k,bW,n'⟩ ⟨h1,h2,h3,h4⟩ IH
  dsimp only at h1 h2 h3 h4
  subst h4
  cases rest with
  |nil=>
   have hD:=drop_nil h1
   simp only[Ex.iR]at h2
   subst h2
   exact dR trivial
  |cons y rest=>
   obtain⟨hZ,g2,hD,g4⟩:=drop_cons h1
   have aV:k<4611686018427387904:=by omega
   simp only[Ex.iR]at h2
   simp only[Ex.bB]at h3
   have hy:=fun {s:St} {t:Nat} (ht:s.au[t]? = some (some bW.length))=>hk y (zad hZ) bW (by omega) ht
   have hl:=oZ bW y
   repeat' (first
 |simp only[go_sem,hD,hZ,gC,gD]
 |(with_reducible refine CU (hy (by with_unfolding_all rfl)) ?_)
 | (with_reducible refine aX hQ ?_;exact bK))
   refine cr 1 1 ?_ ?_ (IH (rest,k+1,_,_) ⟨g2,h2,by dsimp only;omega,rfl⟩ (zae _))
   ·(simp only[go_sem,hD,hZ,gC,gD,ak aV];try exact aQ)
   ·(simp only[go_sem,hD,hZ,gC,gD,ak aV];try exact aQ)
theorem Yu {op m:Int} {name:aD} {kids:List Ex} (hf:(op==2)=true→kids = []) (ho:Ex.size ⟨op,m,name,kids⟩≤1000000000) (s:St) :
 ay Tryz.prog 174 [.agg (bQ ⟨op,m,name,kids⟩), .slice .full 0 []] s (.slice .shared 1 ((Ex.jX [] ⟨op,m,name,kids⟩).map encStr)) s:=by
 refine ay.pure ?_ (by simp only[D.bJ,D.ok,je];rfl) (by simp only[D.ok,Tag.ok,dv];rfl) s
 obtain⟨R,hG⟩ : ∃ R,Ex.jX [] ⟨op,m,name,kids⟩=R:=⟨_,rfl⟩
 rw[hG]
 simp only[Ex.jX]at hG
 simp only[Ex.size]at ho
 have hlen:kids.length<1000000000:=by have:=Ex.dk kids;omega
 have hk : ∀ y∈kids,∀ out:List aD,out.length+y.size≤1000000000→∀ {s:St} {t:Nat},s.au[t]? = some (some out.length)→
  ay Tryz.prog 174 [.agg (bQ y), .slice (.tok t) 1 (out.map encStr)] s (.slice (.tok t) 1 ((y.jX out).map encStr)) ⟨s.ag,s.au.set t (some (y.jX out).length)⟩:=fun y hy out ho=>
  Ys y.size y (zak _) out ho
 unfold S0
 rcases zaa (op==2)with b1|b1
 ·have Yt:=hf b1
  subst Yt
  have e:dZ [] name=false:=rfl
  simp only[b1,e,zax,zbz,if_true,Ex.iR,za1]at hG
  subst hG
  refine ay.go xk.h rfl fun B Q hB hQ=>?_
  have⟨hD,hZ,gC,gD⟩:=bc
  have gC:17≤aT:=by unfold aT;omega
  repeat' (first
 |simp only[go_sem,hD,hZ,gC,gD,b1,zaj,zaf,zaC,encStr,Int.natCast_zero,Int.lt_irrefl,decide_false]
 |(with_reducible refine CU (VL name _) ?_)
 |(with_reducible refine aJ.fl ?_)
 |(with_reducible refine aX hQ ?_;exact bK))
 ·simp only [b1,zaN,zab,if_false]at hG
  refine ay.go xk.h rfl fun B Q hB hQ=>?_
  have⟨hD,hZ,gC,gD⟩:=bc
  refine bT b1 ?_
  refine aJ.lA 1 1 rfl ?_
  simp only[go_sem,hD,hZ,gC,gD]
  refine dg 1 1 (aJ.ind (ι:=List Ex×Nat×List aD×Nat) (fun i=>kids.drop i.2.1=i.1∧Ex.iR i.2.2.1 i.1=R∧i.2.2.1.length+Ex.bB i.1≤1000000000∧i.2.2.2=i.2.2.1.length) (fun i=>i.1.length)
   (fun i=> [(1, .slice (.tok 0) 1 (i.2.2.1.map encStr)),(2, .ptr 0 0),(15, .int .i64 (kids.length:Int)),(16, .int .i64 (i.2.1:Int))]) (fun i=>⟨[bQ ⟨op,m,name,kids⟩],[some i.2.2.2]⟩) ?_ (kids,0,[],0) ⟨rfl,hG,by simp;omega,by simp⟩)
  rintro⟨rest,k,bW,n'⟩ ⟨h1,h2,h3,h4⟩ IH
  dsimp only at h1 h2 h3 h4
  subst h4
  cases rest with
  |nil=>
   have hD:=drop_nil h1
   simp only[Ex.iR]at h2
   subst h2
   exact dR trivial
  |cons y rest=>
   obtain⟨hZ,g2,hD,g4⟩:=drop_cons h1
   have aV:k<4611686018427387904:=by omega
   simp only[Ex.iR]at h2
   simp only[Ex.bB]at h3
   have hy:=fun {s:St} {t:Nat} (ht:s.au[t]? = some (some bW.length))=>hk y (zad hZ) bW (by omega) ht
   have hl:=oZ bW y
   repeat' (first
 |simp only[go_sem,hD,hZ,gC,gD]
 |(with_reducible refine CU (hy (by with_unfolding_all rfl)) ?_)
 | (with_reducible refine aX hQ ?_;exact bK))
   refine cr 1 1 ?_ ?_ (IH (rest,k+1,_,_) ⟨g2,h2,by dsimp only;omega,rfl⟩ (zae _))
   ·(simp only[go_sem,hD,hZ,gC,gD,ak aV];try exact aQ)
   ·(simp only[go_sem,hD,hZ,gC,gD,ak aV];try exact aQ)
theorem pX {x:Ex} (hx:x.size≤1000000000) (ht:x.texts) (s:St):ay Tryz.prog 162 [.agg (bQ x)] s (.slice .shared 1 (x.names.map encStr)) s:=by
 refine ay.pure ?_ (by simp only[D.bJ,D.ok,je];rfl) (by simp only[D.ok,Tag.ok,dv];rfl) s
 have hm:=fun s=>CT (x:=x) (by omega) ht s
 simp only[yO]at hm
 unfold Ex.names
 unfold S0
 cases hb:x.may
 ·simp only [hb]at hm
  simp only[zab,if_false,zaj]
  refine ay.go BU.h rfl fun B Q hB hQ=>?_
  have⟨hD,hZ,gC,gD⟩:=bc
  exact jn trivial hm
 ·simp only [hb]at hm
  simp only[if_true]
  have hg : ∀ s,ay Tryz.prog 182 [.agg (bQ x), .slice .full 0 []] s (.slice .shared 1 ((x.jX []).map encStr)) s:=by
   intro s
   obtain⟨op,m,name,kids⟩:=x
   exact abZ (fun h2=>L9 (by simp only[Ex.may,zat]at hb;exact hb.2) h2) hx s
  refine ay.go BU.h rfl fun B Q hB hQ=>?_
  have⟨hD,hZ,gC,gD⟩:=bc
  exact pT trivial hm hg
theorem pY {x:Ex} (hx:x.size≤1000000000) (ht:x.texts) (s:St):ay Tryz.prog 147 [.agg (bQ x)] s (.slice .shared 1 (x.names.map encStr)) s:=by
 refine ay.pure ?_ (by simp only[D.bJ,D.ok,je];rfl) (by simp only[D.ok,Tag.ok,dv];rfl) s
 have hm:=fun s=>EE (x:=x) (by omega) ht s
 unfold Ex.names
 unfold S0
 cases hb:x.may
 ·simp only [hb]at hm
  simp only[zab,if_false,zaj]
  refine ay.go BW.h rfl fun B Q hB hQ=>?_
  have⟨hD,hZ,gC,gD⟩:=bc
  exact jn trivial hm
 ·simp only [hb]at hm
  simp only[if_true]
  have hg : ∀ s,ay Tryz.prog 174 [.agg (bQ x), .slice .full 0 []] s (.slice .shared 1 ((x.jX []).map encStr)) s:=by
   intro s
   obtain⟨op,m,name,kids⟩:=x
   exact Yu (fun h2=>L9 (by simp only[Ex.may,zat]at hb;exact hb.2) h2) hx s
  refine ay.go BW.h rfl fun B Q hB hQ=>?_
  have⟨hD,hZ,gC,gD⟩:=bc
  exact pT trivial hm hg
def Ar.said (out:List aD):List Ar→List aD
 | []=>out
 |a::l=>Ar.said ((if a.ref then out++ [a.name]else out)++a.x.names) l
def Sm.tG (v:Sm):List aD:=if v.kind != 10 && v.name != []then [v.name]else []
def Sm.said (v:Sm):List aD:=Ar.said (v.tG++v.x.names) v.args
theorem iZ (x:Ex):x.names.length≤x.size:=by
 unfold Ex.names
 split
 ·simpa using oZ [] x
 ·exact zaA _
def Ar.yJ:List Ar→Prop
 | []=>True
 |a::l=>a.x.texts∧Ar.yJ l
def Sm.mQ (v:Sm):Prop:=v.x.texts∧(∀ a∈v.args,a.x.texts)∧v.x.size+Ar.bB v.args<1000000
theorem fF {l nx:List aD} {n:Nat} (hn:n=l.length) (h:l.length+nx.length≤1000000000) {g:Tag} (o:List (List D)) :
 fS 1 16 (.slice (.tok 0) 1 (l.map encStr)) (.slice g 1 (nx.map encStr)) ⟨o,[some n]⟩=some (.slice (.tok 0) 1 ((l++nx).map encStr),⟨o,[some (l++nx).length]⟩):=by
 subst hn
 have:=kZ (size:=1) (bytes:=16) (t:=0) (rows:=l.map encStr) (new:=nx.map encStr) (g:=g) (s:=⟨o,[some l.length]⟩) (by simp only[zau];unfold aT;omega) (by simp)
 rw[this]
 simp
theorem EK {v:Sm} (hv:v.mQ) (s:St):ay Tryz.prog 137 [.agg (aO v)] s (.slice .shared 1 (v.said.map encStr)) s:=by
 refine ay.pure ?_ (by simp only[D.bJ,D.ok,nN];rfl) (by simp only[D.ok,Tag.ok,dv];rfl) s
 obtain⟨xL,jD,dJ⟩:=hv
 obtain⟨R,hG⟩ : ∃ R,v.said=R:=⟨_,rfl⟩
 rw[hG]
 simp only[Sm.said]at hG
 have hlen:v.args.length<1000000000:=by have:=Ar.dk v.args;omega
 have hx:=fun s=>pX (x:=v.x) (by omega) xL s
 have B3:=iZ v.x
 unfold S0
 refine ay.go KD.h rfl fun B Q hB hQ=>?_
 have⟨hD,hZ,gC,gD⟩:=bc
 have gC:17≤aT:=by unfold aT;omega
 by_cases hb:(v.kind != 10 && v.name != [])=true
 ·simp only [Sm.tG,hb,if_true]at hG
  rw[zat]at hb
  obtain⟨b1,b2⟩:=hb
  have dc:=fF (l:= [v.name]) (nx:=v.x.names) (n:=1) rfl (by simp;omega) (g:= .shared)
  simp only[zag,zaf,zaj,encStr]at dc
  have b3:(v.name == [])=false:=by simpa using b2
  repeat' (first
 |simp only[go_sem,hD,hZ,gC,gD,b1,b2,b3,dc]
 |(with_reducible refine CU (hx _) ?_)
 | (with_reducible refine aX hQ ?_;exact bK))
  refine cr 1 1 ?_ ?_ (aJ.ind (ι:=List Ar×Nat×List aD×Nat) (fun i=>v.args.drop i.2.1=i.1∧Ar.said i.2.2.1 i.1=R∧i.2.2.1.length+Ar.bB i.1≤2000000∧i.2.2.2=i.2.2.1.length) (fun i=>i.1.length)
   (fun i=> [(3, .slice (.tok 0) 1 (i.2.2.1.map encStr)),(1, .ptr 0 0),(25, .slice .shared 6 (v.args.map dH)),(26, .int .i64 (v.args.length:Int)),(27, .int .i64 (i.2.1:Int))]) (fun i=>⟨[aO v],[some i.2.2.2]⟩) ?_ (v.args,0,([v.name]++v.x.names),(v.x.names.length+1)) ⟨rfl,hG,by simp at B3 ⊢;omega,by simp⟩)
  ·(simp only[go_sem,hD,hZ,gC,gD,zag,zaf,zaj,encStr];try exact aQ)
  ·(simp only[go_sem,hD,hZ,gC,gD,zag,zaf,zaj,encStr];try exact aQ)
  rintro⟨rest,k,out,n'⟩ ⟨h1,h2,h3,h4⟩ IH
  dsimp only at h1 h2 h3 h4
  subst h4
  cases rest with
  |nil=>
   have hD:=drop_nil h1
   simp only[Ar.said]at h2
   subst h2
   exact dR trivial
  | cons a rest=>
   obtain⟨hZ,g2,hD,g4⟩:=drop_cons h1
   have aV:k<4611686018427387904:=by omega
   simp only[Ar.said]at h2
   simp only[Ar.bB]at h3
   have oH:=fun s=>pX (x:=a.x) (by have:=Ar.cb (zad hZ);omega) (jD a (zad hZ)) s
   have hl:=iZ a.x
   have gC:(out.length+1)*17≤aT:=by unfold aT;omega
   rcases zaa a.ref with b1|b1
   ·simp only [b1,if_true]at h2
    have dc:=fF (l:=out++ [a.name]) (nx:=a.x.names) (n:=out.length+1) (by simp) (by simp;omega) (g:= .shared)
    simp only[zag,zaf,zaj,encStr]at dc
    repeat' (first
 |simp only[go_sem,hD,hZ,gC,gD,b1,dc]
 |(with_reducible refine CU (oH _) ?_)
 | (with_reducible refine aX hQ ?_;exact bK))
    refine cr 1 1 ?_ ?_ (IH (rest,k+1,out++ [a.name]++a.x.names,_) ⟨g2,h2,by simp;omega,by simp<;>omega⟩ (zae _))
    ·(simp only[go_sem,hD,hZ,gC,gD,ak aV,zag,zaf,zaj,encStr];try exact aQ)
    ·(simp only[go_sem,hD,hZ,gC,gD,ak aV,zag,zaf,zaj,encStr];try exact aQ)
   ·simp only [b1,zab,if_false]at h2
    have dc:=fF (l:=out) (nx:=a.x.names) rfl (by omega) (g:= .shared)
    repeat' (first
 |simp only[go_sem,hD,hZ,gC,gD,b1,dc]
 |(with_reducible refine CU (oH _) ?_)
 | (with_reducible refine aX hQ ?_;exact bK))
    refine cr 1 1 ?_ ?_ (IH (rest,k+1,out++a.x.names,_) ⟨g2,h2,by simp;omega,by simp<;>omega⟩ (zae _))
    ·(simp only[go_sem,hD,hZ,gC,gD,ak aV];try exact aQ)
    ·(simp only[go_sem,hD,hZ,gC,gD,ak aV];try exact aQ)
 ·simp only [Sm.tG,hb,zab,if_false,za1]at hG
  have rQ:(v.kind != 10 && v.name != [])=false:=by simpa using hb
  obtain⟨nx,Ma⟩ : ∃ nx,nx=v.x.names:=⟨_,rfl⟩
  rw[← Ma]at hG B3
  simp only[← Ma]at hx
  by_cases Gs:nx = []
  ·subst Gs
   simp only[zaj]at hx
   have dc : ∀ o:List (List D),fS 1 16 (.slice .full 0 []) (.slice .shared 1 []) ⟨o,[]⟩=some (.slice .full 0 [],⟨o,[]⟩):=fun o=>by simp[fS,aT]
   have HB:(v.kind != 10)=false∨(v.kind != 10)=true∧(v.name != [])=false:=by
    cases h1:(v.kind != 10)
    ·exact .inl rfl
    ·rw[h1]at rQ;exact .inr ⟨rfl,by simpa using rQ⟩
   rcases HB with b1|⟨b1,b2⟩
   ·rcases zaa (v.name != [])with b2 | b2
    all_goals
     have b3:(v.name == []) = !(v.name != []):=by simp only[bne,zbS]
     rw[b2]at b3
     repeat' (first
 |simp only[go_sem,hD,hZ,gC,gD,b1,b2,b3,zav,zax,dc]
 |(with_reducible refine CU (hx _) ?_)
 | (with_reducible refine aX hQ ?_;simp only [bZ,cd,dn,dq,go_sem,hD,hZ,gC,gD];repeat' (first | exact Ok.out | with_reducible refine ej ?_ ?_ | (simp;done))))
    all_goals
     refine aJ.lA 3 1 rfl ?_
     simp only[go_sem,hD,hZ,gC,gD]
     refine dg 1 1 (aJ.ind (ι:=List Ar×Nat×List aD×Nat) (fun i=>v.args.drop i.2.1=i.1∧Ar.said i.2.2.1 i.1=R∧i.2.2.1.length+Ar.bB i.1≤2000000∧i.2.2.2=i.2.2.1.length) (fun i=>i.1.length)
      (fun i=> [(3, .slice (.tok 0) 1 (i.2.2.1.map encStr)),(1, .ptr 0 0),(25, .slice .shared 6 (v.args.map dH)),(26, .int .i64 (v.args.length:Int)),(27, .int .i64 (i.2.1:Int))]) (fun i=>⟨[aO v],[some i.2.2.2]⟩) ?_ (v.args,0,[],0) ⟨rfl,hG,by simp at B3 ⊢;omega,by simp⟩)
     rintro⟨rest,k,out,n'⟩ ⟨h1,h2,h3,h4⟩ IH
     dsimp only at h1 h2 h3 h4
     subst h4
     cases rest with
     |nil=>
      have hD:=drop_nil h1
      simp only[Ar.said]at h2
      subst h2
      exact dR trivial
     | cons a rest=>
      obtain⟨hZ,g2,hD,g4⟩:=drop_cons h1
      have aV:k<4611686018427387904:=by omega
      simp only[Ar.said]at h2
      simp only[Ar.bB]at h3
      have oH:=fun s=>pX (x:=a.x) (by have:=Ar.cb (zad hZ);omega) (jD a (zad hZ)) s
      have hl:=iZ a.x
      have gC:(out.length+1)*17≤aT:=by unfold aT;omega
      rcases zaa a.ref with b1|b1
      ·simp only [b1,if_true]at h2
       have dc:=fF (l:=out++ [a.name]) (nx:=a.x.names) (n:=out.length+1) (by simp) (by simp;omega) (g:= .shared)
       simp only[zag,zaf,zaj,encStr]at dc
       repeat' (first
 |simp only[go_sem,hD,hZ,gC,gD,b1,dc]
 |(with_reducible refine CU (oH _) ?_)
 |(with_reducible refine aX hQ ?_;exact bK))
       refine cr 1 1 ?_ ?_ (IH (rest,k+1,out++ [a.name]++a.x.names,_) ⟨g2,h2,by simp;omega,by simp<;>omega⟩ (zae _))
       ·(simp only[go_sem,hD,hZ,gC,gD,ak aV,zag,zaf,zaj,encStr];try exact aQ)
       ·(simp only[go_sem,hD,hZ,gC,gD,ak aV,zag,zaf,zaj,encStr];try exact aQ)
      ·simp only [b1,zab,if_false]at h2
       have dc:=fF (l:=out) (nx:=a.x.names) rfl (by omega) (g:= .shared)
       repeat' (first
 |simp only[go_sem,hD,hZ,gC,gD,b1,dc]
 |(with_reducible refine CU (oH _) ?_)
 | (with_reducible refine aX hQ ?_;exact bK))
       refine cr 1 1 ?_ ?_ (IH (rest,k+1,out++a.x.names,_) ⟨g2,h2,by simp;omega,by simp<;>omega⟩ (zae _))
       ·(simp only[go_sem,hD,hZ,gC,gD,ak aV];try exact aQ)
       ·(simp only[go_sem,hD,hZ,gC,gD,ak aV];try exact aQ)
   ·have b3:(v.name == [])=true:=by simpa using b2
    repeat' (first
 |simp only[go_sem,hD,hZ,gC,gD,b1,b2,b3,dc]
 |(with_reducible refine CU (hx _) ?_)
 | (with_reducible refine aX hQ ?_;exact bK))
    refine aJ.lA 3 1 rfl ?_
    simp only[go_sem,hD,hZ,gC,gD]
    refine dg 1 1 (aJ.ind (ι:=List Ar×Nat×List aD×Nat) (fun i=>v.args.drop i.2.1=i.1∧Ar.said i.2.2.1 i.1=R∧i.2.2.1.length+Ar.bB i.1≤2000000∧i.2.2.2=i.2.2.1.length) (fun i=>i.1.length)
     (fun i=> [(3, .slice (.tok 0) 1 (i.2.2.1.map encStr)),(1, .ptr 0 0),(25, .slice .shared 6 (v.args.map dH)),(26, .int .i64 (v.args.length:Int)),(27, .int .i64 (i.2.1:Int))]) (fun i=>⟨[aO v],[some i.2.2.2]⟩) ?_ (v.args,0,[],0) ⟨rfl,hG,by simp at B3 ⊢;omega,by simp⟩)
    rintro⟨rest,k,out,n'⟩ ⟨h1,h2,h3,h4⟩ IH
    dsimp only at h1 h2 h3 h4
    subst h4
    cases rest with
    |nil=>
     have hD:=drop_nil h1
     simp only[Ar.said]at h2
     subst h2
     exact dR trivial
    | cons a rest=>
     obtain⟨hZ,g2,hD,g4⟩:=drop_cons h1
     have aV:k<4611686018427387904:=by omega
     simp only[Ar.said]at h2
     simp only[Ar.bB]at h3
     have oH:=fun s=>pX (x:=a.x) (by have:=Ar.cb (zad hZ);omega) (jD a (zad hZ)) s
     have hl:=iZ a.x
     have gC:(out.length+1)*17≤aT:=by unfold aT;omega
     rcases zaa a.ref with b1|b1
     ·simp only [b1,if_true]at h2
      have dc:=fF (l:=out++ [a.name]) (nx:=a.x.names) (n:=out.length+1) (by simp) (by simp;omega) (g:= .shared)
      simp only[zag,zaf,zaj,encStr]at dc
      repeat' (first
 |simp only[go_sem,hD,hZ,gC,gD,b1,dc]
 |(with_reducible refine CU (oH _) ?_)
 |(with_reducible refine aX hQ ?_;exact bK))
      refine cr 1 1 ?_ ?_ (IH (rest,k+1,out++ [a.name]++a.x.names,_) ⟨g2,h2,by simp;omega,by simp<;>omega⟩ (zae _))
      ·(simp only[go_sem,hD,hZ,gC,gD,ak aV,zag,zaf,zaj,encStr];try exact aQ)
      ·(simp only[go_sem,hD,hZ,gC,gD,ak aV,zag,zaf,zaj,encStr];try exact aQ)
     ·simp only [b1,zab,if_false]at h2
      have dc:=fF (l:=out) (nx:=a.x.names) rfl (by omega) (g:= .shared)
      repeat' (first
 |simp only[go_sem,hD,hZ,gC,gD,b1,dc]
 |(with_reducible refine CU (oH _) ?_)
 | (with_reducible refine aX hQ ?_;exact bK))
      refine cr 1 1 ?_ ?_ (IH (rest,k+1,out++a.x.names,_) ⟨g2,h2,by simp;omega,by simp<;>omega⟩ (zae _))
      ·(simp only[go_sem,hD,hZ,gC,gD,ak aV];try exact aQ)
      ·(simp only[go_sem,hD,hZ,gC,gD,ak aV];try exact aQ)
  ·have dc : ∀ o:List (List D),fS 1 16 (.slice .full 0 []) (.slice .shared 1 (nx.map encStr)) ⟨o,[]⟩=some (.slice (.tok 0) 1 (nx.map encStr),⟨o,[some nx.length]⟩):=fun o=>by
    have:nx.length*17≤aT:=by unfold aT;omega
    cases nx with
    |nil=>exact absurd rfl Gs
    |cons a r=>simp only[zas]at this;simp[fS,this]
   have HB:(v.kind != 10)=false∨(v.kind != 10)=true∧(v.name != [])=false:=by
    cases h1:(v.kind != 10)
    ·exact .inl rfl
    ·rw[h1]at rQ;exact .inr ⟨rfl,by simpa using rQ⟩
   rcases HB with b1|⟨b1,b2⟩
   ·rcases zaa (v.name != [])with b2 | b2
    all_goals
     have b3:(v.name == []) = !(v.name != []):=by simp only[bne,zbS]
     rw[b2]at b3
     repeat' (first
 |simp only[go_sem,hD,hZ,gC,gD,b1,b2,b3,zav,zax,dc]
 |(with_reducible refine CU (hx _) ?_)
 | (with_reducible refine aX hQ ?_;simp only [bZ,cd,dn,dq,go_sem,hD,hZ,gC,gD];repeat' (first | exact Ok.out | with_reducible refine ej ?_ ?_ | (simp;done))))
    all_goals
     refine dg 1 1 (aJ.ind (ι:=List Ar×Nat×List aD×Nat) (fun i=>v.args.drop i.2.1=i.1∧Ar.said i.2.2.1 i.1=R∧i.2.2.1.length+Ar.bB i.1≤2000000∧i.2.2.2=i.2.2.1.length) (fun i=>i.1.length)
      (fun i=> [(3, .slice (.tok 0) 1 (i.2.2.1.map encStr)),(1, .ptr 0 0),(25, .slice .shared 6 (v.args.map dH)),(26, .int .i64 (v.args.length:Int)),(27, .int .i64 (i.2.1:Int))]) (fun i=>⟨[aO v],[some i.2.2.2]⟩) ?_ (v.args,0,nx,_) ⟨rfl,hG,by simp at B3 ⊢;omega,by simp⟩)
     rintro⟨rest,k,out,n'⟩ ⟨h1,h2,h3,h4⟩ IH
     dsimp only at h1 h2 h3 h4
     subst h4
     cases rest with
     |nil=>
      have hD:=drop_nil h1
      simp only[Ar.said]at h2
      subst h2
      exact dR trivial
     | cons a rest=>
      obtain⟨hZ,g2,hD,g4⟩:=drop_cons h1
      have aV:k<4611686018427387904:=by omega
      simp only[Ar.said]at h2
      simp only[Ar.bB]at h3
      have oH:=fun s=>pX (x:=a.x) (by have:=Ar.cb (zad hZ);omega) (jD a (zad hZ)) s
      have hl:=iZ a.x
      have gC:(out.length+1)*17≤aT:=by unfold aT;omega
      rcases zaa a.ref with b1|b1
      ·simp only [b1,if_true]at h2
       have dc:=fF (l:=out++ [a.name]) (nx:=a.x.names) (n:=out.length+1) (by simp) (by simp;omega) (g:= .shared)
       simp only[zag,zaf,zaj,encStr]at dc
       repeat' (first
 |simp only[go_sem,hD,hZ,gC,gD,b1,dc]
 |(with_reducible refine CU (oH _) ?_)
 |(with_reducible refine aX hQ ?_;exact bK))
       refine cr 1 1 ?_ ?_ (IH (rest,k+1,out++ [a.name]++a.x.names,_) ⟨g2,h2,by simp;omega,by simp<;>omega⟩ (zae _))
       ·(simp only[go_sem,hD,hZ,gC,gD,ak aV,zag,zaf,zaj,encStr];try exact aQ)
       ·(simp only[go_sem,hD,hZ,gC,gD,ak aV,zag,zaf,zaj,encStr];try exact aQ)
      ·simp only [b1,zab,if_false]at h2
       have dc:=fF (l:=out) (nx:=a.x.names) rfl (by omega) (g:= .shared)
       repeat' (first
 |simp only[go_sem,hD,hZ,gC,gD,b1,dc]
 |(with_reducible refine CU (oH _) ?_)
 | (with_reducible refine aX hQ ?_;exact bK))
       refine cr 1 1 ?_ ?_ (IH (rest,k+1,out++a.x.names,_) ⟨g2,h2,by simp;omega,by simp<;>omega⟩ (zae _))
       ·(simp only[go_sem,hD,hZ,gC,gD,ak aV];try exact aQ)
       ·(simp only[go_sem,hD,hZ,gC,gD,ak aV];try exact aQ)
   ·have b3:(v.name == [])=true:=by simpa using b2
    repeat' (first
 |simp only[go_sem,hD,hZ,gC,gD,b1,b2,b3,dc]
 |(with_reducible refine CU (hx _) ?_)
 | (with_reducible refine aX hQ ?_;exact bK))
    refine dg 1 1 (aJ.ind (ι:=List Ar×Nat×List aD×Nat) (fun i=>v.args.drop i.2.1=i.1∧Ar.said i.2.2.1 i.1=R∧i.2.2.1.length+Ar.bB i.1≤2000000∧i.2.2.2=i.2.2.1.length) (fun i=>i.1.length)
     (fun i=> [(3, .slice (.tok 0) 1 (i.2.2.1.map encStr)),(1, .ptr 0 0),(25, .slice .shared 6 (v.args.map dH)),(26, .int .i64 (v.args.length:Int)),(27, .int .i64 (i.2.1:Int))]) (fun i=>⟨[aO v],[some i.2.2.2]⟩) ?_ (v.args,0,nx,_) ⟨rfl,hG,by simp at B3 ⊢;omega,by simp⟩)
    rintro⟨rest,k,out,n'⟩ ⟨h1,h2,h3,h4⟩ IH
    dsimp only at h1 h2 h3 h4
    subst h4
    cases rest with
    |nil=>
     have hD:=drop_nil h1
     simp only[Ar.said]at h2
     subst h2
     exact dR trivial
    | cons a rest=>
     obtain⟨hZ,g2,hD,g4⟩:=drop_cons h1
     have aV:k<4611686018427387904:=by omega
     simp only[Ar.said]at h2
     simp only[Ar.bB]at h3
     have oH:=fun s=>pX (x:=a.x) (by have:=Ar.cb (zad hZ);omega) (jD a (zad hZ)) s
     have hl:=iZ a.x
     have gC:(out.length+1)*17≤aT:=by unfold aT;omega
     rcases zaa a.ref with b1|b1
     ·simp only [b1,if_true]at h2
      have dc:=fF (l:=out++ [a.name]) (nx:=a.x.names) (n:=out.length+1) (by simp) (by simp;omega) (g:= .shared)
      simp only[zag,zaf,zaj,encStr]at dc
      repeat' (first
 |simp only[go_sem,hD,hZ,gC,gD,b1,dc]
 |(with_reducible refine CU (oH _) ?_)
 |(with_reducible refine aX hQ ?_;exact bK))
      refine cr 1 1 ?_ ?_ (IH (rest,k+1,out++ [a.name]++a.x.names,_) ⟨g2,h2,by simp;omega,by simp<;>omega⟩ (zae _))
      ·(simp only[go_sem,hD,hZ,gC,gD,ak aV,zag,zaf,zaj,encStr];try exact aQ)
      ·(simp only[go_sem,hD,hZ,gC,gD,ak aV,zag,zaf,zaj,encStr];try exact aQ)
     ·simp only [b1,zab,if_false]at h2
      have dc:=fF (l:=out) (nx:=a.x.names) rfl (by omega) (g:= .shared)
      repeat' (first
 |simp only[go_sem,hD,hZ,gC,gD,b1,dc]
 |(with_reducible refine CU (oH _) ?_)
 |(with_reducible refine aX hQ ?_;exact bK))
      refine cr 1 1 ?_ ?_ (IH (rest,k+1,out++a.x.names,_) ⟨g2,h2,by simp;omega,by simp<;>omega⟩ (zae _))
      ·(simp only[go_sem,hD,hZ,gC,gD,ak aV];try exact aQ)
      ·(simp only[go_sem,hD,hZ,gC,gD,ak aV];try exact aQ)
theorem GF {v:Sm} (hv:v.mQ) (s:St):ay Tryz.prog 114 [.agg (aO v)] s (.slice .shared 1 (v.said.map encStr)) s:=by
 refine ay.pure ?_ (by simp only[D.bJ,D.ok,nN];rfl) (by simp only[D.ok,Tag.ok,dv];rfl) s
 obtain⟨xL,jD,dJ⟩:=hv
 obtain⟨R,hG⟩ : ∃ R,v.said=R:=⟨_,rfl⟩
 rw[hG]
 simp only[Sm.said]at hG
 have hlen:v.args.length<1000000000:=by have:=Ar.dk v.args;omega
 have hx:=fun s=>pY (x:=v.x) (by omega) xL s
 have B3:=iZ v.x
 unfold S0
 refine ay.go Nd.h rfl fun B Q hB hQ=>?_
 have⟨hD,hZ,gC,gD⟩:=bc
 have gC:17≤aT:=by unfold aT;omega
 by_cases hb:(v.kind != 10 && v.name != [])=true
 ·simp only [Sm.tG,hb,if_true]at hG
  rw[zat]at hb
  obtain⟨b1,b2⟩:=hb
  have dc:=fF (l:= [v.name]) (nx:=v.x.names) (n:=1) rfl (by simp;omega) (g:= .shared)
  simp only[zag,zaf,zaj,encStr]at dc
  have b3:(v.name == [])=false:=by simpa using b2
  repeat' (first
 |simp only[go_sem,hD,hZ,gC,gD,b1,b2,b3,dc]
 |(with_reducible refine CU (hx _) ?_)
 | (with_reducible refine aX hQ ?_;exact bK))
  refine cr 1 1 ?_ ?_ (aJ.ind (ι:=List Ar×Nat×List aD×Nat) (fun i=>v.args.drop i.2.1=i.1∧Ar.said i.2.2.1 i.1=R∧i.2.2.1.length+Ar.bB i.1≤2000000∧i.2.2.2=i.2.2.1.length) (fun i=>i.1.length)
   (fun i=> [(3, .slice (.tok 0) 1 (i.2.2.1.map encStr)),(1, .ptr 0 0),(25, .slice .shared 6 (v.args.map dH)),(26, .int .i64 (v.args.length:Int)),(27, .int .i64 (i.2.1:Int))]) (fun i=>⟨[aO v],[some i.2.2.2]⟩) ?_ (v.args,0,([v.name]++v.x.names),(v.x.names.length+1)) ⟨rfl,hG,by simp at B3 ⊢;omega,by simp⟩)
  ·(simp only[go_sem,hD,hZ,gC,gD,zag,zaf,zaj,encStr];try exact aQ)
  ·(simp only[go_sem,hD,hZ,gC,gD,zag,zaf,zaj,encStr];try exact aQ)
  rintro⟨rest,k,out,n'⟩ ⟨h1,h2,h3,h4⟩ IH
  dsimp only at h1 h2 h3 h4
  subst h4
  cases rest with
  |nil=>
   have hD:=drop_nil h1
   simp only[Ar.said]at h2
   subst h2
   exact dR trivial
  | cons a rest=>
   obtain⟨hZ,g2,hD,g4⟩:=drop_cons h1
   have aV:k<4611686018427387904:=by omega
   simp only[Ar.said]at h2
   simp only[Ar.bB]at h3
   have oH:=fun s=>pY (x:=a.x) (by have:=Ar.cb (zad hZ);omega) (jD a (zad hZ)) s
   have hl:=iZ a.x
   have gC:(out.length+1)*17≤aT:=by unfold aT;omega
   rcases zaa a.ref with b1|b1
   ·simp only [b1,if_true]at h2
    have dc:=fF (l:=out++ [a.name]) (nx:=a.x.names) (n:=out.length+1) (by simp) (by simp;omega) (g:= .shared)
    simp only[zag,zaf,zaj,encStr]at dc
    repeat' (first
 |simp only[go_sem,hD,hZ,gC,gD,b1,dc]
 |(with_reducible refine CU (oH _) ?_)
 | (with_reducible refine aX hQ ?_;exact bK))
    refine cr 1 1 ?_ ?_ (IH (rest,k+1,out++ [a.name]++a.x.names,_) ⟨g2,h2,by simp;omega,by simp<;>omega⟩ (zae _))
    ·(simp only[go_sem,hD,hZ,gC,gD,ak aV,zag,zaf,zaj,encStr];try exact aQ)
    ·(simp only[go_sem,hD,hZ,gC,gD,ak aV,zag,zaf,zaj,encStr];try exact aQ)
   ·simp only [b1,zab,if_false]at h2
    have dc:=fF (l:=out) (nx:=a.x.names) rfl (by omega) (g:= .shared)
    repeat' (first
 |simp only[go_sem,hD,hZ,gC,gD,b1,dc]
 |(with_reducible refine CU (oH _) ?_)
 | (with_reducible refine aX hQ ?_;exact bK))
    refine cr 1 1 ?_ ?_ (IH (rest,k+1,out++a.x.names,_) ⟨g2,h2,by simp;omega,by simp<;>omega⟩ (zae _))
    ·(simp only[go_sem,hD,hZ,gC,gD,ak aV];try exact aQ)
    ·(simp only[go_sem,hD,hZ,gC,gD,ak aV];try exact aQ)
 ·simp only [Sm.tG,hb,zab,if_false,za1]at hG
  have rQ:(v.kind != 10 && v.name != [])=false:=by simpa using hb
  obtain⟨nx,Ma⟩ : ∃ nx,nx=v.x.names:=⟨_,rfl⟩
  rw[← Ma]at hG B3
  simp only[← Ma]at hx
  by_cases Gs:nx = []
  ·subst Gs
   simp only[zaj]at hx
   have dc : ∀ o:List (List D),fS 1 16 (.slice .full 0 []) (.slice .shared 1 []) ⟨o,[]⟩=some (.slice .full 0 [],⟨o,[]⟩):=fun o=>by simp[fS,aT]
   have HB:(v.kind != 10)=false∨(v.kind != 10)=true∧(v.name != [])=false:=by
    cases h1:(v.kind != 10)
    ·exact .inl rfl
    ·rw[h1]at rQ;exact .inr ⟨rfl,by simpa using rQ⟩
   rcases HB with b1|⟨b1,b2⟩
   ·rcases zaa (v.name != [])with b2 | b2
    all_goals
     have b3:(v.name == []) = !(v.name != []):=by simp only[bne,zbS]
     rw[b2]at b3
     repeat' (first
 |simp only[go_sem,hD,hZ,gC,gD,b1,b2,b3,zav,zax,dc]
 |(with_reducible refine CU (hx _) ?_)
 | (with_reducible refine aX hQ ?_;simp only [bZ,cd,dn,dq,go_sem,hD,hZ,gC,gD];repeat' (first | exact Ok.out | with_reducible refine ej ?_ ?_ | (simp;done))))
    all_goals
     refine aJ.lA 3 1 rfl ?_
     simp only[go_sem,hD,hZ,gC,gD]
     refine dg 1 1 (aJ.ind (ι:=List Ar×Nat×List aD×Nat) (fun i=>v.args.drop i.2.1=i.1∧Ar.said i.2.2.1 i.1=R∧i.2.2.1.length+Ar.bB i.1≤2000000∧i.2.2.2=i.2.2.1.length) (fun i=>i.1.length)
      (fun i=> [(3, .slice (.tok 0) 1 (i.2.2.1.map encStr)),(1, .ptr 0 0),(25, .slice .shared 6 (v.args.map dH)),(26, .int .i64 (v.args.length:Int)),(27, .int .i64 (i.2.1:Int))]) (fun i=>⟨[aO v],[some i.2.2.2]⟩) ?_ (v.args,0,[],0) ⟨rfl,hG,by simp at B3 ⊢;omega,by simp⟩)
     rintro⟨rest,k,out,n'⟩ ⟨h1,h2,h3,h4⟩ IH
     dsimp only at h1 h2 h3 h4
     subst h4
     cases rest with
     |nil=>
      have hD:=drop_nil h1
      simp only[Ar.said]at h2
      subst h2
      exact dR trivial
     | cons a rest=>
      obtain⟨hZ,g2,hD,g4⟩:=drop_cons h1
      have aV:k<4611686018427387904:=by omega
      simp only[Ar.said]at h2
      simp only[Ar.bB]at h3
      have oH:=fun s=>pY (x:=a.x) (by have:=Ar.cb (zad hZ);omega) (jD a (zad hZ)) s
      have hl:=iZ a.x
      have gC:(out.length+1)*17≤aT:=by unfold aT;omega
      rcases zaa a.ref with b1|b1
      ·simp only [b1,if_true]at h2
       have dc:=fF (l:=out++ [a.name]) (nx:=a.x.names) (n:=out.length+1) (by simp) (by simp;omega) (g:= .shared)
       simp only[zag,zaf,zaj,encStr]at dc
       repeat' (first
 |simp only[go_sem,hD,hZ,gC,gD,b1,dc]
 |(with_reducible refine CU (oH _) ?_)
 |(with_reducible refine aX hQ ?_;exact bK))
       refine cr 1 1 ?_ ?_ (IH (rest,k+1,out++ [a.name]++a.x.names,_) ⟨g2,h2,by simp;omega,by simp<;>omega⟩ (zae _))
       ·(simp only[go_sem,hD,hZ,gC,gD,ak aV,zag,zaf,zaj,encStr];try exact aQ)
       ·(simp only[go_sem,hD,hZ,gC,gD,ak aV,zag,zaf,zaj,encStr];try exact aQ)
      ·simp only [b1,zab,if_false]at h2
       have dc:=fF (l:=out) (nx:=a.x.names) rfl (by omega) (g:= .shared)
       repeat' (first
 |simp only[go_sem,hD,hZ,gC,gD,b1,dc]
 |(with_reducible refine CU (oH _) ?_)
 | (with_reducible refine aX hQ ?_;exact bK))
       refine cr 1 1 ?_ ?_ (IH (rest,k+1,out++a.x.names,_) ⟨g2,h2,by simp;omega,by simp<;>omega⟩ (zae _))
       ·(simp only[go_sem,hD,hZ,gC,gD,ak aV];try exact aQ)
       ·(simp only[go_sem,hD,hZ,gC,gD,ak aV];try exact aQ)
   ·have b3:(v.name == [])=true:=by simpa using b2
    repeat' (first
 |simp only[go_sem,hD,hZ,gC,gD,b1,b2,b3,dc]
 |(with_reducible refine CU (hx _) ?_)
 | (with_reducible refine aX hQ ?_;exact bK))
    refine aJ.lA 3 1 rfl ?_
    simp only[go_sem,hD,hZ,gC,gD]
    refine dg 1 1 (aJ.ind (ι:=List Ar×Nat×List aD×Nat) (fun i=>v.args.drop i.2.1=i.1∧Ar.said i.2.2.1 i.1=R∧i.2.2.1.length+Ar.bB i.1≤2000000∧i.2.2.2=i.2.2.1.length) (fun i=>i.1.length)
     (fun i=> [(3, .slice (.tok 0) 1 (i.2.2.1.map encStr)),(1, .ptr 0 0),(25, .slice .shared 6 (v.args.map dH)),(26, .int .i64 (v.args.length:Int)),(27, .int .i64 (i.2.1:Int))]) (fun i=>⟨[aO v],[some i.2.2.2]⟩) ?_ (v.args,0,[],0) ⟨rfl,hG,by simp at B3 ⊢;omega,by simp⟩)
    rintro⟨rest,k,out,n'⟩ ⟨h1,h2,h3,h4⟩ IH
    dsimp only at h1 h2 h3 h4
    subst h4
    cases rest with
    |nil=>
     have hD:=drop_nil h1
     simp only[Ar.said]at h2
     subst h2
     exact dR trivial
    | cons a rest=>
     obtain⟨hZ,g2,hD,g4⟩:=drop_cons h1
     have aV:k<4611686018427387904:=by omega
     simp only[Ar.said]at h2
     simp only[Ar.bB]at h3
     have oH:=fun s=>pY (x:=a.x) (by have:=Ar.cb (zad hZ);omega) (jD a (zad hZ)) s
     have hl:=iZ a.x
     have gC:(out.length+1)*17≤aT:=by unfold aT;omega
     rcases zaa a.ref with b1|b1
     ·simp only [b1,if_true]at h2
      have dc:=fF (l:=out++ [a.name]) (nx:=a.x.names) (n:=out.length+1) (by simp) (by simp;omega) (g:= .shared)
      simp only[zag,zaf,zaj,encStr]at dc
      repeat' (first
 |simp only[go_sem,hD,hZ,gC,gD,b1,dc]
 |(with_reducible refine CU (oH _) ?_)
 |(with_reducible refine aX hQ ?_;exact bK))
      refine cr 1 1 ?_ ?_ (IH (rest,k+1,out++ [a.name]++a.x.names,_) ⟨g2,h2,by simp;omega,by simp<;>omega⟩ (zae _))
      ·(simp only[go_sem,hD,hZ,gC,gD,ak aV,zag,zaf,zaj,encStr];try exact aQ)
      ·(simp only[go_sem,hD,hZ,gC,gD,ak aV,zag,zaf,zaj,encStr];try exact aQ)
     ·simp only [b1,zab,if_false]at h2
      have dc:=fF (l:=out) (nx:=a.x.names) rfl (by omega) (g:= .shared)
      repeat' (first
 |simp only[go_sem,hD,hZ,gC,gD,b1,dc]
 |(with_reducible refine CU (oH _) ?_)
 | (with_reducible refine aX hQ ?_;exact bK))
      refine cr 1 1 ?_ ?_ (IH (rest,k+1,out++a.x.names,_) ⟨g2,h2,by simp;omega,by simp<;>omega⟩ (zae _))
      ·(simp only[go_sem,hD,hZ,gC,gD,ak aV];try exact aQ)
      ·(simp only[go_sem,hD,hZ,gC,gD,ak aV];try exact aQ)
  ·have dc : ∀ o:List (List D),fS 1 16 (.slice .full 0 []) (.slice .shared 1 (nx.map encStr)) ⟨o,[]⟩=some (.slice (.tok 0) 1 (nx.map encStr),⟨o,[some nx.length]⟩):=fun o=>by
    have:nx.length*17≤aT:=by unfold aT;omega
    cases nx with
    |nil=>exact absurd rfl Gs
    |cons a r=>simp only[zas]at this;simp[fS,this]
   have HB:(v.kind != 10)=false∨(v.kind != 10)=true∧(v.name != [])=false:=by
    cases h1:(v.kind != 10)
    ·exact .inl rfl
    ·rw[h1]at rQ;exact .inr ⟨rfl,by simpa using rQ⟩
   rcases HB with b1|⟨b1,b2⟩
   ·rcases zaa (v.name != [])with b2 | b2
    all_goals
     have b3:(v.name == []) = !(v.name != []):=by simp only[bne,zbS]
     rw[b2]at b3
     repeat' (first
 |simp only[go_sem,hD,hZ,gC,gD,b1,b2,b3,zav,zax,dc]
 |(with_reducible refine CU (hx _) ?_)
 | (with_reducible refine aX hQ ?_;simp only [bZ,cd,dn,dq,go_sem,hD,hZ,gC,gD];repeat' (first | exact Ok.out | with_reducible refine ej ?_ ?_ | (simp;done))))
    all_goals
     refine dg 1 1 (aJ.ind (ι:=List Ar×Nat×List aD×Nat) (fun i=>v.args.drop i.2.1=i.1∧Ar.said i.2.2.1 i.1=R∧i.2.2.1.length+Ar.bB i.1≤2000000∧i.2.2.2=i.2.2.1.length) (fun i=>i.1.length)
      (fun i=> [(3, .slice (.tok 0) 1 (i.2.2.1.map encStr)),(1, .ptr 0 0),(25, .slice .shared 6 (v.args.map dH)),(26, .int .i64 (v.args.length:Int)),(27, .int .i64 (i.2.1:Int))]) (fun i=>⟨[aO v],[some i.2.2.2]⟩) ?_ (v.args,0,nx,_) ⟨rfl,hG,by simp at B3 ⊢;omega,by simp⟩)
     rintro⟨rest,k,out,n'⟩ ⟨h1,h2,h3,h4⟩ IH
     dsimp only at h1 h2 h3 h4
     subst h4
     cases rest with
     |nil=>
      have hD:=drop_nil h1
      simp only[Ar.said]at h2
      subst h2
      exact dR trivial
     | cons a rest=>
      obtain⟨hZ,g2,hD,g4⟩:=drop_cons h1
      have aV:k<4611686018427387904:=by omega
      simp only[Ar.said]at h2
      simp only[Ar.bB]at h3
      have oH:=fun s=>pY (x:=a.x) (by have:=Ar.cb (zad hZ);omega) (jD a (zad hZ)) s
      have hl:=iZ a.x
      have gC:(out.length+1)*17≤aT:=by unfold aT;omega
      rcases zaa a.ref with b1|b1
      ·simp only [b1,if_true]at h2
       have dc:=fF (l:=out++ [a.name]) (nx:=a.x.names) (n:=out.length+1) (by simp) (by simp;omega) (g:= .shared)
       simp only[zag,zaf,zaj,encStr]at dc
       repeat' (first
 |simp only[go_sem,hD,hZ,gC,gD,b1,dc]
 |(with_reducible refine CU (oH _) ?_)
 |(with_reducible refine aX hQ ?_;exact bK))
       refine cr 1 1 ?_ ?_ (IH (rest,k+1,out++ [a.name]++a.x.names,_) ⟨g2,h2,by simp;omega,by simp<;>omega⟩ (zae _))
       ·(simp only[go_sem,hD,hZ,gC,gD,ak aV,zag,zaf,zaj,encStr];try exact aQ)
       ·(simp only[go_sem,hD,hZ,gC,gD,ak aV,zag,zaf,zaj,encStr];try exact aQ)
      ·simp only [b1,zab,if_false]at h2
       have dc:=fF (l:=out) (nx:=a.x.names) rfl (by omega) (g:= .shared)
       repeat' (first
 |simp only[go_sem,hD,hZ,gC,gD,b1,dc]
 |(with_reducible refine CU (oH _) ?_)
 | (with_reducible refine aX hQ ?_;exact bK))
       refine cr 1 1 ?_ ?_ (IH (rest,k+1,out++a.x.names,_) ⟨g2,h2,by simp;omega,by simp<;>omega⟩ (zae _))
       ·(simp only[go_sem,hD,hZ,gC,gD,ak aV];try exact aQ)
       ·(simp only[go_sem,hD,hZ,gC,gD,ak aV];try exact aQ)
   ·have b3:(v.name == [])=true:=by simpa using b2
    repeat' (first
 |simp only[go_sem,hD,hZ,gC,gD,b1,b2,b3,dc]
 |(with_reducible refine CU (hx _) ?_)
 | (with_reducible refine aX hQ ?_;exact bK))
    refine dg 1 1 (aJ.ind (ι:=List Ar×Nat×List aD×Nat) (fun i=>v.args.drop i.2.1=i.1∧Ar.said i.2.2.1 i.1=R∧i.2.2.1.length+Ar.bB i.1≤2000000∧i.2.2.2=i.2.2.1.length) (fun i=>i.1.length)
     (fun i=> [(3, .slice (.tok 0) 1 (i.2.2.1.map encStr)),(1, .ptr 0 0),(25, .slice .shared 6 (v.args.map dH)),(26, .int .i64 (v.args.length:Int)),(27, .int .i64 (i.2.1:Int))]) (fun i=>⟨[aO v],[some i.2.2.2]⟩) ?_ (v.args,0,nx,_) ⟨rfl,hG,by simp at B3 ⊢;omega,by simp⟩)
    rintro⟨rest,k,out,n'⟩ ⟨h1,h2,h3,h4⟩ IH
    dsimp only at h1 h2 h3 h4
    subst h4
    cases rest with
    |nil=>
     have hD:=drop_nil h1
     simp only[Ar.said]at h2
     subst h2
     exact dR trivial
    | cons a rest=>
     obtain⟨hZ,g2,hD,g4⟩:=drop_cons h1
     have aV:k<4611686018427387904:=by omega
     simp only[Ar.said]at h2
     simp only[Ar.bB]at h3
     have oH:=fun s=>pY (x:=a.x) (by have:=Ar.cb (zad hZ);omega) (jD a (zad hZ)) s
     have hl:=iZ a.x
     have gC:(out.length+1)*17≤aT:=by unfold aT;omega
     rcases zaa a.ref with b1|b1
     ·simp only [b1,if_true]at h2
      have dc:=fF (l:=out++ [a.name]) (nx:=a.x.names) (n:=out.length+1) (by simp) (by simp;omega) (g:= .shared)
      simp only[zag,zaf,zaj,encStr]at dc
      repeat' (first
 |simp only[go_sem,hD,hZ,gC,gD,b1,dc]
 |(with_reducible refine CU (oH _) ?_)
 |(with_reducible refine aX hQ ?_;exact bK))
      refine cr 1 1 ?_ ?_ (IH (rest,k+1,out++ [a.name]++a.x.names,_) ⟨g2,h2,by simp;omega,by simp<;>omega⟩ (zae _))
      ·(simp only[go_sem,hD,hZ,gC,gD,ak aV,zag,zaf,zaj,encStr];try exact aQ)
      ·(simp only[go_sem,hD,hZ,gC,gD,ak aV,zag,zaf,zaj,encStr];try exact aQ)
     ·simp only [b1,zab,if_false]at h2
      have dc:=fF (l:=out) (nx:=a.x.names) rfl (by omega) (g:= .shared)
      repeat' (first
 |simp only[go_sem,hD,hZ,gC,gD,b1,dc]
 |(with_reducible refine CU (oH _) ?_)
 |(with_reducible refine aX hQ ?_;exact bK))
      refine cr 1 1 ?_ ?_ (IH (rest,k+1,out++a.x.names,_) ⟨g2,h2,by simp;omega,by simp<;>omega⟩ (zae _))
      ·(simp only[go_sem,hD,hZ,gC,gD,ak aV];try exact aQ)
      ·(simp only[go_sem,hD,hZ,gC,gD,ak aV];try exact aQ)
theorem mW : ∀ (a b:List It) (n:Nat),It.fh n (a++b)=(It.fh n a && It.fh (n+a.length) b)
 | [],b,n=>by simp[It.fh]
 |i::a,b,n=>by
  simp only[zaV,It.fh,mW a b (n+1),zas]
  have:n+1+a.length=n+(a.length+1):=by omega
  rw[this]
  split<;>simp
theorem Ji (n:Nat) (i:It):It.fh n [i] = true↔i.s.id=((n+1:Nat):Int)∧i.deep≤12∧i.s.one=true:=by
 simp only[It.fh]
 split
 ·rename_i h
  simp only[zaD,bne_iff_ne,ne_eq,decide_eq_true_eq,zaL]at h
  refine⟨fun h=>(Bool.false_ne_true h).elim,fun⟨h1,h2,h3⟩=>?_⟩
  rcases h with (h|h)|h
  ·exact(h h1).elim
  ·omega
  ·rw[h]at h3;cases h3
 ·rename_i h
  simp only[zaD,bne_iff_ne,ne_eq,decide_eq_true_eq,zaL,not_or,Decidable.not_not,zbd]at h
  exact⟨fun _=>⟨h.1.1,by omega,h.2⟩,fun _=>rfl⟩
mutual
theorem EL (deep bp:Int) (aH:Bool) : ∀ (s:Sm) (out:List It),∃ new,ix deep bp aH out s=out++(⟨s,deep,bp,aH⟩::new)
 | ⟨id,kind,labels,name,proc,x,has,args,aY,e⟩,out=>by
  simp only[ix]
  split
  ·obtain⟨n1,h1⟩:=uv (deep+1) id false aY (out++ [⟨⟨id,kind,labels,name,proc,x,has,args,aY,e⟩,deep,bp,aH⟩])
   obtain⟨n2,h2⟩:=uv (deep+1) id true e (dT (deep+1) id false (out++ [⟨⟨id,kind,labels,name,proc,x,has,args,aY,e⟩,deep,bp,aH⟩]) aY)
   rw[h2,h1]
   exact⟨n1++n2,by simp⟩
  ·exact⟨[],rfl⟩
theorem uv (deep bp:Int) (aH:Bool) : ∀ (l:List Sm) (out:List It),∃ new,dT deep bp aH out l=out++new
 | [],out=>⟨[],by simp[dT]⟩
 | s::l,out=>by
  simp only[dT]
  split
  ·obtain⟨n1,h1⟩:=EL deep bp aH s out
   obtain⟨n2,h2⟩:=uv deep bp aH l (ix deep bp aH out s)
   rw[h2,h1]
   exact⟨⟨s,deep,bp,aH⟩::n1++n2,by simp⟩
  ·exact⟨[],by simp⟩
end
theorem Mb {nest:Int} {n:Nat} {s:Sm} (h:(Sm.sW nest n s).1=true) :
 n+1≤200∧s.id=((n+1:Nat):Int)∧s.one=true∧(Sm.iU (nest+1) (n+1) s.aY).1=true∧(Sm.iU (nest+1) (Sm.iU (nest+1) (n+1) s.aY).2 s.aH).1=true∧
 (Sm.sW nest n s).2=(Sm.iU (nest+1) (Sm.iU (nest+1) (n+1) s.aY).2 s.aH).2:=by
 rw[KQ]at h ⊢
 split at h
 ·cases h
 rename_i h1
 simp only[zaD,bne_iff_ne,ne_eq,decide_eq_true_eq,zaL,not_or,Decidable.not_not,zbd]at h1
 split at h
 ·cases h
 rename_i h2
 have ui:(Sm.iU (nest+1) (n+1) s.aY).1=true:=by simpa using h2
 refine⟨by omega,h1.1.1.2, ?_,ui,h, ?_⟩
 ·rw[Jh,h1.1.2,h1.2];rfl
 ·rw[if_neg (by simp only[zaD,bne_iff_ne,ne_eq,decide_eq_true_eq,zaL,not_or,Decidable.not_not,zbd];exact h1),if_neg h2]
theorem wZ {nest:Int} {n:Nat} {l:List Sm} (h:(Sm.iU nest n l).1=true):(l = []∨nest≤12)∧Sm.iU nest n l=Sm.fX nest n l:=by
 unfold Sm.iU gate at *
 split at h
 ·cases h
 ·rename_i hc
  rw[if_neg hc]
  refine⟨?_,rfl⟩
  simp only[zat,decide_eq_true_eq,not_and]at hc
  cases l with
  |nil=>exact .inl rfl
  |cons s l=>right;simp only[zas]at hc;omega
mutual
theorem Yv : ∀ (s:Sm) (nest bp:Int) (aH:Bool) (n:Nat) (out:List It),nest≤12→out.length≤n→n≤200→(Sm.sW nest n s).1=true→
 ∃ new,ix nest bp aH out s=out++new∧It.fh n new=true∧n+new.length=(Sm.sW nest n s).2∧(Sm.sW nest n s).2≤200
 | ⟨id,kind,labels,name,proc,x,has,args,aY,e⟩,nest,bp,aH,n,out,Yw,ho,hn,h=>by
  obtain⟨h1,h2,h3,h4,h5,h6⟩:=Mb h
  dsimp only at h2 h4 h5 h6
  rw[h6]
  obtain⟨g1,e1⟩:=wZ h4
  rw[e1]at h4 h5 ⊢
  obtain⟨g2,e2⟩:=wZ h5
  rw[e2]at h5 ⊢
  have iG:It.fh n [(⟨⟨id,kind,labels,name,proc,x,has,args,aY,e⟩,nest,bp,aH⟩:It)] = true:=(Ji _ _).2 ⟨h2,Yw,h3⟩
  obtain⟨n1,k1,k2,k3,k4⟩:=zY aY (nest+1) id false (n+1) (out++ [⟨⟨id,kind,labels,name,proc,x,has,args,aY,e⟩,nest,bp,aH⟩]) g1 (by simp;omega) h1 h4
  obtain⟨n2,j1,j2,j3,j4⟩:=zY e (nest+1) id true _ (out++ [⟨⟨id,kind,labels,name,proc,x,has,args,aY,e⟩,nest,bp,aH⟩]++n1) g2 (by simp;omega) k4 h5
  simp only[ix]
  rw[if_pos (by simpa using Yw),k1,j1]
  refine⟨⟨⟨id,kind,labels,name,proc,x,has,args,aY,e⟩,nest,bp,aH⟩::(n1++n2),by simp, ?_, ?_,j4⟩
  ·have:(⟨⟨id,kind,labels,name,proc,x,has,args,aY,e⟩,nest,bp,aH⟩:It)::(n1++n2) = [⟨⟨id,kind,labels,name,proc,x,has,args,aY,e⟩,nest,bp,aH⟩]++n1++n2:=by simp
   rw[this,mW,mW,iG,zbf]
   have e3:n+([(⟨⟨id,kind,labels,name,proc,x,has,args,aY,e⟩,nest,bp,aH⟩:It)]++n1).length=(Sm.fX (nest+1) (n+1) aY).2:=by simp;omega
   rw[e3,j2]
   have e4:n + [(⟨⟨id,kind,labels,name,proc,x,has,args,aY,e⟩,nest,bp,aH⟩:It)].length=n+1:=rfl
   rw[e4,k2];rfl
  ·simp only[zas,zal];omega
theorem zY : ∀ (l:List Sm) (nest bp:Int) (aH:Bool) (n:Nat) (out:List It),(l = []∨nest≤12)→out.length≤n→n≤200→(Sm.fX nest n l).1=true→
 ∃ new,dT nest bp aH out l=out++new∧It.fh n new=true∧n+new.length=(Sm.fX nest n l).2∧(Sm.fX nest n l).2≤200
 | [],nest,bp,aH,n,out,Yw,ho,hn,h=>⟨[],by simp[dT],rfl,by simp[Sm.fX],by simpa[Sm.fX]using hn⟩
 |s::l,nest,bp,aH,n,out,Yw,ho,hn,h=>by
  have aji:nest≤12:=Yw.resolve_left (by simp)
  simp only[Sm.fX]at h ⊢
  split at h
  ·cases h
  rename_i hc
  rw[if_neg hc]
  obtain⟨n1,k1,k2,k3,k4⟩:=Yv s nest bp aH n out aji ho hn (by simpa using hc)
  obtain⟨n2,j1,j2,j3,j4⟩:=zY l nest bp aH _ (out++n1) (.inr aji) (by simp;omega) k4 h
  simp only[dT]
  rw[if_pos (by simp only[decide_eq_true_eq];omega),k1,j1]
  refine⟨n1++n2,by simp, ?_,by simp;omega,j4⟩
  rw[mW,k2,k3,j2];rfl
end
mutual
theorem Yx : ∀ (s:Sm) (nest bp:Int) (aH:Bool) (n:Nat) (out new:List It),ix nest bp aH out s=out++new→It.fh n new=true→out.length≤n→n+new.length≤200→
 Sm.sW nest n s=(true,n+new.length)∧nest≤12
 | ⟨id,kind,labels,name,proc,x,has,args,aY,e⟩,nest,bp,aH,n,out,new,fM,hm,ho,hn=>by
  obtain⟨n0,h0⟩:=EL nest bp aH ⟨id,kind,labels,name,proc,x,has,args,aY,e⟩ out
  have e0:new = ⟨⟨id,kind,labels,name,proc,x,has,args,aY,e⟩,nest,bp,aH⟩::n0:=List.append_cancel_left (fM.symm.trans h0)
  subst e0
  have anh:(⟨⟨id,kind,labels,name,proc,x,has,args,aY,e⟩,nest,bp,aH⟩:It)::n0 = [⟨⟨id,kind,labels,name,proc,x,has,args,aY,e⟩,nest,bp,aH⟩]++n0:=rfl
  rw[anh,mW,zat]at hm
  obtain⟨jQ,km⟩:=hm
  obtain⟨c1,c2,c3⟩:=(Ji _ _).1 jQ
  dsimp only at c1 c2 c3
  simp only[zas]at hn ⊢
  have ab1:dT (nest+1) id true (dT (nest+1) id false (out++ [⟨⟨id,kind,labels,name,proc,x,has,args,aY,e⟩,nest,bp,aH⟩]) aY) e=out++([⟨⟨id,kind,labels,name,proc,x,has,args,aY,e⟩,nest,bp,aH⟩]++n0):=by
   simp only[ix]at fM
   rw[if_pos (by simpa using c2)]at fM
   exact fM
  obtain⟨n1,g1⟩:=uv (nest+1) id false aY (out++ [⟨⟨id,kind,labels,name,proc,x,has,args,aY,e⟩,nest,bp,aH⟩])
  obtain⟨n2,g2⟩:=uv (nest+1) id true e (dT (nest+1) id false (out++ [⟨⟨id,kind,labels,name,proc,x,has,args,aY,e⟩,nest,bp,aH⟩]) aY)
  have en:n0=n1++n2:=by
   rw[g2,g1]at ab1
   simp only[zaB,List.append_cancel_left_eq]at ab1
   exact ab1.symm
  subst en
  have ab2:It.fh (n+1) (n1++n2)=true:=km
  rw[mW,zat]at ab2
  simp only[zal]at hn ⊢
  obtain⟨r1,r2⟩:=zZ aY (nest+1) id false (n+1) _ n1 g1 ab2.1 (by simp;omega) (by omega)
  obtain⟨q1,q2⟩:=zZ e (nest+1) id true (n+1+n1.length) _ n2 g2 ab2.2 (by rw[g1];simp;omega) (by omega)
  refine⟨?_,c2⟩
  have gg : ∀ {l:List Sm} {m:Nat} {r:Bool×Nat},Sm.fX (nest+1) m l=r→(l = []∨nest+1≤12)→Sm.iU (nest+1) m l=r:=by
   intro l m r h1 h2
   unfold Sm.iU gate
   rw[if_neg]
   ·exact h1
   ·simp only [zat,decide_eq_true_eq,not_and]
    rcases h2 with h2|h2
    ·subst h2;simp
    ·omega
  have t1:=gg r1 r2
  have t2:=gg q1 q2
  rw[KQ]
  dsimp only
  rw[t1]
  dsimp only
  rw[t2]
  rw[Jh,zat]at c3
  rw[if_neg]
  ·simp;omega
  ·simp only [zaD,bne_iff_ne,ne_eq,decide_eq_true_eq,zaL,not_or,Decidable.not_not,zbd]
   exact⟨⟨⟨by omega,c1⟩,c3.1⟩,c3.2⟩
theorem zZ : ∀ (l:List Sm) (nest bp:Int) (aH:Bool) (n:Nat) (out new:List It),dT nest bp aH out l=out++new→It.fh n new=true→out.length≤n→n+new.length≤200→
 Sm.fX nest n l=(true,n+new.length)∧(l = []∨nest≤12)
 | [],nest,bp,aH,n,out,new,fM,hm,ho,hn=>by
  simp only[dT]at fM
  have:new = []:=by simpa using fM
  subst this
  exact⟨by simp[Sm.fX], .inl rfl⟩
 | s::l,nest,bp,aH,n,out,new,fM,hm,ho,hn=>by
  simp only[dT]at fM
  rw[if_pos (by simp only[decide_eq_true_eq];omega)]at fM
  obtain⟨n1,g1⟩:=EL nest bp aH s out
  obtain⟨n2,g2⟩:=uv nest bp aH l (ix nest bp aH out s)
  have en:new=(⟨s,nest,bp,aH⟩::n1)++n2:=by
   rw[g2,g1,zaB,List.append_cancel_left_eq]at fM
   exact fM.symm
  subst en
  rw[mW,zat]at hm
  rw[zal]at hn ⊢
  obtain⟨r1,r2⟩:=Yx s nest bp aH n out _ g1 hm.1 ho (by omega)
  obtain⟨q1,q2⟩:=zZ l nest bp aH (n+(⟨s,nest,bp,aH⟩::n1:List It).length) _ n2 g2 hm.2 (by rw[g1,zal];omega) (by omega)
  refine⟨?_, .inr r2⟩
  simp only[Sm.fX,r1,zav,zab,↓reduceIte,q1]
  congr 1;omega
end
theorem EM : ∀ (l:List Pc) (out:List It),out.length≤200→(Pc.fX out.length l=true↔Pc.mA l=true∧∃ new,allM out l=out++new∧(out++new).length≤200∧It.fh out.length new=true)
 | [],out,ho=>by simp[Pc.fX,Pc.mA,allM,It.fh];exact ho
 | f::l,out,ho=>by
  have kN : ∀ (l:List Pc) (out:List It),∃ new,allM out l=out++new:=by
   intro l
   induction l with
   |nil=>intro out;exact⟨[],by simp[allM]⟩
   | cons f l ih=>
    intro out
    simp only[allM]
    split
    ·exact⟨_,rfl⟩
    ·obtain⟨n1,h1⟩:=ih (out++f.flat)
     exact⟨f.flat++n1,by rw[h1,zaB]⟩
  simp only[Pc.fX,Pc.mA]
  have FG:(decide ((f.params.length:Int) > 8) ||decide ((f.vars.length:Int) > 16) || !(isName f.name) || !(eQ f.vars) || !(eQ f.fin))=(!(isName f.name) ||decide ((f.params.length:Int) > 8) ||decide ((f.vars.length:Int) > 16) || !(eQ f.vars) || !(eQ f.fin)):=by
   cases isName f.name<;>simp
  rw[FG]
  split
  ·simp
  split
  ·simp
  have hg:Sm.iU 1 out.length f.body=Sm.fX 1 out.length f.body:=by unfold Sm.iU gate;rw[if_neg (by simp)]
  rw[hg]
  constructor
  ·intro h
   split at h
   ·cases h
   rename_i hc
   obtain⟨n1,k1,k2,k3,k4⟩:=zY f.body 1 0 false out.length [] (.inr (by omega)) (by simp) ho (by simpa using hc)
   have fM:f.flat=n1:=by unfold Pc.flat;rw[k1];rfl
   rw[← k3, ← zal]at h
   obtain⟨hh,n2,j1,j2,j3⟩:=(EM l (out++n1) (by rw[zal];omega)).1 h
   refine⟨hh,n1++n2, ?_,by simpa using j2, ?_⟩
   ·simp only [allM,fM]
    rw[if_neg (by simp only[zal,decide_eq_true_eq];omega),j1,zaB]
   ·rw[mW,k2, ← zal,j3];rfl
  ·rintro⟨hh,new,j1,j2,j3⟩
   simp only[allM]at j1
   split at j1
   ·rename_i hc
    have:new=f.flat:=(List.append_cancel_left j1).symm
    subst this
    simp only[decide_eq_true_eq]at hc
    omega
   rename_i hc
   simp only[decide_eq_true_eq]at hc
   obtain⟨n2,g2⟩:=kN l (out++f.flat)
   have en:new=f.flat++n2:=by
    rw[g2,zaB]at j1
    exact(List.append_cancel_left j1).symm
   subst en
   rw[mW,zat]at j3
   rw[zal,zal]at j2
   obtain⟨r1,_⟩:=zZ f.body 1 0 false out.length [] f.flat (by unfold Pc.flat;rfl) j3.1 (by simp) (by omega)
   rw[r1]
   simp only[zav,zab,↓reduceIte]
   rw[← zal]
   exact(EM l (out++f.flat) (by rw[zal];omega)).2 ⟨hh,n2,g2,by simp;omega,by rw[zal];exact j3.2⟩
theorem FH (p:Pg):p.KS=p.may:=by
 have h:=EM p.procs [] (by simp)
 unfold Pg.KS Pg.may
 split
 ·rfl
 ·have e:Pc.fX 0 p.procs=(if !(Pc.mA p.procs)then false else if decide ((p.all.length:Int) > 200)then false else It.fh 0 p.all):=by
   rw[Bool.eq_iff_iff]
   have h':Pc.fX 0 p.procs=true↔_:=h
   rw[h']
   have ha:p.all=allM [] p.procs:=rfl
   constructor
   ·rintro⟨h1,new,h2,h3,h4⟩
    rw[ha,h2,h1]
    simp only[za1]at h3 ⊢
    simp only[zav,zab,↓reduceIte]
    rw[if_neg (by simp only[decide_eq_true_eq];omega)]
    exact h4
   ·intro h1
    cases hh:Pc.mA p.procs
    ·rw[hh]at h1;simp at h1
    ·rw [hh]at h1
     simp only[zav,zab,↓reduceIte]at h1
     split at h1
     ·cases h1
     ·rename_i hc
      simp only[decide_eq_true_eq]at hc
      exact⟨rfl,p.all,by rw[ha];rfl,by simp;omega,h1⟩
  exact e
def HE (x:aD):List aD→Bool
 | []=>false
 |s::l=>if x==s then true else HE x l
theorem PJ (x:aD) : ∀ l:List aD,HE x l=dZ l x
 | []=>rfl
 | s::l=>by
  have h1:=il (s::l) x
  have h2:=il l x
  have h3:=PJ x l
  simp only[HE]
  by_cases e:x=s
  ·subst e;simp only[beq_self_eq_true,if_true];exact(h1.2 zaz).symm
  ·have e':(x==s)=false:=by simp [e]
   simp only[e',zab,if_false,h3]
   cases ha:dZ l x<;>cases hb:dZ (s::l) x<;>simp_all
def qU (pre:List aD):List aD→Bool
 | []=>false
 |s::l=>if dZ pre s then true else qU (pre++ [s]) l
def eI (l:List aD):Bool:=qU [] l
theorem z6 {l:List aD} {k:Nat} {a:aD} (h:l[k]? = some a):l.take (k+1)=l.take k++ [a]:=by rw[List.take_add_one,h];rfl
theorem xm {l:List aD} (hl:l.length<4611686018427387904) (x:aD) (g:Tag) (s:St):ay Tryz.prog 116 [.slice g 1 (l.map encStr), .str x] s (.bool (dZ l x)) s:=by
 refine ay.Pz (d':= .slice .shared 1 (l.map encStr)) ?_ (Wk.shared _ _ _)
 refine ay.pure ?_ (by simp[D.bJ,D.ok,Tag.ok,dv]) rfl s
 rw[← EJ]
 generalize h:uW x l=p
 unfold S0
 refine ay.go RI.h rfl fun B Q hB hQ=>?_
 have⟨hD,hZ,gC,gD⟩:=bc
 refine bT trivial ?_
 refine dg 0 0 (aJ.ind (ι:=List aD×Nat) (fun i=>l.drop i.2=i.1∧uW x i.1=p) (fun i=>i.1.length)
  (fun i=> [(0, .slice .shared 1 (l.map encStr)),(1, .str x),(7, .int .i64 (l.length:Int)),(8, .int .i64 (i.2:Int))]) (fun i=>⟨[],[]⟩) ?_ (l,0) ⟨rfl,h⟩)
 rintro⟨rest,k⟩ ⟨h1,h⟩ IH
 dsimp only at h1 h
 cases rest with
 |nil=>
  have hD:=drop_nil h1
  simp only[uW]at h
  exact iX trivial
 |cons a rest=>
  obtain⟨hZ,g2,hD,g4⟩:=drop_cons h1
  have aV:k<4611686018427387904:=by omega
  simp only[uW]at h
  repeat' (first
 |simp only[go_sem,hD,hZ,gC,gD]
 |(with_reducible first|refine fv fun hc=>?_|refine fw fun hc=>?_|refine fx (fun hc=>?_) fun hc=>?_)<;>(try simp only[hc,bs,↓reduceIte]at h)<;>try simp only[hc]
 |((with_reducible refine aX hQ ?_);exact oA))
  refine cr 0 0 ?_ ?_ (IH (rest,k+1) ⟨g2,h⟩ (zae _))
  ·(simp only[go_sem,hD,hZ,gC,gD,ak aV];try exact aQ)
  ·(simp only[go_sem,hD,hZ,gC,gD,ak aV];try exact aQ)
theorem HF {l:List aD} (hl:l.length<4611686018427387904) (g:Tag) (s:St):ay Tryz.prog 98 [.slice g 1 (l.map encStr)] s (.bool (eI l)) s:=by
 refine ay.Pz (d':= .slice .shared 1 (l.map encStr)) ?_ (Wk.shared _ _ _)
 refine ay.pure ?_ (by simp[D.bJ,D.ok,Tag.ok,dv]) rfl s
 generalize h:eI l=p
 simp only[eI]at h
 unfold S0
 refine ay.go IZ.h rfl fun B Q hB hQ=>?_
 have⟨hD,hZ,gC,gD⟩:=bc
 refine bT trivial ?_
 refine dg 0 0 (aJ.ind (ι:=List aD×Nat) (fun i=>l.drop i.2=i.1∧qU (l.take i.2) i.1=p) (fun i=>i.1.length)
  (fun i=> [(0, .slice .shared 1 (l.map encStr)),(5, .slice .shared 1 (l.map encStr)),(6, .int .i64 (l.length:Int)),(7, .int .i64 (i.2:Int))]) (fun i=>⟨[],[]⟩) ?_ (l,0) ⟨rfl,h⟩)
 rintro⟨rest,k⟩ ⟨h1,h⟩ IH
 dsimp only at h1 h
 cases rest with
 |nil=>
  have hD:=drop_nil h1
  simp only[qU]at h
  exact iX trivial
 |cons a rest=>
  obtain⟨hZ,g2,hD,g4⟩:=drop_cons h1
  have aV:k<4611686018427387904:=by omega
  simp only[qU]at h
  have hc:=la (l:=l.take k) (by rw[zbR];omega) a
  have e1:List.drop 0 (List.take k (l.map encStr))=(l.take k).map encStr:=by simp[List.map_take]
  have c1:((0:Int)≤(k:Int))=True:=by simp
  have c2:((k:Int)≤(l.length:Int))=True:=by simp only[eq_iff_iff,iff_true];omega
  have e2:List.take k (l.map encStr)=(l.take k).map encStr:=by simp[List.map_take]
  repeat' (first
 |simp only[go_sem,hD,hZ,gC,gD,e1,e2,c1,c2,or_true,true_and,and_self,ite_self,zaW,List.drop_zero]
 |(with_reducible refine CU (hc _ _) ?_)
 |(with_reducible first|refine fv fun hc=>?_|refine fw fun hc=>?_|refine fx (fun hc=>?_) fun hc=>?_)<;>(try simp only[hc,bs,↓reduceIte]at h)<;>try simp only[hc]
 |((with_reducible refine aX hQ ?_);(try cases h);simp only[bZ,cd,dn,dq,go_sem,hD,hZ,gC,gD,e1,e2,c1,c2,or_true,true_and,and_self,ite_self,zaW,List.drop_zero];try exact kI))
  refine cr 0 0 ?_ ?_ (IH (rest,k+1) ⟨g2,by dsimp only;rw[z6 (by assumption)];exact h⟩ (zae _))
  ·(simp only[go_sem,hD,hZ,gC,gD,ak aV];try exact aQ)
  ·(simp only[go_sem,hD,hZ,gC,gD,ak aV];try exact aQ)
theorem yP {l:List aD} (hl:l.length<4611686018427387904) (g:Tag) (s:St):ay Tryz.prog 112 [.slice g 1 (l.map encStr)] s (.bool (eI l)) s:=by
 refine ay.Pz (d':= .slice .shared 1 (l.map encStr)) ?_ (Wk.shared _ _ _)
 refine ay.pure ?_ (by simp[D.bJ,D.ok,Tag.ok,dv]) rfl s
 generalize h:eI l=p
 simp only[eI]at h
 unfold S0
 refine ay.go Ku.h rfl fun B Q hB hQ=>?_
 have⟨hD,hZ,gC,gD⟩:=bc
 refine bT trivial ?_
 refine dg 0 0 (aJ.ind (ι:=List aD×Nat) (fun i=>l.drop i.2=i.1∧qU (l.take i.2) i.1=p) (fun i=>i.1.length)
  (fun i=> [(0, .slice .shared 1 (l.map encStr)),(6, .int .i64 (l.length:Int)),(7, .int .i64 (i.2:Int))]) (fun i=>⟨[],[]⟩) ?_ (l,0) ⟨rfl,h⟩)
 rintro⟨rest,k⟩ ⟨h1,h⟩ IH
 dsimp only at h1 h
 cases rest with
 |nil=>
  have hD:=drop_nil h1
  simp only[qU]at h
  exact iX trivial
 | cons a rest=>
  obtain⟨hZ,g2,hD,g4⟩:=drop_cons h1
  have aV:k<4611686018427387904:=by omega
  have hgk:=hZ
  simp only[qU]at h
  refine bT trivial ?_
  obtain⟨q,hq⟩ : ∃ q,HE a (l.take k)=q:=⟨_,rfl⟩
  rw[← PJ,hq]at h
  refine dg 0 0 (aJ.ind (ι:=List aD×Nat) (fun i=>(l.take k).drop i.2=i.1∧HE a i.1=q∧i.2≤k) (fun i=>i.1.length)
   (fun i=> [(0, .slice .shared 1 (l.map encStr)),(3, .int .i64 (k:Int)),(4, .int .i64 (i.2:Int)),(6, .int .i64 (l.length:Int)),(7, .int .i64 (k:Int))]) (fun i=>⟨[],[]⟩) ?_ (l.take k,0) ⟨rfl,hq,zaA _⟩)
  rintro⟨qu,j⟩ ⟨j1,j2,j3⟩ rn
  dsimp only at j1 j2 j3
  cases qu with
  |nil=>
   have hj:j=k:=by have:=zaI.1 j1;rw[zbR]at this;omega
   subst hj
   simp only[HE]at j2
   subst j2
   simp only[zab,if_false]at h
   refine bT (eK @Int.lt_irrefl decide_false) ?_
   refine cr 0 0 ?_ ?_ (IH (rest,j+1) ⟨g2,by dsimp only;rw[z6 hgk];exact h⟩ (zae _))
   ·(simp only[go_sem,hD,hZ,gC,gD,ak aV];try exact aQ)
   ·(simp only[go_sem,hD,hZ,gC,gD,ak aV];try exact aQ)
  | cons b qu=>
   obtain⟨fm,ph,jo,Jj⟩:=drop_cons j1
   have sO:j<k:=by rw[zbR]at Jj;omega
   have gN:j<4611686018427387904:=by omega
   have xG:l[j]? = some b:=by rw[zaY]at fm;simpa[sO]using fm
   have hlj:decide ((j:Int)<(k:Int))=true:=by simp;omega
   have hZ':=xG
   simp only[HE]at j2
   cases yK:(a==b)
   ·simp only [yK,zab,if_false]at j2
    refine bT (ql hlj xG hgk yK) ?_
    refine cr 0 0 ?_ ?_ (rn (qu,j+1) ⟨ph,j2,sO⟩ (zae _))
    ·(simp only[go_sem,hD,hZ,gC,gD,ak gN];try exact aQ)
    ·(simp only[go_sem,hD,hZ,gC,gD,ak gN];try exact aQ)
   ·simp only [yK,if_true]at j2
    subst j2
    simp only[if_true]at h
    exact iX (ql hlj xG hgk yK)
theorem gQ (a b:Int) (s:St):ay Tryz.prog 110 [.int .i64 a, .int .i64 b] s (.agg [.int .i64 a, .int .i64 b]) s:=by
 refine ay.pure ?_ rfl rfl s
 unfold S0
 refine ay.go Ks.h rfl fun B Q hB hQ=>?_
 have⟨hD,hZ,gC,gD⟩:=bc
 exact dR trivial
def uX (vars globals:List aD) (name:aD):List Pm→Int
 | []=>if dZ vars name then 4 else if dZ globals name then 1 else 0
 |a::l=>if a.name==name then(if a.ref then 3 else 2)else uX vars globals name l
def Pc.kV (p:Pg) (f:Pc) (name:aD):Int:=uX f.vars p.globals name f.params
theorem PK {p:Pg} {f:Pc} (hp:f.params.length<1000000000) (hv:f.vars.length<1000000000) (hg:p.globals.length<1000000000) (name:aD) (s:St):ay Tryz.prog 138 [.agg (bG p), .agg (bP f), .str name] s (.int .i64 (f.kV p name)) s:=by
 refine ay.pure ?_ (by simp[D.bJ,D.ok,fW,tT]) rfl s
 have qk:=la (l:=f.vars) (by omega) name
 have ui:=la (l:=p.globals) (by omega) name
 generalize h:f.kV p name=q
 simp only[Pc.kV]at h
 unfold S0
 refine ay.go KE.h rfl fun B Q hB hQ=>?_
 have⟨hD,hZ,gC,gD⟩:=bc
 refine bT trivial ?_
 refine dg 2 0 (aJ.ind (ι:=List Pm×Nat) (fun i=>f.params.drop i.2=i.1∧uX f.vars p.globals name i.1=q) (fun i=>i.1.length)
  (fun i=> [(2, .str name),(3, .ptr 0 0),(4, .ptr 1 0),(10, .slice .shared 2 (f.params.map fc)),(11, .int .i64 (f.params.length:Int)),(12, .int .i64 (i.2:Int))]) (fun i=>⟨[bG p,bP f],[]⟩) ?_ (f.params,0) ⟨rfl,h⟩)
 rintro⟨rest,k⟩ ⟨h1,h⟩ IH
 dsimp only at h1 h
 cases rest with
 | nil=>
  have hD:=drop_nil h1
  simp only[uX]at h
  rcases zaa (dZ f.vars name)with b1|b1
  ·simp only [b1,if_true]at h
   subst h
   exact pT b1 qk ui
  ·simp only [b1,zab,if_false]at h
   rcases zaa (dZ p.globals name)with b2|b2
   ·simp only [b2,if_true]at h
    subst h
    exact pT (eK b1 b2) qk ui
   ·simp only [b2,zab,if_false]at h
    subst h
    exact pT (eK b1 b2) qk ui
 | cons a rest=>
  obtain⟨hZ,g2,hD,g4⟩:=drop_cons h1
  have aV:k<4611686018427387904:=by omega
  simp only[uX]at h
  rcases zaa (a.name==name)with b1|b1
  ·simp only [b1,if_true]at h
   rcases zaa a.ref with b2|b2
   ·simp only [b2,if_true]at h
    subst h
    exact dR (eK b1 b2)
   ·simp only [b2,zab,if_false]at h
    subst h
    exact dR (eK b1 b2)
  ·simp only [b1,zab,if_false]at h
   refine bT b1 ?_
   refine cr 2 0 ?_ ?_ (IH (rest,k+1) ⟨g2,h⟩ (zae _))
   ·(simp only[go_sem,hD,hZ,gC,gD,ak aV];try exact aQ)
   ·(simp only[go_sem,hD,hZ,gC,gD,ak aV];try exact aQ)
theorem RK {p:Pg} {f:Pc} (hp:f.params.length<1000000000) (hv:f.vars.length<1000000000) (hg:p.globals.length<1000000000) (name:aD) (s:St):ay Tryz.prog 115 [.agg (bG p), .agg (bP f), .str name] s (.int .i64 (f.kV p name)) s:=by
 refine ay.pure ?_ (by simp[D.bJ,D.ok,fW,tT]) rfl s
 have qk:=xm (l:=f.vars) (by omega) name
 have ui:=xm (l:=p.globals) (by omega) name
 generalize h:f.kV p name=q
 simp only[Pc.kV]at h
 unfold S0
 refine ay.go Nf.h rfl fun B Q hB hQ=>?_
 have⟨hD,hZ,gC,gD⟩:=bc
 refine bT trivial ?_
 refine dg 2 0 (aJ.ind (ι:=List Pm×Nat) (fun i=>f.params.drop i.2=i.1∧uX f.vars p.globals name i.1=q) (fun i=>i.1.length)
  (fun i=> [(2, .str name),(3, .ptr 0 0),(4, .ptr 1 0),(10, .slice .shared 2 (f.params.map fc)),(11, .int .i64 (f.params.length:Int)),(12, .int .i64 (i.2:Int))]) (fun i=>⟨[bG p,bP f],[]⟩) ?_ (f.params,0) ⟨rfl,h⟩)
 rintro⟨rest,k⟩ ⟨h1,h⟩ IH
 dsimp only at h1 h
 cases rest with
 | nil=>
  have hD:=drop_nil h1
  simp only[uX]at h
  rcases zaa (dZ f.vars name)with b1|b1
  ·simp only [b1,if_true]at h
   subst h
   exact pT b1 qk ui
  ·simp only [b1,zab,if_false]at h
   rcases zaa (dZ p.globals name)with b2|b2
   ·simp only [b2,if_true]at h
    subst h
    exact pT (eK b1 b2) qk ui
   ·simp only [b2,zab,if_false]at h
    subst h
    exact pT (eK b1 b2) qk ui
 | cons a rest=>
  obtain⟨hZ,g2,hD,g4⟩:=drop_cons h1
  have aV:k<4611686018427387904:=by omega
  simp only[uX]at h
  rcases zaa (a.name==name)with b1|b1
  ·simp only [b1,if_true]at h
   rcases zaa a.ref with b2|b2
   ·simp only [b2,if_true]at h
    subst h
    exact dR (eK b1 b2)
   ·simp only [b2,zab,if_false]at h
    subst h
    exact dR (eK b1 b2)
  ·simp only [b1,zab,if_false]at h
   refine bT b1 ?_
   refine cr 2 0 ?_ ?_ (IH (rest,k+1) ⟨g2,h⟩ (zae _))
   ·(simp only[go_sem,hD,hZ,gC,gD,ak aV];try exact aQ)
   ·(simp only[go_sem,hD,hZ,gC,gD,ak aV];try exact aQ)
def iB (name:aD):List Pc→Option Pc
 | []=>none
 |f::l=>if f.name==name then some f else iB name l
def Pg.find (p:Pg) (name:aD):Option Pc:=iB name p.procs
def pc0:Pc:=⟨[],[],[],[],[]⟩
theorem PN:bP pc0 = [.str [], .slice .shared 2 [], .slice .shared 1 [], .slice .shared 13 [], .slice .shared 1 []]:=nd rfl
def lk (r:Option Pc):D:= .tuple [.agg (bP (r.getD pc0)), .bool r.isSome]
theorem ajk (r:Option Pc):D.ok 0 0 (lk r)=true:=by simp[lk,D.ok,D.bJ,tT]
theorem Yy (f:Pc):bP f = [.str f.name, .slice .shared 2 (f.params.map fc), .slice .shared 1 (f.vars.map encStr), .slice .shared 13 (f.body.map aO), .slice .shared 1 (f.fin.map encStr)]:=nd rfl
theorem FI {p:Pg} (hl:p.procs.length<1000000000) (name:aD) (s:St):ay Tryz.prog 111 [.agg (bG p), .str name] s (lk (p.find name)) s:=by
 refine ay.pure ?_ (by simp[D.bJ,D.ok,fW]) (ajk _) s
 unfold Pg.find
 generalize h:iB name p.procs=q
 unfold S0
 refine ay.go Kt.h rfl fun B Q hB hQ=>?_
 have⟨hD,hZ,gC,gD⟩:=bc
 refine bT @Yy ?_
 refine dg 2 0 (aJ.ind (ι:=List Pc×Nat) (fun i=>p.procs.drop i.2=i.1∧iB name i.1=q) (fun i=>i.1.length)
  (fun i=> [(1, .str name),(4, .ptr 1 0),(9, .slice .shared 5 (p.procs.map bP)),(10, .int .i64 (p.procs.length:Int)),(11, .int .i64 (i.2:Int))]) (fun i=>⟨[bG p,[.str [], .slice .full 0 [], .slice .full 0 [], .slice .full 0 [], .slice .full 0 []]],[]⟩) ?_ (p.procs,0) ⟨rfl,h⟩)
 rintro⟨rest,k⟩ ⟨h1,h⟩ IH
 dsimp only at h1 h
 cases rest with
 |nil=>
  have hD:=drop_nil h1
  simp only[iB]at h
  subst h
  repeat' (first
 |simp only[go_sem,hD,hZ,gC,gD,lk,zbJ,zbK,PN]
 |(with_reducible first|refine fv fun hc=>?_|refine fw fun hc=>?_|refine fx (fun hc=>?_) fun hc=>?_)<;>(try simp only[hc,bs,↓reduceIte]at h)<;>try simp only[hc]
 |(with_reducible refine aX hQ ?_;simp only[bZ,cd,dn,dq,go_sem,hD,hZ,gC,gD,lk,zbJ,zbK,PN];try exact kI))
 | cons a rest=>
  obtain⟨hZ,g2,hD,g4⟩:=drop_cons h1
  have aV:k<4611686018427387904:=by omega
  simp only[iB]at h
  rcases zaa (a.name==name)with b1|b1
  ·simp only [b1,if_true]at h
   subst h
   repeat' (first
 |simp only[go_sem,hD,hZ,gC,gD,b1,lk,zbo,zbv]
 |(with_reducible first|refine fv fun hc=>?_|refine fw fun hc=>?_|refine fx (fun hc=>?_) fun hc=>?_)<;>(try simp only[hc,bs,↓reduceIte]at h)<;>try simp only[hc]
 | (with_reducible refine aX hQ ?_;simp only [bZ,cd,dn,dq,go_sem,hD,hZ,gC,gD,b1,lk,zbo,zbv];try exact kI))
  ·simp only [b1,zab,if_false]at h
   refine bT b1 ?_
   refine cr 2 0 ?_ ?_ (IH (rest,k+1) ⟨g2,h⟩ (zae _))
   ·(simp only[go_sem,hD,hZ,gC,gD,ak aV];try exact aQ)
   ·(simp only[go_sem,hD,hZ,gC,gD,ak aV];try exact aQ)
def Pc.mg (f:Pc):List aD:=f.params.map (·.name)
def Pc.own (f:Pc):List aD:=f.mg++f.vars
theorem aeo {f:Pc} (hp:f.params.length<1000000) (hv:f.vars.length<1000000) (s:St):ay Tryz.prog 89 [.agg (bP f)] s (.slice .shared 1 (f.own.map encStr)) s:=by
 refine ay.pure ?_ (by simp[D.bJ,D.ok,tT]) (by simp only[D.ok,Tag.ok,dv];rfl) s
 generalize hR:f.own=R
 simp only[Pc.own]at hR
 unfold S0
 refine ay.go M6.h rfl fun B Q hB hQ=>?_
 have⟨hD,hZ,gC,gD⟩:=bc
 refine bT trivial ?_
 refine aJ.lA 3 1 rfl ?_
 simp only[go_sem,hD,hZ,gC,gD]
 refine dg 1 1 (aJ.ind (ι:=List Pm×Nat×List aD×Nat) (fun i=>f.params.drop i.2.1=i.1∧i.2.2.1++i.1.map (·.name)=f.mg∧i.2.2.2=i.2.2.1.length) (fun i=>i.1.length)
  (fun i=> [(1, .ptr 0 0),(3, .slice (.tok 0) 1 (i.2.2.1.map encStr)),(7, .slice .shared 2 (f.params.map fc)),(8, .int .i64 (f.params.length:Int)),(9, .int .i64 (i.2.1:Int))]) (fun i=>⟨[bP f],[some i.2.2.2]⟩) ?_ (f.params,0,[],0) ⟨rfl,rfl,rfl⟩)
 rintro⟨rest,k,out,n⟩ ⟨h1,h2,h3⟩ IH
 dsimp only at h1 h2 h3
 subst h3
 have hlo:out.length+rest.length<1000000:=by
  have:=congrArg List.length h2
  simp only[zal,zau,Pc.mg]at this
  omega
 cases rest with
 |nil=>
  have hD:=drop_nil h1
  simp only[zaj,zaF]at h2
  subst hR
  rw[← h2]at hQ
  have dc:=fF (l:=out) (nx:=f.vars) rfl (by omega) (g:= .shared)
  exact dR dc
 |cons a rest=>
  obtain⟨hZ,g2,hD,g4⟩:=drop_cons h1
  have aV:k<4611686018427387904:=by omega
  have gC:(out.length+1)*17≤aT:=by unfold aT;omega
  refine bT trivial ?_
  refine cr 1 1 ?_ ?_ (IH (rest,k+1,out++ [a.name],out.length+1) ⟨g2,by rw[← h2];simp,by simp⟩ (zae _))
  ·(simp only[go_sem,hD,hZ,gC,gD,ak aV,zag,zaf,zaj,encStr];try exact aQ)
  ·(simp only[go_sem,hD,hZ,gC,gD,ak aV,zag,zaf,zaj,encStr];try exact aQ)
theorem ab3 {f:Pc} (hp:f.params.length<1000000) (s:St):ay Tryz.prog 113 [.agg (bP f)] s (.slice .shared 1 (f.mg.map encStr)) s:=by
 refine ay.pure ?_ (by simp[D.bJ,D.ok,tT]) (by simp only[D.ok,Tag.ok,dv];rfl) s
 generalize hR:f.mg=R
 unfold S0
 refine ay.go I4.h rfl fun B Q hB hQ=>?_
 have⟨hD,hZ,gC,gD⟩:=bc
 refine bT trivial ?_
 refine aJ.lA 3 1 rfl ?_
 simp only[go_sem,hD,hZ,gC,gD]
 refine dg 1 1 (aJ.ind (ι:=List Pm×Nat×List aD×Nat) (fun i=>f.params.drop i.2.1=i.1∧i.2.2.1++i.1.map (·.name)=R∧i.2.2.2=i.2.2.1.length∧i.2.2.1.length+i.1.length=f.params.length) (fun i=>i.1.length)
  (fun i=> [(1, .ptr 0 0),(3, .slice (.tok 0) 1 (i.2.2.1.map encStr)),(7, .slice .shared 2 (f.params.map fc)),(8, .int .i64 (f.params.length:Int)),(9, .int .i64 (i.2.1:Int))]) (fun i=>⟨[bP f],[some i.2.2.2]⟩) ?_ (f.params,0,[],0) ⟨rfl,hR,rfl,by simp⟩)
 rintro⟨rest,k,out,n⟩ ⟨h1,h2,h3,h4⟩ IH
 dsimp only at h1 h2 h3 h4
 subst h3
 cases rest with
 |nil=>
  have hD:=drop_nil h1
  simp only[zaj,zaF]at h2
  subst h2
  exact dR trivial
 |cons a rest=>
  obtain⟨hZ,g2,hD,g4⟩:=drop_cons h1
  have aV:k<4611686018427387904:=by omega
  simp only[zas]at h4
  have gC:(out.length+1)*17≤aT:=by unfold aT;omega
  refine bT trivial ?_
  refine cr 1 1 ?_ ?_ (IH (rest,k+1,out++ [a.name],out.length+1) ⟨g2,by rw[← h2];simp,by simp,by simp;omega⟩ (zae _))
  ·(simp only[go_sem,hD,hZ,gC,gD,ak aV,zag,zaf,zaj,encStr];try exact aQ)
  ·(simp only[go_sem,hD,hZ,gC,gD,ak aV,zag,zaf,zaj,encStr];try exact aQ)
def jq:aD:= [109,97,105,110]
def Sm.known (p:Pg) (f:Pc) (procs:List aD) (v:Sm):Bool:=
 !(v.said.any fun n=>f.kV p n==0) && (v.kind != 4 ||(v.proc != jq && dZ procs v.proc))
structure Pc.Small (p:Pg) (f:Pc):Prop where
 par:f.params.length<1000000
 vars:f.vars.length<1000000
 sV:p.globals.length<1000000
def wy (p:Pg) (f:Pc):List aD→Bool
 | []=>true
 |n::l=>if f.kV p n==0 then false else wy p f l
theorem EN (p:Pg) (f:Pc) : ∀ l,wy p f l = !(l.any fun n=>f.kV p n==0)
 | []=>rfl
 |n::l=>by
  simp only[wy,List.any_cons,EN p f l]
  cases (f.kV p n==0)<;>simp
theorem CY (v:Sm) (h:v.mQ):v.said.length<3000000:=by
 have : ∀ (l:List Ar) (out:List aD),(Ar.said out l).length≤out.length+2*Ar.bB l:=by
  intro l
  induction l with
  |nil=>intro out;simp[Ar.said]
  |cons a l ih=>
   intro out
   simp only[Ar.said,Ar.bB]
   refine zaZ (ih _) ?_
   have:=iZ a.x
   have:1≤a.x.size:=by obtain⟨_,_,_,_⟩:=a.x;simp[Ex.size]
   simp only[zal]
   split<;>simp<;>omega
 have h1:=this v.args (v.tG++v.x.names)
 have h2:=iZ v.x
 have h3:=h.2.2
 have h4:v.tG.length≤1:=by unfold Sm.tG;split<;>simp
 simp only[zal]at h1
 unfold Sm.said
 omega
theorem agj {p:Pg} {f:Pc} {procs:List aD} {v:Sm} (hs:f.Small p) (sb:procs.length<1000000) (hv:v.mQ) (s:St):ay Tryz.prog 101 [.agg (bG p), .agg (bP f), .slice .shared 1 (procs.map encStr), .agg (aO v)] s (.bool (v.known p f procs)) s:=by
 refine ay.pure ?_ (by simp[D.bJ,D.ok,fW,tT,nN,Tag.ok,dv]) rfl s
 have hn:=fun s=>EK hv s
 have hk:=fun n s=>PK (p:=p) (f:=f) (by have:=hs.par;omega) (by have:=hs.vars;omega) (by have:=hs.sV;omega) n s
 have ajl:=la (l:=procs) (by omega) v.proc
 have hl:=CY v hv
 generalize h:v.known p f procs=q
 simp only[Sm.known, ← EN]at h
 unfold S0
 refine ay.go I0.h rfl fun B Q hB hQ=>?_
 have⟨hD,hZ,gC,gD⟩:=bc
 repeat' (first
 |simp only[go_sem,hD,hZ,gC,gD]
 |(with_reducible refine CU (hn _) ?_)
 |(with_reducible refine aX hQ ?_;exact bK))
 refine dg 3 0 (aJ.ind (ι:=List aD×Nat) (fun i=>v.said.drop i.2=i.1∧(wy p f i.1 && (v.kind != 4 ||(v.proc != jq && dZ procs v.proc)))=q) (fun i=>i.1.length)
  (fun i=> [(2, .slice .shared 1 (procs.map encStr)),(4, .ptr 0 0),(5, .ptr 1 0),(7, .ptr 2 0),(12, .slice .shared 1 (v.said.map encStr)),(13, .int .i64 (v.said.length:Int)),(14, .int .i64 (i.2:Int))]) (fun i=>⟨[bG p,bP f,aO v],[]⟩) ?_ (v.said,0) ⟨rfl,h⟩)
 rintro⟨rest,k⟩ ⟨h1,h⟩ IH
 dsimp only at h1 h
 cases rest with
 | nil=>
  have hD:=drop_nil h1
  simp only[wy,zbf]at h
  rcases zaa (v.kind != 4)with b1|b1
  ·simp only [b1,zbk]at h
   subst h
   exact dR b1
  ·simp only [b1,zbj]at h
   rcases zaa (v.proc != jq)with b2|b2
   ·simp only [b2,zbf]at h
    unfold jq at b2
    have b3:(v.proc == [109,97,105,110]) = !(v.proc != [109,97,105,110]):=by simp only[bne,zbS]
    rw[b2]at b3
    simp only[zav,zax]at b3
    subst h
    exact jn (ly b1 b2 b3) ajl
   ·simp only [b2,zaN]at h
    unfold jq at b2
    have b3:(v.proc == [109,97,105,110]) = !(v.proc != [109,97,105,110]):=by simp only[bne,zbS]
    rw[b2]at b3
    simp only[zav,zax]at b3
    subst h
    exact jn (ly b1 b2 b3) ajl
 | cons a rest=>
  obtain⟨hZ,g2,hD,g4⟩:=drop_cons h1
  have aV:k<4611686018427387904:=by omega
  simp only[wy]at h
  rcases zaa (f.kV p a==0)with b1|b1
  ·simp only [b1,if_true,zaN]at h
   subst h
   exact jn b1 hk
  ·simp only [b1,zab,if_false]at h
   repeat' (first
 |simp only[go_sem,hD,hZ,gC,gD,b1]
 |(with_reducible refine CU (hk _ _) ?_)
 | (with_reducible refine aX hQ ?_;exact bK))
   refine cr 3 0 ?_ ?_ (IH (rest,k+1) ⟨g2,h⟩ (zae _))
   ·(simp only[go_sem,hD,hZ,gC,gD,ak aV];try exact aQ)
   ·(simp only[go_sem,hD,hZ,gC,gD,ak aV];try exact aQ)
theorem Sw : ∀ (l pre:List aD),qU pre l=true↔(∃ x∈l,x∈pre)∨¬ l.Nodup
 | [],pre=>by simp[qU]
 | s::l,pre=>by
  simp only[qU]
  by_cases h:dZ pre s=true
  ·simp only [h,if_true,true_iff]
   exact .inl ⟨s,zaz,(il _ _).1 h⟩
  ·have h':s∉pre:=fun m=>h ((il _ _).2 m)
   simp only[h,if_false,zab]
   rw[Sw l (pre++ [s])]
   simp only[zar,zaJ,zaq,za4,exists_eq_or_imp]
   constructor
   ·rintro(⟨x,m,h1 | h1⟩ | h1)
    ·exact .inl (.inr ⟨x,m,h1⟩)
    ·have h1:x=s:=by simpa using h1
     subst h1;exact .inr fun h=>h.1 m
    ·exact .inr fun h=>h1 h.2
   ·rintro((h1 | ⟨x,m,h1⟩) | h1)
    ·exact absurd h1 h'
    ·exact .inl ⟨x,m, .inl h1⟩
    ·by_cases m:s∈l
     ·exact .inl ⟨s,m, .inr (.inl rfl)⟩
     ·exact .inr fun h=>h1 ⟨m,h⟩
theorem Md (l:List aD):eI l=true↔¬ l.Nodup:=by
 unfold eI;rw[Sw];simp
theorem Yz (a b:List aD):eI (a++b)=(eI a ||(eI b ||b.any (dZ a))):=by
 have h:eI (a++b)=true↔(eI a ||(eI b ||b.any (dZ a)))=true:=by
  rw[Md,za8]
  simp only[zaD,Md,List.any_eq_true,il]
  constructor
  ·intro h
   by_cases ha:a.Nodup
   ·by_cases hb:b.Nodup
    ·refine .inr (.inr (Classical.byContradiction fun hn=>h ⟨ha,hb,fun x hx y hy e=>hn ⟨y,hy,e ▸ hx⟩⟩))
    ·exact .inr (.inl hb)
   ·exact .inl ha
  ·rintro(h | h | ⟨x,h1,h2⟩) ⟨h3,h4,h5⟩
   ·exact h h3
   ·exact h h4
   ·exact h5 x h2 x h1 rfl
 cases h1:eI (a++b)<;>cases h2:(eI a ||(eI b ||b.any (dZ a)))<;>simp_all
theorem PO (name:aD) : ∀ (l:List Pc) (k:Nat),(iB name l=none∧gi name (k:Int) (l.map (·.name)) = -1)∨∃ f j,iB name l=some f∧l[j]? = some f∧gi name (k:Int) (l.map (·.name))=((k+j:Nat):Int)
 | [],k=> .inl ⟨rfl,rfl⟩
 | f::l,k=>by
  by_cases h:f.name=name
  ·subst h
   refine .inr ⟨f,0,by simp[iB],rfl,by simp[gi]⟩
  ·have h1:(f.name==name)=false:=by simp [h]
   have h2:(name==f.name)=false:=by simp[Ne.symm h]
   simp only[iB,h1,zab,if_false,zaf,gi,h2]
   rcases PO name l (k+1)with ⟨g1,g2⟩|⟨g,j,g1,g2,g3⟩
   ·exact .inl ⟨g1,by rw[← g2];rfl⟩
   ·refine .inr ⟨g,j+1,g1,by simpa using g2, ?_⟩
    rw[show((k:Int)+1)=((k+1:Nat):Int)from rfl,g3]
    congr 1;omega
theorem o5 {name:aD} {f:Pc} : ∀ {l:List Pc},iB name l=some f→f∈l∧f.name=name
 |g::l,h=>by
  simp only[iB]at h
  split at h
  ·rename_i e;cases h;exact⟨zaz,by simpa using e⟩
  ·have:=o5 h;exact⟨zan _ this.1,this.2⟩
mutual
theorem YA (deep bp:Int) (aH:Bool) (out:List It) : ∀ s:Sm,∃ e,ix deep bp aH out s=out++e
 | ⟨id,kind,labels,name,proc,x,has,args,aY,e⟩=>by
  simp only[ix]
  split
  ·obtain⟨e1,h1⟩:=sc (deep+1) id false (out++ [⟨⟨id,kind,labels,name,proc,x,has,args,aY,e⟩,deep,bp,aH⟩]) aY
   obtain⟨e2,h2⟩:=sc (deep+1) id true (dT (deep+1) id false (out++ [⟨⟨id,kind,labels,name,proc,x,has,args,aY,e⟩,deep,bp,aH⟩]) aY) e
   rw[h2,h1]
   exact⟨_,by rw[zaB,zaB]⟩
  ·exact⟨_,rfl⟩
theorem sc (deep bp:Int) (aH:Bool) (out:List It) : ∀ l:List Sm,∃ e,dT deep bp aH out l=out++e
 | []=>⟨[],by simp[dT]⟩
 | s::l=>by
  simp only[dT]
  split
  ·obtain⟨e1,h1⟩:=YA deep bp aH out s
   obtain⟨e2,h2⟩:=sc deep bp aH (ix deep bp aH out s) l
   rw[h2,h1]
   exact⟨_,by rw[zaB]⟩
  ·exact⟨[],by simp⟩
end
mutual
theorem YB (deep bp:Int) (aH:Bool) (out:List It) : ∀ s:Sm,(ix deep bp aH out s).length≤200→(∀ i∈ix deep bp aH out s,i.deep≤12)→(ix deep bp aH out s).map It.s=out.map It.s++s.pre
 | ⟨id,kind,labels,name,proc,x,has,args,aY,e⟩,h1,h2=>by
  simp only[ix,Sm.pre]at h1 h2 ⊢
  by_cases hd:deep≤12
  ·simp only [hd,decide_true,if_true]at h1 h2 ⊢
   obtain⟨e2,g2⟩:=sc (deep+1) id true (dT (deep+1) id false (out++ [⟨⟨id,kind,labels,name,proc,x,has,args,aY,e⟩,deep,bp,aH⟩]) aY) e
   have k1:(dT (deep+1) id false (out++ [⟨⟨id,kind,labels,name,proc,x,has,args,aY,e⟩,deep,bp,aH⟩]) aY).length≤200:=by
    rw[g2,zal]at h1;omega
   have k2 : ∀ i∈dT (deep+1) id false (out++ [⟨⟨id,kind,labels,name,proc,x,has,args,aY,e⟩,deep,bp,aH⟩]) aY,i.deep≤12:=fun i m=>h2 i (by rw[g2];exact zaK _ m)
   rw[z7 (deep+1) id true _ e h1 h2,z7 (deep+1) id false _ aY k1 k2]
   simp
  ·simp only [hd,decide_false,zab,if_false]at h1 h2
   exact absurd (h2 _ (za7 _ (zaJ.2 rfl))) (by simpa using hd)
theorem z7 (deep bp:Int) (aH:Bool) (out:List It) : ∀ l:List Sm,(dT deep bp aH out l).length≤200→(∀ i∈dT deep bp aH out l,i.deep≤12)→(dT deep bp aH out l).map It.s=out.map It.s++Sm.cU l
 | [],h1,h2=>by simp[dT,Sm.cU]
 | s::l,h1,h2=>by
  simp only[dT,Sm.cU]at h1 h2 ⊢
  by_cases hc:(out.length:Int)≤200
  ·simp only [hc,decide_true,if_true]at h1 h2 ⊢
   obtain⟨e2,g2⟩:=sc deep bp aH (ix deep bp aH out s) l
   have k1:(ix deep bp aH out s).length≤200:=by rw[g2,zal]at h1;omega
   have k2 : ∀ i∈ix deep bp aH out s,i.deep≤12:=fun i m=>h2 i (by rw[g2];exact zaK _ m)
   rw[z7 deep bp aH _ l h1 h2,YB deep bp aH out s k1 k2]
   simp
  ·simp only [hc,decide_false,zab,if_false]at h1
   omega
end
theorem PQ : ∀ (l:List Pc) (out:List It),(allM out l).length≤200→(∀ i∈allM out l,i.deep≤12)→(∀ f∈l,f.flat.map It.s=Sm.cU f.body)∧(allM out l).map It.s=out.map It.s++(l.map fun f=>Sm.cU f.body).flatten
 | [],out,h1,h2=>⟨fun f m=>(by cases m),by simp[allM]⟩
 | f::l,out,h1,h2=>by
  simp only[allM]at h1 h2 ⊢
  by_cases hc:(((out++f.flat).length:Nat):Int) > 200
  ·simp only[hc,decide_true,if_true]at h1;omega
  ·simp only [hc,decide_false,zab,if_false]at h1 h2 ⊢
   obtain⟨k1,k2⟩:=PQ l (out++f.flat) h1 h2
   have kN : ∀ (l:List Pc) (out:List It),∃ e,allM out l=out++e:=by
    intro l
    induction l with
    |nil=>intro out;exact⟨[],by simp[allM]⟩
    |cons g l ih=>
     intro out
     simp only[allM]
     split
     ·exact⟨_,rfl⟩
     ·obtain⟨e,h⟩:=ih (out++g.flat);exact⟨g.flat++e,by rw[h];simp⟩
   obtain⟨e,he⟩:=kN l (out++f.flat)
   have k3:f.flat.map It.s=Sm.cU f.body:=by
    have:=z7 1 0 false [] f.body (by
     have:f.flat.length≤200:=by simp only[zal]at hc;omega
     exact this) (fun i m=>h2 i (by rw[he];exact zaK _ (za7 _ m)))
    simpa[Pc.flat]using this
   refine⟨fun g m=>?_, ?_⟩
   ·rcases zaq.1 m with rfl | m
    ·exact k3
    ·exact k1 g m
   ·rw[k2];simp[k3]
theorem Aa : ∀ (l:List It) (n:Nat),It.fh n l=true→(∀ i∈l,i.deep≤12)∧∀ (j:Nat) (i:It),l[j]? = some i→i.s.id=((n+j+1:Nat):Int)
 | [],n,h=>⟨fun i m=>(by cases m),fun j i h=>by simp at h⟩
 | a::l,n,h=>by
  simp only[It.fh]at h
  split at h
  ·cases h
  ·rename_i c
   simp only[zaD,not_or,bne_iff_ne,ne_eq,Decidable.not_not,decide_eq_true_eq,Int.not_lt,gt_iff_lt]at c
   obtain⟨k1,k2⟩:=Aa l (n+1) h
   refine⟨fun i m=>?_,fun j i hj=>?_⟩
   ·rcases zaq.1 m with rfl | m
    ·exact c.1.2
    ·exact k1 i m
   ·cases j with
    |zero=>simp at hj;subst hj;rw[c.1.1]
    |succ j=>simp at hj;rw[k2 j i hj];congr 1;omega
theorem vJ {p:Pg} (h:p.may=true):p.all.length≤200∧It.fh 0 p.all=true:=by
 unfold Pg.may at h
 split at h
 ·cases h
 ·split at h
  ·cases h
  ·split at h
   ·cases h
   ·rename_i c
    exact⟨by simp only[decide_eq_true_eq,Int.not_lt,gt_iff_lt]at c;omega,h⟩
theorem se {p:Pg} (h:p.may=true):(∀ f∈p.procs,f.flat.map It.s=Sm.cU f.body)∧p.all.map It.s=p.pre:=by
 obtain⟨h1,h2⟩:=vJ h
 have:=PQ p.procs [] h1 (Aa _ 0 h2).1
 simpa[Pg.pre,Pg.all]using this
theorem EO {p:Pg} (h:p.may=true) {i:Nat} {v:Sm} (hv:p.pre[i]? = some v):v.id=((i+1:Nat):Int):=by
 rw[← (se h).2,zap,zaw]at hv
 obtain⟨it,h1,rfl⟩:=hv
 have:=(Aa _ 0 (vJ h).2).2 i it h1
 rw[this];congr 1;omega
structure Pg.gb (p:Pg):Prop where
 PR:p.Jd
 sz:p.size≤900000
mutual
theorem ajm : ∀ s:Sm,s.wx→s.size<1000000→∀ v∈s.pre,v.mQ∧v.lB
 |⟨id,kind,labels,name,proc,x,has,args,aY,aH⟩,h,hs,v,m=>by
  simp only[Sm.wx]at h
  simp only[Sm.size]at hs
  simp only[Sm.pre,zaq,zar]at m
  rcases m with rfl|m|m
  ·exact⟨⟨h.1.xt,fun a ha=>(h.1.arg a ha).2.1,by dsimp only;omega⟩,h.1⟩
  ·exact FJ aY h.2.1 (by omega) v m
  ·exact FJ aH h.2.2 (by omega) v m
theorem FJ : ∀ l:List Sm,Sm.kK l→Sm.bB l<1000000→∀ v∈Sm.cU l,v.mQ∧v.lB
 | [],h,hs,v,m=>by simp[Sm.cU]at m
 |s::l,h,hs,v,m=>by
  simp only[Sm.kK]at h
  simp only[Sm.bB]at hs
  simp only[Sm.cU,zar]at m
  rcases m with m|m
  ·exact ajm s h.1 (by omega) v m
  ·exact FJ l h.2 (by omega) v m
end
theorem Pg.gb.said {p:Pg} (h:p.gb) {f:Pc} (hf:f∈p.procs) : ∀ v∈Sm.cU f.body,v.mQ:=fun v m=>by
 have h1:=Pc.cb hf
 have h2:=h.sz
 simp only[Pg.size]at h2
 simp only[Pc.size]at h1
 exact(FJ f.body (h.PR.body f hf) (by omega) v m).1
theorem Pg.gb.small {p:Pg} (h:p.gb) {f:Pc} (hf:f∈p.procs):f.Small p:=by
 have h1:=Pc.cb hf
 have h2:=h.sz
 simp only[Pg.size]at h2
 simp only[Pc.size]at h1
 exact⟨by omega,by omega,by omega⟩
theorem Pg.gb.procs {p:Pg} (h:p.gb):p.procs.length≤900000∧Pc.bB p.procs≤900000∧p.globals.length≤900000:=by
 have h2:=h.sz
 have h3:=Pc.dk p.procs
 simp only[Pg.size]at h2
 omega
def Pg.pn (p:Pg):List aD:=p.procs.map (·.name)
def xn (p:Pg) (f:Pc) (procs:List aD):List Sm→Option Sm
 | []=>none
 |v::l=>if v.known p f procs then xn p f procs l else some v
def tf (p:Pg) (procs:List aD):List Pc→Int×Int
 | []=>(0,0)
 |f::l=>if eI (p.globals++f.own)then(5,0)else match xn p f procs (Sm.cU f.body)with|some v=>(5,v.id)|none=>tf p procs l
def Pg.pZ (p:Pg):Bool:=match p.find jq with|none=>true|some m=>decide ((m.params.length:Int) > 0)
def Pg.scope (p:Pg):Int×Int:=
 if p.may then if eI p.globals ||(eI p.pn ||p.pZ)then(5,0)else tf p p.pn p.procs else(1,0)
theorem ab4 (p:Pg) (hl:p.globals.length<1000000) (n:aD):ay Tryz.prog 100 ([.str n]++ [.ptr 0 0]) ⟨[bG p],[]⟩ (.bool (dZ p.globals n)) ⟨[bG p],[]⟩:=by
 show ay Tryz.prog 100 [.str n, .ptr 0 0] _ _ _
 have sJ:=la (l:=p.globals) (by omega) n
 refine ay.go Ga.h rfl fun B Q hB hQ=>?_
 have⟨hD,hZ,gC,gD⟩:=bc
 exact jn trivial sJ
theorem aep (n m:Nat) (p:Pg):D.iI n m (gn p)=gn p:=jN n m _ (xl p)
attribute [go_sem] aep
theorem agk {p:Pg} {f:Pc} {procs:List aD} {v:Sm} (hs:f.Small p) (sb:procs.length<1000000) (hv:v.mQ) (g:Tag) (s:St):ay Tryz.prog 101 [.agg (bG p), .agg (bP f), .slice g 1 (procs.map encStr), .agg (aO v)] s (.bool (v.known p f procs)) s:=
 bk.mT (.cons (Wk.refl _) (.cons (Wk.refl _) (.cons (Wk.shared g 1 _) (jM.refl _)))) (agj hs sb hv s)
theorem yQ {p:Pg} (h:p.gb) (s:St):ay Tryz.prog 69 [.agg (bG p)] s (.agg [.int .i64 p.scope.1, .int .i64 p.scope.2]) s:=by
 refine ay.pure ?_ (by simp[D.bJ,D.ok,fW]) rfl s
 have hm:=fun s=>PF h.PR s
 simp only[FH]at hm
 obtain⟨nX,oE,mB⟩:=h.procs
 have dF:=fun s=>CP (p:=p) (by omega) s
 have pf:=fun s=>HF (l:=p.globals) (by omega) .shared s
 have hpn:p.pn.length=p.procs.length:=by simp[Pg.pn]
 have vv:=fun g s=>HF (l:=p.pn) (by omega) g s
 have GG:=fun g s=>(FE (l:=p.pn) (by omega) jq s).Pz (Wk.shared g 1 (p.pn.map encStr))
 have HG:=fun g s=>(show ay Tryz.prog 90 [.slice g 1 (p.pn.map encStr), .str [109,97,105,110]] s (.int .i64 (gi jq 0 p.pn)) s from GG g s)
 generalize hR:p.scope=R
 simp only[Pg.scope]at hR
 unfold S0
 rcases zaa p.may with hb|hb
 case inr=>
  simp only[hb]at hm
  simp only[hb,zab,if_false]at hR
  subst hR
  refine ay.go zQ.h rfl fun B Q hB hQ=>?_
  have⟨hD,hZ,gC,gD⟩:=bc
  exact jn trivial hm
 simp only[hb]at hm
 simp only[hb,if_true]at hR
 refine ay.go zQ.h rfl fun B Q hB hQ=>?_
 have⟨hD,hZ,gC,gD⟩:=bc
 repeat' (first
 |simp only[go_sem,hD,hZ,gC,gD]
 |(with_reducible refine CU (hm _) ?_)
 |(with_reducible refine aX hQ ?_;exact bK))
 refine aJ.lA 3 1 rfl ?_
 simp only[go_sem,hD,hZ,gC,gD]
 refine dg 2 1 (aJ.ind (ι:=List Pc×Nat×List aD×Nat) (fun i=>p.procs.drop i.2.1=i.1∧i.2.2.1++i.1.map (·.name)=p.pn∧i.2.2.2=i.2.2.1.length) (fun i=>i.1.length)
  (fun i=> [(1, .ptr 0 0),(2, .ptr 1 0),(3, .slice (.tok 0) 1 (i.2.2.1.map encStr)),(18, .slice .shared 5 (p.procs.map bP)),(19, .int .i64 (p.procs.length:Int)),(20, .int .i64 (i.2.1:Int))]) (fun i=>⟨[bG p,[.int .i64 0, .int .i64 0]],[some i.2.2.2]⟩) ?_ (p.procs,0,[],0) ⟨rfl,rfl,rfl⟩)
 rintro⟨rest,k,out,n⟩ ⟨h1,h2,h3⟩ IH
 dsimp only at h1 h2 h3
 subst h3
 have hlo:out.length+rest.length≤900000:=by
  have:=congrArg List.length h2
  simp only[zal,zau]at this
  omega
 cases rest with
 |cons a rest=>
  obtain⟨hZ,g2,hD,g4⟩:=drop_cons h1
  have aV:k<4611686018427387904:=by omega
  have gC:(out.length+1)*17≤aT:=by unfold aT;omega
  refine bT trivial ?_
  refine cr 2 1 ?_ ?_ (IH (rest,k+1,out++ [a.name],out.length+1) ⟨g2,by rw[← h2];simp,by simp⟩ (zae _))
  ·(simp only[go_sem,hD,hZ,gC,gD,ak aV,zag,zaf,zaj,encStr];try exact aQ)
  ·(simp only[go_sem,hD,hZ,gC,gD,ak aV,zag,zaf,zaj,encStr];try exact aQ)
 | nil=>
  have hD:=drop_nil h1
  simp only[zaj,zaF]at h2
  subst h2
  rcases zaa (eI p.globals)with b1|b1
  ·simp only [b1,zbk,if_true]at hR
   subst hR
   exact zN b1 HG pf vv
  rcases zaa (eI p.pn)with b2|b2
  ·simp only [b1,b2,zbk,zbI,if_true]at hR
   subst hR
   exact zN (eK b1 b2) HG pf vv
  rcases PO jq p.procs 0 with ⟨e1,e2⟩|⟨m,j,e1,e2,e3⟩
  ·have b3:p.pZ=true:=by unfold Pg.pZ Pg.find;rw [e1]
   have hi:gi jq 0 p.pn = -1:=e2
   simp only[b1,b2,b3,zbI,if_true]at hR
   subst hR
   simp only[hi]at HG
   have d1:decide ((-1:Int)<0)=true:=by decide
   exact zN (ly b1 b2 d1) HG pf vv
  have hi:gi jq 0 p.pn=((j:Nat):Int):=by rw[show p.pn=p.procs.map (·.name)from rfl];simpa using e3
  simp only[hi]at HG
  have d1:decide (((j:Nat):Int)<0)=false:=by simp
  have hj:j<p.procs.length:=(zac.1 e2).1
  have b3:p.pZ=decide ((m.params.length:Int) > 0):=by unfold Pg.pZ Pg.find;rw[e1]
  rw[b3]at hR
  rcases zaa (decide ((m.params.length:Int) > 0))with b4|b4
  ·simp only [b1,b2,b4,zbI,if_true]at hR
   subst hR
   exact zN (um b1 b2 d1 e2 b4) HG pf vv
  simp only[b1,b2,b4,zb3,zab,if_false]at hR
  repeat' (first
 |simp only[go_sem,hD,hZ,gC,gD,b1,b2,d1,e2,b4]
 |(with_reducible refine CU (HG _ _) ?_)
 |(with_reducible refine CU (pf _) ?_)
 |(with_reducible refine CU (vv _ _) ?_)
 |(with_reducible refine CU (dF _) ?_)
 | (with_reducible refine aX hQ ?_;exact bK))
  refine dg 2 1 (aJ.ind (ι:=List Pc×Nat) (fun i=>p.procs.drop i.2=i.1∧tf p p.pn i.1=R) (fun i=>i.1.length)
   (fun i=> [(1, .ptr 0 0),(2, .ptr 1 0),(3, .slice (.tok 0) 1 (p.pn.map encStr)),(7, .dW (gn p) 0),(57, .slice .shared 5 (p.procs.map bP)),(58, .int .i64 (p.procs.length:Int)),(59, .int .i64 (i.2:Int))]) (fun i=>⟨[bG p,[.int .i64 0, .int .i64 0]],[some p.pn.length]⟩) ?_ (p.procs,0) ⟨rfl,hR⟩)
  clear IH h1 hD hR
  rintro⟨rest,k⟩ ⟨h1,hR⟩ IH
  dsimp only at h1 hR
  cases rest with
  |nil=>
   have hD:=drop_nil h1
   simp only[tf]at hR
   subst hR
   exact dR trivial
  | cons f rest=>
   obtain⟨hZ,g2,hD,g4⟩:=drop_cons h1
   have aV:k<4611686018427387904:=by omega
   have pW:=zad hZ
   have sP:=h.small pW
   have PS:=fun s=>aeo (f:=f) sP.par sP.vars s
   have kg:f.own.length<4611686018427387904:=by have h1:=sP.par;have h2:=sP.vars;unfold Pc.own Pc.mg;simp;omega
   have Ab:=fun s=>HF (l:=f.own) kg .shared s
   have ti:=fun {s:St} {o:Nat} (ho:s.ag[o]? = some (bG p))=>B0 (l:=f.own) kg (f:=100) (row:=bG p) (b:=dZ p.globals) (fW p) (by with_unfolding_all rfl) (fun x _=>ab4 p sP.sV x) ho
   have ab5:=fun {s:St} {o:Nat} (ho:s.ag[o]? = some (bG p))=>(show ay Tryz.prog 99 [.slice .shared 1 (f.own.map encStr), .iL 100 [.ptr o 0]] s (.bool (f.own.any (dZ p.globals))) s from ti ho)
   simp only[tf,Yz,b1,zbj]at hR
   rcases zaa (eI f.own)with c1|c1
   ·simp only [c1,zbk,if_true]at hR
    subst hR
    repeat' (first
 |simp only[go_sem,hD,hZ,gC,gD,c1]
 |(with_reducible refine CU (PS _) ?_)
 |(with_reducible refine CU (Ab _) ?_)
 |(with_reducible refine CU (ab5 (by with_unfolding_all rfl)) ?_)
 | (with_reducible refine aX hQ ?_;exact bK))
   rcases zaa (f.own.any (dZ p.globals))with c2|c2
   ·simp only [c1,c2,zbj,if_true]at hR
    subst hR
    repeat' (first
 |simp only[go_sem,hD,hZ,gC,gD,c1,c2]
 |(with_reducible refine CU (PS _) ?_)
 |(with_reducible refine CU (Ab _) ?_)
 |(with_reducible refine CU (ab5 (by with_unfolding_all rfl)) ?_)
 | (with_reducible refine aX hQ ?_;exact bK))
   simp only[c1,c2,Bool.or_self,zab,if_false]at hR
   obtain⟨it,iG,EP⟩:=abK hZ (by omega)
   rw[← iG]at hR
   have KT:it.length≤900000:=by
    have e:=congrArg List.length iG
    have e2:=(qn p).2 k f hZ
    obtain⟨a,b,e',_,_,e3,e4⟩:=e2
    have e5:=rY p
    have e6:=congrArg List.length e3
    rw[e4]at e5
    simp only[zau,zal]at e e5 e6
    omega
   repeat' (first
 |simp only[go_sem,hD,hZ,gC,gD,c1,c2]
 |(with_reducible refine CU (PS _) ?_)
 |(with_reducible refine CU (Ab _) ?_)
 |(with_reducible refine CU (ab5 (by with_unfolding_all rfl)) ?_)
 |(with_reducible refine CU (EP _) ?_)
 | (with_reducible refine aX hQ ?_;exact bK))
   obtain⟨q,hq⟩ : ∃ q,xn p f p.pn (it.map Im.s)=q:=⟨_,rfl⟩
   rw[hq]at hR
   refine dg 3 1 (aJ.ind (ι:=List Im×Nat) (fun i=>it.drop i.2=i.1∧xn p f p.pn (i.1.map Im.s)=q) (fun i=>i.1.length)
    (fun i=> [(1, .ptr 0 0),(2, .ptr 1 0),(3, .slice (.tok 0) 1 (p.pn.map encStr)),(7, .dW (gn p) 0),(9, .ptr 2 0),(57, .slice .shared 5 (p.procs.map bP)),(58, .int .i64 (p.procs.length:Int)),(59, .int .i64 (k:Int)),(76, .slice .shared 17 (it.map dU)),(77, .int .i64 (it.length:Int)),(78, .int .i64 (i.2:Int))]) (fun i=>⟨[bG p,[.int .i64 0, .int .i64 0],bP f],[some p.pn.length]⟩) ?_ (it,0) ⟨rfl,hq⟩)
   rintro⟨qu,n⟩ ⟨j1,j2⟩ rn
   dsimp only at j1 j2
   have Bz:=hD
   cases qu with
   |nil=>
    have ab6:=drop_nil j1
    simp only[zaj,xn]at j2
    subst j2
    simp only at hR
    repeat' (first
 |simp only[go_sem,hD,hZ,gC,gD,ab6]
 | (with_reducible refine aX hQ ?_;exact bK))
    refine cr 2 1 ?_ ?_ (IH (rest,k+1) ⟨g2,hR⟩ (zae _))
    ·(simp only[go_sem,hD,hZ,gC,gD,ak aV];try exact aQ)
    ·(simp only[go_sem,hD,hZ,gC,gD,ak aV];try exact aQ)
   | cons i qu=>
    obtain⟨fm,ph,jo,Jj⟩:=drop_cons j1
    have gN:n<4611686018427387904:=by omega
    have yR:i.s∈Sm.cU f.body:=by rw[← iG];exact zbb (zad fm)
    have hkn:=agk (v:=i.s) sP (procs:=p.pn) (by omega) (h.said pW _ yR)
    simp only[zaf,xn]at j2
    rcases zaa (i.s.known p f p.pn)with c3|c3
    ·simp only [c3,if_true]at j2
     repeat' (first
 |simp only[go_sem,hD,hZ,gC,gD,jo,fm,c3]
 |(with_reducible refine CU (hkn _ _) ?_)
 | (with_reducible refine aX hQ ?_;exact bK))
     refine cr 3 1 ?_ ?_ (rn (qu,n+1) ⟨ph,j2⟩ (zae _))
     ·(simp only[go_sem,hD,hZ,gC,gD,ak gN];try exact aQ)
     ·(simp only[go_sem,hD,hZ,gC,gD,ak gN];try exact aQ)
    ·simp only [c3,zab,if_false]at j2
     subst j2
     simp only at hR
     subst hR
     repeat' (first
 |simp only[go_sem,hD,hZ,gC,gD,jo,fm,c3]
 |(with_reducible refine CU (hkn _ _) ?_)
 |(with_reducible refine aX hQ ?_;exact bK))
end Go.Abs
namespace Go.Abs
mutual
def Ex.jr:Ex→Prop
 |⟨_,n,_,kids⟩=>n≤9223372036854775807∧Ex.vK kids
def Ex.vK:List Ex→Prop
 | []=>True
 |x::l=>x.jr∧Ex.vK l
end
mutual
def Sm.jr:Sm→Prop
 |⟨_,_,_,_,_,x,_,args,aY,aH⟩=>x.jr∧(∀ a∈args,a.x.jr)∧Sm.vK aY∧Sm.vK aH
def Sm.vK:List Sm→Prop
 | []=>True
 |s::l=>s.jr∧Sm.vK l
end
def Pg.jr (p:Pg):Prop:=∀ f∈p.procs,Sm.vK f.body
theorem Me {f:Pc} : ∀ {l:List Pc} {n:Nat},Pc.fX n l=true→f∈l→(isName f.name=true∧eQ f.vars=true∧eQ f.fin=true∧Pm.fh f.params=true)∧∃ n,(Sm.iU 1 n f.body).1=true
 |g::l,n,h,m=>by
  simp only[Pc.fX]at h
  split at h
  ·cases h
  rename_i c1
  split at h
  ·cases h
  rename_i c2
  split at h
  ·cases h
  rename_i c3
  simp only[zaD,zaL,not_or,zbd]at c1 c2 c3
  rcases zaq.1 m with rfl|m
  ·exact⟨⟨c1.1.1.2,c1.1.2,c1.2,c2⟩,n,c3⟩
  ·exact Me h m
mutual
theorem VM : ∀ (s:Sm) (nest:Int) (n:Nat),(Sm.sW nest n s).1=true→s.size<4611686018427387000→s.wx
 |⟨id,kind,labels,name,proc,x,has,args,aY,aH⟩,nest,n,hm,hs=>by
  obtain⟨_,_,h1,h2,h3,_⟩:=Mb hm
  rw[HD]
  rw[(wZ h2).2]at h2
  rw[(wZ h3).2]at h3
  refine⟨PI h1 hs,xV aY _ _ h2 ?_,xV aH _ _ h3 ?_⟩<;>simp only[Sm.size]at hs<;>omega
theorem xV : ∀ (l:List Sm) (nest:Int) (n:Nat),(Sm.fX nest n l).1=true→Sm.bB l<4611686018427387000→Sm.kK l
 | [],_,_,_,_=>by simp only[Sm.kK]
 |s::l,nest,n,hm,hs=>by
  simp only[Sm.fX]at hm
  simp only[Sm.bB]at hs
  split at hm
  ·cases hm
  rename_i hc
  simp only[zaL,zbd]at hc
  exact⟨VM s nest n hc (by omega),xV l nest _ hm (by omega)⟩
end
theorem YC {p:Pg} (h:p.may=true) (hs:p.size<4611686018427387000):p.Jd:=by
 have hf:=abU h hs
 rw[← FH]at h
 unfold Pg.KS at h
 split at h
 ·cases h
 refine⟨hf.sz,hf.sV,hf.mA,fun f m=>?_⟩
 obtain⟨_,n,e⟩:=Me h m
 rw[(wZ e).2]at e
 have:=Pc.cb m
 simp only[Pg.size]at hs
 exact xV f.body 1 n e (by unfold Pc.size at this;omega)
mutual
theorem VN {deep bp:Int} {aH:Bool} {out:List It} {i:It} : ∀ s:Sm,s.wx→i∈ix deep bp aH out s→i∈out∨i.s.lB
 | ⟨id,kind,labels,name,proc,x,has,args,aY,e⟩,hf,h=>by
  simp only[ix]at h
  simp only[Sm.wx]at hf
  have key:i∈out++ [(⟨⟨id,kind,labels,name,proc,x,has,args,aY,e⟩,deep,bp,aH⟩:It)]→i∈out∨i.s.lB:=by
   intro h
   rcases zar.1 h with h|h
   ·exact .inl h
   ·simp at h;subst h;exact .inr hf.1
  split at h
  ·rcases xW e hf.2.2 h with h | h
   ·rcases xW aY hf.2.1 h with h | h
    ·exact key h
    ·exact .inr h
   ·exact .inr h
  ·exact key h
theorem xW {deep bp:Int} {aH:Bool} {out:List It} {i:It} : ∀ l:List Sm,Sm.kK l→i∈dT deep bp aH out l→i∈out∨i.s.lB
 | [],_,h=>by simp only[dT]at h;exact .inl h
 | s::l,hf,h=>by
  simp only[dT]at h
  simp only[Sm.kK]at hf
  split at h
  ·rcases xW l hf.2 h with h | h
   ·exact VN s hf.1 h
   ·exact .inr h
  ·exact .inl h
end
theorem Mg {i:It} : ∀ (l:List Pc) (out:List It),(∀ f∈l,Sm.kK f.body)→i∈allM out l→i∈out∨i.s.lB
 | [],out,_,h=>by simp only[allM]at h;exact .inl h
 | f::l,out,hf,h=>by
  have key:i∈out++f.flat→i∈out∨i.s.lB:=by
   intro h
   rcases zar.1 h with h|h
   ·exact .inl h
   ·rcases xW _ (hf f (zaz ..)) h with h | h
    ·simp at h
    ·exact .inr h
  simp only[allM]at h
  split at h
  ·exact key h
  ·rcases Mg l _ (fun g m=>hf g (zan _ m)) h with h | h
   ·exact key h
   ·exact .inr h
theorem VO {p:Pg} (h:p.Jd):p.lB:=⟨h.sz,h.sV,h.mA,fun i hi=>(Mg p.procs [] h.body hi).resolve_left (by simp)⟩
set_option maxRecDepth 8000
open Go.Proofs
theorem ab7 (x:It):(du x)[1]? = some (.int .i64 x.s.kind):=nd rfl
theorem ab8 (x:It):(du x)[3]? = some (.str x.s.name):=nd rfl
theorem ab9 (x:It):(du x)[4]? = some (.str x.s.proc):=nd rfl
theorem agl (x:It):List.take 16 (du x)=du x:=nd rfl
attribute [go_sem] ab7 ab8 ab9 agl
theorem KU {a:List aD} (h:a≠ []) (hl:a.length≤1000000000) {z:Nat} {g:Tag} (o:List (List D)) (T:List (Option Nat)) :
 fS 1 16 (.slice .full z []) (.slice g 1 (a.map encStr)) ⟨o,T⟩=some (.slice (.tok T.length) 1 (a.map encStr),⟨o,T++ [some a.length]⟩):=by
 have:a.length*17≤aT:=by unfold aT;omega
 cases a with
 |nil=>exact absurd rfl h
 |cons x r=>simp only[zas]at this;simp[fS,this]
theorem yd {z:Nat} {g:Tag} (o:List (List D)) (T:List (Option Nat)) :
 fS 1 16 (.slice .full z []) (.slice g 1 []) ⟨o,T⟩=some (.slice .full z [],⟨o,T⟩):=by simp[fS,aT]
theorem ER {l nx:List aD} (h:l.length+nx.length≤1000000000) {g:Tag} {n0:Option Nat} (o:List (List D)) :
 fS 1 16 (.slice (.tok 1) 1 (l.map encStr)) (.slice g 1 (nx.map encStr)) ⟨o,[n0,some l.length]⟩=some (.slice (.tok 1) 1 ((l++nx).map encStr),⟨o,[n0,some (l++nx).length]⟩):=by
 have:=kZ (size:=1) (bytes:=16) (t:=1) (rows:=l.map encStr) (new:=nx.map encStr) (g:=g) (s:=⟨o,[n0,some l.length]⟩) (by simp only[zau];unfold aT;omega) (by simp)
 rw[this]
 simp
theorem Jk {size bytes:Nat} {x y d:D} {s s':St} (h:fS size bytes x y s=some (d,s')) : ∃ g z rows,d = .slice g z rows:=by
 unfold fS at h
 (repeat' (split at h))<;>first|(cases h;done)|(cases h;exact⟨_,_,_,rfl⟩)
theorem RL {p:Pg} (h:p.gb):p.lB:=VO h.PR
theorem aca {p:Pg} (h:p.gb) (s:St):ay Tryz.prog 74 [.agg (bG p)] s (.agg [.int .i64 p.scope.1, .int .i64 p.scope.2]) s:=by
 refine ay.pure ?_ (by simp[D.bJ,D.ok,fW]) rfl s
 have hm:=fun s=>ane (RL h) s
 obtain⟨nX,oE,mB⟩:=h.procs
 have pf:=fun s=>yP (l:=p.globals) (by omega) .shared s
 have hpn:p.pn.length=p.procs.length:=by simp[Pg.pn]
 have vv:=fun g s=>yP (l:=p.pn) (by omega) g s
 have td:=fun s=>FI (p:=p) (by omega) jq s
 have CZ:=fun s=>(show ay Tryz.prog 111 [.agg (bG p), .str [109,97,105,110]] s (lk (p.find jq)) s from td s)
 clear td
 generalize hR:p.scope=R
 simp only[Pg.scope]at hR
 unfold S0
 rcases zaa p.may with hb|hb
 case inr=>
  simp only[hb]at hm
  simp only[hb,zab,if_false]at hR
  subst hR
  refine ay.go BR.h rfl fun B Q hB hQ=>?_
  have⟨hD,hZ,gC,gD⟩:=bc
  exact pT trivial hm gQ
 have ani:=(se hb).1
 simp only[hb]at hm
 simp only[hb,if_true]at hR
 refine ay.go BR.h rfl fun B Q hB hQ=>?_
 have⟨hD,hZ,gC,gD⟩:=bc
 repeat' (first
 |simp only[go_sem,hD,hZ,gC,gD]
 |(with_reducible refine CU (hm _) ?_)
 |(with_reducible refine aX hQ ?_;exact bK))
 refine aJ.lA 3 1 rfl ?_
 simp only[go_sem,hD,hZ,gC,gD]
 refine dg 2 1 (aJ.ind (ι:=List Pc×Nat×List aD×Nat) (fun i=>p.procs.drop i.2.1=i.1∧i.2.2.1++i.1.map (·.name)=p.pn∧i.2.2.2=i.2.2.1.length) (fun i=>i.1.length)
  (fun i=> [(1, .ptr 0 0),(2, .ptr 1 0),(3, .slice (.tok 0) 1 (i.2.2.1.map encStr)),(19, .slice .shared 5 (p.procs.map bP)),(20, .int .i64 (p.procs.length:Int)),(21, .int .i64 (i.2.1:Int))]) (fun i=>⟨[bG p,[.int .i64 0, .int .i64 0]],[some i.2.2.2]⟩) ?_ (p.procs,0,[],0) ⟨rfl,rfl,rfl⟩)
 rintro⟨rest,k,out,n⟩ ⟨h1,h2,h3⟩ IH
 dsimp only at h1 h2 h3
 subst h3
 have hlo:out.length+rest.length≤900000:=by
  have:=congrArg List.length h2
  simp only[zal,zau]at this
  omega
 cases rest with
 |cons a rest=>
  obtain⟨hZ,g2,hD,g4⟩:=drop_cons h1
  have aV:k<4611686018427387904:=by omega
  have gC:(out.length+1)*17≤aT:=by unfold aT;omega
  refine bT trivial ?_
  refine cr 2 1 ?_ ?_ (IH (rest,k+1,out++ [a.name],out.length+1) ⟨g2,by rw[← h2];simp,by simp⟩ (zae _))
  ·(simp only[go_sem,hD,hZ,gC,gD,ak aV,zag,zaf,zaj,encStr];try exact aQ)
  ·(simp only[go_sem,hD,hZ,gC,gD,ak aV,zag,zaf,zaj,encStr];try exact aQ)
 | nil=>
  have hD:=drop_nil h1
  simp only[zaj,zaF]at h2
  subst h2
  rcases zaa (eI p.globals)with b1|b1
  ·simp only [b1,zbk,if_true]at hR
   subst hR
   cases xA:p.find jq<;>simp only[xA,lk,zbJ,zbo,zbK,zbv]at CZ
   all_goals
    exact Gx b1 CZ pf vv gQ
  rcases zaa (eI p.pn)with b2|b2
  ·simp only [b1,b2,zbk,zbI,if_true]at hR
   subst hR
   cases xA:p.find jq<;>simp only[xA,lk,zbJ,zbo,zbK,zbv]at CZ
   all_goals
    exact Gx (eK b1 b2) CZ pf vv gQ
  cases xA:p.find jq with
  |none=>
   simp only[xA,lk,zbJ,zbK]at CZ
   have b3:p.pZ=true:=by unfold Pg.pZ;rw[xA]
   simp only[b1,b2,b3,zbI,if_true]at hR
   subst hR
   exact Gx (eK b1 b2) CZ pf vv gQ
  |some m=>
  simp only[xA,lk,zbo,zbv]at CZ
  have b3:p.pZ=decide ((m.params.length:Int) > 0):=by unfold Pg.pZ;rw[xA]
  rw[b3]at hR
  rcases zaa (decide ((m.params.length:Int) > 0))with b4|b4
  ·simp only [b1,b2,b4,zbI,if_true]at hR
   subst hR
   exact Gx (ly b1 b2 b4) CZ pf vv gQ
  simp only[b1,b2,b4,zb3,zab,if_false]at hR
  repeat' (first
 |simp only[go_sem,hD,hZ,gC,gD,b1,b2,b4]
 |(with_reducible refine CU (CZ _) ?_)
 |(with_reducible refine CU (pf _) ?_)
 |(with_reducible refine CU (vv _ _) ?_)
 |(with_reducible refine CU (gQ _ _ _) ?_)
 | (with_reducible refine aX hQ ?_;exact bK))
  refine dg 2 1 (aJ.ind (ι:=List Pc×Nat) (fun i=>p.procs.drop i.2=i.1∧tf p p.pn i.1=R) (fun i=>i.1.length)
   (fun i=> [(1, .ptr 0 0),(2, .ptr 1 0),(3, .slice (.tok 0) 1 (p.pn.map encStr)),(55, .slice .shared 5 (p.procs.map bP)),(56, .int .i64 (p.procs.length:Int)),(57, .int .i64 (i.2:Int))]) (fun i=>⟨[bG p,[.int .i64 0, .int .i64 0]],[some p.pn.length]⟩) ?_ (p.procs,0) ⟨rfl,hR⟩)
  clear IH h1 hD hR
  rintro⟨rest,k⟩ ⟨h1,hR⟩ IH
  dsimp only at h1 hR
  cases rest with
  |nil=>
   have hD:=drop_nil h1
   simp only[tf]at hR
   subst hR
   exact dR trivial
  | cons f rest=>
   obtain⟨hZ,g2,hD,g4⟩:=drop_cons h1
   have aV:k<4611686018427387904:=by omega
   have pW:=zad hZ
   have sP:=h.small pW
   have hpa:=fun s=>ab3 (f:=f) sP.par s
   have avm:f.mg.length<1000000:=by have h1:=sP.par;unfold Pc.mg;simpa using h1
   have Sx:=sP.vars
   have hxl:(p.globals++f.own).length<4611686018427387904:=by unfold Pc.own;simp;omega
   have VP:=fun g s=>yP (l:=p.globals++f.own) hxl g s
   have sK:Sm.bB f.body<4611686018427387000:=by have:=Pc.cb pW;simp only[Pc.size]at this;omega
   have fM:=fun s=>yN (f:=f) sK s
   have iG:=ani f pW
   have KT:f.flat.length≤201:=f.tW
   simp only[tf]at hR
   rw[← iG]at hR
   obtain⟨q,hq⟩ : ∃ q,xn p f p.pn (f.flat.map It.s)=q:=⟨_,rfl⟩
   rw[hq]at hR
   have hc4 : ∃ (dA dB dC:D) (T1 T2 T3:List (Option Nat)),(∀ s,ay Tryz.prog 112 [dC] s (.bool (eI (p.globals++f.own))) s)∧
    (∀ o,fS 1 16 (.slice .full 1 []) (.slice .shared 1 (p.globals.map encStr)) ⟨o,[some p.pn.length]⟩=some (dA,⟨o,some p.pn.length::T1⟩))∧
    (∀ o,fS 1 16 dA (.slice .shared 1 (f.mg.map encStr)) ⟨o,some p.pn.length::T1⟩=some (dB,⟨o,some p.pn.length::T2⟩))∧
    (∀ o,fS 1 16 dB (.slice .shared 1 (f.vars.map encStr)) ⟨o,some p.pn.length::T2⟩=some (dC,⟨o,some p.pn.length::T3⟩)):=by
    have ES:f.own=f.mg++f.vars:=rfl
    by_cases z1:p.globals = []
    ·rw [z1]
     by_cases z2:f.mg = []
     ·rw [z2]
      by_cases z3:f.vars = []
      ·rw [z3]
       refine⟨.slice .full 1 [], .slice .full 1 [], .slice .full 1 [],[],[],[],fun s=>?_,fun o=>yd o _,fun o=>yd o _,fun o=>yd o _⟩
       have:=VP .full s
       rw[ES,z1,z2,z3]at this
       rw[ES,z2,z3]
       exact this
      ·refine⟨.slice .full 1 [], .slice .full 1 [],_,[],[],_,fun s=> ?_,fun o=>yd o _,fun o=>yd o _,fun o=>KU z3 (by omega) o _⟩
       have:=VP (.tok 1) s
       rw[ES,z1,z2]at this
       rw[ES,z2]
       exact this
     ·refine⟨.slice .full 1 [],_,_,[],_,_,fun s=> ?_,fun o=>yd o _,fun o=>KU z2 (by omega) o _,fun o=>ER (by omega) o⟩
      have:=VP (.tok 1) s
      rw[ES,z1]at this
      rw[ES]
      exact this
    ·refine⟨_,_,_,_,_,_,fun s=> ?_,fun o=>KU z1 (by omega) o _,fun o=>ER (by omega) o,fun o=>ER (by simp;omega) o⟩
     have:=VP (.tok 1) s
     rw[ES, ← zaB]at this
     rw[ES, ← zaB]
     exact this
   obtain⟨dA,dB,dC,T1,T2,T3,rr,eA,eB,eC⟩:=hc4
   obtain⟨gA,zA,rA,rfl⟩:=Jk (eA [])
   obtain⟨gB,zB,rB,rfl⟩:=Jk (eB [])
   rcases zaa (eI (p.globals++f.own))with c1|c1
   ·simp only [c1,if_true]at rr hR
    subst hR
    exact Gx (ly eA eB eC) hpa rr gQ fM
   simp only[c1,zab,if_false]at rr hR
   repeat' (first
 |simp only[go_sem,hD,hZ,gC,gD,eA,eB,eC]
 |(with_reducible refine CU (hpa _) ?_)
 |(with_reducible refine CU (rr _) ?_)
 |(with_reducible refine CU (gQ _ _ _) ?_)
 |(with_reducible refine CU (fM _) ?_)
 | (with_reducible refine aX hQ ?_;exact bK))
   refine dg 3 1 (aJ.ind (ι:=List It×Nat) (fun i=>f.flat.drop i.2=i.1∧xn p f p.pn (i.1.map It.s)=q) (fun i=>i.1.length)
    (fun i=> [(1, .ptr 0 0),(2, .ptr 1 0),(3, .slice (.tok 0) 1 (p.pn.map encStr)),(9, .ptr 2 0),(55, .slice .shared 5 (p.procs.map bP)),(56, .int .i64 (p.procs.length:Int)),(57, .int .i64 (k:Int)),(74, .slice .shared 16 (f.flat.map du)),(75, .int .i64 (f.flat.length:Int)),(76, .int .i64 (i.2:Int))]) (fun i=>⟨[bG p,[.int .i64 0, .int .i64 0],bP f],[some p.pn.length]⟩) ?_ (f.flat,0) ⟨rfl,hq⟩)
   rintro⟨qu,n⟩ ⟨j1,j2⟩ rn
   dsimp only at j1 j2
   cases qu with
   |nil=>
    have ab6:=drop_nil j1
    simp only[zaj,xn]at j2
    subst j2
    simp only at hR
    refine bT ab6 ?_
    refine cr 2 1 ?_ ?_ (IH (rest,k+1) ⟨g2,hR⟩ (zae _))
    ·(simp only[go_sem,hD,hZ,gC,gD,ak aV];try exact aQ)
    ·(simp only[go_sem,hD,hZ,gC,gD,ak aV];try exact aQ)
   |cons i qu=>
    obtain⟨fm,ph,jo,Jj⟩:=drop_cons j1
    have gN:n<4611686018427387904:=by omega
    have yR:i.s∈Sm.cU f.body:=by rw[← iG];exact zbb (zad fm)
    have rh:=h.said pW _ yR
    have L4:=fun s=>GF rh s
    have B5:=CY _ rh
    have hki:=fun nm s=>RK (p:=p) (f:=f) (by have:=sP.par;omega) (by have:=sP.vars;omega) (by omega) nm s
    have jE:=xm (l:=p.pn) (by omega) i.s.proc
    simp only[zaf,xn]at j2
    repeat' (first
 |simp only[go_sem,hD,hZ,gC,gD,jo,fm]
 |(with_reducible refine CU (L4 _) ?_)
 | (with_reducible refine aX hQ ?_;exact bK))
    obtain⟨q2,zF⟩ : ∃ q2,wy p f i.s.said=q2:=⟨_,rfl⟩
    have hkn:i.s.known p f p.pn=(q2 && (i.s.kind != 4 ||(i.s.proc != jq && dZ p.pn i.s.proc))):=by rw[← zF,EN];rfl
    rw[hkn]at j2
    refine dg 4 1 (aJ.ind (ι:=List aD×Nat) (fun j=>i.s.said.drop j.2=j.1∧wy p f j.1=q2) (fun j=>j.1.length)
     (fun j=> [(1, .ptr 0 0),(2, .ptr 1 0),(3, .slice (.tok 0) 1 (p.pn.map encStr)),(9, .ptr 2 0),(11, .ptr 3 0),(55, .slice .shared 5 (p.procs.map bP)),(56, .int .i64 (p.procs.length:Int)),(57, .int .i64 (k:Int)),(74, .slice .shared 16 (f.flat.map du)),(75, .int .i64 (f.flat.length:Int)),(76, .int .i64 (n:Int)),(82, .slice .shared 1 (i.s.said.map encStr)),(83, .int .i64 (i.s.said.length:Int)),(84, .int .i64 (j.2:Int))]) (fun j=>⟨[bG p,[.int .i64 0, .int .i64 0],bP f,du i],[some p.pn.length]⟩) ?_ (i.s.said,0) ⟨rfl,zF⟩)
    rintro⟨lC,m2⟩ ⟨l1,l2⟩ rZ
    dsimp only at l1 l2
    cases lC with
    | cons a lC=>
     obtain⟨ET,PT,Mh,lg4⟩:=drop_cons l1
     have w5:m2<4611686018427387904:=by omega
     simp only[wy]at l2
     rcases zaa (f.kV p a==0)with d1|d1
     ·simp only [d1,if_true]at l2
      subst l2
      simp only[zaN,zab,if_false]at j2
      subst j2
      simp only at hR
      subst hR
      repeat' (first
 |simp only[go_sem,hD,hZ,gC,gD,Mh,ET,d1]
 |(with_reducible refine CU (hki _ _) ?_)
 |(with_reducible refine CU (gQ _ _ _) ?_)
 |(with_reducible refine aX hQ ?_;exact bK))
     ·simp only [d1,zab,if_false]at l2
      repeat' (first
 |simp only[go_sem,hD,hZ,gC,gD,Mh,ET,d1]
 |(with_reducible refine CU (hki _ _) ?_)
 |(with_reducible refine CU (gQ _ _ _) ?_)
 | (with_reducible refine aX hQ ?_;exact bK))
      refine cr 4 1 ?_ ?_ (rZ (lC,m2+1) ⟨PT,l2⟩ (zae _))
      ·(simp only[go_sem,hD,hZ,gC,gD,ak w5];try exact aQ)
      ·(simp only[go_sem,hD,hZ,gC,gD,ak w5];try exact aQ)
    | nil=>
     have VQ:=drop_nil l1
     simp only[wy]at l2
     subst l2
     simp only[zbf]at j2
     unfold jq at j2
     have b5:(i.s.kind==4) = !(i.s.kind != 4):=by simp only[bne,zbS]
     have b6:(i.s.proc == [109,97,105,110]) = !(i.s.proc != [109,97,105,110]):=by simp only[bne,zbS]
     rcases zaa (i.s.kind != 4)with d1|d1
     ·simp only [d1,zbk,if_true]at j2
      simp only[d1,zav]at b5
      repeat' (first
 |simp only[go_sem,hD,hZ,gC,gD,VQ,b5,d1]
 |(with_reducible refine CU (jE _ _) ?_)
 |(with_reducible refine CU (gQ _ _ _) ?_)
 |(with_reducible refine aX hQ ?_;exact bK))
      refine cr 3 1 ?_ ?_ (rn (qu,n+1) ⟨ph,j2⟩ (zae _))
      ·(simp only[go_sem,hD,hZ,gC,gD,ak gN];try exact aQ)
      ·(simp only[go_sem,hD,hZ,gC,gD,ak gN];try exact aQ)
     ·simp only [d1,zbj]at j2
      simp only[d1,zax]at b5
      rcases zaa (i.s.proc != [109,97,105,110])with d2|d2
      ·simp only [d2,zbf]at j2
       simp only[d2,zav]at b6
       rcases zaa (dZ p.pn i.s.proc)with d3|d3
       ·simp only [d3,if_true]at j2
        repeat' (first
 |simp only[go_sem,hD,hZ,gC,gD,VQ,b5,d1,b6,d2,d3]
 |(with_reducible refine CU (jE _ _) ?_)
 |(with_reducible refine CU (gQ _ _ _) ?_)
 |(with_reducible refine aX hQ ?_;exact bK))
        refine cr 3 1 ?_ ?_ (rn (qu,n+1) ⟨ph,j2⟩ (zae _))
        ·(simp only[go_sem,hD,hZ,gC,gD,ak gN];try exact aQ)
        ·(simp only[go_sem,hD,hZ,gC,gD,ak gN];try exact aQ)
       ·simp only [d3,zab,if_false]at j2
        subst j2
        simp only at hR
        subst hR
        repeat' (first
 |simp only[go_sem,hD,hZ,gC,gD,VQ,b5,d1,b6,d2,d3]
 |(with_reducible refine CU (jE _ _) ?_)
 |(with_reducible refine CU (gQ _ _ _) ?_)
 |(with_reducible refine aX hQ ?_;exact bK))
      ·simp only [d2,zaN,zab,if_false]at j2
       simp only[d2,zax]at b6
       subst j2
       simp only at hR
       subst hR
       exact pT (um VQ b5 d1 b6 d2) jE gQ
end Go.Abs
namespace Go.Abs
set_option maxRecDepth 8000
open Go.Proofs
def wz:List Pm→List Ar→Bool
 | [],_=>true
 |_,[]=>true
 |a::l,b::m=>if a.ref==b.ref then wz l m else false
def xX (l:List Pm) (m:List Ar):Bool:=if(l.length:Int)==(m.length:Int)then wz l m else false
def Sm.mC (p:Pg) (v:Sm):Bool:=v.kind==4 && match p.find v.proc with|none=>false|some q=>xX q.params v.args
theorem ajn {l:List Pm} {m:List Ar} (hl:l.length<1000000000) (hm:m.length<1000000000) (s:St):ay Tryz.prog 139 [.slice .shared 2 (l.map fc), .slice .shared 6 (m.map dH)] s (.bool (xX l m)) s:=by
 refine ay.pure ?_ (by simp[D.bJ,D.ok,Tag.ok,amq,NB]) rfl s
 generalize h:xX l m=q
 simp only[xX]at h
 unfold S0
 have b0:((l.length:Int) != (m.length:Int)) = !((l.length:Int)==(m.length:Int)):=rfl
 rcases zaa ((l.length:Int)==(m.length:Int))with b1|b1
 case inr=>
  rw[b1]at b0
  simp only[b1,zab,if_false]at h
  subst h
  refine ay.go BV.h rfl fun B Q hB hQ=>?_
  have⟨hD,hZ,gC,gD⟩:=bc
  exact dR (eK b0 @Bool.not_false)
 rw[b1]at b0
 simp only[b1,if_true]at h
 have Sy:l.length=m.length:=by have:=eq_of_beq b1;omega
 refine ay.go BV.h rfl fun B Q hB hQ=>?_
 have⟨hD,hZ,gC,gD⟩:=bc
 refine bT (eK b0 @Bool.not_true) ?_
 refine dg 0 0 (aJ.ind (ι:=List Pm×List Ar×Nat) (fun i=>l.drop i.2.2=i.1∧m.drop i.2.2=i.2.1∧wz i.1 i.2.1=q) (fun i=>i.1.length)
  (fun i=> [(1, .slice .shared 6 (m.map dH)),(12, .slice .shared 2 (l.map fc)),(13, .int .i64 (l.length:Int)),(14, .int .i64 (i.2.2:Int))]) (fun i=>⟨[],[]⟩) ?_ (l,m,0) ⟨rfl,rfl,h⟩)
 rintro⟨r1,r2,k⟩ ⟨h1,h2,h⟩ IH
 dsimp only at h1 h2 h
 cases r1 with
 |nil=>
  have hD:=drop_nil h1
  simp only[wz]at h
  subst h
  exact dR trivial
 | cons a r1=>
  obtain⟨hZ,g2,hD,g4⟩:=drop_cons h1
  cases r2 with
  |nil=>have:=zaI.1 h2;omega
  | cons b r2=>
   obtain⟨lQ,b2,C0,_⟩:=drop_cons h2
   have aV:k<4611686018427387904:=by omega
   simp only[wz]at h
   have w1:(true==true)=true:=rfl
   have w2:(false==false)=true:=rfl
   have w3:(true==false)=false:=rfl
   have w4:(false==true)=false:=rfl
   have v1:(true != true)=false:=rfl
   have v2:(false != false)=false:=rfl
   have v3:(true != false)=true:=rfl
   have v4:(false != true)=true:=rfl
   rcases zaa a.ref with ea|ea
   ·rcases zaa b.ref with eb | eb
    ·simp only [ea,eb,w1,w2,if_true]at h
     refine bT (DF lQ C0 ea eb w1 w2 v1 v2) ?_
     refine cr 0 0 ?_ ?_ (IH (r1,r2,k+1) ⟨g2,b2,h⟩ (zae _))
     ·(simp only[go_sem,hD,hZ,gC,gD,ak aV];try exact aQ)
     ·(simp only[go_sem,hD,hZ,gC,gD,ak aV];try exact aQ)
    ·simp only [ea,eb,w3,w4,zab,if_false]at h
     subst h
     exact dR (DF lQ C0 ea eb w3 w4 v3 v4)
   ·rcases zaa b.ref with eb | eb
    ·simp only [ea,eb,w3,w4,zab,if_false]at h
     subst h
     exact dR (DF lQ C0 ea eb w3 w4 v3 v4)
    ·simp only [ea,eb,w1,w2,if_true]at h
     refine bT (DF lQ C0 ea eb w1 w2 v1 v2) ?_
     refine cr 0 0 ?_ ?_ (IH (r1,r2,k+1) ⟨g2,b2,h⟩ (zae _))
     ·(simp only[go_sem,hD,hZ,gC,gD,ak aV];try exact aQ)
     ·(simp only[go_sem,hD,hZ,gC,gD,ak aV];try exact aQ)
theorem ajo {p:Pg} {v:Sm} (h:p.gb) (hv:v.mQ) (s:St):ay Tryz.prog 102 [.agg (bG p), .agg (aO v)] s (.bool (v.mC p)) s:=by
 refine ay.pure ?_ (by simp[D.bJ,D.ok,fW,nN]) rfl s
 obtain⟨nX,oE,mB⟩:=h.procs
 have pg:v.args.length<1000000000:=by have:=Ar.dk v.args;have:=hv.2.2;omega
 generalize hR:v.mC p=R
 simp only[Sm.mC]at hR
 unfold S0
 have b0:(v.kind != 4) = !(v.kind==4):=rfl
 rcases zaa (v.kind==4)with b1|b1
 case inr=>
  rw[b1]at b0
  simp only[b1,zaN]at hR
  subst hR
  refine ay.go BS.h rfl fun B Q hB hQ=>?_
  have⟨hD,hZ,gC,gD⟩:=bc
  exact dR (eK b0 @Bool.not_false)
 rw[b1]at b0
 simp only[b1,zbf,Pg.find]at hR
 refine ay.go BS.h rfl fun B Q hB hQ=>?_
 have⟨hD,hZ,gC,gD⟩:=bc
 refine bT (eK b0 @Bool.not_true) ?_
 refine dg 2 0 (aJ.ind (ι:=List Pc×Nat) (fun i=>p.procs.drop i.2=i.1∧(match iB v.proc i.1 with|none=>false|some q=>xX q.params v.args)=R) (fun i=>i.1.length)
  (fun i=> [(3, .ptr 1 0),(11, .slice .shared 5 (p.procs.map bP)),(12, .int .i64 (p.procs.length:Int)),(13, .int .i64 (i.2:Int))]) (fun i=>⟨[bG p,aO v],[]⟩) ?_ (p.procs,0) ⟨rfl,hR⟩)
 clear hR
 rintro⟨rest,k⟩ ⟨h1,hR⟩ IH
 dsimp only at h1 hR
 cases rest with
 |nil=>
  have hD:=drop_nil h1
  simp only[iB]at hR
  subst hR
  exact dR trivial
 | cons a rest=>
  obtain⟨hZ,g2,hD,g4⟩:=drop_cons h1
  have aV:k<4611686018427387904:=by omega
  have sP:=h.small (zad hZ)
  have L4:=fun s=>ajn (l:=a.params) (m:=v.args) (by have:=sP.par;omega) pg s
  simp only[iB]at hR
  rcases zaa (a.name==v.proc)with c1|c1
  ·simp only [c1,if_true]at hR
   subst hR
   exact jn c1 L4
  ·simp only [c1,zab,if_false]at hR
   refine bT c1 ?_
   refine cr 2 0 ?_ ?_ (IH (rest,k+1) ⟨g2,hR⟩ (zae _))
   ·(simp only[go_sem,hD,hZ,gC,gD,ak aV];try exact aQ)
   ·(simp only[go_sem,hD,hZ,gC,gD,ak aV];try exact aQ)
def Ac (p:Pg):List Sm→Option Sm
 | []=>none
 |v::l=>if v.kind==4 && !(v.mC p)then some v else Ac p l
def jt (c:Int):Option Sm→Int×Int
 |some v=>(c,v.id)
 |none=>(0,0)
def Pg.arity (p:Pg):Int×Int:=if p.scope.1==0 then jt 6 (Ac p p.pre)else(1,0)
theorem Pg.gb.pre {p:Pg} (h:p.gb) : ∀ v∈p.pre,v.mQ:=fun v m=>by
 simp only[Pg.pre,zbx,zaG]at m
 obtain⟨l,⟨f,hf,rfl⟩,m⟩:=m
 exact h.said hf v m
theorem PU {p:Pg} (h:p.gb) (s:St):ay Tryz.prog 70 [.agg (bG p)] s (.agg [.int .i64 p.arity.1, .int .i64 p.arity.2]) s:=by
 refine ay.pure ?_ (by simp[D.bJ,D.ok,fW]) rfl s
 obtain⟨nX,oE,mB⟩:=h.procs
 have sJ:=fun s=>yQ h s
 have dF:=fun s=>CP (p:=p) (by omega) s
 have hL:=(qn p).1
 have sQ:=rY p
 generalize hR:p.arity=R
 simp only[Pg.arity]at hR
 unfold S0
 have b0:(p.scope.1 != 0) = !(p.scope.1==0):=rfl
 rcases zaa (p.scope.1==0)with b1|b1
 case inr=>
  rw[b1]at b0
  simp only[b1,zab,if_false]at hR
  subst hR
  refine ay.go zR.h rfl fun B Q hB hQ=>?_
  have⟨hD,hZ,gC,gD⟩:=bc
  exact jn (eK b0 @Bool.not_false) sJ
 rw[b1]at b0
 simp only[b1,if_true, ← hL]at hR
 refine ay.go zR.h rfl fun B Q hB hQ=>?_
 have⟨hD,hZ,gC,gD⟩:=bc
 repeat' (first
 |simp only[go_sem,hD,hZ,gC,gD,b0,zav,rX]
 |(with_reducible refine CU (sJ _) ?_)
 |(with_reducible refine CU (dF _) ?_)
 |(with_reducible refine aX hQ ?_;exact bK))
 refine dg 2 0 (aJ.ind (ι:=List Im×Nat) (fun i=>p.aU.L.drop i.2=i.1∧jt 6 (Ac p (i.1.map Im.s))=R) (fun i=>i.1.length)
  (fun i=> [(1, .ptr 0 0),(2, .ptr 1 0),(14, .slice .shared 17 (p.aU.L.map dU)),(15, .int .i64 (p.aU.L.length:Int)),(16, .int .i64 (i.2:Int))]) (fun i=>⟨[bG p,[.int .i64 0, .int .i64 0]],[]⟩) ?_ (p.aU.L,0) ⟨rfl,hR⟩)
 clear hR
 rintro⟨rest,k⟩ ⟨h1,hR⟩ IH
 dsimp only at h1 hR
 cases rest with
 |nil=>
  have hD:=drop_nil h1
  simp only[zaj,Ac,jt]at hR
  subst hR
  exact dR trivial
 | cons a rest=>
  obtain⟨hZ,g2,hD,g4⟩:=drop_cons h1
  have aV:k<4611686018427387904:=by omega
  have yR:a.s∈p.pre:=by rw[← hL];exact zbb (zad hZ)
  have B6:=fun s=>ajo h (h.pre _ yR) s
  simp only[zaf,Ac]at hR
  rcases zaa (a.s.kind==4)with c1|c1
  ·rcases zaa (a.s.mC p)with c2 | c2
   ·simp only [c1,c2,zav,zbp,zab,if_false]at hR
    repeat' (first
 |simp only[go_sem,hD,hZ,gC,gD,c1,c2]
 |(with_reducible refine CU (B6 _) ?_)
 | (with_reducible refine aX hQ ?_;exact bK))
    refine cr 2 0 ?_ ?_ (IH (rest,k+1) ⟨g2,hR⟩ (zae _))
    ·(simp only[go_sem,hD,hZ,gC,gD,ak aV];try exact aQ)
    ·(simp only[go_sem,hD,hZ,gC,gD,ak aV];try exact aQ)
   ·simp only [c1,c2,zax,zbz,if_true,jt]at hR
    subst hR
    exact jn (eK c1 c2) B6
  ·simp only [c1,zaN,zab,if_false]at hR
   refine XT c1 B6 ?_
   refine cr 2 0 ?_ ?_ (IH (rest,k+1) ⟨g2,hR⟩ (zae _))
   ·(simp only[go_sem,hD,hZ,gC,gD,ak aV];try exact aQ)
   ·(simp only[go_sem,hD,hZ,gC,gD,ak aV];try exact aQ)
end Go.Abs
