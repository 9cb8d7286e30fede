/-
  What is proved here: part 5 of the road to the claim (MirLex, MirMay, Prs, Lex1, Lex2, RefLex1, Prs2, Ref1, Ref2, Ref3, RefMay1, RefMay2, Flat1, Flat2, Flat3, Sl1, MirFlat2, Sl2, TMay1, TMay2, RefMay3, RefMay4, TMay3, TMay4, MayFine, MayEq, Nm1, Nm2, Nm3, MayEq2, Sc1, Sc2, Sc3, ScP, Sc4, Rng, FineM).
  No conditions.
-/
import Derived.Test.YtpjadlleefgcpaaGreatRnL4

set_option linter.unusedSimpArgs false
set_option linter.unusedVariables false
namespace Go.Abs
def yd (c:UInt8):Bool:=decide ((c.toNat:Int)≥97) && decide ((c.toNat:Int)≤122)
def B1 (c:UInt8):Bool:=decide ((c.toNat:Int)≥48) && decide ((c.toNat:Int)≤57)
def isB (c:UInt8):Bool:=(c.toNat:Int)==32 ||(c.toNat:Int)==9 ||(c.toNat:Int)==10 ||(c.toNat:Int)==13
def qJ:aF→Nat
 | []=>0
 |c::r=>if yd c ||B1 c then qJ r+1 else 0
def afu:aF→Nat
 | []=>0
 |c::r=>if B1 c then afu r+1 else 0
def SI:aF→Nat
 | []=>0
 |c::r=>if(c.toNat:Int) != 10 then SI r+1 else 0
def isWord (s:aF):Bool:=
 s == [103,108,111,98,97,108] ||s == [112,114,111,99] ||s == [118,97,114] ||s == [114,101,102] ||s == [105,102] ||s == [101,108,115,101] ||s == [119,104,105,108,101] ||s == [98,114,101,97,107] ||s == [99,111,110,116,105,110,117,101] ||s == [114,101,116,117,114,110] ||s == [103,111,116,111] ||s == [114,101,97,100] ||s == [112,114,105,110,116]
def ajd (s:aF):Bool:=s == [61,61] ||s == [33,61] ||s == [60,61] ||s == [62,61] ||s == [38,38] ||s == [124,124]
def aaM (c:UInt8):Bool:=
 (c.toNat:Int)==40 ||(c.toNat:Int)==41 ||(c.toNat:Int)==123 ||(c.toNat:Int)==125 ||(c.toNat:Int)==44 ||(c.toNat:Int)==59 ||(c.toNat:Int)==58 ||(c.toNat:Int)==61 ||
 (c.toNat:Int)==33 ||(c.toNat:Int)==60 ||(c.toNat:Int)==62 ||(c.toNat:Int)==43 ||(c.toNat:Int)==45 ||(c.toNat:Int)==42 ||(c.toNat:Int)==47 ||(c.toNat:Int)==37
def aaN:aF→Nat
 | []=>0
 | [c]=>if aaM c then 1 else 0
 |c::d::_=>if ajd [c,d]then 2 else if aaM c then 1 else 0
def bA:Int→aF→Option Int
 |n,[]=>some n
 |n,c::r=>if n > (9223372036854775807 - ((c.toNat:Int) - 48)) / 10 then none else bA (n*10+((c.toNat:Int) - 48)) r
def amw (pos:Nat):aF→rT ⊕ Int
 | []=> .inr 2
 | c::r=>
  if yd c then
   let s:=(c::r).take (qJ (c::r))
   if s.length > 8 then .inr 4 else .inl ⟨if isWord s then 3 else 1,s,0,pos⟩
  else if B1 c then
   let s:=(c::r).take (afu (c::r))
   if s.length > 1∧(c.toNat:Int)=48 then .inr 2 else
   match bA 0 s with
   |some n=> .inl ⟨2,s,n,pos⟩
   |none=> .inr 4
  else
   if aaN (c::r)=0 then .inr 2 else .inl ⟨4,(c::r).take (aaN (c::r)),0,pos⟩
def SJ:Nat→Nat→aF→List rT→List rT×Int×Int
 | 0,_,_,_=>([],0,0)
 |_+1,pos,[],out=>(out++ [⟨0,[],0,pos⟩],0,0)
 | n+1,pos,c::r,out=>
  if isB c then SJ n (pos+1) r out
  else if(c.toNat:Int)==35 then SJ n (pos+SI (c::r)) ((c::r).drop (SI (c::r))) out
  else match amw pos (c::r)with
   | .inr e=>([],e,pos)
   | .inl t=>if out.length=2000 then([],4,pos)else SJ n (pos+t.text.length) ((c::r).drop t.text.length) (out++ [t])
def z7 (text:aF):List rT×Int×Int:=if text.length > 100000 then([],4,0)else SJ (text.length+1) 0 text []
def wz:aF→Bool
 | []=>true
 |c::r=>if !(yd c) && !(B1 c)then false else wz r
def isName:aF→Bool
 | []=>false
 |c::r=>if decide (((r.length+1:Nat):Int) > 8) || !(yd c)then false else if wz r then !(isWord (c::r))else false
def kg (op:Int):Int:=if op==1 ||op==2 then 0 else if op==3 ||op==4 then 1 else if decide (op≥5) && decide (op≤17)then 2 else -1
mutual
def Ex.form:Ex→Bool
 |⟨op,n,name,kids⟩=>
  if kg op != (kids.length:Int) ||(op != 1 && n != 0) ||decide (n<0) || !((op==2) == !(name == [])) ||(!(name == []) && !(isName name))then false else Ex.rh kids
def Ex.rh:List Ex→Bool
 | []=>true
 |x::l=>if !(Ex.form x)then false else Ex.rh l
end
mutual
def Ex.texts:Ex→Prop
 |⟨_,_,name,kids⟩=>name.length<4611686018427387904∧Ex.xd kids
def Ex.xd:List Ex→Prop
 | []=>True
 |x::l=>x.texts∧Ex.xd l
end
theorem Ex.GV {x:Ex} : ∀ {l:List Ex},Ex.xd l→x∈l→x.texts
 |y::l,h,m=>by
  rcases zap.1 m with rfl|m
  ·exact h.1
  ·exact Ex.GV h.2 m
theorem Ex.JD {op n:Int} {name:aF} {kids:List Ex} (h:Ex.texts ⟨op,n,name,kids⟩) {y:Ex} (m:y∈kids):y.texts:=Ex.GV h.2 m
def Ex.may (x:Ex):Bool:=decide (((min x.depth 21:Nat):Int)≤20) && x.form
def Ex.none (x:Ex):Bool:=x.op==0 && x.n==0 && x.name == [] && (x.kids.length:Int)==0
def ez:List aF→Bool
 | []=>true
 |s::l=>if !(isName s)then false else ez l
def Ar.may (a:Ar):Bool:=if a.ref then isName a.name && a.x.none else a.name == [] && a.x.may
def Ar.eU:List Ar→Bool
 | []=>true
 |a::l=>if !(a.may)then false else Ar.eU l
def Sm.rI (s:Sm):Bool:=s.kind==1 ||s.kind==3 ||s.kind==5 ||s.kind==6 ||(s.kind==9 && s.has)
def Sm.hasName (s:Sm):Bool:=s.kind==1 ||s.kind==2 ||s.kind==10
def Sm.vx (s:Sm):Bool:=s.kind==4
def Sm.one (s:Sm):Bool:=
 if decide (s.kind<1) ||decide (s.kind > 10) || !(ez s.labels) ||(s.rI && !(s.x.may)) ||(!(s.rI) && !(s.x.none)) ||(s.has && s.kind != 9)then false
 else if(s.hasName && !(isName s.name)) ||(!(s.hasName) && !(s.name == []) && !(s.vx && isName s.name))then false
 else if !(s.vx == !(s.proc == [])) ||(s.vx && !(isName s.proc)) ||(!(s.vx) && decide ((s.args.length:Int) > 0))then false
 else if !(Ar.eU s.args)then false
 else((s.a8.length:Int)==0 ||s.kind==5 ||s.kind==6) && ((s.aK.length:Int)==0 ||s.kind==5)
structure It where
 s:Sm
 deep:Int
 a7:Int
 aK:Bool
mutual
def gN (deep a7:Int) (aK:Bool) (out:List It):Sm→List It
 |⟨id,kind,labels,name,proc,x,has,args,a8,e⟩=>
  if decide (deep≤12)then dJ (deep+1) id true (dJ (deep+1) id false (out++ [⟨⟨id,kind,labels,name,proc,x,has,args,a8,e⟩,deep,a7,aK⟩]) a8) e
  else out++ [⟨⟨id,kind,labels,name,proc,x,has,args,a8,e⟩,deep,a7,aK⟩]
def dJ (deep a7:Int) (aK:Bool) (out:List It):List Sm→List It
 | []=>out
 |s::l=>if decide ((out.length:Int)≤200)then dJ deep a7 aK (gN deep a7 aK out s) l else out
end
def Pc.flat (f:Pc):List It:=dJ 1 0 false [] f.body
def allM (out:List It):List Pc→List It
 | []=>out
 |f::l=>if decide (((out++f.flat).length:Int) > 200)then out++f.flat else allM (out++f.flat) l
def Pg.all (p:Pg):List It:=allM [] p.procs
def Pm.eU:List Pm→Bool
 | []=>true
 |a::l=>if !(isName a.name)then false else Pm.eU l
def Pc.lF:List Pc→Bool
 | []=>true
 |f::l=>
  if !(isName f.name) ||decide ((f.params.length:Int) > 8) ||decide ((f.vars.length:Int) > 16) || !(ez f.vars) || !(ez f.fin)then false
  else if !(Pm.eU f.params)then false else Pc.lF l
def It.eU (n:Nat):List It→Bool
 | []=>true
 |i::l=>if i.s.id != ((n+1:Nat):Int) ||decide (i.deep > 12) || !(i.s.one)then false else It.eU (n+1) l
def Pg.may (p:Pg):Bool:=
 if decide ((p.globals.length:Int) > 16) ||decide ((p.procs.length:Int) > 16) || !(ez p.globals)then false
 else if !(Pc.lF p.procs)then false
 else if decide ((p.all.length:Int) > 200)then false else It.eU 0 p.all
open Go.Proofs
@[go_sem] def aqC (r:Rd):List D:= [.slice .shared 4 (r.l.map kS), .int .i64 r.i, .int .i64 r.code, .int .i64 r.Mr, .int .i64 r.n]
set_option maxRecDepth 8000
open Go.Proofs
theorem ux (c:UInt8) (s:St):az Tryz.prog 104 [.int .u8 (c.toNat:Int)] s (.bool (yd c)) s:=by
 refine az.pure ?_ rfl rfl s
 generalize h:yd c=b
 unfold yd at h
 unfold S0
 refine az.go Iy.h rfl fun B Q hB hQ=>?_
 have⟨hD,hY,hZ,gC⟩:=bb
 repeat' (first
 |simp only[go_sem,hD,hY,hZ,gC]
 |(with_reducible first|refine cf fun hc=>?_|refine cj fun hc=>?_|refine cm (fun hc=>?_) fun hc=>?_)<;>(try simp only[hc,bs,↓reduceIte]at h)<;>try simp only[hc]
 |(with_reducible refine ax hQ ?_;exact fL))
theorem IF (c:UInt8) (s:St):az Tryz.prog 141 [.int .u8 (c.toNat:Int)] s (.bool (B1 c)) s:=by
 refine az.pure ?_ rfl rfl s
 generalize h:B1 c=b
 unfold B1 at h
 unfold S0
 refine az.go KS.h rfl fun B Q hB hQ=>?_
 have⟨hD,hY,hZ,gC⟩:=bb
 repeat' (first
 |simp only[go_sem,hD,hY,hZ,gC]
 |(with_reducible first|refine cf fun hc=>?_|refine cj fun hc=>?_|refine cm (fun hc=>?_) fun hc=>?_)<;>(try simp only[hc,bs,↓reduceIte]at h)<;>try simp only[hc]
 |(with_reducible refine ax hQ ?_;exact fL))
theorem afv (t:aF) (s:St):az Tryz.prog 106 [.str t] s (.bool (isWord t)) s:=by
 refine az.pure ?_ rfl rfl s
 generalize h:isWord t=b
 unfold isWord at h
 unfold S0
 refine az.go MG.h rfl fun B Q hB hQ=>?_
 have⟨hD,hY,hZ,gC⟩:=bb
 repeat' (first
 |simp only[go_sem,hD,hY,hZ,gC]
 |(with_reducible first|refine cf fun hc=>?_|refine cj fun hc=>?_|refine cm (fun hc=>?_) fun hc=>?_)<;>(try simp only[hc,bs,↓reduceIte]at h)<;>try simp only[hc]
 |(with_reducible refine ax hQ ?_;exact fL))
theorem aje {text:aF} {pos:Nat} (hl:text.length<4611686018427387904) (s:St):az Tryz.prog 105 [.str text, .int .i64 (pos:Int)] s (.int .i64 ((pos+qJ (text.drop pos):Nat):Int)) s:=by
 refine az.pure ?_ rfl rfl s
 unfold S0
 refine az.go OW.h rfl fun B Q hB hQ=>?_
 have⟨hD,hY,hZ,gC⟩:=bb
 repeat' (first
 |simp only[go_sem,hD,hY,hZ,gC]
 |(with_reducible refine ax hQ ?_;exact aB))
 refine di 0 0 (aN.ind (ι:=aF×Nat) (fun i=>text.drop i.2=i.1∧i.2+qJ i.1=pos+qJ (text.drop pos)) (fun i=>i.1.length)
  (fun i=> [(0, .str text),(1, .int .i64 (i.2:Int))]) (fun i=>⟨[],[]⟩) ?_ (text.drop pos,pos) ⟨rfl,rfl⟩)
 rintro⟨rest,k⟩ ⟨h1,h2⟩ IH
 dsimp only at h1 h2
 cases rest with
 |nil=>
  have hD:=drop_nil h1
  simp only[qJ,zaS]at h2
  rw[← h2]at hQ
  repeat' (first
 |simp only[go_sem,hD,hY,hZ,gC]
 |(with_reducible refine ax hQ ?_;exact aB))
 | cons c rest=>
  obtain⟨hY,g2,hD,g4⟩:=drop_cons h1
  have hZ:k<4611686018427387904:=by omega
  cases hb:(yd c ||B1 c)
  ·simp only [qJ,hb,zab, ↓reduceIte,zaS]at h2
   rw[← h2]at hQ
   simp only[Bool.or_eq_false_iff]at hb
   repeat' (first
 |simp only[go_sem,hD,hY,hZ,gC,hb.1,hb.2]
 |(with_reducible refine CU (ux _ _) ?_)
 |(with_reducible refine CU (IF _ _) ?_)
 | (with_reducible refine ax hQ ?_;exact aB))
  ·simp only [qJ,hb, ↓reduceIte]at h2
   cases Gk:yd c
   ·rw [Gk,zbg]at hb
    repeat' (first
 |simp only[go_sem,hD,hY,hZ,gC,hb,Gk]
 |(with_reducible refine CU (ux _ _) ?_)
 |(with_reducible refine CU (IF _ _) ?_)
 | (with_reducible refine ax hQ ?_;exact aB))
    refine di 0 0 (IH (rest,k+1) ⟨g2,by dsimp only;omega⟩ (zae _))
   ·repeat' (first
 |simp only[go_sem,hD,hY,hZ,gC,Gk]
 |(with_reducible refine CU (ux _ _) ?_)
 |(with_reducible refine CU (IF _ _) ?_)
 | (with_reducible refine ax hQ ?_;exact aB))
    refine di 0 0 (IH (rest,k+1) ⟨g2,by dsimp only;omega⟩ (zae _))
def aoO (s:aF):Int×Bool:=match bA 0 s with|some n=>(n,true)|none=>(0,false)
open Go.Proofs
def amx (f:Int×Int):List D:= [.int .i64 f.1, .int .i64 f.2]
def ajf (text:aF) (out:List rT) (pos:Nat):Tm:= [(0, .str text),(3, .ptr 0 0),(4, .slice (.tok 0) 4 (out.map kS)),(5, .ptr 1 0),(6, .int .i64 (pos:Int))]
def ajg (out:List rT):St:=⟨[[.int .i64 0, .int .i64 0],[.junk, .junk, .junk, .junk]],[some out.length]⟩
attribute [go_sem] ajf ajg amx
end Go.Abs
namespace Go.Abs
set_option maxRecDepth 8000
open Go.Proofs
theorem MI (c:UInt8) (s:St):az Tryz.prog 198 [.int .u8 (c.toNat:Int)] s (.bool (yd c)) s:=by
 refine az.pure ?_ rfl rfl s
 generalize h:yd c=b
 unfold yd at h
 unfold S0
 refine az.go Iu.h rfl fun B Q hB hQ=>?_
 have⟨hD,hY,hZ,gC⟩:=bb
 repeat' (first
 |simp only[go_sem,hD,hY,hZ,gC]
 |(with_reducible first|refine cf fun hc=>?_|refine cj fun hc=>?_|refine cm (fun hc=>?_) fun hc=>?_)<;>(try simp only[hc,bs,↓reduceIte]at h)<;>try simp only[hc]
 |(with_reducible refine ax hQ ?_;exact fL))
theorem Yq (c:UInt8) (s:St):az Tryz.prog 199 [.int .u8 (c.toNat:Int)] s (.bool (B1 c)) s:=by
 refine az.pure ?_ rfl rfl s
 generalize h:B1 c=b
 unfold B1 at h
 unfold S0
 refine az.go Iv.h rfl fun B Q hB hQ=>?_
 have⟨hD,hY,hZ,gC⟩:=bb
 repeat' (first
 |simp only[go_sem,hD,hY,hZ,gC]
 |(with_reducible first|refine cf fun hc=>?_|refine cj fun hc=>?_|refine cm (fun hc=>?_) fun hc=>?_)<;>(try simp only[hc,bs,↓reduceIte]at h)<;>try simp only[hc]
 |(with_reducible refine ax hQ ?_;exact fL))
theorem acE (s:St):az Tryz.prog 219 [] s (.slice .shared 1 [[.str [103,108,111,98,97,108]],[.str [112,114,111,99]],[.str [118,97,114]],[.str [114,101,102]],[.str [105,102]],[.str [101,108,115,101]],[.str [119,104,105,108,101]],[.str [98,114,101,97,107]],[.str [99,111,110,116,105,110,117,101]],[.str [114,101,116,117,114,110]],[.str [103,111,116,111]],[.str [114,101,97,100]],[.str [112,114,105,110,116]]]) s:=by
 refine az.pure ?_ rfl rfl s
 unfold S0
 refine az.go Iw.h rfl fun B Q hB hQ=>?_
 have⟨hD,hY,hZ,gC⟩:=bb
 repeat' (first
 |simp only[go_sem,hD,hY,hZ,gC]
 |(with_reducible refine ax hQ ?_;exact aB))
def DS (s:aF):Bool:=
 [103,108,111,98,97,108] == s || [112,114,111,99] == s || [118,97,114] == s || [114,101,102] == s || [105,102] == s || [101,108,115,101] == s || [119,104,105,108,101] == s || [98,114,101,97,107] == s || [99,111,110,116,105,110,117,101] == s || [114,101,116,117,114,110] == s || [103,111,116,111] == s || [114,101,97,100] == s || [112,114,105,110,116] == s
theorem SK (s:aF):DS s=isWord s:=by
 have e : ∀ a:aF,(a==s)=(s==a):=fun a=>BEq.comm
 simp only[DS,isWord,e]
theorem acF (text:aF) (s:St):az Tryz.prog 200 [.str text] s (.bool (isWord text)) s:=by
 refine az.pure ?_ rfl rfl s
 rw[← SK]
 generalize h:DS text=p
 unfold DS at h
 unfold S0
 refine az.go KM.h rfl fun B Q hB hQ=>?_
 have⟨hD,hY,hZ,gC⟩:=bb
 repeat' (first
 |simp only[go_sem,hD,hY,hZ,gC,Int.cast_ofNat_Int,dv,Int.reduceAdd,Int.reduceLT,Int.reduceNeg,decide_true,decide_false,Int.reduceToNat]
 |(with_reducible refine CU (acE _) ?_)
 |(with_reducible refine aN.fJ ?_)
 |(with_reducible first|refine cf fun hc=>?_|refine cj fun hc=>?_|refine cm (fun hc=>?_) fun hc=>?_)<;>(try simp only[hc,bs,↓reduceIte]at h)<;>try simp only[hc]
 |(with_reducible refine ax hQ ?_;(try cases h);simp only[bF,bG,bZ,cb,go_sem,hD,hY,hZ,gC,Int.cast_ofNat_Int,dv,Int.reduceAdd,Int.reduceLT,Int.reduceNeg,decide_true,decide_false,Int.reduceToNat];try exact eQ))
def OpR (p:Int×Int):Prop:=0≤p.2∧p.2≤6
@[go_sem] def aqD (z:D) (r:Rd):List D:= [.slice .shared 4 (r.l.map kS), .int .i64 r.i, .int .i64 r.code, .int .i64 r.Mr,z]
class Cell (z:D):Prop where
 ok:D.ok 0 0 z=true
 fg : ∀ n m,D.fg n m z=z
instance (n:Int):Cell (.int .i64 n):=⟨rfl,fun _ _=>rfl⟩
instance:Cell .junk:=⟨rfl,fun _ _=>rfl⟩
theorem acG (z:D) [h:Cell z] (n m:Nat):D.fg n m z=z:=h.fg n m
attribute [go_sem] acG
def Rd.isO (text:aF) (r:Rd):Option Bool:=if r.good then r.is text else some false
end Go.Abs
namespace Go.Abs
open Go.Proofs
def afw (s:aF):Int×Int:=
 if [42] == s then(6,5)else if [47] == s then(6,6)else if [37] == s then(6,7)else if [43] == s then(5,8)else if [45] == s then(5,9)
 else if [60] == s then(4,10)else if [60,61] == s then(4,11)else if [62] == s then(4,12)else if [62,61] == s then(4,13)
 else if [61,61] == s then(3,14)else if [33,61] == s then(3,15)else if [38,38] == s then(2,16)else if [124,124] == s then(1,17)else(0,0)
def BZ (p:Int×Int):Prop:=(p.2==0)=(p.1==0)
set_option maxRecDepth 8000
open Go.Proofs
theorem afx : ∀ (kD:Nat),kD<1000000→∀ x:Ex,x.size<4611686018427387904→∀ s:St,az Tryz.prog 220 [.agg (bT x), .int .i64 (kD:Int)] s (.int .i64 ((min x.depth (kD+1):Nat):Int)) s:=by
 intro kD
 induction kD with
 |zero=>
  rintro _ ⟨op,m,name,kids⟩ hx s
  refine az.pure ?_ (by simp[D.bM,D.ok,jM]) rfl s
  have hz:((0:Int)==0)=true:=rfl
  have e:min (Ex.depth ⟨op,m,name,kids⟩) (0+1)=1:=by simp only[Ex.depth];omega
  rw[e]
  unfold S0
  refine az.go BY.h rfl fun B Q hB hQ=>?_
  have⟨hD,hY,hZ,gC⟩:=bb
  repeat' (first
 |simp only[go_sem,hD,hY,hZ,gC,hz]
 |(with_reducible refine ax hQ ?_;exact aB))
 | succ kD ih=>
  rintro aqE ⟨op,m,name,kids⟩ hx s
  refine az.pure ?_ (by simp[D.bM,D.ok,jM]) rfl s
  have hlen:kids.length<4611686018427387904:=by simp only[Ex.size]at hx;have:=Ex.dI kids;omega
  have hk : ∀ y∈kids,∀ s,az Tryz.prog 220 [.agg (bT y), .int .i64 (kD:Int)] s (.int .i64 ((min y.depth (kD+1):Nat):Int)) s:=fun y hy s=>
   ih (by omega) y (by simp only[Ex.size]at hx;have:=Ex.cq hy;omega) s
  have hz:(((kD+1:Nat):Int)==0)=false:=by simp;omega
  have w1:IntKind.wrap .i64 (((kD+1:Nat):Int) - 1)=(kD:Int):=by rw[dv]<;>omega
  unfold S0
  refine az.go BY.h rfl fun B Q hB hQ=>?_
  have⟨hD,hY,hZ,gC⟩:=bb
  repeat' (first
 |simp only[go_sem,hD,hY,hZ,gC,hz]
 | (with_reducible refine ax hQ ?_;exact aB))
  refine di 1 0 (aN.ind (ι:=List Ex×Nat×Nat) (fun i=>kids.drop i.2.1=i.1∧i.2.2≤kD+1∧min (max i.2.2 (Ex.lO i.1)) (kD+1)=min (Ex.lO kids) (kD+1)) (fun i=>i.1.length)
   (fun i=> [(1, .int .i64 ((kD+1:Nat):Int)),(2, .ptr 0 0),(5, .int .i64 (i.2.2:Int)),(6, .int .i64 (i.2.1:Int))]) (fun i=>⟨[bT ⟨op,m,name,kids⟩],[]⟩) ?_ (kids,0,0) ⟨rfl,zaz _,by simp⟩)
  rintro⟨rest,k,d⟩ ⟨h1,h2,h3⟩ IH
  dsimp only at h1 h2 h3
  have hd:min (Ex.depth ⟨op,m,name,kids⟩) (kD+1+1)=min (Ex.lO kids) (kD+1)+1:=by simp only[Ex.depth];omega
  rw[hd, ← h3]at hQ
  have w2:IntKind.wrap .i64 ((d:Int)+1)=((d+1:Nat):Int):=by rw[dv]<;>omega
  by_cases aqV:d<kD+1
  ·have c2:decide ((d:Int)<((kD+1:Nat):Int))=true:=by simp;omega
   cases rest with
   |nil=>
    have hD:=drop_nil h1
    simp only[Ex.lO,Nat.max_zero]at hQ
    have e:min d (kD+1)=d:=by omega
    rw[e]at hQ
    repeat' (first
 |simp only[go_sem,hD,hY,hZ,gC,c2,w2]
 | (with_reducible refine ax hQ ?_;exact aB))
   | cons y rest=>
    obtain⟨hY,g2,hD,g4⟩:=drop_cons h1
    have hy:=hk y (zad hY)
    simp only[Ex.lO]at h3
    have aZ:k<4611686018427387904:=by omega
    by_cases hgt:min y.depth (kD+1) > d
    ·have c3:decide (((min y.depth (kD+1):Nat):Int) > (d:Int))=true:=by simp only [decide_eq_true_eq];omega
     repeat' (first
 |simp only[go_sem,hD,hY,hZ,gC,c2,w1,c3]
 |(with_reducible refine CU (hy _) ?_)
 | (with_reducible refine ax hQ ?_;exact aB))
     refine cv 1 0 ?_ ?_ (IH (rest,k+1,min y.depth (kD+1)) ⟨g2,by dsimp only;omega,by dsimp only;omega⟩ (zae _))
     ·(simp only[go_sem,hD,hY,hZ,gC,aw aZ];try exact aU)
     ·(simp only[go_sem,hD,hY,hZ,gC,aw aZ];try exact aU)
    ·have c3:decide (((min y.depth (kD+1):Nat):Int) > (d:Int))=false:=by simp only [decide_eq_false_iff_not];omega
     repeat' (first
 |simp only[go_sem,hD,hY,hZ,gC,c2,w1,c3]
 |(with_reducible refine CU (hy _) ?_)
 | (with_reducible refine ax hQ ?_;exact aB))
     refine cv 1 0 ?_ ?_ (IH (rest,k+1,d) ⟨g2,h2,by dsimp only;omega⟩ (zae _))
     ·(simp only[go_sem,hD,hY,hZ,gC,aw aZ];try exact aU)
     ·(simp only[go_sem,hD,hY,hZ,gC,aw aZ];try exact aU)
  ·have c2:decide ((d:Int)<((kD+1:Nat):Int))=false:=by simp;omega
   have e:min (max d (Ex.lO rest)) (kD+1)=d:=by omega
   rw[e]at hQ
   cases rest with
   |nil=>
    have hD:=drop_nil h1
    repeat' (first
 |simp only[go_sem,hD,hY,hZ,gC,c2,w2]
 | (with_reducible refine ax hQ ?_;exact aB))
   |cons y rest=>
    obtain⟨hY,g2,hD,g4⟩:=drop_cons h1
    repeat' (first
 |simp only[go_sem,hD,hY,hZ,gC,c2,w2]
 |(with_reducible refine ax hQ ?_;exact aB))
theorem uy (text:aF) (hl:text.length<4611686018427387904) (s:St):az Tryz.prog 180 [.str text] s (.bool (isName text)) s:=by
 refine az.pure ?_ rfl rfl s
 unfold S0
 cases text with
 |nil=>
  have e:(([] : aF) == [])=true:=rfl
  refine az.go BW.h rfl fun B Q hB hQ=>?_
  have⟨hD,hY,hZ,gC⟩:=bb
  repeat' (first
 |simp only[go_sem,hD,hY,hZ,gC,e,isName]
 |(with_reducible first|refine cf fun hc=>?_|refine cj fun hc=>?_|refine cm (fun hc=>?_) fun hc=>?_)<;>(try simp only[hc,bs,↓reduceIte]at h)<;>try simp only[hc]
 |(with_reducible refine ax hQ ?_;simp only[bF,bG,bZ,cb,go_sem,hD,hY,hZ,gC,e,isName];try exact eQ))
 |cons c r=>
  have e:((c::r) == [])=false:=rfl
  generalize h:isName (c::r)=p
  simp only[isName]at h
  refine az.go BW.h rfl fun B Q hB hQ=>?_
  have⟨hD,hY,hZ,gC⟩:=bb
  repeat' (first
 |simp only[go_sem,hD,hY,hZ,gC,e]
 |(with_reducible refine CU (MI _ _) ?_)
 |(with_reducible first|refine cf fun hc=>?_|refine cj fun hc=>?_|refine cm (fun hc=>?_) fun hc=>?_)<;>(try simp only[hc,bs,↓reduceIte]at h)<;>try simp only[hc]
 | (with_reducible refine ax hQ ?_;(try cases h);simp only [bF,bG,bZ,cb,go_sem,hD,hY,hZ,gC,e];try exact eQ))
  refine di 0 0 (aN.ind (ι:=aF×Nat) (fun i=>(c::r).drop i.2=i.1∧(if wz i.1 then !(isWord (c::r))else false)=p) (fun i=>i.1.length)
   (fun i=> [(0, .str (c::r)),(3, .int .i64 (i.2:Int))]) (fun i=>⟨[],[]⟩) ?_ (r,1) ⟨rfl,h⟩)
  rintro⟨rest,k⟩ ⟨h1,h⟩ IH
  dsimp only at h1 h
  cases rest with
  |nil=>
   have hD:=drop_nil h1
   simp only[zat]at hD
   simp only[wz,↓reduceIte]at h
   repeat' (first
 |simp only[go_sem,hD,hY,hZ,gC]
 |(with_reducible refine CU (acF _ _) ?_)
 |(with_reducible first|refine cf fun hc=>?_|refine cj fun hc=>?_|refine cm (fun hc=>?_) fun hc=>?_)<;>(try simp only[hc,bs,↓reduceIte]at h)<;>try simp only[hc]
 | (with_reducible refine ax hQ ?_;exact fL))
  |cons d rest=>
   obtain⟨hY,g2,hD,g4⟩:=drop_cons h1
   simp only[zat]at hD
   have hZ:k<4611686018427387904:=by omega
   simp only[wz]at h
   repeat' (first
 |simp only[go_sem,hD,hY,hZ,gC]
 |(with_reducible refine CU (MI _ _) ?_)
 |(with_reducible refine CU (Yq _ _) ?_)
 |(with_reducible first|refine cf fun hc=>?_|refine cj fun hc=>?_|refine cm (fun hc=>?_) fun hc=>?_)<;>(try simp only[hc,bs,↓reduceIte]at h)<;>try simp only[hc]
 |(with_reducible refine ax hQ ?_;(try cases h);simp only[bF,bG,bZ,cb,go_sem,hD,hY,hZ,gC];repeat' (first|exact Ok.out|with_reducible refine ei ?_ ?_|(simp;done)))
 | (cases h;done))
   all_goals
    refine di 0 0 (IH (rest,k+1) ⟨g2,h⟩ (zae _))
theorem Py (op:Int) (s:St):az Tryz.prog 123 [.int .i64 op] s (.int .i64 (kg op)) s:=by
 refine az.pure ?_ rfl rfl s
 unfold S0
 generalize h:kg op=p
 unfold kg at h
 refine az.go IB.h rfl fun B Q hB hQ=>?_
 have⟨hD,hY,hZ,gC⟩:=bb
 repeat' (first
 |simp only[go_sem,hD,hY,hZ,gC]
 |(with_reducible first|refine cf fun hc=>?_|refine cj fun hc=>?_|refine cm (fun hc=>?_) fun hc=>?_)<;>(try simp only[hc,bs,↓reduceIte]at h)<;>try simp only[hc]
 |(with_reducible refine ax hQ ?_;exact fL))
theorem A4 {l:List aF} (hl:l.length<4611686018427387904) (hs : ∀ t∈l,t.length<4611686018427387904) (s:St):az Tryz.prog 179 [.slice .shared 1 (l.map encStr)] s (.bool (ez l)) s:=by
 refine az.pure ?_ (by simp[D.bM,D.ok,dz,Tag.ok]) rfl s
 unfold S0
 generalize h:ez l=p
 refine az.go Is.h rfl fun B Q hB hQ=>?_
 have⟨hD,hY,hZ,gC⟩:=bb
 repeat' (first
 |simp only[go_sem,hD,hY,hZ,gC]
 |(with_reducible first|refine cf fun hc=>?_|refine cj fun hc=>?_|refine cm (fun hc=>?_) fun hc=>?_)<;>(try simp only[hc,bs,↓reduceIte]at h)<;>try simp only[hc]
 |(with_reducible refine ax hQ ?_;exact fL))
 refine di 0 0 (aN.ind (ι:=List aF×Nat) (fun i=>l.drop i.2=i.1∧ez i.1=p) (fun i=>i.1.length)
  (fun i=> [(5, .slice .shared 1 (l.map encStr)),(6, .int .i64 (l.length:Int)),(7, .int .i64 (i.2:Int))]) (fun i=>⟨[],[]⟩) ?_ (l,0) ⟨rfl,h⟩)
 rintro⟨rest,k⟩ ⟨h1,h⟩ IH
 dsimp only at h1 h
 cases rest with
 |nil=>
  have hD:=drop_nil h1
  simp only[ez]at h
  repeat' (first
 |simp only[go_sem,hD,hY,hZ,gC]
 |(with_reducible first|refine cf fun hc=>?_|refine cj fun hc=>?_|refine cm (fun hc=>?_) fun hc=>?_)<;>(try simp only[hc,bs,↓reduceIte]at h)<;>try simp only[hc]
 |(with_reducible refine ax hQ ?_;exact fL))
 |cons t rest=>
  obtain⟨hY,g2,hD,g4⟩:=drop_cons h1
  have hZ:k<4611686018427387904:=by omega
  have hn:=uy t (hs t (zad hY))
  simp only[ez]at h
  repeat' (first
 |simp only[go_sem,hD,hY,hZ,gC]
 |(with_reducible refine CU (hn _) ?_)
 |(with_reducible first|refine cf fun hc=>?_|refine cj fun hc=>?_|refine cm (fun hc=>?_) fun hc=>?_)<;>(try simp only[hc,bs,↓reduceIte]at h)<;>try simp only[hc]
 |(with_reducible refine ax hQ ?_;exact fL))
  refine di 0 0 (IH (rest,k+1) ⟨g2,h⟩ (zae _))
theorem afy : ∀ (n:Nat) (x:Ex),x.size≤n→x.size<4611686018427387904→x.texts→∀ s:St,az Tryz.prog 221 [.agg (bT x)] s (.bool x.form) s:=by
 intro n
 induction n with
 |zero=>rintro⟨op,m,name,kids⟩ h;simp only[Ex.size]at h;omega
 | succ n ih=>
  rintro⟨op,m,name,kids⟩ h hx ht s
  refine az.pure ?_ (by simp[D.bM,D.ok,jM]) rfl s
  have hlen:kids.length<4611686018427387904:=by simp only[Ex.size]at hx;have:=Ex.dI kids;omega
  have hk : ∀ y∈kids,∀ s,az Tryz.prog 221 [.agg (bT y)] s (.bool y.form) s:=fun y hy s=>
   ih y (by simp only[Ex.size]at h;have:=Ex.cq hy;omega) (by simp only[Ex.size]at hx;have:=Ex.cq hy;omega) (Ex.JD ht hy) s
  have hn:=uy name ht.1
  unfold S0
  generalize h:Ex.form ⟨op,m,name,kids⟩=p
  simp only[Ex.form]at h
  refine az.go KO.h rfl fun B Q hB hQ=>?_
  have⟨hD,hY,hZ,gC⟩:=bb
  repeat' (first
 |simp only[go_sem,hD,hY,hZ,gC]
 |(with_reducible refine CU (Py _ _) ?_)
 |(with_reducible refine CU (hn _) ?_)
 |(with_reducible first|refine cf fun hc=>?_|refine cj fun hc=>?_|refine cm (fun hc=>?_) fun hc=>?_)<;>(try simp only[hc,bs,↓reduceIte]at h)<;>try simp only[hc]
 | (with_reducible refine ax hQ ?_;(try cases h);simp only [bF,bG,bZ,cb,go_sem,hD,hY,hZ,gC];repeat' (first | exact Ok.out | with_reducible refine ei ?_ ?_ | (simp;done))))
  all_goals
   refine di 1 0 (aN.ind (ι:=List Ex×Nat) (fun i=>kids.drop i.2=i.1∧Ex.rh i.1=p) (fun i=>i.1.length)
    (fun i=> [(1, .ptr 0 0),(48, .int .i64 (kids.length:Int)),(49, .int .i64 (i.2:Int))]) (fun i=>⟨[bT ⟨op,m,name,kids⟩],[]⟩) ?_ (kids,0) ⟨rfl,h⟩)
   rintro⟨rest,k⟩ ⟨h1,h⟩ IH
   dsimp only at h1 h
   cases rest with
   |nil=>
    have hD:=drop_nil h1
    simp only[Ex.rh]at h
    repeat' (first
 |simp only[go_sem,hD,hY,hZ,gC]
 |(with_reducible first|refine cf fun hc=>?_|refine cj fun hc=>?_|refine cm (fun hc=>?_) fun hc=>?_)<;>(try simp only[hc,bs,↓reduceIte]at h)<;>try simp only[hc]
 |(with_reducible refine ax hQ ?_;exact fL)
 | (cases h;done))
   |cons y rest=>
    obtain⟨hY,g2,hD,g4⟩:=drop_cons h1
    have hy:=hk y (zad hY)
    have hZ:k<4611686018427387904:=by omega
    simp only[Ex.rh]at h
    repeat' (first
 |simp only[go_sem,hD,hY,hZ,gC]
 |(with_reducible refine CU (hy _) ?_)
 |(with_reducible first|refine cf fun hc=>?_|refine cj fun hc=>?_|refine cm (fun hc=>?_) fun hc=>?_)<;>(try simp only[hc,bs,↓reduceIte]at h)<;>try simp only[hc]
 | (with_reducible refine ax hQ ?_;exact fL))
    refine di 1 0 (IH (rest,k+1) ⟨g2,h⟩ (zae _))
theorem CW {x:Ex} (hx:x.size<4611686018427387904) (ht:x.texts) (s:St):az Tryz.prog 201 [.agg (bT x)] s (.bool x.may) s:=by
 refine az.pure ?_ (by simp[D.bM,D.ok,jM]) rfl s
 have hd:=fun s=>afx 20 (by decide) x hx s
 have c20:((20:Nat):Int)=20:=rfl
 rw[c20]at hd
 have hf:=afy _ x (zal _) hx ht
 unfold S0
 generalize h:Ex.may x=p
 unfold Ex.may at h
 refine az.go Fm.h rfl fun B Q hB hQ=>?_
 have⟨hD,hY,hZ,gC⟩:=bb
 repeat' (first
 |simp only[go_sem,hD,hY,hZ,gC]
 |(with_reducible refine CU (hd _) ?_)
 |(with_reducible refine CU (hf _) ?_)
 |(with_reducible first|refine cf fun hc=>?_|refine cj fun hc=>?_|refine cm (fun hc=>?_) fun hc=>?_)<;>(try simp only[hc,bs,↓reduceIte]at h)<;>try simp only[hc]
 |(with_reducible refine ax hQ ?_;exact fL))
theorem Vf (x:Ex) (s:St):az Tryz.prog 202 [.agg (bT x)] s (.bool x.none) s:=by
 refine az.pure ?_ (by simp[D.bM,D.ok,jM]) rfl s
 unfold S0
 generalize h:Ex.none x=p
 unfold Ex.none at h
 refine az.go KN.h rfl fun B Q hB hQ=>?_
 have⟨hD,hY,hZ,gC⟩:=bb
 repeat' (first
 |simp only[go_sem,hD,hY,hZ,gC]
 |(with_reducible first|refine cf fun hc=>?_|refine cj fun hc=>?_|refine cm (fun hc=>?_) fun hc=>?_)<;>(try simp only[hc,bs,↓reduceIte]at h)<;>try simp only[hc]
 |(with_reducible refine ax hQ ?_;exact fL))
theorem ajh {a:Ar} (hx:a.x.size<4611686018427387904) (ht:a.x.texts) (hn:a.name.length<4611686018427387904) (s:St):az Tryz.prog 203 [.agg (dE a)] s (.bool a.may) s:=by
 refine az.pure ?_ (by simp[D.bM,D.ok,Mn]) rfl s
 have hm:=CW hx ht
 have h1:=uy a.name hn
 unfold S0
 generalize h:Ar.may a=p
 simp only[Ar.may]at h
 refine az.go MF.h rfl fun B Q hB hQ=>?_
 have⟨hD,hY,hZ,gC⟩:=bb
 repeat' (first
 |simp only[go_sem,hD,hY,hZ,gC]
 |(with_reducible refine CU (hm _) ?_)
 |(with_reducible refine CU (h1 _) ?_)
 |(with_reducible refine CU (Vf _ _) ?_)
 |(with_reducible first|refine cf fun hc=>?_|refine cj fun hc=>?_|refine cm (fun hc=>?_) fun hc=>?_)<;>(try simp only[hc,bs,↓reduceIte]at h)<;>try simp only[hc]
 |(with_reducible refine ax hQ ?_;exact fL))
structure Sm.kO (s:Sm):Prop where
 Vg : ∀ t∈s.labels,t.length<4611686018427387904
 afz:s.labels.length<4611686018427387904
 name:s.name.length<4611686018427387904
 proc:s.proc.length<4611686018427387904
 x:s.x.size<4611686018427387904
 xt:s.x.texts
 afA:s.args.length<4611686018427387904
 arg : ∀ a∈s.args,a.x.size<4611686018427387904∧a.x.texts∧a.name.length<4611686018427387904
section
variable {v:Sm} {B:gY} {Q:Exit→Tm→St→Prop} {p:Bool}
theorem aji (hf:v.kO) (hB:B.s = ⟨[],[]⟩) (hQ:mN 0 0 [(2,none)] (.bool p) ⟨[],[]⟩=Q)
 (h:(if !(Ar.eU v.args)then false else((v.a8.length:Int)==0 ||v.kind==5 ||v.kind==6) && ((v.aK.length:Int)==0 ||v.kind==5))=p) :
 Sem Tryz.prog B 178 Q0Y Q [(1, .ptr 0 0)] ⟨[aY v],[]⟩:=by
 have aqF:=hf.afA
 have Yr:=fun a ha s=>ajh (hf.arg a ha).1 (hf.arg a ha).2.1 (hf.arg a ha).2.2 s
 have⟨hD,hY,hZ,gC⟩:=bb
 refine ji ?_
 repeat' (first
 |simp only[go_sem,hD,hY,hZ,gC]
 |(with_reducible refine ax hQ ?_;exact aB))
 refine di 1 0 (aN.ind (ι:=List Ar×Nat) (fun i=>v.args.drop i.2=i.1∧(if !(Ar.eU i.1)then false else((v.a8.length:Int)==0 ||v.kind==5 ||v.kind==6) && ((v.aK.length:Int)==0 ||v.kind==5))=p) (fun i=>i.1.length)
  (fun i=> [(1, .ptr 0 0),(143, .slice .shared 6 (v.args.map dE)),(144, .int .i64 (v.args.length:Int)),(145, .int .i64 (i.2:Int))]) (fun i=>⟨[aY v],[]⟩) ?_ (v.args,0) ⟨rfl,h⟩)
 rintro⟨rest,k⟩ ⟨h1,h⟩ IH
 dsimp only at h1 h
 cases rest with
 |nil=>
  have hD:=drop_nil h1
  simp only[Ar.eU,zau,zab,↓reduceIte]at h
  repeat' (first
 |simp only[go_sem,hD,hY,hZ,gC]
 |(with_reducible first|refine cf fun hc=>?_|refine cj fun hc=>?_|refine cm (fun hc=>?_) fun hc=>?_)<;>(try simp only[hc,bs,↓reduceIte]at h)<;>try simp only[hc]
 | (with_reducible refine ax hQ ?_;(try cases h);simp only [bF,bG,bZ,cb,go_sem,hD,hY,hZ,gC];repeat' (first | exact Ok.out | with_reducible refine ei ?_ ?_ | (simp;done))))
  all_goals
   simp only[*]
   exact Ok.out
 |cons a rest=>
  obtain⟨hY,g2,hD,g4⟩:=drop_cons h1
  have ha:=Yr a (zad hY)
  have hZ:k<4611686018427387904:=by omega
  simp only[Ar.eU]at h
  repeat' (first
 |simp only[go_sem,hD,hY,hZ,gC]
 |(with_reducible refine CU (ha _) ?_)
 |(with_reducible first|refine cf fun hc=>?_|refine cj fun hc=>?_|refine cm (fun hc=>?_) fun hc=>?_)<;>(try simp only[hc,bs,↓reduceIte]at h)<;>try simp only[hc]
 |(with_reducible refine ax hQ ?_;exact fL))
  refine di 1 0 (IH (rest,k+1) ⟨g2,h⟩ (zae _))
theorem ajj {cl:Bool} (hf:v.kO) (hB:B.s = ⟨[],[]⟩) (hQ:mN 0 0 [(2,none)] (.bool p) ⟨[],[]⟩=Q)
 (h:(if !(cl == !(v.proc == [])) || (cl && !(isName v.proc)) || (!cl && decide ((v.args.length:Int) > 0))then false
  else if !(Ar.eU v.args)then false else((v.a8.length:Int)==0 ||v.kind==5 ||v.kind==6) && ((v.aK.length:Int)==0 ||v.kind==5))=p) :
 Sem Tryz.prog B 178 Q0X Q [(1, .ptr 0 0),(5, .bool cl)] ⟨[aY v],[]⟩:=by
 have SL:=uy v.proc hf.proc
 have⟨hD,hY,hZ,gC⟩:=bb
 refine Sem.kX ?_
 repeat' (first
 |simp only[go_sem,hD,hY,hZ,gC]
 |(with_reducible refine CU (SL _) ?_)
 |(with_reducible first|refine cf fun hc=>?_|refine cj fun hc=>?_|refine cm (fun hc=>?_) fun hc=>?_)<;>(try simp only[hc,bs,↓reduceIte]at h)<;>try simp only[hc]
 |(with_reducible refine ax hQ ?_;(try cases h);simp only[bF,bG,bZ,cb,go_sem,hD,hY,hZ,gC];repeat' (first|exact Ok.out|with_reducible refine ei ?_ ?_|(simp;done))))
 all_goals
  refine Sem.re _ _ 1 0 (by rw[hB];exact ql rfl) (by rw[hB];exact ql rfl) ?_ ?_ (aji hf hB hQ h)
  ·(simp only[go_sem,hD,hY,hZ,gC];repeat' (first|exact Ok.out|with_reducible refine ei ?_ ?_))
  ·(simp only[go_sem,hD,hY,hZ,gC];repeat' (first|exact Ok.out|with_reducible refine ei ?_ ?_))
theorem ajk {hn cl:Bool} (hf:v.kO) (hB:B.s = ⟨[],[]⟩) (hQ:mN 0 0 [(2,none)] (.bool p) ⟨[],[]⟩=Q)
 (h:(if(hn && !(isName v.name)) || (!hn && !(v.name == []) && !(cl && isName v.name))then false
  else if !(cl == !(v.proc == [])) ||(cl && !(isName v.proc)) ||(!cl && decide ((v.args.length:Int) > 0))then false
  else if !(Ar.eU v.args)then false else((v.a8.length:Int)==0 ||v.kind==5 ||v.kind==6) && ((v.aK.length:Int)==0 ||v.kind==5))=p) :
 Sem Tryz.prog B 178 Q0W Q [(1, .ptr 0 0),(4, .bool hn),(5, .bool cl)] ⟨[aY v],[]⟩:=by
 have QH:=uy v.name hf.name
 have⟨hD,hY,hZ,gC⟩:=bb
 have k:=@ajj v B Q p cl hf hB hQ
 cases cl
 all_goals
  refine Sem.kX ?_
  repeat' (first
 |simp only[go_sem,hD,hY,hZ,gC]
 |(with_reducible refine CU (QH _) ?_)
 |(with_reducible first|refine cf fun hc=>?_|refine cj fun hc=>?_|refine cm (fun hc=>?_) fun hc=>?_)<;>(try simp only[hc,bs,↓reduceIte]at h)<;>try simp only[hc]
 |(with_reducible refine ax hQ ?_;(try cases h);simp only[bF,bG,bZ,cb,go_sem,hD,hY,hZ,gC];repeat' (first|exact Ok.out|with_reducible refine ei ?_ ?_|(simp;done))))
 all_goals
  refine Sem.re _ _ 1 0 (by rw[hB];exact ql rfl) (by rw[hB];exact ql rfl) ?_ ?_ (k (by simpa only[bs,↓reduceIte]using h))
  ·(simp only[go_sem,hD,hY,hZ,gC];repeat' (first|exact Ok.out|with_reducible refine ei ?_ ?_))
  ·(simp only[go_sem,hD,hY,hZ,gC];repeat' (first|exact Ok.out|with_reducible refine ei ?_ ?_))
theorem ajl {hx hn cl:Bool} (hf:v.kO) (hB:B.s = ⟨[],[]⟩) (hQ:mN 0 0 [(2,none)] (.bool p) ⟨[],[]⟩=Q)
 (h:(if decide (v.kind<1) || decide (v.kind > 10) || !(ez v.labels) || (hx && !(v.x.may)) || (!hx && !(v.x.none)) || (v.has && v.kind != 9)then false
  else if(hn && !(isName v.name)) ||(!hn && !(v.name == []) && !(cl && isName v.name))then false
  else if !(cl == !(v.proc == [])) ||(cl && !(isName v.proc)) ||(!cl && decide ((v.args.length:Int) > 0))then false
  else if !(Ar.eU v.args)then false else((v.a8.length:Int)==0 ||v.kind==5 ||v.kind==6) && ((v.aK.length:Int)==0 ||v.kind==5))=p) :
 Sem Tryz.prog B 178 Q0V Q [(1, .ptr 0 0),(3, .bool hx),(4, .bool hn),(5, .bool cl)] ⟨[aY v],[]⟩:=by
 have hns:=fun s=>A4 hf.afz hf.Vg s
 have hm:=CW hf.x hf.xt
 have⟨hD,hY,hZ,gC⟩:=bb
 refine Sem.kX ?_
 repeat' (first
 |simp only[go_sem,hD,hY,hZ,gC]
 |(with_reducible refine CU (hns _) ?_)
 |(with_reducible refine CU (hm _) ?_)
 |(with_reducible refine CU (Vf _ _) ?_)
 |(with_reducible first|refine cf fun hc=>?_|refine cj fun hc=>?_|refine cm (fun hc=>?_) fun hc=>?_)<;>(try simp only[hc,bs,↓reduceIte]at h)<;>try simp only[hc]
 |(with_reducible refine ax hQ ?_;(try cases h);simp only[bF,bG,bZ,cb,go_sem,hD,hY,hZ,gC];repeat' (first|exact Ok.out|with_reducible refine ei ?_ ?_|(simp;done))))
 all_goals
  refine Sem.re _ _ 1 0 (by rw[hB];exact ql rfl) (by rw[hB];exact ql rfl) ?_ ?_ (ajk hf hB hQ h)
  ·(simp only[go_sem,hD,hY,hZ,gC];repeat' (first|exact Ok.out|with_reducible refine ei ?_ ?_))
  ·(simp only[go_sem,hD,hY,hZ,gC];repeat' (first|exact Ok.out|with_reducible refine ei ?_ ?_))
theorem ajm {hx hn:Bool} (hf:v.kO) (hB:B.s = ⟨[],[]⟩) (hQ:mN 0 0 [(2,none)] (.bool p) ⟨[],[]⟩=Q) (ex:v.rI=hx) (en:v.hasName=hn) (h:v.one=p) :
 Sem Tryz.prog B 178 Q0U Q [(1, .ptr 0 0),(3, .bool hx),(4, .bool hn)] ⟨[aY v],[]⟩:=by
 unfold Sm.one at h
 rw[ex,en]at h
 have⟨hD,hY,hZ,gC⟩:=bb
 refine Sem.kX ?_
 repeat' (first
 |simp only[go_sem,hD,hY,hZ,gC]
 |(with_reducible refine ax hQ ?_;exact aB))
 refine Sem.re _ _ 1 0 (by rw[hB];exact ql rfl) (by rw[hB];exact ql rfl) ?_ ?_ (ajl hf hB hQ h)
 ·(simp only[go_sem,hD,hY,hZ,gC,Sm.vx];repeat' (first|exact Ok.out|with_reducible refine ei ?_ ?_))
 ·(simp only[go_sem,hD,hY,hZ,gC,Sm.vx];repeat' (first|exact Ok.out|with_reducible refine ei ?_ ?_))
theorem ajn {hx:Bool} (hf:v.kO) (hB:B.s = ⟨[],[]⟩) (hQ:mN 0 0 [(2,none)] (.bool p) ⟨[],[]⟩=Q) (ex:v.rI=hx) (hp:v.one=p) :
 Sem Tryz.prog B 178 Q0T Q [(1, .ptr 0 0),(3, .bool hx)] ⟨[aY v],[]⟩:=by
 generalize h:v.hasName=hn
 have hn:=h
 unfold Sm.hasName at h
 have⟨hD,hY,hZ,gC⟩:=bb
 refine Sem.kX ?_
 repeat' (first
 |simp only[go_sem,hD,hY,hZ,gC]
 |(with_reducible first|refine cf fun hc=>?_|refine cj fun hc=>?_|refine cm (fun hc=>?_) fun hc=>?_)<;>(try simp only[hc,bs,↓reduceIte]at h)<;>try simp only[hc]
 |(with_reducible refine ax hQ ?_;simp only[bF,bG,bZ,cb,go_sem,hD,hY,hZ,gC];repeat' (first|exact Ok.out|with_reducible refine ei ?_ ?_|(simp;done))))
 all_goals
  refine Sem.re _ _ 1 0 (by rw[hB];exact ql rfl) (by rw[hB];exact ql rfl) ?_ ?_ (ajm hf hB hQ ex hn hp)
  ·(simp only[go_sem,hD,hY,hZ,gC,h];repeat' (first|exact Ok.out|with_reducible refine ei ?_ ?_))
  ·(simp only[go_sem,hD,hY,hZ,gC,h];repeat' (first|exact Ok.out|with_reducible refine ei ?_ ?_))
theorem ajo (hf:v.kO) (hB:B.s = ⟨[],[]⟩) (hQ:mN 0 0 [(2,none)] (.bool p) ⟨[],[]⟩=Q) (hp:v.one=p) :
 Sem Tryz.prog B 178 Q0S Q [(1, .ptr 0 0)] ⟨[aY v],[]⟩:=by
 generalize h:v.rI=hx
 have ex:=h
 unfold Sm.rI at h
 have⟨hD,hY,hZ,gC⟩:=bb
 refine Sem.kX ?_
 repeat' (first
 |simp only[go_sem,hD,hY,hZ,gC]
 |(with_reducible first|refine cf fun hc=>?_|refine cj fun hc=>?_|refine cm (fun hc=>?_) fun hc=>?_)<;>(try simp only[hc,bs,↓reduceIte]at h)<;>try simp only[hc]
 |(with_reducible refine ax hQ ?_;simp only[bF,bG,bZ,cb,go_sem,hD,hY,hZ,gC];repeat' (first|exact Ok.out|with_reducible refine ei ?_ ?_|(simp;done))))
 all_goals
  refine Sem.re _ _ 1 0 (by rw[hB];exact ql rfl) (by rw[hB];exact ql rfl) ?_ ?_ (ajn hf hB hQ ex hp)
  ·(simp only[go_sem,hD,hY,hZ,gC,h];repeat' (first|exact Ok.out|with_reducible refine ei ?_ ?_))
  ·(simp only[go_sem,hD,hY,hZ,gC,h];repeat' (first|exact Ok.out|with_reducible refine ei ?_ ?_))
end
theorem az.goS {P:Program} {f:FuncId} {nt:Nat} {res:List (Nat×Option (Bool×Nat))} {body:AC} {args:List D} {s:St} {d:D} {s':St} (h0:Has P f nt res body) (hl:Nat.ble args.length nt=true)
 (h : ∀ (B:gY) (Q:Exit→Tm→St→Prop),B.s=s→mN s.aq.length s.ay.length res d s'=Q→Sem P B nt body Q (ov 0 args) s):az P f args s d s':=by
 obtain⟨fn,hf,hc⟩:=h0
 exact az.intro ⟨fn,hf,hc⟩ (zbp hl) fun B hB=>h B _ hB rfl
theorem ajp {v:Sm} (hf:v.kO) (s:St):az Tryz.prog 181 [.agg (aY v)] s (.bool v.one) s:=by
 refine az.pure ?_ (by simp[D.bM,D.ok,qe]) rfl s
 unfold S0
 refine az.goS lq.h rfl fun B Q hB hQ=>?_
 have⟨hD,hY,hZ,gC⟩:=bb
 refine Sem.kX ?_
 repeat' (first
 |simp only[go_sem,hD,hY,hZ,gC]
 |(with_reducible refine ax hQ ?_;exact aB))
 refine Sem.re _ _ 1 0 (by rw[hB];exact ql rfl) (by rw[hB];exact ql rfl) ?_ ?_ (ajo hf hB hQ rfl)
 ·(simp only[go_sem,hD,hY,hZ,gC];repeat' (first|exact Ok.out|with_reducible refine ei ?_ ?_))
 ·(simp only[go_sem,hD,hY,hZ,gC];repeat' (first|exact Ok.out|with_reducible refine ei ?_ ?_))
end Go.Abs
namespace Go.Abs
set_option maxRecDepth 8000
open Go.Proofs
def dK (i:Im):List D:= [.int .i64 i.s.id, .int .i64 i.s.kind, .slice .shared 1 (i.s.labels.map encStr), .str i.s.name, .str i.s.proc,
 .int .i64 i.s.x.op, .int .i64 i.s.x.n, .str i.s.x.name, .slice .shared 4 (i.s.x.kids.map bT), .bool i.s.has, .slice .shared 6 (i.s.args.map dE), .slice .shared 13 (i.s.a8.map aY), .slice .shared 13 (i.s.aK.map aY), .int .i64 i.proc, .int .i64 i.up, .int .i64 i.next, .int .i64 i.loop]
def bD (n:Int):List D:= [.int .i64 n]
theorem SM (i:Im):D.bM 0 0 (dK i)=true:=by simp[dK,D.bM,D.ok,Tag.ok,dz,aaG,K5,q7]
theorem K7 (l:List Im):D.iW 0 0 (l.map dK)=true:=iX SM l
theorem aaO (n m:Nat) (l:List Im):D.lB n m (l.map dK)=l.map dK:=ng SM n m l
theorem ajq (n m:Nat) (i:Im):D.iz n m (dK i)=dK i:=jk n m _ (SM i)
theorem ajr (x:Im):(dK x).length=17:=nd rfl
theorem acH (x:Im):List.take 17 (dK x)=dK x:=nd rfl
theorem afB (x:Im):List.drop 17 (dK x) = []:=nd rfl
theorem afC (x:Im):List.take 13 (dK x)=aY x.s:=by simp only[dK,eR];rfl
theorem Ys (x:Im):(dK x)[0]? = some (.int .i64 x.s.id):=nd rfl
theorem Yt (x:Im):(dK x)[1]? = some (.int .i64 x.s.kind):=nd rfl
theorem Yu (x:Im):(dK x)[4]? = some (.str x.s.proc):=nd rfl
theorem Vh (x:Im):(dK x)[13]? = some (.int .i64 x.proc):=nd rfl
theorem Vi (x:Im):(dK x)[14]? = some (.int .i64 x.up):=nd rfl
theorem Vj (x:Im):(dK x)[15]? = some (.int .i64 x.next):=nd rfl
theorem Vk (x:Im):(dK x)[16]? = some (.int .i64 x.loop):=nd rfl
theorem SN (s:Sm) (a b c d:Int):dK ⟨s,a,b,c,d⟩ = [.int .i64 s.id, .int .i64 s.kind, .slice .shared 1 (s.labels.map encStr), .str s.name, .str s.proc,
 .int .i64 s.x.op, .int .i64 s.x.n, .str s.x.name, .slice .shared 4 (s.x.kids.map bT), .bool s.has, .slice .shared 6 (s.args.map dE), .slice .shared 13 (s.a8.map aY), .slice .shared 13 (s.aK.map aY), .int .i64 a, .int .i64 b, .int .i64 c, .int .i64 d]:=nd rfl
theorem aaP (n:Int):D.bM 0 0 (bD n)=true:=rfl
theorem jm (l:List Int):D.iW 0 0 (l.map bD)=true:=iX aaP l
theorem Vm (n m:Nat) (l:List Int):D.lB n m (l.map bD)=l.map bD:=ng aaP n m l
attribute [go_sem] aaO ajq ajr acH afB afC Ys Yt Yu Vh Vi Vj Vk Vm bD
theorem afD : ∀ n,n<1000000000→∀ v:Sm,v.size≤n→az Tryz.prog 108 [.agg (aY v)] S0 (.int .i64 (v.kE:Int)) S0:=by
 intro n
 induction n with
 |zero=>intro _ v h;obtain⟨_,_,_,_,_,_,_,_,_,_⟩:=v;simp only[Sm.size]at h;omega
 |succ n ih=>
 intro hn v hv
 have dT:Sm.bq v.a8≤n∧Sm.bq v.aK≤n∧v.kE=1+Sm.jV v.a8+Sm.jV v.aK:=by
  obtain⟨_,_,_,_,_,_,_,_,_,_⟩:=v
  simp only[Sm.size]at hv;exact⟨by dsimp only;omega,by dsimp only;omega,rfl⟩
 obtain⟨h1,h2,h3⟩:=dT
 have c1:=pb v.a8
 have c2:=pb v.aK
 have l1:=Sm.dI v.a8
 have l2:=Sm.dI v.aK
 have hk : ∀ y,y∈v.a8∨y∈v.aK→∀ s,az Tryz.prog 108 [.agg (aY y)] s (.int .i64 (y.kE:Int)) s:=fun y hy s=>
  (ih (by omega) y (by rcases hy with hy|hy<;>(have:=Sm.cq hy;omega))).pure (by simp only[D.bM,D.ok,qe];rfl) rfl s
 rw[h3]
 unfold S0
 refine az.go KP.h rfl fun B Q hB hQ=>?_
 have⟨hD,hY,hZ,gC⟩:=bb
 repeat' (first
 |simp only[go_sem,hD,hY,hZ,gC]
 |(with_reducible refine ax hQ ?_;exact aB))
 refine di 1 0 (aN.ind (ι:=List Sm×Nat×Nat) (fun i=>v.a8.drop i.2.1=i.1∧i.2.2+Sm.jV i.1=1+Sm.jV v.a8) (fun i=>i.1.length)
  (fun i=> [(1, .ptr 0 0),(3, .int .i64 (i.2.2:Int)),(9, .slice .shared 13 (v.a8.map aY)),(10, .int .i64 (v.a8.length:Int)),(11, .int .i64 (i.2.1:Int))]) (fun i=>⟨[aY v],[]⟩) ?_ (v.a8,0,1) ⟨rfl,rfl⟩)
 rintro⟨rest,k,c⟩ ⟨g1,g2⟩ IH
 dsimp only at g1 g2
 cases rest with
 |cons y rest=>
  obtain⟨hY,g3,hD,g4⟩:=drop_cons g1
  have hy:=hk y (.inl (zad hY))
  simp only[Sm.jV]at g2
  have hcy:=Fi y
  have Jn:=Sm.cq (zad hY)
  have w1:IntKind.wrap .i64 ((k:Int)+1)=((k+1:Nat):Int):=by rw[dv]<;>omega
  have w2:IntKind.wrap .i64 ((c:Int)+(y.kE:Int))=((c+y.kE:Nat):Int):=by rw[dv]<;>omega
  repeat' (first
 |simp only[go_sem,hD,hY,hZ,gC,w1,w2]
 |(with_reducible refine CU (hy _) ?_)
 |(with_reducible refine ax hQ ?_;exact aB))
  refine di 1 0 (IH (rest,k+1,c+y.kE) ⟨g3,by dsimp only;omega⟩ (zae _))
 |nil=>
  have hD:=drop_nil g1
  simp only[Sm.jV,zaS]at g2
  subst g2
  repeat' (first
 |simp only[go_sem,hD,hY,hZ,gC]
 | (with_reducible refine ax hQ ?_;exact aB))
  refine di 1 0 (aN.ind (ι:=List Sm×Nat×Nat) (fun i=>v.aK.drop i.2.1=i.1∧i.2.2+Sm.jV i.1=1+Sm.jV v.a8+Sm.jV v.aK) (fun i=>i.1.length)
   (fun i=> [(1, .ptr 0 0),(3, .int .i64 (i.2.2:Int)),(21, .slice .shared 13 (v.aK.map aY)),(22, .int .i64 (v.aK.length:Int)),(23, .int .i64 (i.2.1:Int))]) (fun i=>⟨[aY v],[]⟩) ?_ (v.aK,0,1+Sm.jV v.a8) ⟨rfl,rfl⟩)
  rintro⟨rest,k,c⟩ ⟨g1,g2⟩ IH
  dsimp only at g1 g2
  cases rest with
  |cons y rest=>
   obtain⟨hY,g3,hD,g4⟩:=drop_cons g1
   have hy:=hk y (.inr (zad hY))
   simp only[Sm.jV]at g2
   have hcy:=Fi y
   have Jn:=Sm.cq (zad hY)
   have w1:IntKind.wrap .i64 ((k:Int)+1)=((k+1:Nat):Int):=by rw[dv]<;>omega
   have w2:IntKind.wrap .i64 ((c:Int)+(y.kE:Int))=((c+y.kE:Nat):Int):=by rw[dv]<;>omega
   repeat' (first
 |simp only[go_sem,hD,hY,hZ,gC,w1,w2]
 |(with_reducible refine CU (hy _) ?_)
 | (with_reducible refine ax hQ ?_;exact aB))
   refine di 1 0 (IH (rest,k+1,c+y.kE) ⟨g3,by dsimp only;omega⟩ (zae _))
  |nil=>
   have hD:=drop_nil g1
   simp only[Sm.jV,zaS]at g2
   subst g2
   repeat' (first
 |simp only[go_sem,hD,hY,hZ,gC]
 |(with_reducible refine ax hQ ?_;exact aB))
theorem afE {v:Sm} (h:v.size<1000000000) (s:St):az Tryz.prog 108 [.agg (aY v)] s (.int .i64 (v.kE:Int)) s:=
 (afD v.size h v (zal _)).pure (by simp only[D.bM,D.ok,qe];rfl) rfl s
end Go.Abs
namespace Go.Abs
set_option maxRecDepth 8000
open Go.Proofs
abbrev jQ (g ps:D) (L:List Im) (lo hi:List Int):List D:= [g,ps, .slice (.tok 0) 17 (L.map dK), .slice (.tok 1) 1 (lo.map bD), .slice (.tok 2) 1 (hi.map bD)]
abbrev Yv (proc up next loop:Int):List D:= [.int .i64 0, .int .i64 0, .slice .full 0 [], .str [], .str [], .int .i64 0, .int .i64 0, .str [], .slice .full 0 [], .bool false, .slice .full 0 [], .slice .full 0 [], .slice .full 0 [], .int .i64 proc, .int .i64 up, .int .i64 next, .int .i64 loop]
theorem az.ajs {P:Program} {f:Nat} {args:List D} {g ps:D} {L L':List Im} {lo hi Jr jf:List Int} {a b c a' b' c':Option Nat}
 (h:az P f (.ptr 0 0::args) ⟨[jQ g ps L lo hi],[a,b,c]⟩ (.tuple []) ⟨[jQ g ps L' Jr jf],[a',b',c']⟩)
 (ha:D.bM 0 0 args=true) (hg:D.ok 0 0 g=true) (hp:D.ok 0 0 ps=true)
 {s:St} {o:Nat} (ho:s.aq[o]? = some (jQ g ps L lo hi)) (ht:s.ay = [a,b,c]):az P f (.ptr o 0::args) s (.tuple []) ⟨s.aq.set o (jQ g ps L' Jr jf),[a',b',c']⟩:=by
 have hr : ∀ (L:List Im) (lo hi:List Int),D.fu [o] [0,1,2] (jQ g ps L lo hi)=jQ g ps L lo hi:=fun L lo hi=>by
  simp[D.fu,D.dm,Tag.dm,sv _ _ _ hg,sv _ _ _ hp,kb _ _ _ (K7 L),kb _ _ _ (jm lo),kb _ _ _ (jm hi)]
 have hk : ∀ (L:List Im) (lo hi:List Int),D.bM 1 3 (jQ g ps L lo hi)=true:=fun L lo hi=>by
  simp[D.bM,D.ok,Tag.ok,H5 (zaz 1) (zaz 3) _ hg,H5 (zaz 1) (zaz 3) _ hp,nR (zaz 1) (zaz 3) _ (K7 L),nR (zaz 1) (zaz 3) _ (jm lo),nR (zaz 1) (zaz 3) _ (jm hi)]
 refine bp.frame [o] [0,1,2] h (by simp) (by decide) (by simpa using (zac.1 ho).1) (by rw[ht];simp) rfl (fun i o' ds e1 e2=>?_) rfl (fun i t' e1=>?_)
  (by simp[D.fu,D.dm,gf _ _ _ ha])
  (by simp[D.bM,D.ok,jB (zaz 1) (zaz 3) _ ha]) ?_
 ·cases i with
  |zero=>simp only[zbe,Option.some.injEq]at e1 e2;subst e1;subst e2;exact⟨by rw[hr];exact ho,hk L lo hi⟩
  |succ i=>simp at e1
 ·rw [ht]
  match i,e1 with
  | 0,e1=>simp at e1;subst e1;rfl
  | 1,e1=>simp at e1;subst e1;rfl
  | 2,e1=>simp at e1;subst e1;rfl
  |i+3,e1=>simp at e1
 ·rintro _ _ ⟨rfl,rfl⟩
  refine⟨by simp[D.back,D.dm,D.fu], ?_⟩
  have:=hr L' Jr jf
  simp[St.back,lJ,lD,this,ht]
abbrev aaQ (N:Nat):Prop:=∀ (l:List Sm) (proc up next loop:Int) (out:List Im) (g ps:D) (lo hi:List Int) (b c:Option Nat),Sm.bq l<N→out.length+Sm.jV l<1000000000→D.ok 0 0 g=true→D.ok 0 0 ps=true→
 ∀ {s:St} {o:Nat},s.aq[o]? = some (jQ g ps out lo hi)→s.ay = [some out.length,b,c]→
 az Tryz.prog 72 [.ptr o 0, .slice .shared 13 (l.map aY), .agg (Yv proc up next loop)] s (.tuple []) ⟨s.aq.set o (jQ g ps (Im.rows proc up next loop out l) lo hi),[some (Im.rows proc up next loop out l).length,b,c]⟩
theorem ajt {N:Nat} (ih:aaQ N) {l:List Sm} {proc up next loop:Int} {out:List Im} {g ps:D} {lo hi:List Int} {b c:Option Nat} (hs:Sm.bq l<N+1) (hc:out.length+Sm.jV l<1000000000) (hg:D.ok 0 0 g=true) (hp:D.ok 0 0 ps=true) (hN:N<1000000000) :
 az Tryz.prog 72 [.ptr 0 0, .slice .shared 13 (l.map aY), .agg (Yv proc up next loop)] ⟨[jQ g ps out lo hi],[some out.length,b,c]⟩ (.tuple []) ⟨[jQ g ps (Im.rows proc up next loop out l) lo hi],[some (Im.rows proc up next loop out l).length,b,c]⟩:=by
 obtain⟨R,hR⟩ : ∃ R,R=Im.rows proc up next loop out l:=⟨_,rfl⟩
 have hlR:R.length=out.length+Sm.jV l:=by rw[hR,iK]
 rw[← hR]
 have k1 : ∀ n m,D.fg n m g=g:=fun n m=>Sz n m _ hg
 have k2 : ∀ n m,D.fg n m ps=ps:=fun n m=>Sz n m _ hp
 refine az.go CT.h rfl fun B Q hB hQ=>?_
 have⟨hD,hY,hZ,gC⟩:=bb
 repeat' (first
 |simp only[go_sem,hD,hY,hZ,gC,k1,k2]
 |(with_reducible first|refine cf fun hc=>?_|refine cj fun hc=>?_|refine cm (fun hc=>?_) fun hc=>?_)<;>(try simp only[hc,bs,↓reduceIte]at h)<;>try simp only[hc]
 |(with_reducible refine ax hQ ?_;simp only[bF,bG,bZ,cb,go_sem,hD,hY,hZ,gC,k1,k2];try exact eQ))
 refine cv 2 3 ?_ ?_ (aN.ind (ι:=List Sm×Nat×List Im) (fun i=>l.drop i.2.1=i.1∧Im.rows proc up next loop i.2.2 i.1=R∧i.2.2.length+Sm.jV i.1=out.length+Sm.jV l) (fun i=>i.1.length)
  (fun i=> [(0, .ptr 0 0),(1, .slice .shared 13 (l.map aY)),(5, .ptr 1 0),(11, .slice .shared 13 (l.map aY)),(12, .int .i64 (l.length:Int)),(13, .int .i64 (i.2.1:Int))]) (fun i=>⟨[jQ g ps i.2.2 lo hi,Yv proc up next loop],[some i.2.2.length,b,c]⟩) ?_ (l,0,out) ⟨rfl,hR.symm,rfl⟩)
 ·(simp only[go_sem,hD,hY,hZ,gC,k1,k2];try exact aU)
 ·(simp only[go_sem,hD,hY,hZ,gC,k1,k2];try exact aU)
 rintro⟨rest,k,bU⟩ ⟨h1,h2,h3⟩ IH
 dsimp only at h1 h2 h3
 have hlen:l.length<1000000000:=by have:=Sm.dI l;omega
 cases rest with
 |nil=>
  have hD:=drop_nil h1
  simp only[Im.rows]at h2
  subst h2
  repeat' (first
 |simp only[go_sem,hD,hY,hZ,gC,k1,k2]
 |(with_reducible first|refine cf fun hc=>?_|refine cj fun hc=>?_|refine cm (fun hc=>?_) fun hc=>?_)<;>(try simp only[hc,bs,↓reduceIte]at h)<;>try simp only[hc]
 |(with_reducible refine ax hQ ?_;simp only[bF,bG,bZ,cb,go_sem,hD,hY,hZ,gC,k1,k2];try exact eQ))
 | cons v rest=>
  obtain⟨hY,g2,hD,g4⟩:=drop_cons h1
  have aZ:k<4611686018427387904:=by omega
  have hv:=Sm.cq (zad hY)
  have mX:Sm.bq v.a8<N∧Sm.bq v.aK<N∧v.kE=1+Sm.jV v.a8+Sm.jV v.aK:=by
   obtain⟨_,_,_,_,_,_,_,_,_,_⟩:=v
   simp only[Sm.size]at hv
   exact⟨by dsimp only;omega,by dsimp only;omega,rfl⟩
  obtain⟨zC,LK,hv3⟩:=mX
  simp only[Sm.jV]at h3
  simp only[Im.rows,Im.aft]at h2
  have hZ:(bU.length+1)*241≤aV:=by unfold aV;omega
  have Pz:IntKind.wrap .i64 ((bU.length:Int)+1)=(bU.length:Int)+1:=dv (by omega) (by omega)
  have vy:IntKind.wrap .i64 ((k:Int)+1)=((k+1:Nat):Int):=by rw[dv]<;>omega
  have hw3:IntKind.wrap .i64 ((bU.length:Int)+1+(v.kE:Int))=(bU.length:Int)+1+(v.kE:Int):=dv (by omega) (by omega)
  have dT:=fun s=>afE (v:=v) (by omega) s
  simp only[eR]at dT
  have vg:rest.length=l.length - (k+1):=by rw[← g2,List.length_drop]
  by_cases aqG:k+1<l.length
  ·have d1:decide (((k+1:Nat):Int)<(l.length:Int))=true:=by simp;omega
   have e1:(rest.length=0)=False:=by simp;intro h;rw[h]at vg;simp at vg;omega
   by_cases Vn:v.kind=6
   ·have d2:(v.kind==6)=true:=by simp [Vn]
    simp only[e1,d2,↓reduceIte,zab]at h2
    have f1:=fun {s:St} {o:Nat}=>@ih v.a8 proc ((bU.length:Int)+1) ((bU.length:Int)+1) ((bU.length:Int)+1) (bU++ [⟨v,proc,up,((bU.length:Int)+1+(v.kE:Int)),loop⟩]) g ps lo hi b c zC (by simp;omega) hg hp s o
    have f2:=fun {s:St} {o:Nat}=>@ih v.aK proc ((bU.length:Int)+1) ((bU.length:Int)+1) ((bU.length:Int)+1) _ g ps lo hi b c LK (by rw[iK proc ((bU.length:Int)+1) ((bU.length:Int)+1) ((bU.length:Int)+1) (bU++ [⟨v,proc,up,((bU.length:Int)+1+(v.kE:Int)),loop⟩]) v.a8];simp;omega) hg hp s o
    have hl:(Im.rows proc ((bU.length:Int)+1) ((bU.length:Int)+1) ((bU.length:Int)+1) (Im.rows proc ((bU.length:Int)+1) ((bU.length:Int)+1) ((bU.length:Int)+1) (bU++ [⟨v,proc,up,((bU.length:Int)+1+(v.kE:Int)),loop⟩]) v.a8) v.aK).length=bU.length+v.kE:=by rw[iK,iK];simp;omega
    simp only[jQ,zag,zaf,zai,SN,zaj,zat,zaD]at f1
    repeat' (first
 |simp only[go_sem,hD,hY,hZ,gC,k1,k2,Pz,vy,hw3,d1,d2,eR]
 |(with_reducible refine CU (dT _) ?_)
 |(with_reducible refine CU (f1 (by with_unfolding_all rfl) (by with_unfolding_all rfl)) ?_)
 |(with_reducible refine CU (f2 (by with_unfolding_all rfl) (by with_unfolding_all rfl)) ?_)
 | (with_reducible refine ax hQ ?_;exact aB))
    refine cv 2 3 ?_ ?_ (IH (rest,k+1,_) ⟨g2,h2,by dsimp only;rw[hl];omega⟩ (zae _))
    ·(simp only[go_sem,hD,hY,hZ,gC,vy,k1,k2];try exact aU)
    ·(simp only[go_sem,hD,hY,hZ,gC,vy,k1,k2];try exact aU)
   ·have d2:(v.kind==6)=false:=by simp [Vn]
    simp only[e1,d2,↓reduceIte,zab]at h2
    have f1:=fun {s:St} {o:Nat}=>@ih v.a8 proc ((bU.length:Int)+1) ((bU.length:Int)+1+(v.kE:Int)) loop (bU++ [⟨v,proc,up,((bU.length:Int)+1+(v.kE:Int)),loop⟩]) g ps lo hi b c zC (by simp;omega) hg hp s o
    have f2:=fun {s:St} {o:Nat}=>@ih v.aK proc ((bU.length:Int)+1) ((bU.length:Int)+1+(v.kE:Int)) loop _ g ps lo hi b c LK (by rw[iK proc ((bU.length:Int)+1) ((bU.length:Int)+1+(v.kE:Int)) loop (bU++ [⟨v,proc,up,((bU.length:Int)+1+(v.kE:Int)),loop⟩]) v.a8];simp;omega) hg hp s o
    have hl:(Im.rows proc ((bU.length:Int)+1) ((bU.length:Int)+1+(v.kE:Int)) loop (Im.rows proc ((bU.length:Int)+1) ((bU.length:Int)+1+(v.kE:Int)) loop (bU++ [⟨v,proc,up,((bU.length:Int)+1+(v.kE:Int)),loop⟩]) v.a8) v.aK).length=bU.length+v.kE:=by rw[iK,iK];simp;omega
    simp only[jQ,zag,zaf,zai,SN,zaj,zat,zaD]at f1
    repeat' (first
 |simp only[go_sem,hD,hY,hZ,gC,k1,k2,Pz,vy,hw3,d1,d2,eR]
 |(with_reducible refine CU (dT _) ?_)
 |(with_reducible refine CU (f1 (by with_unfolding_all rfl) (by with_unfolding_all rfl)) ?_)
 |(with_reducible refine CU (f2 (by with_unfolding_all rfl) (by with_unfolding_all rfl)) ?_)
 | (with_reducible refine ax hQ ?_;exact aB))
    refine cv 2 3 ?_ ?_ (IH (rest,k+1,_) ⟨g2,h2,by dsimp only;rw[hl];omega⟩ (zae _))
    ·(simp only[go_sem,hD,hY,hZ,gC,vy,k1,k2];try exact aU)
    ·(simp only[go_sem,hD,hY,hZ,gC,vy,k1,k2];try exact aU)
  ·have d1:decide (((k+1:Nat):Int)<(l.length:Int))=false:=by simp;omega
   have e1:(rest.length=0)=True:=by simp only[eq_iff_iff,iff_true];omega
   by_cases Vn:v.kind=6
   ·have d2:(v.kind==6)=true:=by simp [Vn]
    simp only[e1,d2,↓reduceIte,zab]at h2
    have f1:=fun {s:St} {o:Nat}=>@ih v.a8 proc ((bU.length:Int)+1) ((bU.length:Int)+1) ((bU.length:Int)+1) (bU++ [⟨v,proc,up,next,loop⟩]) g ps lo hi b c zC (by simp;omega) hg hp s o
    have f2:=fun {s:St} {o:Nat}=>@ih v.aK proc ((bU.length:Int)+1) ((bU.length:Int)+1) ((bU.length:Int)+1) _ g ps lo hi b c LK (by rw[iK proc ((bU.length:Int)+1) ((bU.length:Int)+1) ((bU.length:Int)+1) (bU++ [⟨v,proc,up,next,loop⟩]) v.a8];simp;omega) hg hp s o
    have hl:(Im.rows proc ((bU.length:Int)+1) ((bU.length:Int)+1) ((bU.length:Int)+1) (Im.rows proc ((bU.length:Int)+1) ((bU.length:Int)+1) ((bU.length:Int)+1) (bU++ [⟨v,proc,up,next,loop⟩]) v.a8) v.aK).length=bU.length+v.kE:=by rw[iK,iK];simp;omega
    simp only[jQ,zag,zaf,zai,SN,zaj,zat,zaD]at f1
    repeat' (first
 |simp only[go_sem,hD,hY,hZ,gC,k1,k2,Pz,vy,hw3,d1,d2,eR]
 |(with_reducible refine CU (dT _) ?_)
 |(with_reducible refine CU (f1 (by with_unfolding_all rfl) (by with_unfolding_all rfl)) ?_)
 |(with_reducible refine CU (f2 (by with_unfolding_all rfl) (by with_unfolding_all rfl)) ?_)
 | (with_reducible refine ax hQ ?_;exact aB))
    refine cv 2 3 ?_ ?_ (IH (rest,k+1,_) ⟨g2,h2,by dsimp only;rw[hl];omega⟩ (zae _))
    ·(simp only[go_sem,hD,hY,hZ,gC,vy,k1,k2];try exact aU)
    ·(simp only[go_sem,hD,hY,hZ,gC,vy,k1,k2];try exact aU)
   ·have d2:(v.kind==6)=false:=by simp [Vn]
    simp only[e1,d2,↓reduceIte,zab]at h2
    have f1:=fun {s:St} {o:Nat}=>@ih v.a8 proc ((bU.length:Int)+1) next loop (bU++ [⟨v,proc,up,next,loop⟩]) g ps lo hi b c zC (by simp;omega) hg hp s o
    have f2:=fun {s:St} {o:Nat}=>@ih v.aK proc ((bU.length:Int)+1) next loop _ g ps lo hi b c LK (by rw[iK proc ((bU.length:Int)+1) next loop (bU++ [⟨v,proc,up,next,loop⟩]) v.a8];simp;omega) hg hp s o
    have hl:(Im.rows proc ((bU.length:Int)+1) next loop (Im.rows proc ((bU.length:Int)+1) next loop (bU++ [⟨v,proc,up,next,loop⟩]) v.a8) v.aK).length=bU.length+v.kE:=by rw[iK,iK];simp;omega
    simp only[jQ,zag,zaf,zai,SN,zaj,zat,zaD]at f1
    repeat' (first
 |simp only[go_sem,hD,hY,hZ,gC,k1,k2,Pz,vy,hw3,d1,d2,eR]
 |(with_reducible refine CU (dT _) ?_)
 |(with_reducible refine CU (f1 (by with_unfolding_all rfl) (by with_unfolding_all rfl)) ?_)
 |(with_reducible refine CU (f2 (by with_unfolding_all rfl) (by with_unfolding_all rfl)) ?_)
 | (with_reducible refine ax hQ ?_;exact aB))
    refine cv 2 3 ?_ ?_ (IH (rest,k+1,_) ⟨g2,h2,by dsimp only;rw[hl];omega⟩ (zae _))
    ·(simp only[go_sem,hD,hY,hZ,gC,vy,k1,k2];try exact aU)
    ·(simp only[go_sem,hD,hY,hZ,gC,vy,k1,k2];try exact aU)
theorem acI : ∀ N,N<1000000000→aaQ N:=by
 intro N
 induction N with
 |zero=>exact fun _ l proc up next loop out g ps lo hi b c h=>absurd h (za9 _)
 |succ N ih=>
  intro h l proc up next loop out g ps lo hi b c hs hc hg hp s o ho ht
  exact(ajt (ih (by omega)) hs hc hg hp (by omega)).ajs (by simp[D.bM,D.ok,Tag.ok,q7,D.iW]) hg hp ho ht
def fU (p:Pg):List D:= [.slice .shared 1 (p.globals.map encStr), .slice .shared 5 (p.procs.map bN), .slice .shared 17 (p.aR.L.map dK), .slice .shared 1 (p.aR.lo.map bD), .slice .shared 1 (p.aR.hi.map bD)]
theorem qK (p:Pg):fU p = [.slice .shared 1 (p.globals.map encStr), .slice .shared 5 (p.procs.map bN), .slice .shared 17 (p.aR.L.map dK), .slice .shared 1 (p.aR.lo.map bD), .slice .shared 1 (p.aR.hi.map bD)]:=nd rfl
theorem vQ (p:Pg):D.bM 0 0 (fU p)=true:=by simp[fU,D.bM,D.ok,Tag.ok,dz,xY,K7,jm]
theorem MJ (p:Pg):bS p = [.slice .shared 1 (p.globals.map encStr), .slice .shared 5 (p.procs.map bN)]:=nd rfl
theorem aju {p:Pg} (hs:Pc.bq p.procs<1000000000):az Tryz.prog 43 [.agg (bS p)] S0 (.ptr 1 0) ⟨[bS p,jQ (.slice .shared 1 (p.globals.map encStr)) (.slice .shared 5 (p.procs.map bN)) p.aR.L p.aR.lo p.aR.hi],[some p.aR.L.length,some p.aR.lo.length,some p.aR.hi.length]⟩:=by
 have hlen:p.procs.length<1000000000:=by have:=Pc.dI p.procs;omega
 obtain⟨R,hR⟩ : ∃ R,R=p.aR:=⟨_,rfl⟩
 have MK:=hR
 unfold Pg.aR at MK
 unfold S0
 rw[MJ, ← hR]
 refine az.goK 2 3 (zaz _) (zaz _) Mt.h rfl fun B Q hB hQ=>?_
 have⟨hD,hY,hZ,gC⟩:=bb
 repeat' (first
 |simp only[go_sem,hD,hY,hZ,gC,MJ]
 |(with_reducible refine ax hQ ?_;exact aB))
 refine aN.vM 1 2 17 rfl rfl ?_
 simp only[go_sem,hD,hY,hZ,gC]
 refine aN.vM 1 3 1 rfl rfl ?_
 simp only[go_sem,hD,hY,hZ,gC]
 refine aN.vM 1 4 1 rfl rfl ?_
 simp only[go_sem,hD,hY,hZ,gC]
 refine cv 2 3 ?_ ?_ (aN.ind (ι:=List Pc×Nat×Sh×Nat×Nat) (fun i=>p.procs.drop i.2.1=i.1∧Sh.go i.2.1 i.2.2.1 i.1=R∧i.2.2.1.L.length+Pc.bq i.1≤Pc.bq p.procs∧i.2.2.1.lo.length=i.2.1∧i.2.2.1.hi.length=i.2.1∧i.2.2.2.1=i.2.2.1.lo.length∧i.2.2.2.2=i.2.2.1.hi.length) (fun i=>i.1.length)
  (fun i=> [(1, .ptr 0 0),(3, .ptr 1 0),(10, .slice .shared 5 (p.procs.map bN)),(11, .int .i64 (p.procs.length:Int)),(12, .int .i64 (i.2.1:Int))]) (fun i=>⟨[[.slice .shared 1 (p.globals.map encStr), .slice .shared 5 (p.procs.map bN)],jQ (.slice .shared 1 (p.globals.map encStr)) (.slice .shared 5 (p.procs.map bN)) i.2.2.1.L i.2.2.1.lo i.2.2.1.hi],[some i.2.2.1.L.length,some i.2.2.2.1,some i.2.2.2.2]⟩) ?_ (p.procs,0,⟨[],[],[]⟩,0,0) ⟨rfl,MK.symm,by simp,rfl,rfl,rfl,rfl⟩)
 ·(simp only[go_sem,hD,hY,hZ,gC,jQ];try exact aU)
 ·(simp only[go_sem,hD,hY,hZ,gC,jQ];try exact aU)
 rintro⟨rest,k,h,n1,n2⟩ ⟨h1,h2,h3,h4,h5,h6,h7⟩ IH
 dsimp only at h1 h2 h3 h4 h5 h6 h7
 subst h6 h7
 cases rest with
 |nil=>
  have hD:=drop_nil h1
  simp only[Sh.go]at h2
  rw[← h2]at hQ
  repeat' (first
 |simp only[go_sem,hD,hY,hZ,gC,jQ]
 |(with_reducible refine ax hQ ?_;exact aB))
 |cons f rest=>
  obtain⟨hY,g2,hD,g4⟩:=drop_cons h1
  have aZ:k<4611686018427387904:=by omega
  simp only[Pc.bq,Pc.size]at h3
  simp only[Sh.go]at h2
  have c1:=pb f.body
  have hZ:(h.lo.length+1)*9≤aV:=by unfold aV;omega
  have amA:(h.hi.length+1)*9≤aV:=by unfold aV;omega
  have Pz:IntKind.wrap .i64 ((h.L.length:Int)+1)=(h.L.length:Int)+1:=dv (by omega) (by omega)
  have hl:(Im.rows (k:Int) 0 (-1) 0 h.L f.body).length=h.L.length+Sm.jV f.body:=iK ..
  have vy:IntKind.wrap .i64 (((Im.rows (k:Int) 0 (-1) 0 h.L f.body).length:Int)+1)=((Im.rows (k:Int) 0 (-1) 0 h.L f.body).length:Int)+1:=dv (by omega) (by omega)
  have hr:=fun {s:St} {o:Nat}=>@acI (Sm.bq f.body+1) (by omega) f.body (k:Int) 0 (-1) 0 h.L (.slice .shared 1 (p.globals.map encStr)) (.slice .shared 5 (p.procs.map bN)) (h.lo++ [(h.L.length:Int)+1]) h.hi (some (h.lo.length+1)) (some h.hi.length) (zae _) (by omega) (by simp[D.ok,Tag.ok,dz]) (by simp[D.ok,Tag.ok,xY]) s o
  simp only[jQ,zag,zaf,zai,bD]at hr
  repeat' (first
 |simp only[go_sem,hD,hY,hZ,gC,Pz,vy,amA,jQ]
 |(with_reducible refine CU (hr (by with_unfolding_all rfl) (by with_unfolding_all rfl)) ?_)
 |(with_reducible refine ax hQ ?_;exact aB))
  refine cv 2 3 ?_ ?_ (IH (rest,k+1,⟨Im.rows (k:Int) 0 (-1) 0 h.L f.body,h.lo++ [(h.L.length:Int)+1],h.hi++ [((Im.rows (k:Int) 0 (-1) 0 h.L f.body).length:Int)+1]⟩,_,_) ⟨g2,h2,by dsimp only;rw[hl];omega,by simp[h4],by simp[h5],by simp,by simp⟩ (zae _))
  ·(simp only[go_sem,hD,hY,hZ,gC,jQ,aw aZ,zag,zaf,zai,bD];try exact aU)
  ·(simp only[go_sem,hD,hY,hZ,gC,jQ,aw aZ,zag,zaf,zai,bD];try exact aU)
theorem DT {p:Pg} (hs:Pc.bq p.procs<1000000000) (s:St):az Tryz.prog 43 [.agg (bS p)] s (.dO (fU p) 0) s:=by
 refine az.pure ?_ (by simp only[D.bM,D.ok,gR];rfl) (by simp only[D.ok,vQ]) s
 have h:=(aju hs).Cd (n:=0) (m:=0) rfl (zal _) (zaz _) (zal _)
 simpa[D.iz,D.fg,Tag.fg,U9,aaH,aaO,Vm,St.cut,fU,S0]using h
def fS (x:aF) (k:Int):List aF→Int
 | []=> -1
 |s::l=>if x==s then k else fS x (k+1) l
def dS (l:List aF) (x:aF):Bool:=decide (fS x 0 l≥0)
def lW {α:Type} (b:α→Bool) (k:Int):List α→Int
 | []=> -1
 |s::l=>if b s then k else lW b (k+1) l
theorem PA (x:aF) : ∀ (l:List aF) (k:Int),0≤k→(fS x k l≥0↔x∈l)
 | [],k,h=>by simp[fS]
 | s::l,k,h=>by
  by_cases e:x=s
  ·simp[fS,e];omega
  ·have e':(x==s)=false:=by simp [e]
   simp only[fS,e',zab,if_false,zap,e,false_or]
   exact PA x l (k+1) (by omega)
theorem gK (l:List aF) (x:aF):dS l x=true↔x∈l:=by
 simp only[dS,decide_eq_true_eq];exact PA x l 0 (za8 0)
theorem IG {α:Type} (b:α→Bool) : ∀ (l:List α) (k:Int),0≤k→(lW b k l≥0↔l.any b=true)
 | [],k,h=>by simp[lW]
 | s::l,k,h=>by
  by_cases e:b s=true
  ·simp[lW,e];omega
  ·have e':b s=false:=by simpa using e
   simp only[lW,e',zab,if_false,List.any_cons,zaC,false_or]
   exact IG b l (k+1) (by omega)
theorem DU {l:List aF} (hl:l.length<4611686018427387904) (x:aF) (s:St):az Tryz.prog 111 [.slice .shared 1 (l.map encStr), .str x] s (.int .i64 (fS x 0 l)) s:=by
 refine az.pure ?_ (by simp[D.bM,D.ok,Tag.ok,dz]) rfl s
 generalize h:fS x 0 l=p
 unfold S0
 refine az.go xI.h rfl fun B Q hB hQ=>?_
 have⟨hD,hY,hZ,gC⟩:=bb
 repeat' (first
 |simp only[go_sem,hD,hY,hZ,gC]
 |(with_reducible first|refine cf fun hc=>?_|refine cj fun hc=>?_|refine cm (fun hc=>?_) fun hc=>?_)<;>(try simp only[hc,bs,↓reduceIte]at h)<;>try simp only[hc]
 |(with_reducible refine ax hQ ?_;exact fL))
 refine di 0 0 (aN.ind (ι:=List aF×Nat) (fun i=>l.drop i.2=i.1∧fS x (i.2:Int) i.1=p) (fun i=>i.1.length)
  (fun i=> [(0, .slice .shared 1 (l.map encStr)),(1, .str x),(7, .int .i64 (l.length:Int)),(8, .int .i64 (i.2:Int))]) (fun i=>⟨[],[]⟩) ?_ (l,0) ⟨rfl,h⟩)
 rintro⟨rest,k⟩ ⟨h1,h⟩ IH
 dsimp only at h1 h
 cases rest with
 |nil=>
  have hD:=drop_nil h1
  simp only[fS]at h
  repeat' (first
 |simp only[go_sem,hD,hY,hZ,gC]
 |(with_reducible first|refine cf fun hc=>?_|refine cj fun hc=>?_|refine cm (fun hc=>?_) fun hc=>?_)<;>(try simp only[hc,bs,↓reduceIte]at h)<;>try simp only[hc]
 |(with_reducible refine ax hQ ?_;exact fL))
 |cons a rest=>
  obtain⟨hY,g2,hD,g4⟩:=drop_cons h1
  have aZ:k<4611686018427387904:=by omega
  simp only[fS]at h
  repeat' (first
 |simp only[go_sem,hD,hY,hZ,gC]
 |(with_reducible first|refine cf fun hc=>?_|refine cj fun hc=>?_|refine cm (fun hc=>?_) fun hc=>?_)<;>(try simp only[hc,bs,↓reduceIte]at h)<;>try simp only[hc]
 |(with_reducible refine ax hQ ?_;exact fL))
  refine cv 0 0 ?_ ?_ (IH (rest,k+1) ⟨g2,h⟩ (zae _))
  ·(simp only[go_sem,hD,hY,hZ,gC,aw aZ];try exact aU)
  ·(simp only[go_sem,hD,hY,hZ,gC,aw aZ];try exact aU)
theorem tB {l:List aF} (hl:l.length<4611686018427387904) (x:aF) (s:St):az Tryz.prog 115 [.slice .shared 1 (l.map encStr), .str x] s (.bool (dS l x)) s:=by
 refine az.pure ?_ (by simp[D.bM,D.ok,Tag.ok,dz]) rfl s
 have hi:=fun s=>DU hl x s
 unfold S0
 refine az.go vP.h rfl fun B Q hB hQ=>?_
 have⟨hD,hY,hZ,gC⟩:=bb
 repeat' (first
 |simp only[go_sem,hD,hY,hZ,gC,dS]
 |(with_reducible refine CU (hi _) ?_)
 |(with_reducible first|refine cf fun hc=>?_|refine cj fun hc=>?_|refine cm (fun hc=>?_) fun hc=>?_)<;>(try simp only[hc,bs,↓reduceIte]at h)<;>try simp only[hc]
 |(with_reducible refine ax hQ ?_;simp only[bF,bG,bZ,cb,go_sem,hD,hY,hZ,gC,dS];try exact eQ))
theorem az.MM {P:Program} {f:Nat} {d d':D} {r:List D} {s s':St} {x:D} (h:az P f (d'::r) s x s') (hw:Wk d d'):az P f (d::r) s x s':=bp.lU (.cons hw (jh.refl r)) h
theorem kF {l:List aF} (hl:l.length<4611686018427387904) (x:aF) (g:Tag) (s:St):az Tryz.prog 115 [.slice g 1 (l.map encStr), .str x] s (.bool (dS l x)) s:=
 (tB hl x s).MM (Wk.shared _ _ _)
theorem MN (x:aF) (z:Nat) (g:Tag) (s:St):az Tryz.prog 115 [.slice g z [], .str x] s (.bool false) s:=
 (tB (l:= []) (by simp) x s).MM (Wk.nil _ _ _)
theorem CX {l:List aF} (hl:l.length<4611686018427387904) {f:Nat} {row:List D} {b:aF→Bool} (wh:D.bM 0 0 row=true) (he:enters Tryz.prog f=true)
 (hb : ∀ x∈l,az Tryz.prog f ([.str x]++ [.ptr 0 0]) ⟨[row],[]⟩ (.bool (b x)) ⟨[row],[]⟩) :
 az Tryz.prog 167 [.slice .shared 1 (l.map encStr), .il f [.ptr 0 0]] ⟨[row],[]⟩ (.int .i64 (lW b 0 l)) ⟨[row],[]⟩:=by
 generalize h:lW b 0 l=p
 have k1 : ∀ n m,D.iz n m row=row:=fun n m=>jk n m _ wh
 refine az.go vw.h rfl fun B Q hB hQ=>?_
 have⟨hD,hY,hZ,gC⟩:=bb
 repeat' (first
 |simp only[go_sem,hD,hY,hZ,gC,k1]
 |(with_reducible first|refine cf fun hc=>?_|refine cj fun hc=>?_|refine cm (fun hc=>?_) fun hc=>?_)<;>(try simp only[hc,bs,↓reduceIte]at h)<;>try simp only[hc]
 |(with_reducible refine ax hQ ?_;(try cases h);simp only[bF,bG,bZ,cb,go_sem,hD,hY,hZ,gC,k1];try exact eQ))
 refine cv 1 0 ?_ ?_ (aN.ind (ι:=List aF×Nat) (fun i=>l.drop i.2=i.1∧lW b (i.2:Int) i.1=p) (fun i=>i.1.length)
  (fun i=> [(0, .slice .shared 1 (l.map encStr)),(1, .il f [.ptr 0 0]),(7, .int .i64 (l.length:Int)),(8, .int .i64 (i.2:Int))]) (fun i=>⟨[row],[]⟩) ?_ (l,0) ⟨rfl,h⟩)
 ·(simp only[go_sem,hD,hY,hZ,gC,k1];try exact aU)
 ·(simp only[go_sem,hD,hY,hZ,gC,k1];try exact aU)
 rintro⟨rest,k⟩ ⟨h1,h⟩ IH
 dsimp only at h1 h
 cases rest with
 |nil=>
  have hD:=drop_nil h1
  simp only[lW]at h
  repeat' (first
 |simp only[go_sem,hD,hY,hZ,gC,k1]
 |(with_reducible first|refine cf fun hc=>?_|refine cj fun hc=>?_|refine cm (fun hc=>?_) fun hc=>?_)<;>(try simp only[hc,bs,↓reduceIte]at h)<;>try simp only[hc]
 |(with_reducible refine ax hQ ?_;(try cases h);simp only[bF,bG,bZ,cb,go_sem,hD,hY,hZ,gC,k1];try exact eQ))
 |cons a rest=>
  obtain⟨hY,g2,hD,g4⟩:=drop_cons h1
  have aZ:k<4611686018427387904:=by omega
  have hba:=hb a (zad hY)
  simp only[lW]at h
  repeat' (first
 |simp only[go_sem,hD,hY,hZ,gC,k1]
 |(with_reducible refine CV.use (he) (hba) ?_)
 |(with_reducible first|refine cf fun hc=>?_|refine cj fun hc=>?_|refine cm (fun hc=>?_) fun hc=>?_)<;>(try simp only[hc,bs,↓reduceIte]at h)<;>try simp only[hc]
 |(with_reducible refine ax hQ ?_;(try cases h);simp only[bF,bG,bZ,cb,go_sem,hD,hY,hZ,gC,k1];try exact eQ))
  refine cv 1 0 ?_ ?_ (IH (rest,k+1) ⟨g2,h⟩ (zae _))
  ·(simp only[go_sem,hD,hY,hZ,gC,k1,aw aZ];try exact aU)
  ·(simp only[go_sem,hD,hY,hZ,gC,k1,aw aZ];try exact aU)
theorem CY {P:Program} {g f:Nat} {row:List D} {rows:List (List D)} {z:Nat} {d:D} (h:az P g [.slice .shared z rows, .il f [.ptr 0 0]] ⟨[row],[]⟩ d ⟨[row],[]⟩) (wh:D.bM 0 0 row=true) (hw:D.iW 0 0 rows=true) (hd:D.ok 0 0 d=true) {s:St} {o:Nat} (ho:s.aq[o]? = some row) :
 az P g [.slice .shared z rows, .il f [.ptr o 0]] s d s:=by
 refine bp.frame [o] [] h (by simp) List.nodup_nil (by simpa using (zac.1 ho).1) (by simp) rfl (fun i o' ds e1 e2=>?_) rfl (by simp) (by simp[D.fu,D.dm,Tag.dm,kb _ _ _ hw])
  (by simp[D.bM,D.ok,Tag.ok,nR (zaz 1) (zal 0) _ hw]) ?_
 ·cases i with
  |zero=>simp at e1 e2;subst e1;subst e2;exact⟨by rw[gf _ _ _ wh];exact ho,jB (zaz 1) (zal 0) _ wh⟩
  |succ i=>simp at e1
 ·rintro _ _ ⟨rfl,rfl⟩
  refine⟨sv _ _ _ hd, ?_⟩
  have:s.aq.set o row=s.aq:=by
   apply zbV
   intro i
   rw[zaL]
   split
   ·rename_i e;subst e;rw [ho];split
    ·rfl
    ·rename_i hh;exact absurd (zac.1 ho).1 hh
   ·rfl
  simp[St.back,lJ,gf _ _ _ wh,this]
theorem Aa {l:List aF} (hl:l.length<4611686018427387904) {f:Nat} {row:List D} {b:aF→Bool} (wh:D.bM 0 0 row=true) (he:enters Tryz.prog f=true)
 (hb : ∀ x∈l,az Tryz.prog f ([.str x]++ [.ptr 0 0]) ⟨[row],[]⟩ (.bool (b x)) ⟨[row],[]⟩) :
 az Tryz.prog 129 [.slice .shared 1 (l.map encStr), .il f [.ptr 0 0]] ⟨[row],[]⟩ (.bool (l.any b)) ⟨[row],[]⟩:=by
 have k1 : ∀ n m,D.iz n m row=row:=fun n m=>jk n m _ wh
 have hi:=CX hl wh he hb
 have e:decide (lW b 0 l≥0)=l.any b:=by
  have:=IG b l 0 (za8 0)
  cases hh:l.any b<;>simp_all
 refine az.go tA.h rfl fun B Q hB hQ=>?_
 have⟨hD,hY,hZ,gC⟩:=bb
 repeat' (first
 |simp only[go_sem,hD,hY,hZ,gC,k1,e]
 |(with_reducible refine CU (hi) ?_)
 |(with_reducible first|refine cf fun hc=>?_|refine cj fun hc=>?_|refine cm (fun hc=>?_) fun hc=>?_)<;>(try simp only[hc,bs,↓reduceIte]at h)<;>try simp only[hc]
 |(with_reducible refine ax hQ ?_;simp only[bF,bG,bZ,cb,go_sem,hD,hY,hZ,gC,k1,e];try exact eQ))
theorem Ab {l:List aF} (hl:l.length<4611686018427387904) {f:Nat} {row:List D} {b:aF→Bool} (wh:D.bM 0 0 row=true) (he:enters Tryz.prog f=true)
 (hb : ∀ x∈l,az Tryz.prog f ([.str x]++ [.ptr 0 0]) ⟨[row],[]⟩ (.bool (b x)) ⟨[row],[]⟩) {s:St} {o:Nat} (ho:s.aq[o]? = some row) :
 az Tryz.prog 129 [.slice .shared 1 (l.map encStr), .il f [.ptr o 0]] s (.bool (l.any b)) s:=
 CY (Aa hl wh he hb) wh (dz l) rfl ho
theorem xe {l:List Pc} (hl:l.length<4611686018427387904) {f:Nat} {row:List D} {b:Pc→Bool} (wh:D.bM 0 0 row=true) (he:enters Tryz.prog f=true)
 (hb : ∀ x∈l,az Tryz.prog f ([.agg (bN x)]++ [.ptr 0 0]) ⟨[row],[]⟩ (.bool (b x)) ⟨[row],[]⟩) :
 az Tryz.prog 75 [.slice .shared 5 (l.map bN), .il f [.ptr 0 0]] ⟨[row],[]⟩ (.int .i64 (lW b 0 l)) ⟨[row],[]⟩:=by
 generalize h:lW b 0 l=p
 have k1 : ∀ n m,D.iz n m row=row:=fun n m=>jk n m _ wh
 refine az.go ub.h rfl fun B Q hB hQ=>?_
 have⟨hD,hY,hZ,gC⟩:=bb
 repeat' (first
 |simp only[go_sem,hD,hY,hZ,gC,k1]
 |(with_reducible first|refine cf fun hc=>?_|refine cj fun hc=>?_|refine cm (fun hc=>?_) fun hc=>?_)<;>(try simp only[hc,bs,↓reduceIte]at h)<;>try simp only[hc]
 |(with_reducible refine ax hQ ?_;(try cases h);simp only[bF,bG,bZ,cb,go_sem,hD,hY,hZ,gC,k1];try exact eQ))
 refine cv 1 0 ?_ ?_ (aN.ind (ι:=List Pc×Nat) (fun i=>l.drop i.2=i.1∧lW b (i.2:Int) i.1=p) (fun i=>i.1.length)
  (fun i=> [(0, .slice .shared 5 (l.map bN)),(1, .il f [.ptr 0 0]),(7, .int .i64 (l.length:Int)),(8, .int .i64 (i.2:Int))]) (fun i=>⟨[row],[]⟩) ?_ (l,0) ⟨rfl,h⟩)
 ·(simp only[go_sem,hD,hY,hZ,gC,k1];try exact aU)
 ·(simp only[go_sem,hD,hY,hZ,gC,k1];try exact aU)
 rintro⟨rest,k⟩ ⟨h1,h⟩ IH
 dsimp only at h1 h
 cases rest with
 |nil=>
  have hD:=drop_nil h1
  simp only[lW]at h
  repeat' (first
 |simp only[go_sem,hD,hY,hZ,gC,k1]
 |(with_reducible first|refine cf fun hc=>?_|refine cj fun hc=>?_|refine cm (fun hc=>?_) fun hc=>?_)<;>(try simp only[hc,bs,↓reduceIte]at h)<;>try simp only[hc]
 |(with_reducible refine ax hQ ?_;(try cases h);simp only[bF,bG,bZ,cb,go_sem,hD,hY,hZ,gC,k1];try exact eQ))
 |cons a rest=>
  obtain⟨hY,g2,hD,g4⟩:=drop_cons h1
  have aZ:k<4611686018427387904:=by omega
  have hba:=hb a (zad hY)
  simp only[lW]at h
  repeat' (first
 |simp only[go_sem,hD,hY,hZ,gC,k1]
 |(with_reducible refine CV.use (he) (hba) ?_)
 |(with_reducible first|refine cf fun hc=>?_|refine cj fun hc=>?_|refine cm (fun hc=>?_) fun hc=>?_)<;>(try simp only[hc,bs,↓reduceIte]at h)<;>try simp only[hc]
 |(with_reducible refine ax hQ ?_;(try cases h);simp only[bF,bG,bZ,cb,go_sem,hD,hY,hZ,gC,k1];try exact eQ))
  refine cv 1 0 ?_ ?_ (IH (rest,k+1) ⟨g2,h⟩ (zae _))
  ·(simp only[go_sem,hD,hY,hZ,gC,k1,aw aZ];try exact aU)
  ·(simp only[go_sem,hD,hY,hZ,gC,k1,aw aZ];try exact aU)
theorem B8 {l:List Pc} (hl:l.length<4611686018427387904) {f:Nat} {row:List D} {b:Pc→Bool} (wh:D.bM 0 0 row=true) (he:enters Tryz.prog f=true)
 (hb : ∀ x∈l,az Tryz.prog f ([.agg (bN x)]++ [.ptr 0 0]) ⟨[row],[]⟩ (.bool (b x)) ⟨[row],[]⟩) :
 az Tryz.prog 190 [.slice .shared 5 (l.map bN), .il f [.ptr 0 0]] ⟨[row],[]⟩ (.bool (l.any b)) ⟨[row],[]⟩:=by
 have k1 : ∀ n m,D.iz n m row=row:=fun n m=>jk n m _ wh
 have hi:=xe hl wh he hb
 have e:decide (lW b 0 l≥0)=l.any b:=by
  have:=IG b l 0 (za8 0)
  cases hh:l.any b<;>simp_all
 refine az.go sx.h rfl fun B Q hB hQ=>?_
 have⟨hD,hY,hZ,gC⟩:=bb
 repeat' (first
 |simp only[go_sem,hD,hY,hZ,gC,k1,e]
 |(with_reducible refine CU (hi) ?_)
 |(with_reducible first|refine cf fun hc=>?_|refine cj fun hc=>?_|refine cm (fun hc=>?_) fun hc=>?_)<;>(try simp only[hc,bs,↓reduceIte]at h)<;>try simp only[hc]
 |(with_reducible refine ax hQ ?_;simp only[bF,bG,bZ,cb,go_sem,hD,hY,hZ,gC,k1,e];try exact eQ))
mutual
def Sm.pre:Sm→List Sm
 |⟨id,kind,labels,name,pc,x,has,args,a8,aK⟩=>⟨id,kind,labels,name,pc,x,has,args,a8,aK⟩::(Sm.cZ a8++Sm.cZ aK)
def Sm.cZ:List Sm→List Sm
 | []=> []
 |s::l=>s.pre++Sm.cZ l
end
def Pg.pre (p:Pg):List Sm:=(p.procs.map fun f=>Sm.cZ f.body).flatten
theorem Sm.oN (s:Sm):s.pre=s::(Sm.cZ s.a8++Sm.cZ s.aK):=by cases s;simp only[Sm.pre]
mutual
theorem acJ (proc up next loop:Int) (out:List Im) : ∀ s:Sm,∃ e:List Im,Im.one proc up next loop out s=out++e∧e.map Im.s=s.pre
 |⟨id,kind,labels,name,pc,x,has,args,a8,aK⟩=>by
  simp only[Im.one,Sm.pre]
  obtain⟨e1,h1,k1⟩:=A5 proc ((out.length:Int)+1) (if kind==6 then(out.length:Int)+1 else next) (if kind==6 then(out.length:Int)+1 else loop) (out++ [⟨⟨id,kind,labels,name,pc,x,has,args,a8,aK⟩,proc,up,next,loop⟩]) a8
  obtain⟨e2,h2,k2⟩:=A5 proc ((out.length:Int)+1) (if kind==6 then(out.length:Int)+1 else next) (if kind==6 then(out.length:Int)+1 else loop) (Im.rows proc ((out.length:Int)+1) (if kind==6 then(out.length:Int)+1 else next) (if kind==6 then(out.length:Int)+1 else loop) (out++ [⟨⟨id,kind,labels,name,pc,x,has,args,a8,aK⟩,proc,up,next,loop⟩]) a8) aK
  refine⟨⟨⟨id,kind,labels,name,pc,x,has,args,a8,aK⟩,proc,up,next,loop⟩::(e1++e2), ?_, ?_⟩
  ·rw[h2,h1];simp
  ·simp[k1,k2]
theorem A5 (proc up next loop:Int) (out:List Im) : ∀ l:List Sm,∃ e:List Im,Im.rows proc up next loop out l=out++e∧e.map Im.s=Sm.cZ l
 | []=>⟨[],by simp[Im.rows],rfl⟩
 |s::l=>by
  simp only[Im.rows,Sm.cZ]
  obtain⟨e1,h1,k1⟩:=acJ proc up (if l.length=0 then next else(out.length:Int)+1+(s.kE:Int)) loop out s
  obtain⟨e2,h2,k2⟩:=A5 proc up next loop (Im.one proc up (if l.length=0 then next else(out.length:Int)+1+(s.kE:Int)) loop out s) l
  refine⟨e1++e2, ?_,by simp[k1,k2]⟩
  rw[h2,h1];simp
end
theorem Vo : ∀ (l:List Pc) (n:Nat) (h:Sh),h.lo.length=n→h.hi.length=n→
 ∃ e lo hi,Sh.go n h l = ⟨h.L++e,h.lo++lo,h.hi++hi⟩∧e.map Im.s=(l.map fun f=>Sm.cZ f.body).flatten∧lo.length=l.length∧hi.length=l.length∧
  ∀ (i:Nat) (f:Pc),l[i]? = some f→∃ a b e' Pb:List Im,lo[i]? = some (((h.L++a).length:Int)+1)∧hi[i]? = some (((h.L++a++b).length:Int)+1)∧b.map Im.s=Sm.cZ f.body∧e=a++b++e'
 | [],n,h,hl,hh=>⟨[],[],[],by simp[Sh.go],rfl,rfl,rfl,fun i f h=>by simp at h⟩
 | f::l,n,h,hl,hh=>by
  simp only[Sh.go]
  obtain⟨e1,h1,k1⟩:=A5 (n:Int) 0 (-1) 0 h.L f.body
  obtain⟨e2,lo,hi,h2,k2,h3,h4,h5⟩:=Vo l (n+1) ⟨Im.rows (n:Int) 0 (-1) 0 h.L f.body,h.lo++ [(h.L.length:Int)+1],h.hi++ [((Im.rows (n:Int) 0 (-1) 0 h.L f.body).length:Int)+1]⟩ (by simp[hl]) (by simp[hh])
  refine⟨e1++e2,((h.L.length:Int)+1)::lo,(((Im.rows (n:Int) 0 (-1) 0 h.L f.body).length:Int)+1)::hi, ?_,by simp[k1,k2],by simp[h3],by simp[h4],fun i g jf=>?_⟩
  ·rw[h2,h1];simp
  ·cases i with
   |zero=>
    simp only[zbe,Option.some.injEq]at jf
    subst jf
    exact⟨[],e1,e2,[],by simp,by rw[h1];simp,k1,by simp⟩
   |succ i=>
    simp only[za2]at jf
    obtain⟨a,b,e',Pb,g1,g2,g3,g4⟩:=h5 i g jf
    refine⟨e1++a,b,e',Pb, ?_, ?_,g3,by rw[g4];simp⟩
    ·rw[za2,g1,h1];simp
    ·rw[za2,g2,h1];simp
theorem pd (p:Pg):p.aR.L.map Im.s=p.pre∧∀ (i:Nat) (f:Pc),p.procs[i]? = some f→∃ a b e:List Im,p.aR.lo[i]? = some ((a.length:Int)+1)∧p.aR.hi[i]? = some (((a++b).length:Int)+1)∧b.map Im.s=Sm.cZ f.body∧p.aR.L=a++b++e:=by
 obtain⟨e,lo,hi,h1,h2,h3,h4,h5⟩:=Vo p.procs 0 ⟨[],[],[]⟩ rfl rfl
 unfold Pg.aR
 rw[h1]
 refine⟨by simpa[Pg.pre]using h2,fun i f hf=>?_⟩
 obtain⟨a,b,e',_,g1,g2,g3,g4⟩:=h5 i f hf
 exact⟨a,b,e',by simpa using g1,by simpa using g2,g3,by simpa using g4⟩
def Pg.at (p:Pg) (name:aF):Int:=lW (fun f:Pc=>f.name==name) 0 p.procs
theorem acK (name:aF) (f:Pc):az Tryz.prog 76 ([.agg (bN f)]++ [.ptr 0 0]) ⟨[[.str name]],[]⟩ (.bool (f.name==name)) ⟨[[.str name]],[]⟩:=by
 show az Tryz.prog 76 [.agg (bN f), .ptr 0 0] _ _ _
 refine az.go zQ.h rfl fun B Q hB hQ=>?_
 have⟨hD,hY,hZ,gC⟩:=bb
 repeat' (first
 |simp only[go_sem,hD,hY,hZ,gC]
 |(with_reducible refine ax hQ ?_;exact aB))
theorem GX {p:Pg} (hs:p.procs.length<4611686018427387904) (name:aF) (s:St):az Tryz.prog 45 [.dO (fU p) 0, .str name] s (.int .i64 (p.at name)) s:=by
 refine az.pure ?_ (by simp[D.bM,D.ok,vQ]) rfl s
 have hi:=fun {s:St} {o:Nat} (ho:s.aq[o]? = some [.str name])=>CY (xe (l:=p.procs) (f:=76) (row:= [.str name]) (b:=fun f:Pc=>f.name==name) hs rfl (by with_unfolding_all rfl) (fun x _=>acK name x)) rfl (xY _) rfl ho
 have jf:=fun {s:St} {o:Nat} (ho:s.aq[o]? = some [.str name])=>(show az Tryz.prog 75 [.slice .shared 5 (p.procs.map bN), .il 76 [.ptr o 0]] s (.int .i64 (p.at name)) s from hi ho)
 unfold S0
 rw[qK]
 refine az.go B6.h rfl fun B Q hB hQ=>?_
 have⟨hD,hY,hZ,gC⟩:=bb
 repeat' (first
 |simp only[go_sem,hD,hY,hZ,gC]
 |(with_reducible refine CU (jf (by with_unfolding_all rfl)) ?_)
 |(with_reducible refine ax hQ ?_;exact aB))
theorem Vp : ∀ (l:List Pc) (n:Nat) (h:Sh),(Sh.go n h l).L.length≤h.L.length+Pc.bq l
 | [],n,h=>by simp[Sh.go]
 |f::l,n,h=>by
  simp only[Sh.go]
  refine zaW (Vp l _ _) ?_
  have:=iK (n:Int) 0 (-1) 0 h.L f.body
  have:=pb f.body
  simp only[Pc.bq,Pc.size];omega
theorem qL (p:Pg):p.aR.L.length≤Pc.bq p.procs:=by have:=Vp p.procs 0 ⟨[],[],[]⟩;simpa[Pg.aR]using this
theorem afG {p:Pg} {i:Nat} (hs:Pc.bq p.procs<1000000000) {a b e:List Im} (h1:p.aR.lo[i]? = some ((a.length:Int)+1)) (h2:p.aR.hi[i]? = some (((a++b).length:Int)+1)) (h4:p.aR.L=a++b++e) (s:St) :
 az Tryz.prog 114 [.dO (fU p) 0, .int .i64 (i:Int)] s (.slice .shared 17 (b.map dK)) s:=by
 refine az.pure ?_ (by simp[D.bM,D.ok,vQ]) (by simp[D.ok,Tag.ok,K7]) s
 have hL:p.aR.L.length<1000000000:=zbS (qL p) hs
 have l1:(i:Int)<(p.aR.lo.length:Int):=by have:=(zac.1 h1).1;omega
 have l2:(i:Int)<(p.aR.hi.length:Int):=by have:=(zac.1 h2).1;omega
 have CZ:a.length+b.length≤p.aR.L.length:=by rw[h4];simp
 have w1:IntKind.wrap .i64 ((a.length:Int)+1 - 1)=(a.length:Int):=by rw[show(a.length:Int)+1 - 1=(a.length:Int) by omega];exact dv (by omega) (by omega)
 have w2:IntKind.wrap .i64 (((a.length+b.length:Nat):Int)+1 - 1)=((a.length+b.length:Nat):Int):=by rw[show((a.length+b.length:Nat):Int)+1 - 1=((a.length+b.length:Nat):Int) by omega];exact dv (by omega) (by omega)
 have c1:((a.length:Int)≤((a.length+b.length:Nat):Int))=True:=by simp only[eq_iff_iff,iff_true];omega
 have c2:(((a.length+b.length:Nat):Int)≤(p.aR.L.length:Int))=True:=by simp only[eq_iff_iff,iff_true];omega
 have hb:List.drop a.length (List.take (a.length+b.length) (List.map dK p.aR.L))=List.map dK b:=by rw[h4];simp[zag,List.take_append,List.drop_append]
 unfold S0
 rw[qK]
 refine az.go Ej.h rfl fun B Q hB hQ=>?_
 have⟨hD,hY,hZ,gC⟩:=bb
 repeat' (first
 |simp only[go_sem,hD,hY,hZ,gC,h1,h2,zaj,w1,w2,c1,c2,or_true,true_and,and_self,ite_self,zaQ,hb]
 |(with_reducible first|refine cf fun hc=>?_|refine cj fun hc=>?_|refine cm (fun hc=>?_) fun hc=>?_)<;>(try simp only[hc,bs,↓reduceIte]at h)<;>try simp only[hc]
 |(with_reducible refine ax hQ ?_;(try cases h);simp only[bF,bG,bZ,cb,go_sem,hD,hY,hZ,gC,h1,h2,zaj,w1,w2,c1,c2,or_true,true_and,and_self,ite_self,zaQ,hb];try exact eQ)
 |(cases h;done))
theorem Yw {p:Pg} {i:Nat} {f:Pc} (hf:p.procs[i]? = some f) (hs:Pc.bq p.procs<1000000000) : ∃ it:List Im,it.map Im.s=Sm.cZ f.body∧∀ s,az Tryz.prog 114 [.dO (fU p) 0, .int .i64 (i:Int)] s (.slice .shared 17 (it.map dK)) s:=by
 obtain⟨a,b,e,h1,h2,h3,h4⟩:=(pd p).2 i f hf
 exact⟨b,h3,afG hs h1 h2 h4⟩
theorem JE {r:aF} : wz r=true↔qJ r=r.length:=by
 induction r with
 |nil=>simp[wz,qJ]
 |cons c r ih=>
  simp only[wz,qJ]
  cases h1:yd c<;>cases h2:B1 c<;>simp[ih]
theorem C0 (t:aF) (hl:t.length<4611686018427387904) (s:St):az Tryz.prog 65 [.str t] s (.bool (isName t)) s:=by
 refine az.pure ?_ rfl rfl s
 have hr:=fun s=>aje (pos:=0) hl s
 simp only[List.drop_zero,zaZ]at hr
 unfold S0
 cases t with
 |nil=>
  have z:decide (((0:Nat):Int)<1)=true:=rfl
  have z':decide ((0:Int)<1)=true:=rfl
  have e:isName [] = false:=rfl
  rw[e]
  refine az.go oK.h rfl fun B Q hB hQ=>?_
  have⟨hD,hY,hZ,gC⟩:=bb
  repeat' (first
 |simp only[go_sem,hD,hY,hZ,gC,z,z']
 |(with_reducible refine ax hQ ?_;exact aB))
 | cons c r=>
  have l1:decide (((r.length+1:Nat):Int)<1)=false:=by simp;omega
  generalize h:isName (c::r)=p
  simp only[isName]at h
  cases hL:yd c
  ·simp only [hL,zax,zbI, ↓reduceIte]at h
   subst h
   by_cases c8:decide (((r.length+1:Nat):Int) > 8)=true
   ·refine az.go oK.h rfl fun B Q hB hQ=> ?_
    have⟨hD,hY,hZ,gC⟩:=bb
    repeat' (first
 |simp only[go_sem,hD,hY,hZ,gC,l1,c8]
 | (with_reducible refine ax hQ ?_;exact aB))
   ·have c8:decide (((r.length+1:Nat):Int) > 8)=false:=by simpa using c8
    refine az.go oK.h rfl fun B Q hB hQ=>?_
    have⟨hD,hY,hZ,gC⟩:=bb
    repeat' (first
 |simp only[go_sem,hD,hY,hZ,gC,l1,c8,hL]
 |(with_reducible refine CU (ux _ _) ?_)
 | (with_reducible refine ax hQ ?_;exact aB))
  ·simp only [hL,zau,Bool.or_false]at h
   by_cases c8:decide (((r.length+1:Nat):Int) > 8)=true
   ·simp only [c8, ↓reduceIte]at h
    subst h
    refine az.go oK.h rfl fun B Q hB hQ=>?_
    have⟨hD,hY,hZ,gC⟩:=bb
    repeat' (first
 |simp only[go_sem,hD,hY,hZ,gC,l1,c8]
 | (with_reducible refine ax hQ ?_;exact aB))
   ·have c8:decide (((r.length+1:Nat):Int) > 8)=false:=by simpa using c8
    simp only[c8,zab,↓reduceIte]at h
    have dU:qJ (c::r)=qJ r+1:=by simp[qJ,hL]
    cases hn:wz r
    ·simp only [hn,zab, ↓reduceIte]at h
     have:qJ r≠r.length:=fun e=>by rw[JE.2 e]at hn;cases hn
     have e:(((qJ (c::r):Nat):Int)==((r.length+1:Nat):Int))=false:=by rw[dU];simp;omega
     subst h
     refine az.go oK.h rfl fun B Q hB hQ=>?_
     have⟨hD,hY,hZ,gC⟩:=bb
     repeat' (first
 |simp only[go_sem,hD,hY,hZ,gC,l1,c8,hL,e]
 |(with_reducible refine CU (ux _ _) ?_)
 |(with_reducible refine CU (hr _) ?_)
 | (with_reducible refine ax hQ ?_;exact aB))
    ·simp only [hn, ↓reduceIte]at h
     have:=JE.1 hn
     have e:(((qJ (c::r):Nat):Int)==((r.length+1:Nat):Int))=true:=by rw[dU];simp;omega
     subst h
     refine az.go oK.h rfl fun B Q hB hQ=>?_
     have⟨hD,hY,hZ,gC⟩:=bb
     repeat' (first
 |simp only[go_sem,hD,hY,hZ,gC,l1,c8,hL,e]
 |(with_reducible refine CU (ux _ _) ?_)
 |(with_reducible refine CU (hr _) ?_)
 |(with_reducible refine CU (afv _ _) ?_)
 |(with_reducible refine ax hQ ?_;exact aB))
theorem PB (op:Int) (s:St):az Tryz.prog 99 [.int .i64 op] s (.int .i64 (kg op)) s:=by
 refine az.pure ?_ rfl rfl s
 unfold S0
 generalize h:kg op=p
 unfold kg at h
 refine az.go KB.h rfl fun B Q hB hQ=>?_
 have⟨hD,hY,hZ,gC⟩:=bb
 repeat' (first
 |simp only[go_sem,hD,hY,hZ,gC]
 |(with_reducible first|refine cf fun hc=>?_|refine cj fun hc=>?_|refine cm (fun hc=>?_) fun hc=>?_)<;>(try simp only[hc,bs,↓reduceIte]at h)<;>try simp only[hc]
 |(with_reducible refine ax hQ ?_;exact fL))
theorem A6 {l:List aF} (hl:l.length<4611686018427387904) (hs : ∀ t∈l,t.length<4611686018427387904) (s:St):az Tryz.prog 64 [.slice .shared 1 (l.map encStr)] s (.bool (ez l)) s:=by
 refine az.pure ?_ (by simp[D.bM,D.ok,dz,Tag.ok]) rfl s
 unfold S0
 generalize h:ez l=p
 refine az.go Ic.h rfl fun B Q hB hQ=>?_
 have⟨hD,hY,hZ,gC⟩:=bb
 repeat' (first
 |simp only[go_sem,hD,hY,hZ,gC]
 |(with_reducible first|refine cf fun hc=>?_|refine cj fun hc=>?_|refine cm (fun hc=>?_) fun hc=>?_)<;>(try simp only[hc,bs,↓reduceIte]at h)<;>try simp only[hc]
 |(with_reducible refine ax hQ ?_;exact fL))
 refine di 0 0 (aN.ind (ι:=List aF×Nat) (fun i=>l.drop i.2=i.1∧ez i.1=p) (fun i=>i.1.length)
  (fun i=> [(5, .slice .shared 1 (l.map encStr)),(6, .int .i64 (l.length:Int)),(7, .int .i64 (i.2:Int))]) (fun i=>⟨[],[]⟩) ?_ (l,0) ⟨rfl,h⟩)
 rintro⟨rest,k⟩ ⟨h1,h⟩ IH
 dsimp only at h1 h
 cases rest with
 |nil=>
  have hD:=drop_nil h1
  simp only[ez]at h
  repeat' (first
 |simp only[go_sem,hD,hY,hZ,gC]
 |(with_reducible first|refine cf fun hc=>?_|refine cj fun hc=>?_|refine cm (fun hc=>?_) fun hc=>?_)<;>(try simp only[hc,bs,↓reduceIte]at h)<;>try simp only[hc]
 |(with_reducible refine ax hQ ?_;exact fL))
 |cons t rest=>
  obtain⟨hY,g2,hD,g4⟩:=drop_cons h1
  have hZ:k<4611686018427387904:=by omega
  have hn:=C0 t (hs t (zad hY))
  simp only[ez]at h
  repeat' (first
 |simp only[go_sem,hD,hY,hZ,gC]
 |(with_reducible refine CU (hn _) ?_)
 |(with_reducible first|refine cf fun hc=>?_|refine cj fun hc=>?_|refine cm (fun hc=>?_) fun hc=>?_)<;>(try simp only[hc,bs,↓reduceIte]at h)<;>try simp only[hc]
 |(with_reducible refine ax hQ ?_;exact fL))
  refine di 0 0 (IH (rest,k+1) ⟨g2,h⟩ (zae _))
mutual
def Ex.dp (left:Int):Ex→Bool
 |⟨op,n,name,kids⟩=>
  if decide (left<1) ||(kids.length:Int) != kg op then false
  else if op==1 then decide (n≥0) && name == []
  else if op==2 then n==0 && isName name
  else if n != 0 || !(name == [])then false
  else Ex.Ac (left - 1) kids
def Ex.Ac (left:Int):List Ex→Bool
 | []=>true
 |x::l=>if !(Ex.dp left x)then false else Ex.Ac left l
end
theorem acL : ∀ (m:Nat) (x:Ex),x.size≤m→x.size<4611686018427387904→x.texts→∀ left:Int,0≤left→left≤100→∀ s:St,az Tryz.prog 55 [.agg (bT x), .int .i64 left] s (.bool (x.dp left)) s:=by
 intro m
 induction m with
 |zero=>rintro⟨op,v,name,kids⟩ h;simp only[Ex.size]at h;omega
 | succ m ih=>
  rintro⟨op,v,name,kids⟩ h hx ht left h0 II s
  refine az.pure ?_ (by simp[D.bM,D.ok,jM]) rfl s
  have hlen:kids.length<4611686018427387904:=by simp only[Ex.size]at hx;have:=Ex.dI kids;omega
  have hn:=C0 name ht.1
  generalize hp:Ex.dp left ⟨op,v,name,kids⟩=p
  simp only[Ex.dp]at hp
  unfold S0
  by_cases Ad:left<1
  ·have d1:decide (left<1)=true:=by simpa using Ad
   simp only[d1,zbj,↓reduceIte]at hp
   subst hp
   refine az.go BT.h rfl fun B Q hB hQ=>?_
   have⟨hD,hY,hZ,gC⟩:=bb
   repeat' (first
 |simp only[go_sem,hD,hY,hZ,gC,d1]
 |(with_reducible refine CU (PB _ _) ?_)
 |(with_reducible refine CU (hn _) ?_)
 | (with_reducible refine ax hQ ?_;exact aB))
  ·have d1:decide (left<1)=false:=by simpa using Ad
   have w1:IntKind.wrap .i64 (left - 1)=left - 1:=dv (by omega) (by omega)
   have hk : ∀ y∈kids,∀ s,az Tryz.prog 55 [.agg (bT y), .int .i64 (left - 1)] s (.bool (y.dp (left - 1))) s:=fun y hy s=>
    ih y (by simp only[Ex.size]at h;have:=Ex.cq hy;omega) (by simp only[Ex.size]at hx;have:=Ex.cq hy;omega) (Ex.JD ht hy) (left - 1) (by omega) (by omega) s
   simp only[d1,zbg]at hp
   have h:=hp
   clear hp
   refine az.go BT.h rfl fun B Q hB hQ=>?_
   have⟨hD,hY,hZ,gC⟩:=bb
   repeat' (first
 |simp only[go_sem,hD,hY,hZ,gC,d1]
 |(with_reducible refine CU (PB _ _) ?_)
 |(with_reducible refine CU (hn _) ?_)
 |(with_reducible first|refine cf fun hc=>?_|refine cj fun hc=>?_|refine cm (fun hc=>?_) fun hc=>?_)<;>(try simp only[hc,bs,↓reduceIte]at h)<;>try simp only[hc]
 | (with_reducible refine ax hQ ?_;(try cases h);simp only [bF,bG,bZ,cb,go_sem,hD,hY,hZ,gC,d1];repeat' (first | exact Ok.out | with_reducible refine ei ?_ ?_ | (simp;done))))
   all_goals
    refine di 1 0 (aN.ind (ι:=List Ex×Nat) (fun i=>kids.drop i.2=i.1∧Ex.Ac (left - 1) i.1=p) (fun i=>i.1.length)
     (fun i=> [(1, .int .i64 left),(49, .slice .shared 4 (kids.map bT)),(50, .int .i64 (kids.length:Int)),(51, .int .i64 (i.2:Int))]) (fun i=>⟨[bT ⟨op,v,name,kids⟩],[]⟩) ?_ (kids,0) ⟨rfl,h⟩)
    rintro⟨rest,k⟩ ⟨h1,h⟩ IH
    dsimp only at h1 h
    cases rest with
    |nil=>
     have hD:=drop_nil h1
     simp only[Ex.Ac]at h
     repeat' (first
 |simp only[go_sem,hD,hY,hZ,gC]
 |(with_reducible first|refine cf fun hc=>?_|refine cj fun hc=>?_|refine cm (fun hc=>?_) fun hc=>?_)<;>(try simp only[hc,bs,↓reduceIte]at h)<;>try simp only[hc]
 |(with_reducible refine ax hQ ?_;exact fL)
 | (cases h;done))
    |cons y rest=>
     obtain⟨hY,g2,hD,g4⟩:=drop_cons h1
     have hy:=hk y (zad hY)
     have hZ:k<4611686018427387904:=by omega
     simp only[Ex.Ac]at h
     repeat' (first
 |simp only[go_sem,hD,hY,hZ,gC,w1]
 |(with_reducible refine CU (hy _) ?_)
 |(with_reducible first|refine cf fun hc=>?_|refine cj fun hc=>?_|refine cm (fun hc=>?_) fun hc=>?_)<;>(try simp only[hc,bs,↓reduceIte]at h)<;>try simp only[hc]
 |(with_reducible refine ax hQ ?_;(try cases h);simp only[bF,bG,bZ,cb,go_sem,hD,hY,hZ,gC,w1];try exact eQ))
     refine di 1 0 (IH (rest,k+1) ⟨g2,h⟩ (zae _))
theorem A7 {x:Ex} (hx:x.size<4611686018427387904) (ht:x.texts) (s:St):az Tryz.prog 29 [.agg (bT x)] s (.bool (x.dp 20)) s:=by
 refine az.pure ?_ (by simp[D.bM,D.ok,jM]) rfl s
 have hd:=fun s=>acL _ x (zal _) hx ht 20 (by omega) (by omega) s
 unfold S0
 refine az.go Fj.h rfl fun B Q hB hQ=>?_
 have⟨hD,hY,hZ,gC⟩:=bb
 repeat' (first
 |simp only[go_sem,hD,hY,hZ,gC]
 |(with_reducible refine CU (hd _) ?_)
 |(with_reducible refine ax hQ ?_;exact aB))
theorem acM (x:Ex) (s:St):az Tryz.prog 175 [.agg (bT x)] s (.bool x.none) s:=by
 refine az.pure ?_ (by simp[D.bM,D.ok,jM]) rfl s
 unfold S0
 generalize h:Ex.none x=p
 unfold Ex.none at h
 refine az.go KH.h rfl fun B Q hB hQ=>?_
 have⟨hD,hY,hZ,gC⟩:=bb
 repeat' (first
 |simp only[go_sem,hD,hY,hZ,gC]
 |(with_reducible first|refine cf fun hc=>?_|refine cj fun hc=>?_|refine cm (fun hc=>?_) fun hc=>?_)<;>(try simp only[hc,bs,↓reduceIte]at h)<;>try simp only[hc]
 |(with_reducible refine ax hQ ?_;exact fL))
def vz (t:aF) (is:Bool):Bool:=(is && isName t) ||(!is && t == [])
theorem Fq (t:aF) (is:Bool) (hl:t.length<4611686018427387904) (s:St):az Tryz.prog 142 [.str t, .bool is] s (.bool (vz t is)) s:=by
 refine az.pure ?_ rfl rfl s
 have hn:=C0 t hl
 unfold S0
 generalize h:vz t is=p
 unfold vz at h
 refine az.go ID.h rfl fun B Q hB hQ=>?_
 have⟨hD,hY,hZ,gC⟩:=bb
 repeat' (first
 |simp only[go_sem,hD,hY,hZ,gC]
 |(with_reducible refine CU (hn _) ?_)
 |(with_reducible first|refine cf fun hc=>?_|refine cj fun hc=>?_|refine cm (fun hc=>?_) fun hc=>?_)<;>(try simp only[hc,bs,↓reduceIte]at h)<;>try simp only[hc]
 |(with_reducible refine ax hQ ?_;exact fL))
def xf (x:Ex) (is:Bool):Bool:=(is && x.dp 20) ||(!is && x.none)
theorem PC {x:Ex} (is:Bool) (hx:x.size<4611686018427387904) (ht:x.texts) (s:St):az Tryz.prog 143 [.agg (bT x), .bool is] s (.bool (xf x is)) s:=by
 refine az.pure ?_ (by simp[D.bM,D.ok,jM]) rfl s
 have hm:=A7 hx ht
 unfold S0
 generalize h:xf x is=p
 unfold xf at h
 refine az.go IE.h rfl fun B Q hB hQ=>?_
 have⟨hD,hY,hZ,gC⟩:=bb
 repeat' (first
 |simp only[go_sem,hD,hY,hZ,gC]
 |(with_reducible refine CU (hm _) ?_)
 |(with_reducible refine CU (acM _ _) ?_)
 |(with_reducible first|refine cf fun hc=>?_|refine cj fun hc=>?_|refine cm (fun hc=>?_) fun hc=>?_)<;>(try simp only[hc,bs,↓reduceIte]at h)<;>try simp only[hc]
 |(with_reducible refine ax hQ ?_;exact fL))
def rj:List Ar→Bool
 | []=>true
 |a::l=>if !(vz a.name a.ref) || !(xf a.x !a.ref)then false else rj l
theorem Yx {l:List Ar} (hl:l.length<4611686018427387904) (hs : ∀ a∈l,a.x.size<4611686018427387904∧a.x.texts∧a.name.length<4611686018427387904) (s:St) :
 az Tryz.prog 144 [.slice .shared 6 (l.map dE)] s (.bool (rj l)) s:=by
 refine az.pure ?_ (by simp[D.bM,D.ok,K5,Tag.ok]) rfl s
 unfold S0
 generalize h:rj l=p
 refine az.go GU.h rfl fun B Q hB hQ=>?_
 have⟨hD,hY,hZ,gC⟩:=bb
 repeat' (first
 |simp only[go_sem,hD,hY,hZ,gC]
 |(with_reducible first|refine cf fun hc=>?_|refine cj fun hc=>?_|refine cm (fun hc=>?_) fun hc=>?_)<;>(try simp only[hc,bs,↓reduceIte]at h)<;>try simp only[hc]
 |(with_reducible refine ax hQ ?_;exact fL))
 refine di 0 0 (aN.ind (ι:=List Ar×Nat) (fun i=>l.drop i.2=i.1∧rj i.1=p) (fun i=>i.1.length)
  (fun i=> [(5, .slice .shared 6 (l.map dE)),(6, .int .i64 (l.length:Int)),(7, .int .i64 (i.2:Int))]) (fun i=>⟨[],[]⟩) ?_ (l,0) ⟨rfl,h⟩)
 rintro⟨rest,k⟩ ⟨h1,h⟩ IH
 dsimp only at h1 h
 cases rest with
 |nil=>
  have hD:=drop_nil h1
  simp only[rj]at h
  repeat' (first
 |simp only[go_sem,hD,hY,hZ,gC]
 |(with_reducible first|refine cf fun hc=>?_|refine cj fun hc=>?_|refine cm (fun hc=>?_) fun hc=>?_)<;>(try simp only[hc,bs,↓reduceIte]at h)<;>try simp only[hc]
 |(with_reducible refine ax hQ ?_;exact fL))
 |cons a rest=>
  obtain⟨hY,g2,hD,g4⟩:=drop_cons h1
  have hZ:k<4611686018427387904:=by omega
  obtain⟨a1,a2,a3⟩:=hs a (zad hY)
  have hn:=fun b s=>Fq a.name b a3 s
  have hw:=fun b s=>PC b a1 a2 s
  simp only[rj]at h
  repeat' (first
 |simp only[go_sem,hD,hY,hZ,gC]
 |(with_reducible refine CU (hn _ _) ?_)
 |(with_reducible refine CU (hw _ _) ?_)
 |(with_reducible first|refine cf fun hc=>?_|refine cj fun hc=>?_|refine cm (fun hc=>?_) fun hc=>?_)<;>(try simp only[hc,bs,↓reduceIte]at h)<;>try simp only[hc]
 |(with_reducible refine ax hQ ?_;exact fL))
  refine di 0 0 (IH (rest,k+1) ⟨g2,h⟩ (zae _))
def Sm.flags (s:Sm):Option (Bool×Bool×Bool×Bool×Bool×Bool):=
 if s.kind==1 then some (true,false,true,s.has,false,false)
 else if s.kind==2 ||s.kind==10 then some (true,false,false,s.has,false,false)
 else if s.kind==3 then some (false,false,true,s.has,false,false)
 else if s.kind==4 then some (!(s.name == []),true,false,s.has,false,false)
 else if s.kind==5 then some (false,false,true,s.has,true,true)
 else if s.kind==6 then some (false,false,true,s.has,true,false)
 else if s.kind==9 then some (false,false,s.has,false,false,false)
 else if s.kind==7 ||s.kind==8 then some (false,false,false,s.has,false,false)
 else none
def Sm.K8 (s:Sm) (nm pr x:Bool):Bool:=if !(vz s.name nm) || !(vz s.proc pr) || !(xf s.x x)then false else rj s.args
def Sm.K9 (s:Sm) (f:Bool×Bool×Bool×Bool×Bool×Bool):Bool:=
 if f.2.2.2.1 ||(!f.2.2.2.2.1 && decide ((s.a8.length:Int) > 0)) ||(!f.2.2.2.2.2 && decide ((s.aK.length:Int) > 0)) ||(!(s.kind==4) && decide ((s.args.length:Int) > 0))then false
 else s.K8 f.1 f.2.1 f.2.2.1
def Sm.fields (s:Sm):Bool:=match s.flags with
 |none=>false
 |some f=>s.K9 f
section
variable {v:Sm} {B:gY} {Q:Exit→Tm→St→Prop} {p:Bool}
theorem Yy {nm pr x:Bool} (hf:v.kO) (hB:B.s = ⟨[],[]⟩) (hQ:mN 0 0 [(2,none)] (.bool p) ⟨[],[]⟩=Q) (h:v.K8 nm pr x=p) :
 Sem Tryz.prog B 93 Q13 Q [(1, .ptr 0 0),(3, .bool nm),(4, .bool pr),(5, .bool x)] ⟨[aY v],[]⟩:=by
 have h1:=fun b s=>Fq v.name b hf.name s
 have h2:=fun b s=>Fq v.proc b hf.proc s
 have h3:=fun b s=>PC b hf.x hf.xt s
 have h4:=fun s=>Yx hf.afA hf.arg s
 unfold Sm.K8 at h
 have⟨hD,hY,hZ,gC⟩:=bb
 refine ji ?_
 repeat' (first
 |simp only[go_sem,hD,hY,hZ,gC]
 |(with_reducible refine CU (h1 _ _) ?_)
 |(with_reducible refine CU (h2 _ _) ?_)
 |(with_reducible refine CU (h3 _ _) ?_)
 |(with_reducible refine CU (h4 _) ?_)
 |(with_reducible first|refine cf fun hc=>?_|refine cj fun hc=>?_|refine cm (fun hc=>?_) fun hc=>?_)<;>(try simp only[hc,bs,↓reduceIte]at h)<;>try simp only[hc]
 |(with_reducible refine ax hQ ?_;exact fL))
theorem Yz {nm pr x has th ot ar:Bool} (hf:v.kO) (hB:B.s = ⟨[],[]⟩) (hQ:mN 0 0 [(2,none)] (.bool p) ⟨[],[]⟩=Q) (e:(v.kind==4)=ar) (h:v.K9 (nm,pr,x,has,th,ot)=p) :
 Sem Tryz.prog B 93 Q12 Q [(1, .ptr 0 0),(3, .bool nm),(4, .bool pr),(5, .bool x),(6, .bool has),(7, .bool th),(8, .bool ot),(9, .bool ar)] ⟨[aY v],[]⟩:=by
 simp only[Sm.K9,e]at h
 have⟨hD,hY,hZ,gC⟩:=bb
 refine Sem.kX ?_
 repeat' (first
 |simp only[go_sem,hD,hY,hZ,gC]
 |(with_reducible first|refine cf fun hc=>?_|refine cj fun hc=>?_|refine cm (fun hc=>?_) fun hc=>?_)<;>(try simp only[hc,bs,↓reduceIte]at h)<;>try simp only[hc]
 |(with_reducible refine ax hQ ?_;(try cases h);simp only[bF,bG,bZ,cb,go_sem,hD,hY,hZ,gC];repeat' (first|exact Ok.out|with_reducible refine ei ?_ ?_|(simp;done))))
 all_goals
  refine Sem.re _ _ 1 0 (by rw[hB];exact ql rfl) (by rw[hB];exact ql rfl) ?_ ?_ (Yy hf hB hQ h)
  ·(simp only[go_sem,hD,hY,hZ,gC];repeat' (first|exact Ok.out|with_reducible refine ei ?_ ?_))
  ·(simp only[go_sem,hD,hY,hZ,gC];repeat' (first|exact Ok.out|with_reducible refine ei ?_ ?_))
theorem YA {ar:Bool} (hf:v.kO) (hB:B.s = ⟨[],[]⟩) (hQ:mN 0 0 [(2,none)] (.bool p) ⟨[],[]⟩=Q) (e:(v.kind==4)=ar) (h:v.fields=p) :
 Sem Tryz.prog B 93 Q11 Q [(1, .ptr 0 0),(3, .bool false),(4, .bool false),(5, .bool false),(6, .bool v.has),(7, .bool false),(8, .bool false),(9, .bool ar)] ⟨[aY v],[]⟩:=by
 simp only[Sm.fields,Sm.flags]at h
 have⟨hD,hY,hZ,gC⟩:=bb
 refine Sem.kX ?_
 repeat' (first
 |simp only[go_sem,hD,hY,hZ,gC]
 |(with_reducible first|refine cf fun hc=>?_|refine cj fun hc=>?_|refine cm (fun hc=>?_) fun hc=>?_)<;>(try simp only[hc,bs,↓reduceIte]at h)<;>try simp only[hc]
 |(with_reducible refine ax hQ ?_;(try cases h);simp only[bF,bG,bZ,cb,go_sem,hD,hY,hZ,gC];repeat' (first|exact Ok.out|with_reducible refine ei ?_ ?_|(simp;done))))
 all_goals
  refine Sem.re _ _ 1 0 (by rw[hB];exact ql rfl) (by rw[hB];exact ql rfl) ?_ ?_ (Yz hf hB hQ e h)
  ·(simp only[go_sem,hD,hY,hZ,gC];repeat' (first|exact Ok.out|with_reducible refine ei ?_ ?_))
  ·(simp only[go_sem,hD,hY,hZ,gC];repeat' (first|exact Ok.out|with_reducible refine ei ?_ ?_))
end
theorem YB {v:Sm} (hf:v.kO) (s:St):az Tryz.prog 107 [.agg (aY v)] s (.bool v.fields) s:=by
 refine az.pure ?_ (by simp[D.bM,D.ok,qe]) rfl s
 unfold S0
 refine az.goS lE.h rfl fun B Q hB hQ=>?_
 have⟨hD,hY,hZ,gC⟩:=bb
 refine Sem.seq (b:=Q0Z) (ji ?_)
 repeat' (first
 |simp only[go_sem,hD,hY,hZ,gC]
 |(with_reducible refine ax hQ ?_;exact aB))
 refine Sem.seq (b:=Q10) (ji ?_)
 repeat' (first
 |simp only[go_sem,hD,hY,hZ,gC]
 |(with_reducible refine ax hQ ?_;exact aB))
 refine Sem.seq (b:=Q11) (ji ?_)
 repeat' (first
 |simp only[go_sem,hD,hY,hZ,gC]
 |(with_reducible refine ax hQ ?_;exact aB))
 refine Sem.re _ _ 1 0 (by rw[hB];exact ql rfl) (by rw[hB];exact ql rfl) ?_ ?_ (YA hf hB hQ rfl rfl)
 ·(simp only[go_sem,hD,hY,hZ,gC];repeat' (first|exact Ok.out|with_reducible refine ei ?_ ?_))
 ·(simp only[go_sem,hD,hY,hZ,gC];repeat' (first|exact Ok.out|with_reducible refine ei ?_ ?_))
end Go.Abs
namespace Go.Abs
set_option maxRecDepth 8000
open Go.Proofs
def dn (i:It):List D:= [.int .i64 i.s.id, .int .i64 i.s.kind, .slice .shared 1 (i.s.labels.map encStr), .str i.s.name, .str i.s.proc,
 .int .i64 i.s.x.op, .int .i64 i.s.x.n, .str i.s.x.name, .slice .shared 4 (i.s.x.kids.map bT), .bool i.s.has, .slice .shared 6 (i.s.args.map dE), .slice .shared 13 (i.s.a8.map aY), .slice .shared 13 (i.s.aK.map aY), .int .i64 i.deep, .int .i64 i.a7, .bool i.aK]
theorem MO (i:It):D.bM 0 0 (dn i)=true:=by simp[dn,D.bM,D.ok,Tag.ok,dz,aaG,K5,q7]
theorem sf (l:List It):D.iW 0 0 (l.map dn)=true:=iX MO l
theorem ajv (n m:Nat) (l:List It):D.lB n m (l.map dn)=l.map dn:=ng MO n m l
theorem ajw (n m:Nat) (i:It):D.iz n m (dn i)=dn i:=jk n m _ (MO i)
theorem ajx (x:It):(dn x).length=16:=nd rfl
theorem Vr (x:It):List.take 13 (dn x)=aY x.s:=by simp only[dn,eR];rfl
theorem YC (x:It):(dn x)[0]? = some (.int .i64 x.s.id):=nd rfl
theorem Vs (x:It):(dn x)[13]? = some (.int .i64 x.deep):=nd rfl
theorem IJ (s:Sm) (d n:Int) (e:Bool):dn ⟨s,d,n,e⟩ = [.int .i64 s.id, .int .i64 s.kind, .slice .shared 1 (s.labels.map encStr), .str s.name, .str s.proc,
 .int .i64 s.x.op, .int .i64 s.x.n, .str s.x.name, .slice .shared 4 (s.x.kids.map bT), .bool s.has, .slice .shared 6 (s.args.map dE), .slice .shared 13 (s.a8.map aY), .slice .shared 13 (s.aK.map aY), .int .i64 d, .int .i64 n, .bool e]:=nd rfl
attribute [go_sem] ajv ajw ajx Vr YC Vs
theorem MP (deep a7:Int) (aK:Bool) (out:List It) (s:Sm) :
 gN deep a7 aK out s=if decide (deep≤12)then dJ (deep+1) s.id true (dJ (deep+1) s.id false (out++ [⟨s,deep,a7,aK⟩]) s.a8) s.aK else out++ [⟨s,deep,a7,aK⟩]:=by
 cases s;simp only[gN]
mutual
theorem Vt (deep a7:Int) (aK:Bool) (out:List It) (h:out.length≤200) : ∀ s:Sm,(gN deep a7 aK out s).length≤201
 |⟨id,kind,labels,name,proc,x,has,args,a8,e⟩=>by
  simp only[gN]
  have h1:(out++ [(⟨⟨id,kind,labels,name,proc,x,has,args,a8,e⟩,deep,a7,aK⟩:It)]).length≤201:=by simp;omega
  split
  ·exact l9 _ _ _ _ (l9 _ _ _ _ h1 a8) e
  ·exact h1
theorem l9 (deep a7:Int) (aK:Bool) (out:List It) (h:out.length≤201) : ∀ l:List Sm,(dJ deep a7 aK out l).length≤201
 | []=>by simpa only[dJ]using h
 | s::l=>by
  simp only[dJ]
  split
  ·rename_i hc
   simp only[decide_eq_true_eq]at hc
   exact l9 deep a7 aK _ (Vt _ _ _ _ (by omega) s) l
  ·exact h
end
abbrev Vu (N:Nat):Prop:=∀ (l:List Sm) (deep a7:Int) (aK:Bool) (out:List It),Sm.bq l<N→0≤deep→deep≤13→out.length≤201→∀ {s:St} {t:Nat},s.ay[t]? = some (some out.length)→
 az Tryz.prog 120 [.slice .shared 13 (l.map aY), .int .i64 deep, .int .i64 a7, .bool aK, .slice (.tok t) 16 (out.map dn)] s (.slice (.tok t) 16 ((dJ deep a7 aK out l).map dn)) ⟨s.aq,s.ay.set t (some (dJ deep a7 aK out l).length)⟩
theorem afH {N:Nat} (hN:N<4611686018427387904) (ih:Vu N) {l:List Sm} {deep a7:Int} {aK:Bool} {out:List It} (hs:Sm.bq l<N+1) (JF:0≤deep) (hd:deep≤13) (ho:out.length≤201) :
 az Tryz.prog 120 [.slice .shared 13 (l.map aY), .int .i64 deep, .int .i64 a7, .bool aK, .slice (.tok 0) 16 (out.map dn)] ⟨[],[some out.length]⟩ (.slice (.tok 0) 16 ((dJ deep a7 aK out l).map dn)) ⟨[],[some (dJ deep a7 aK out l).length]⟩:=by
 generalize hR:dJ deep a7 aK out l=R
 refine az.go B0.h rfl fun B Q hB hQ=>?_
 have⟨hD,hY,hZ,gC⟩:=bb
 repeat' (first
 |simp only[go_sem,hD,hY,hZ,gC]
 |(with_reducible refine ax hQ ?_;exact aB))
 refine di 0 1 (aN.ind (ι:=List Sm×Nat×List It×Nat) (fun i=>l.drop i.2.1=i.1∧dJ deep a7 aK i.2.2.1 i.1=R∧i.2.2.1.length≤201∧i.2.2.2=i.2.2.1.length) (fun i=>i.1.length)
  (fun i=> [(0, .slice .shared 13 (l.map aY)),(1, .int .i64 deep),(2, .int .i64 a7),(3, .bool aK),(4, .slice (.tok 0) 16 (i.2.2.1.map dn)),(11, .int .i64 (i.2.1:Int))]) (fun i=>⟨[],[some i.2.2.2]⟩) ?_ (l,0,out,out.length) ⟨rfl,hR,ho,rfl⟩)
 rintro⟨rest,k,out,n⟩ ⟨h1,h2,h3,h4⟩ IH
 dsimp only at h1 h2 h3 h4
 subst h4
 have hlen:l.length<4611686018427387904:=by have:=Sm.dI l;omega
 cases rest with
 |nil=>
  have hD:=drop_nil h1
  simp only[dJ]at h2
  subst h2
  repeat' (first
 |simp only[go_sem,hD,hY,hZ,gC]
 |(with_reducible refine ax hQ ?_;exact aB))
 | cons v rest=>
  obtain⟨hY,g2,hD,g4⟩:=drop_cons h1
  have aZ:k<4611686018427387904:=by omega
  have hv:=Sm.cq (zad hY)
  have mX:Sm.bq v.a8<N∧Sm.bq v.aK<N:=by
   obtain⟨_,_,_,_,_,_,_,_,_,_⟩:=v
   simp only[Sm.size]at hv ⊢;omega
  simp only[dJ]at h2
  by_cases hc:out.length≤200
  ·have c1:decide ((out.length:Int)≤200)=true:=by simp;omega
   simp only[c1,↓reduceIte,MP]at h2
   have hZ:(out.length+1)*233≤aV:=by unfold aV;omega
   have jI:(out++ [(⟨v,deep,a7,aK⟩:It)]).length≤201:=by simp;omega
   have hw:IntKind.wrap .i64 (deep+1)=deep+1:=dv (by omega) (by omega)
   by_cases amB:deep≤12
   ·have c2:decide (deep≤12)=true:=by simp;omega
    simp only[c2,↓reduceIte]at h2
    have f1:=fun {s:St} {t:Nat} (ht:s.ay[t]? = some (some (out++ [(⟨v,deep,a7,aK⟩:It)]).length))=>ih v.a8 (deep+1) v.id false _ mX.1 (by omega) (by omega) jI ht
    have f2:=fun {s:St} {t:Nat} (ht:s.ay[t]? = some (some (dJ (deep+1) v.id false (out++ [(⟨v,deep,a7,aK⟩:It)]) v.a8).length))=>ih v.aK (deep+1) v.id true _ mX.2 (by omega) (by omega) (l9 _ _ _ _ jI _) ht
    simp only[zag,zaf,zai,IJ,zaj,zat,zaD]at f1
    repeat' (first
 |simp only[go_sem,hD,hY,hZ,gC,c1,c2,hw,eR]
 |(with_reducible refine CU (f1 (by with_unfolding_all rfl)) ?_)
 |(with_reducible refine CU (f2 (by with_unfolding_all rfl)) ?_)
 | (with_reducible refine ax hQ ?_;exact aB))
    refine cv 0 1 ?_ ?_ (IH (rest,k+1,_,_) ⟨g2,h2,l9 _ _ _ _ (l9 _ _ _ _ jI _) _,rfl⟩ (zae _))
    ·(simp only[go_sem,hD,hY,hZ,gC,aw aZ];try exact aU)
    ·(simp only[go_sem,hD,hY,hZ,gC,aw aZ];try exact aU)
   ·have c2:decide (deep≤12)=false:=by simp;omega
    simp only[c2,zab,↓reduceIte]at h2
    repeat' (first
 |simp only[go_sem,hD,hY,hZ,gC,c1,c2,eR]
 | (with_reducible refine ax hQ ?_;exact aB))
    refine cv 0 1 ?_ ?_ (IH (rest,k+1,out++ [⟨v,deep,a7,aK⟩],out.length+1) ⟨g2,h2,jI,by simp⟩ (zae _))
    ·(simp only[go_sem,hD,hY,hZ,gC,aw aZ,IJ,zag,zaf,zai];try exact aU)
    ·(simp only[go_sem,hD,hY,hZ,gC,aw aZ,IJ,zag,zaf,zai];try exact aU)
  ·have c1:decide ((out.length:Int)≤200)=false:=by simp;omega
   simp only[c1,zab,↓reduceIte]at h2
   subst h2
   repeat' (first
 |simp only[go_sem,hD,hY,hZ,gC,c1]
 |(with_reducible refine ax hQ ?_;exact aB))
theorem YD : ∀ N,N<4611686018427387904→Vu N:=by
 intro N
 induction N with
 |zero=>exact fun _ l deep a7 aK out h=>absurd h (za9 _)
 |succ N ih=>
  intro h l deep a7 aK out hs JF hd ho s t ht
  exact(afH (by omega) (ih (by omega)) hs JF hd ho).Rn (pre:= [_,_,_,_]) (post:= []) (by simp[D.bM,D.ok,Tag.ok,q7]) rfl (sf out) (sf _) ht
theorem YE {l:List Sm} (hs:Sm.bq l<4611686018427387000) (s:St) :
 az Tryz.prog 120 [.slice .shared 13 (l.map aY), .int .i64 1, .int .i64 0, .bool false, .slice .full 0 []] s (.slice .shared 16 ((dJ 1 0 false [] l).map dn)) s:=by
 refine az.pure ?_ (by simp[D.bM,D.ok,Tag.ok,q7,D.iW]) (by simp[D.ok,Tag.ok,sf]) s
 obtain⟨N,hN⟩ : ∃ N,N=Sm.bq l:=⟨_,rfl⟩
 have ih:=YD N (by omega)
 replace hs:Sm.bq l<N+1∧N<4611686018427387000:=by omega
 obtain⟨hs,hN⟩:=hs
 generalize hR:dJ 1 0 false [] l=R
 obtain⟨deep,SO⟩ : ∃ d:Int,d=1:=⟨_,rfl⟩
 obtain⟨a7,Fs⟩ : ∃ d:Int,d=0:=⟨_,rfl⟩
 obtain⟨aK,YF⟩ : ∃ d:Bool,d=false:=⟨_,rfl⟩
 rw[← SO, ← Fs, ← YF]at hR
 rw[← SO, ← Fs, ← YF]
 have JF:0≤deep:=by omega
 have hd:deep≤13:=by omega
 clear SO Fs YF
 have ho:([] : List It).length≤201:=zaz _
 unfold S0
 refine az.go B0.h rfl fun B Q hB hQ=>?_
 have⟨hD,hY,hZ,gC⟩:=bb
 repeat' (first
 |simp only[go_sem,hD,hY,hZ,gC]
 |(with_reducible refine ax hQ ?_;exact aB))
 refine aN.ln 4 16 rfl ?_
 simp only[go_sem,hD,hY,hZ,gC]
 refine di 0 1 (aN.ind (ι:=List Sm×Nat×List It×Nat) (fun i=>l.drop i.2.1=i.1∧dJ deep a7 aK i.2.2.1 i.1=R∧i.2.2.1.length≤201∧i.2.2.2=i.2.2.1.length) (fun i=>i.1.length)
  (fun i=> [(0, .slice .shared 13 (l.map aY)),(1, .int .i64 deep),(2, .int .i64 a7),(3, .bool aK),(4, .slice (.tok 0) 16 (i.2.2.1.map dn)),(11, .int .i64 (i.2.1:Int))]) (fun i=>⟨[],[some i.2.2.2]⟩) ?_ (l,0,[],0) ⟨rfl,hR,ho,rfl⟩)
 rintro⟨rest,k,out,n⟩ ⟨h1,h2,h3,h4⟩ IH
 dsimp only at h1 h2 h3 h4
 subst h4
 have hlen:l.length<4611686018427387904:=by have:=Sm.dI l;omega
 cases rest with
 |nil=>
  have hD:=drop_nil h1
  simp only[dJ]at h2
  subst h2
  repeat' (first
 |simp only[go_sem,hD,hY,hZ,gC]
 |(with_reducible refine ax hQ ?_;exact aB))
 | cons v rest=>
  obtain⟨hY,g2,hD,g4⟩:=drop_cons h1
  have aZ:k<4611686018427387904:=by omega
  have hv:=Sm.cq (zad hY)
  have mX:Sm.bq v.a8<N∧Sm.bq v.aK<N:=by
   obtain⟨_,_,_,_,_,_,_,_,_,_⟩:=v
   simp only[Sm.size]at hv ⊢;omega
  simp only[dJ]at h2
  by_cases hc:out.length≤200
  ·have c1:decide ((out.length:Int)≤200)=true:=by simp;omega
   simp only[c1,↓reduceIte,MP]at h2
   have hZ:(out.length+1)*233≤aV:=by unfold aV;omega
   have jI:(out++ [(⟨v,deep,a7,aK⟩:It)]).length≤201:=by simp;omega
   have hw:IntKind.wrap .i64 (deep+1)=deep+1:=dv (by omega) (by omega)
   by_cases amB:deep≤12
   ·have c2:decide (deep≤12)=true:=by simp;omega
    simp only[c2,↓reduceIte]at h2
    have f1:=fun {s:St} {t:Nat} (ht:s.ay[t]? = some (some (out++ [(⟨v,deep,a7,aK⟩:It)]).length))=>ih v.a8 (deep+1) v.id false _ mX.1 (by omega) (by omega) jI ht
    have f2:=fun {s:St} {t:Nat} (ht:s.ay[t]? = some (some (dJ (deep+1) v.id false (out++ [(⟨v,deep,a7,aK⟩:It)]) v.a8).length))=>ih v.aK (deep+1) v.id true _ mX.2 (by omega) (by omega) (l9 _ _ _ _ jI _) ht
    simp only[zag,zaf,zai,IJ,zaj,zat,zaD]at f1
    repeat' (first
 |simp only[go_sem,hD,hY,hZ,gC,c1,c2,hw,eR]
 |(with_reducible refine CU (f1 (by with_unfolding_all rfl)) ?_)
 |(with_reducible refine CU (f2 (by with_unfolding_all rfl)) ?_)
 | (with_reducible refine ax hQ ?_;exact aB))
    refine cv 0 1 ?_ ?_ (IH (rest,k+1,_,_) ⟨g2,h2,l9 _ _ _ _ (l9 _ _ _ _ jI _) _,rfl⟩ (zae _))
    ·(simp only[go_sem,hD,hY,hZ,gC,aw aZ];try exact aU)
    ·(simp only[go_sem,hD,hY,hZ,gC,aw aZ];try exact aU)
   ·have c2:decide (deep≤12)=false:=by simp;omega
    simp only[c2,zab,↓reduceIte]at h2
    repeat' (first
 |simp only[go_sem,hD,hY,hZ,gC,c1,c2,eR]
 | (with_reducible refine ax hQ ?_;exact aB))
    refine cv 0 1 ?_ ?_ (IH (rest,k+1,out++ [⟨v,deep,a7,aK⟩],out.length+1) ⟨g2,h2,jI,by simp⟩ (zae _))
    ·(simp only[go_sem,hD,hY,hZ,gC,aw aZ,IJ,zag,zaf,zai];try exact aU)
    ·(simp only[go_sem,hD,hY,hZ,gC,aw aZ,IJ,zag,zaf,zai];try exact aU)
  ·have c1:decide ((out.length:Int)≤200)=false:=by simp;omega
   simp only[c1,zab,↓reduceIte]at h2
   subst h2
   repeat' (first
 |simp only[go_sem,hD,hY,hZ,gC,c1]
 |(with_reducible refine ax hQ ?_;exact aB))
theorem xg {f:Pc} (hs:Sm.bq f.body<4611686018427387000) (s:St):az Tryz.prog 85 [.agg (bN f)] s (.slice .shared 16 (f.flat.map dn)) s:=by
 refine az.pure ?_ (by simp only[D.bM,D.ok,sw];rfl) (by simp[D.ok,Tag.ok,sf]) s
 have h:=fun s=>YE hs s
 unfold S0
 refine az.go KA.h rfl fun B Q hB hQ=>?_
 have⟨hD,hY,hZ,gC⟩:=bb
 repeat' (first
 |simp only[go_sem,hD,hY,hZ,gC,Pc.flat]
 |(with_reducible refine CU (h _) ?_)
 |(with_reducible first|refine cf fun hc=>?_|refine cj fun hc=>?_|refine cm (fun hc=>?_) fun hc=>?_)<;>(try simp only[hc,bs,↓reduceIte]at h)<;>try simp only[hc]
 |(with_reducible refine ax hQ ?_;simp only[bF,bG,bZ,cb,go_sem,hD,hY,hZ,gC,Pc.flat];try exact eQ))
end Go.Abs
namespace Go.Abs
set_option maxRecDepth 8000
open Go.Proofs
theorem Pc.sy (f:Pc):f.flat.length≤201:=l9 _ _ _ _ (zaz _) _
theorem SP {p:Pg} (hs:Pc.bq p.procs<4611686018427387000) (s:St):az Tryz.prog 62 [.agg (bS p)] s (.slice .shared 16 (p.all.map dn)) s:=by
 refine az.pure ?_ (by simp only[D.bM,D.ok,gR];rfl) (by simp[D.ok,Tag.ok,sf]) s
 have hlen:p.procs.length<4611686018427387904:=by have:=Pc.dI p.procs;omega
 generalize hR:p.all=R
 unfold Pg.all at hR
 unfold S0
 refine az.go Mu.h rfl fun B Q hB hQ=>?_
 have⟨hD,hY,hZ,gC⟩:=bb
 repeat' (first
 |simp only[go_sem,hD,hY,hZ,gC]
 |(with_reducible refine ax hQ ?_;exact aB))
 refine aN.ln 3 16 rfl ?_
 simp only[go_sem,hD,hY,hZ,gC]
 refine di 1 1 (aN.ind (ι:=List Pc×Nat×List It×Nat) (fun i=>p.procs.drop i.2.1=i.1∧allM i.2.2.1 i.1=R∧i.2.2.1.length≤200∧i.2.2.2=i.2.2.1.length) (fun i=>i.1.length)
  (fun i=> [(1, .ptr 0 0),(3, .slice (.tok 0) 16 (i.2.2.1.map dn)),(7, .slice .shared 5 (p.procs.map bN)),(8, .int .i64 (p.procs.length:Int)),(9, .int .i64 (i.2.1:Int))]) (fun i=>⟨[bS p],[some i.2.2.2]⟩) ?_ (p.procs,0,[],0) ⟨rfl,hR,zaz _,rfl⟩)
 rintro⟨rest,k,out,n⟩ ⟨h1,h,h3,h4⟩ IH
 dsimp only at h1 h h3 h4
 subst h4
 cases rest with
 |nil=>
  have hD:=drop_nil h1
  simp only[allM]at h
  subst h
  repeat' (first
 |simp only[go_sem,hD,hY,hZ,gC]
 |(with_reducible refine ax hQ ?_;exact aB))
 |cons f rest=>
  obtain⟨hY,g2,hD,g4⟩:=drop_cons h1
  have aZ:k<4611686018427387904:=by omega
  have hf:=Pc.cq (zad hY)
  have hb:Sm.bq f.body<4611686018427387000:=by simp only[Pc.size]at hf;omega
  have fx:=fun s=>xg hb s
  have aqW:=f.sy
  have hZ:(out.length+f.flat.length)*233≤aV:=by unfold aV;omega
  simp only[allM,zaj]at h
  have dd:=fun(o:List (List D))=>kB (size:=16) (bytes:=232) (t:=0) (rows:=out.map dn) (new:=f.flat.map dn) (g:= .shared) (s:=⟨o,[some out.length]⟩) (by simpa using hZ) (by simp)
  repeat' (first
 |simp only[go_sem,hD,hY,hZ,gC,dd]
 |(with_reducible refine CU (fx _) ?_)
 |(with_reducible first|refine cf fun hc=>?_|refine cj fun hc=>?_|refine cm (fun hc=>?_) fun hc=>?_)<;>(try simp only[hc,bs,↓reduceIte]at h)<;>try simp only[hc]
 |(with_reducible refine ax hQ ?_;(try cases h);simp only[bF,bG,bZ,cb,go_sem,hD,hY,hZ,gC,dd];try exact eQ))
  refine cv 1 1 ?_ ?_ (IH (rest,k+1,out++f.flat,out.length+f.flat.length) ⟨g2,h,by rename_i hc;simp only[decide_eq_false_iff_not]at hc;simp only[zaj];omega,by simp⟩ (zae _))
  ·(simp only[go_sem,hD,hY,hZ,gC,aw aZ];try exact aU)
  ·(simp only[go_sem,hD,hY,hZ,gC,aw aZ];try exact aU)
structure Pg.kO (p:Pg):Prop where
 sz:p.size<4611686018427387000
 rJ : ∀ t∈p.globals,t.length<4611686018427387904
 lF : ∀ f∈p.procs,f.name.length<4611686018427387904∧(∀ t∈f.vars,t.length<4611686018427387904)∧(∀ t∈f.fin,t.length<4611686018427387904)∧∀ a∈f.params,a.name.length<4611686018427387904
 items : ∀ i∈p.all,i.s.kO
theorem MQ : ∀ (l:List Pc) (out:List It),out.length≤200→(allM out l).length≤401
 | [],out,h=>by simp only[allM];omega
 | f::l,out,h=>by
  have:=f.sy
  simp only[allM]
  split
  ·simp;omega
  ·rename_i hc
   exact MQ l _ (by simp only[decide_eq_true_eq]at hc;omega)
theorem ajy {p:Pg} (hf:p.kO) (s:St):az Tryz.prog 147 [.agg (bS p)] s (.bool p.may) s:=by
 refine az.pure ?_ (by simp only[D.bM,D.ok,gR];rfl) rfl s
 obtain⟨dT,lG,MR,afI⟩:=hf
 have nF:Pc.bq p.procs<4611686018427387000:=by simp only[Pg.size]at dT;omega
 have SQ:p.globals.length<4611686018427387904:=by simp only[Pg.size]at dT;omega
 have ajz:p.procs.length<4611686018427387904:=by have:=Pc.dI p.procs;omega
 have hg:=fun s=>A4 SQ lG s
 have qk:=fun s=>SP nF s
 have rr:p.all.length≤401:=MQ _ _ (zaz _)
 unfold S0
 generalize h:p.may=R
 unfold Pg.may at h
 refine az.go Mx.h rfl fun B Q hB hQ=>?_
 have⟨hD,hY,hZ,gC⟩:=bb
 repeat' (first
 |simp only[go_sem,hD,hY,hZ,gC]
 |(with_reducible refine CU (hg _) ?_)
 |(with_reducible first|refine cf fun hc=>?_|refine cj fun hc=>?_|refine cm (fun hc=>?_) fun hc=>?_)<;>(try simp only[hc,bs,↓reduceIte]at h)<;>try simp only[hc]
 |(with_reducible refine ax hQ ?_;exact fL))
 refine di 1 0 (aN.ind (ι:=List Pc×Nat) (fun i=>p.procs.drop i.2=i.1∧(if !(Pc.lF i.1)then false else if decide ((p.all.length:Int) > 200)then false else It.eU 0 p.all)=R) (fun i=>i.1.length)
  (fun i=> [(1, .ptr 0 0),(26, .slice .shared 5 (p.procs.map bN)),(27, .int .i64 (p.procs.length:Int)),(28, .int .i64 (i.2:Int))]) (fun i=>⟨[bS p],[]⟩) ?_ (p.procs,0) ⟨rfl,h⟩)
 rintro⟨rest,k⟩ ⟨h1,h⟩ IH
 dsimp only at h1 h
 cases rest with
 |nil=>
  have hD:=drop_nil h1
  simp only[Pc.lF,zau,zab,↓reduceIte]at h
  repeat' (first
 |simp only[go_sem,hD,hY,hZ,gC]
 |(with_reducible refine CU (qk _) ?_)
 |(with_reducible first|refine cf fun hc=>?_|refine cj fun hc=>?_|refine cm (fun hc=>?_) fun hc=>?_)<;>(try simp only[hc,bs,↓reduceIte]at h)<;>try simp only[hc]
 |(with_reducible refine ax hQ ?_;exact fL)
 | (cases h;done))
  clear IH
  refine di 1 0 (aN.ind (ι:=List It×Nat) (fun i=>p.all.drop i.2=i.1∧It.eU i.2 i.1=R) (fun i=>i.1.length)
   (fun i=> [(1, .ptr 0 0),(7, .slice .shared 16 (p.all.map dn)),(79, .int .i64 (p.all.length:Int)),(80, .int .i64 (i.2:Int))]) (fun i=>⟨[bS p],[]⟩) ?_ (p.all,0) ⟨rfl,h⟩)
  rintro⟨rest,k⟩ ⟨h1,h⟩ IH
  dsimp only at h1 h
  cases rest with
  |nil=>
   have hD:=drop_nil h1
   simp only[It.eU]at h
   repeat' (first
 |simp only[go_sem,hD,hY,hZ,gC]
 |(with_reducible first|refine cf fun hc=>?_|refine cj fun hc=>?_|refine cm (fun hc=>?_) fun hc=>?_)<;>(try simp only[hc,bs,↓reduceIte]at h)<;>try simp only[hc]
 |(with_reducible refine ax hQ ?_;exact fL)
 | (cases h;done))
  |cons i rest=>
   obtain⟨hY,g2,hD,g4⟩:=drop_cons h1
   have hi:=fun s=>ajp (afI i (zad hY)) s
   have hZ:k<4611686018427387904:=by omega
   simp only[It.eU]at h
   repeat' (first
 |simp only[go_sem,hD,hY,hZ,gC,aw hZ]
 |(with_reducible refine CU (hi _) ?_)
 |(with_reducible first|refine cf fun hc=>?_|refine cj fun hc=>?_|refine cm (fun hc=>?_) fun hc=>?_)<;>(try simp only[hc,bs,↓reduceIte]at h)<;>try simp only[hc]
 |(with_reducible refine ax hQ ?_;(try cases h);simp only[bF,bG,bZ,cb,go_sem,hD,hY,hZ,gC,aw hZ];try exact eQ)
 | (cases h;done))
   refine cv 1 0 ?_ ?_ (IH (rest,k+1) ⟨g2,h⟩ (zae _))
   ·(simp only[go_sem,hD,hY,hZ,gC,aw hZ];try exact aU)
   ·(simp only[go_sem,hD,hY,hZ,gC,aw hZ];try exact aU)
 |cons f rest=>
  obtain⟨hY,g2,hD,g4⟩:=drop_cons h1
  have aZ:k<4611686018427387904:=by omega
  have oP:=Pc.cq (zad hY)
  simp only[Pc.size]at oP
  obtain⟨wi,Vv,hff,hfp⟩:=MR f (zad hY)
  have hn:=uy f.name wi
  have hv:=fun s=>A4 (by omega) Vv s
  have he:=fun s=>A4 (by omega) hff s
  simp only[Pc.lF]at h
  repeat' (first
 |simp only[go_sem,hD,hY,hZ,gC]
 |(with_reducible refine CU (hn _) ?_)
 |(with_reducible refine CU (hv _) ?_)
 |(with_reducible refine CU (he _) ?_)
 |(with_reducible first|refine cf fun hc=>?_|refine cj fun hc=>?_|refine cm (fun hc=>?_) fun hc=>?_)<;>(try simp only[hc,bs,↓reduceIte]at h)<;>try simp only[hc]
 |(with_reducible refine ax hQ ?_;exact fL)
 | (cases h;done))
  refine di 1 0 (aN.ind (ι:=List Pm×Nat) (fun i=>f.params.drop i.2=i.1∧(if !(if !(Pm.eU i.1)then false else Pc.lF rest)then false else if decide ((p.all.length:Int) > 200)then false else It.eU 0 p.all)=R) (fun i=>i.1.length)
   (fun i=> [(1, .ptr 0 0),(26, .slice .shared 5 (p.procs.map bN)),(27, .int .i64 (p.procs.length:Int)),(28, .int .i64 (k:Int)),(61, .slice .shared 2 (f.params.map fz)),(62, .int .i64 (f.params.length:Int)),(63, .int .i64 (i.2:Int))]) (fun i=>⟨[bS p],[]⟩) ?_ (f.params,0) ⟨rfl,h⟩)
  rintro⟨A8,j⟩ ⟨j1,h⟩ qM
  dsimp only at j1 h
  cases A8 with
  |nil=>
   have hD:=drop_nil j1
   simp only[Pm.eU,zau,zab,↓reduceIte]at h
   repeat' (first
 |simp only[go_sem,hD,hY,hZ,gC]
 |(with_reducible first|refine cf fun hc=>?_|refine cj fun hc=>?_|refine cm (fun hc=>?_) fun hc=>?_)<;>(try simp only[hc,bs,↓reduceIte]at h)<;>try simp only[hc]
 |(with_reducible refine ax hQ ?_;exact fL)
 | (cases h;done))
   refine cv 1 0 ?_ ?_ (IH (rest,k+1) ⟨g2,h⟩ (zae _))
   ·(simp only[go_sem,hD,hY,hZ,gC,aw aZ];try exact aU)
   ·(simp only[go_sem,hD,hY,hZ,gC,aw aZ];try exact aU)
  |cons a A8=>
   obtain⟨hY,b2,hD,b4⟩:=drop_cons j1
   have JG:j<4611686018427387904:=by omega
   have ha:=uy a.name (hfp a (zad hY))
   simp only[Pm.eU]at h
   repeat' (first
 |simp only[go_sem,hD,hY,hZ,gC]
 |(with_reducible refine CU (ha _) ?_)
 |(with_reducible first|refine cf fun hc=>?_|refine cj fun hc=>?_|refine cm (fun hc=>?_) fun hc=>?_)<;>(try simp only[hc,bs,↓reduceIte]at h)<;>try simp only[hc]
 |(with_reducible refine ax hQ ?_;exact fL)
 | (cases h;done))
   refine cv 1 0 ?_ ?_ (qM (A8,j+1) ⟨b2,h⟩ (zae _))
   ·(simp only[go_sem,hD,hY,hZ,gC,aw JG];try exact aU)
   ·(simp only[go_sem,hD,hY,hZ,gC,aw JG];try exact aU)
def gate (nest:Int) (len n:Nat) (r:Bool×Nat):Bool×Nat:=if decide (nest > 12) && decide ((len:Int) > 0)then(false,n)else r
mutual
def Sm.rK (nest:Int) (n:Nat):Sm→Bool×Nat
 |⟨id,kind,labels,name,proc,x,has,args,a8,aK⟩=>
  if decide (((n+1:Nat):Int) > 200) ||id != ((n+1:Nat):Int) || !(ez labels) || !(Sm.fields ⟨id,kind,labels,name,proc,x,has,args,a8,aK⟩)then(false,n+1)
  else if !(gate (nest+1) a8.length (n+1) (Sm.fI (nest+1) (n+1) a8)).1 then(false,(gate (nest+1) a8.length (n+1) (Sm.fI (nest+1) (n+1) a8)).2)
  else gate (nest+1) aK.length (gate (nest+1) a8.length (n+1) (Sm.fI (nest+1) (n+1) a8)).2 (Sm.fI (nest+1) (gate (nest+1) a8.length (n+1) (Sm.fI (nest+1) (n+1) a8)).2 aK)
def Sm.fI (nest:Int) (n:Nat):List Sm→Bool×Nat
 | []=>(true,n)
 |s::l=>if !(Sm.rK nest n s).1 then(false,(Sm.rK nest n s).2)else Sm.fI nest (Sm.rK nest n s).2 l
end
def Sm.iC (nest:Int) (n:Nat) (l:List Sm):Bool×Nat:=gate nest l.length n (Sm.fI nest n l)
theorem IK (nest:Int) (n:Nat) (s:Sm):Sm.rK nest n s =
 if decide (((n+1:Nat):Int) > 200) ||s.id != ((n+1:Nat):Int) || !(ez s.labels) || !(s.fields)then(false,n+1)
 else if !(Sm.iC (nest+1) (n+1) s.a8).1 then(false,(Sm.iC (nest+1) (n+1) s.a8).2)
 else Sm.iC (nest+1) (Sm.iC (nest+1) (n+1) s.a8).2 s.aK:=by
 cases s;simp only[Sm.rK,Sm.iC];rfl
mutual
def Sm.uZ:Sm→Prop
 |⟨id,kind,labels,name,proc,x,has,args,a8,aK⟩=>Sm.kO ⟨id,kind,labels,name,proc,x,has,args,a8,aK⟩∧Sm.kh a8∧Sm.kh aK
def Sm.kh:List Sm→Prop
 | []=>True
 |s::l=>s.uZ∧Sm.kh l
end
theorem Ft (s:Sm):s.uZ↔s.kO∧Sm.kh s.a8∧Sm.kh s.aK:=by cases s;simp only[Sm.uZ]
theorem GZ {s:Sm} : ∀ {l:List Sm},Sm.kh l→s∈l→s.uZ
 |y::l,h,m=>by
  simp only[Sm.kh]at h
  rcases zap.1 m with rfl|m
  ·exact h.1
  ·exact GZ h.2 m
mutual
theorem acN (nest:Int) (n:Nat) : ∀ s:Sm,n≤201→(Sm.rK nest n s).2≤202∧((Sm.rK nest n s).1=true→(Sm.rK nest n s).2≤200)
 | ⟨id,kind,labels,name,proc,x,has,args,a8,aK⟩,hn=>by
  simp only[Sm.rK]
  split
  ·exact⟨by dsimp only;omega,fun h=>by cases h⟩
  rename_i hc
  simp only[zaC,decide_eq_true_eq,not_or]at hc
  have B2:n+1≤200:=by omega
  have g1 : ∀ (nest:Int) (l:List Sm) (m:Nat),m≤200→(Sm.fI nest m l).2≤202∧((Sm.fI nest m l).1=true→(Sm.fI nest m l).2≤200)→
   (gate nest l.length m (Sm.fI nest m l)).2≤202∧((gate nest l.length m (Sm.fI nest m l)).1=true→(gate nest l.length m (Sm.fI nest m l)).2≤200):=by
   intro nest l m hm h
   unfold gate
   split
   ·exact⟨by dsimp only;omega,fun h=>by cases h⟩
   ·exact h
  have h1:=g1 (nest+1) a8 (n+1) B2 (DV (nest+1) (n+1) a8 B2)
  split
  ·exact⟨h1.1,fun h=>by cases h⟩
  rename_i Lz
  have h2:=h1.2 (by simpa using Lz)
  exact g1 (nest+1) aK _ h2 (DV (nest+1) _ aK h2)
theorem DV (nest:Int) (n:Nat) : ∀ l:List Sm,n≤200→(Sm.fI nest n l).2≤202∧((Sm.fI nest n l).1=true→(Sm.fI nest n l).2≤200)
 | [],hn=>by simp only[Sm.fI];exact⟨by omega,fun _=>hn⟩
 |s::l,hn=>by
  simp only[Sm.fI]
  have h1:=acN nest n s (by omega)
  split
  ·exact⟨h1.1,fun h=>by cases h⟩
  rename_i hc
  exact DV nest _ l (h1.2 (by simpa using hc))
end
theorem IL {nest:Int} {n:Nat} {l:List Sm} (hn:n≤200):(Sm.iC nest n l).2≤202∧((Sm.iC nest n l).1=true→(Sm.iC nest n l).2≤200):=by
 unfold Sm.iC gate
 split
 ·exact⟨by dsimp only;omega,fun h=>by cases h⟩
 ·exact DV nest n l hn
theorem acO : ∀ (m:Nat) (l:List Sm),Sm.bq l≤m→Sm.bq l<4611686018427387000→Sm.kh l→∀ (nest:Int) (n:Nat),0≤nest→nest≤13→n≤200→
 az Tryz.prog 66 [.ptr 0 0, .slice .shared 13 (l.map aY), .int .i64 nest] ⟨[[.int .i64 n]],[]⟩ (.bool (Sm.iC nest n l).1) ⟨[[.int .i64 (Sm.iC nest n l).2]],[]⟩:=by
 intro m
 induction m with
 | zero=>
  intro l h hs hf nest n h0 h13 hn
  cases l with
  |nil=>
   have d1:decide ((0:Int) > 0)=false:=rfl
   have e:Sm.iC nest n [] = (true,n):=by simp[Sm.iC,gate,Sm.fI]
   have z:decide ((0:Int)<0)=false:=rfl
   rw[e]
   refine az.go tw.h rfl fun B Q hB hQ=>?_
   have⟨hD,hY,hZ,gC⟩:=bb
   repeat' (first
 |simp only[go_sem,hD,hY,hZ,gC,d1,z]
 |(with_reducible refine aN.fJ ?_)
 |(with_reducible first|refine cf fun hc=>?_|refine cj fun hc=>?_|refine cm (fun hc=>?_) fun hc=>?_)<;>(try simp only[hc,bs,↓reduceIte]at h)<;>try simp only[hc]
 |(with_reducible refine ax hQ ?_;exact aB))
  |cons s l=>simp only[Sm.bq]at h;omega
 |succ m ih=>
  intro l h hs hf nest n h0 h13 hn
  generalize hR:Sm.iC nest n l=R
  have hlen:=Sm.dI l
  unfold Sm.iC gate at hR
  have h:=hR
  refine az.go tw.h rfl fun B Q hB hQ=>?_
  have⟨hD,hY,hZ,gC⟩:=bb
  repeat' (first
 |simp only[go_sem,hD,hY,hZ,gC]
 |(with_reducible first|refine cf fun hc=>?_|refine cj fun hc=>?_|refine cm (fun hc=>?_) fun hc=>?_)<;>(try simp only[hc,bs,↓reduceIte]at h)<;>try simp only[hc]
 | (with_reducible refine ax hQ ?_;(try cases h);simp only [bF,bG,bZ,cb,go_sem,hD,hY,hZ,gC];repeat' (first | exact Ok.out | with_reducible refine ei ?_ ?_ | (simp;done))))
  all_goals
   have ajA:l≠ []→nest≤12:=by
    intro eO
    have:l.length≠0:=by simpa using eO
    simp_all<;>omega
   refine di 1 0 (aN.ind (ι:=List Sm×Nat×Nat) (fun i=>l.drop i.2.1=i.1∧Sm.fI nest i.2.2 i.1=R∧i.2.2≤200) (fun i=>i.1.length)
    (fun i=> [(0, .ptr 0 0),(2, .int .i64 nest),(16, .slice .shared 13 (l.map aY)),(17, .int .i64 (l.length:Int)),(18, .int .i64 (i.2.1:Int))]) (fun i=>⟨[[.int .i64 (i.2.2:Int)]],[]⟩) ?_ (l,0,n) ⟨rfl,h,hn⟩)
   rintro⟨rest,k,j⟩ ⟨h1,h,hj⟩ IH
   dsimp only at h1 h hj
   cases rest with
   |nil=>
    have hD:=drop_nil h1
    simp only[Sm.fI]at h
    repeat' (first
 |simp only[go_sem,hD,hY,hZ,gC]
 |(with_reducible first|refine cf fun hc=>?_|refine cj fun hc=>?_|refine cm (fun hc=>?_) fun hc=>?_)<;>(try simp only[hc,bs,↓reduceIte]at h)<;>try simp only[hc]
 | (with_reducible refine ax hQ ?_;exact fL))
   | cons s rest=>
    obtain⟨hY,g2,hD,g4⟩:=drop_cons h1
    have hZ:k<4611686018427387904:=by omega
    have ij:=zad hY
    have dT:=Sm.cq ij
    have aqX:=ajA (by rintro rfl;simp at ij)
    obtain⟨rn,C1,hfe⟩:=(Ft s).1 (GZ hf ij)
    have W3:Sm.bq s.a8<s.size∧Sm.bq s.aK<s.size:=by cases s;simp only[Sm.size];omega
    have w1:IntKind.wrap .i64 ((j:Int)+1)=((j+1:Nat):Int):=by rw[dv]<;>omega
    have w2:IntKind.wrap .i64 (nest+1)=nest+1:=dv (by omega) (by omega)
    have c1:=fun s=>A6 rn.afz rn.Vg s
    have c2:=fun s=>YB rn s
    simp only[Sm.fI,IK]at h
    by_cases JG:j+1≤200
    ·have r1:=IL (nest:=nest+1) (l:=s.a8) JG
     have c3:=fun s' ho=>(ih s.a8 (by omega) (by omega) C1 (nest+1) (j+1) (by omega) (by omega) JG).W9 (s:=s') (o:=0) (by simp[D.bM,D.ok,q7,Tag.ok]) rfl rfl rfl ho
     by_cases tt:(Sm.iC (nest+1) (j+1) s.a8).1=true
     ·have c4:=fun s' ho=>(ih s.aK (by omega) (by omega) hfe (nest+1) _ (by omega) (by omega) (r1.2 tt)).W9 (s:=s') (o:=0) (by simp [D.bM,D.ok,q7,Tag.ok]) rfl rfl rfl ho
      have r2:=IL (nest:=nest+1) (l:=s.aK) (r1.2 tt)
      simp only[tt]at c3
      simp only[tt,zau,zab,↓reduceIte]at h
      repeat' (first
 |simp only[go_sem,hD,hY,hZ,gC,w1,w2,tt]
 |(with_reducible refine CU (c1 _) ?_)
 |(with_reducible refine CU (c2 _) ?_)
 |(with_reducible refine CU (c3 _ rfl) ?_)
 |(with_reducible refine CU (c4 _ rfl) ?_)
 |(with_reducible first|refine cf fun hc=>?_|refine cj fun hc=>?_|refine cm (fun hc=>?_) fun hc=>?_)<;>(try simp only[hc,bs,↓reduceIte]at h)<;>try simp only[hc]
 |(with_reducible refine ax hQ ?_;(try cases h);simp only[bF,bG,bZ,cb,go_sem,hD,hY,hZ,gC,w1,w2,tt];try exact eQ))
      refine di 1 0 (IH (rest,k+1,(Sm.iC (nest+1) (Sm.iC (nest+1) (j+1) s.a8).2 s.aK).2) ⟨g2,h,r2.2 (by assumption)⟩ (zae _))
     ·have tt:(Sm.iC (nest+1) (j+1) s.a8).1=false:=by simpa using tt
      simp only[tt]at c3
      simp only[tt,zax,↓reduceIte]at h
      repeat' (first
 |simp only[go_sem,hD,hY,hZ,gC,w1,w2,tt]
 |(with_reducible refine CU (c1 _) ?_)
 |(with_reducible refine CU (c2 _) ?_)
 |(with_reducible refine CU (c3 _ rfl) ?_)
 |(with_reducible first|refine cf fun hc=>?_|refine cj fun hc=>?_|refine cm (fun hc=>?_) fun hc=>?_)<;>(try simp only[hc,bs,↓reduceIte]at h)<;>try simp only[hc]
 | (with_reducible refine ax hQ ?_;(try cases h);simp only [bF,bG,bZ,cb,go_sem,hD,hY,hZ,gC,w1,w2,tt];try exact eQ))
    ·have d1:decide (((j+1:Nat):Int) > 200)=true:=by simp;omega
     simp only[d1,zbj,zax,↓reduceIte]at h
     repeat' (first
 |simp only[go_sem,hD,hY,hZ,gC,w1,w2,d1]
 |(with_reducible refine CU (c1 _) ?_)
 |(with_reducible refine CU (c2 _) ?_)
 |(with_reducible first|refine cf fun hc=>?_|refine cj fun hc=>?_|refine cm (fun hc=>?_) fun hc=>?_)<;>(try simp only[hc,bs,↓reduceIte]at h)<;>try simp only[hc]
 |(with_reducible refine ax hQ ?_;(try cases h);simp only[bF,bG,bZ,cb,go_sem,hD,hY,hZ,gC,w1,w2,d1];try exact eQ))
def Pc.fI (n:Nat):List Pc→Bool
 | []=>true
 |f::l=>
  if decide ((f.params.length:Int) > 8) ||decide ((f.vars.length:Int) > 16) || !(isName f.name) || !(ez f.vars) || !(ez f.fin)then false
  else if !(Pm.eU f.params)then false
  else if !(Sm.iC 1 n f.body).1 then false
  else Pc.fI (Sm.iC 1 n f.body).2 l
def Pg.IM (p:Pg):Bool:=
 if decide ((p.globals.length:Int) > 16) ||decide ((p.procs.length:Int) > 16) || !(ez p.globals)then false
 else Pc.fI 0 p.procs
structure Pg.G0 (p:Pg):Prop where
 sz:p.size<4611686018427387000
 rJ : ∀ t∈p.globals,t.length<4611686018427387904
 lF : ∀ f∈p.procs,f.name.length<4611686018427387904∧(∀ t∈f.vars,t.length<4611686018427387904)∧(∀ t∈f.fin,t.length<4611686018427387904)∧∀ a∈f.params,a.name.length<4611686018427387904
 body : ∀ f∈p.procs,Sm.kh f.body
theorem MS {p:Pg} (hf:p.G0) (s:St):az Tryz.prog 36 [.agg (bS p)] s (.bool p.IM) s:=by
 refine az.pure ?_ (by simp only[D.bM,D.ok,gR];rfl) rfl s
 obtain⟨dT,lG,MR,DM⟩:=hf
 have nF:Pc.bq p.procs<4611686018427387000:=by simp only[Pg.size]at dT;omega
 have SQ:p.globals.length<4611686018427387904:=by simp only[Pg.size]at dT;omega
 have ajz:p.procs.length<4611686018427387904:=by have:=Pc.dI p.procs;omega
 have hg:=fun s=>A6 SQ lG s
 unfold S0
 generalize h:p.IM=R
 unfold Pg.IM at h
 refine az.go Ms.h rfl fun B Q hB hQ=>?_
 have⟨hD,hY,hZ,gC⟩:=bb
 repeat' (first
 |simp only[go_sem,hD,hY,hZ,gC]
 |(with_reducible refine CU (hg _) ?_)
 |(with_reducible first|refine cf fun hc=>?_|refine cj fun hc=>?_|refine cm (fun hc=>?_) fun hc=>?_)<;>(try simp only[hc,bs,↓reduceIte]at h)<;>try simp only[hc]
 |(with_reducible refine ax hQ ?_;exact fL))
 refine di 2 0 (aN.ind (ι:=List Pc×Nat×Nat) (fun i=>p.procs.drop i.2.1=i.1∧Pc.fI i.2.2 i.1=R∧i.2.2≤200) (fun i=>i.1.length)
  (fun i=> [(1, .ptr 0 0),(3, .ptr 1 0),(27, .slice .shared 5 (p.procs.map bN)),(28, .int .i64 (p.procs.length:Int)),(29, .int .i64 (i.2.1:Int))]) (fun i=>⟨[bS p,[.int .i64 (i.2.2:Int)]],[]⟩) ?_ (p.procs,0,0) ⟨rfl,h,zaz _⟩)
 rintro⟨rest,k,n⟩ ⟨h1,h,hn⟩ IH
 dsimp only at h1 h hn
 cases rest with
 |nil=>
  have hD:=drop_nil h1
  simp only[Pc.fI]at h
  repeat' (first
 |simp only[go_sem,hD,hY,hZ,gC]
 |(with_reducible first|refine cf fun hc=>?_|refine cj fun hc=>?_|refine cm (fun hc=>?_) fun hc=>?_)<;>(try simp only[hc,bs,↓reduceIte]at h)<;>try simp only[hc]
 |(with_reducible refine ax hQ ?_;exact fL))
 |cons f rest=>
  obtain⟨hY,g2,hD,g4⟩:=drop_cons h1
  have aZ:k<4611686018427387904:=by omega
  have ij:=zad hY
  have oP:=Pc.cq ij
  simp only[Pc.size]at oP
  obtain⟨wi,Vv,hff,hfp⟩:=MR f ij
  have rU:=C0 f.name wi
  have hv:=fun s=>A6 (by omega) Vv s
  have he:=fun s=>A6 (by omega) hff s
  have hb:=fun s' o ho=>(acO _ f.body (zal _) (by omega) (DM f ij) 1 n (by omega) (by omega) hn).W9 (s:=s') (o:=o) (by simp[D.bM,D.ok,q7,Tag.ok]) rfl rfl rfl ho
  have hle:=IL (nest:=1) (l:=f.body) hn
  simp only[Pc.fI]at h
  repeat' (first
 |simp only[go_sem,hD,hY,hZ,gC]
 |(with_reducible refine CU (rU _) ?_)
 |(with_reducible refine CU (hv _) ?_)
 |(with_reducible refine CU (he _) ?_)
 |(with_reducible first|refine cf fun hc=>?_|refine cj fun hc=>?_|refine cm (fun hc=>?_) fun hc=>?_)<;>(try simp only[hc,bs,↓reduceIte]at h)<;>try simp only[hc]
 |(with_reducible refine ax hQ ?_;exact fL)
 | (cases h;done))
  refine di 3 0 (aN.ind (ι:=List Pm×Nat) (fun i=>f.params.drop i.2=i.1∧(if !(Pm.eU i.1)then false else if !(Sm.iC 1 n f.body).1 then false else Pc.fI (Sm.iC 1 n f.body).2 rest)=R) (fun i=>i.1.length)
   (fun i=> [(1, .ptr 0 0),(3, .ptr 1 0),(5, .ptr 2 0),(27, .slice .shared 5 (p.procs.map bN)),(28, .int .i64 (p.procs.length:Int)),(29, .int .i64 (k:Int)),(62, .slice .shared 2 (f.params.map fz)),(63, .int .i64 (f.params.length:Int)),(64, .int .i64 (i.2:Int))]) (fun i=>⟨[bS p,[.int .i64 (n:Int)],bN f],[]⟩) ?_ (f.params,0) ⟨rfl,h⟩)
  rintro⟨A8,j⟩ ⟨j1,h⟩ qM
  dsimp only at j1 h
  cases A8 with
  |nil=>
   have hD:=drop_nil j1
   simp only[Pm.eU,zau,zab,↓reduceIte]at h
   repeat' (first
 |simp only[go_sem,hD,hY,hZ,gC]
 |(with_reducible refine CU (hb _ _ rfl) ?_)
 |(with_reducible first|refine cf fun hc=>?_|refine cj fun hc=>?_|refine cm (fun hc=>?_) fun hc=>?_)<;>(try simp only[hc,bs,↓reduceIte]at h)<;>try simp only[hc]
 |(with_reducible refine ax hQ ?_;exact fL)
 | (cases h;done))
   refine cv 2 0 ?_ ?_ (IH (rest,k+1,(Sm.iC 1 n f.body).2) ⟨g2,h,hle.2 (by assumption)⟩ (zae _))
   ·(simp only[go_sem,hD,hY,hZ,gC,aw aZ];try exact aU)
   ·(simp only[go_sem,hD,hY,hZ,gC,aw aZ];try exact aU)
  |cons a A8=>
   obtain⟨hY,b2,hD,b4⟩:=drop_cons j1
   have JG:j<4611686018427387904:=by omega
   have ha:=C0 a.name (hfp a (zad hY))
   simp only[Pm.eU]at h
   repeat' (first
 |simp only[go_sem,hD,hY,hZ,gC]
 |(with_reducible refine CU (ha _) ?_)
 |(with_reducible first|refine cf fun hc=>?_|refine cj fun hc=>?_|refine cm (fun hc=>?_) fun hc=>?_)<;>(try simp only[hc,bs,↓reduceIte]at h)<;>try simp only[hc]
 |(with_reducible refine ax hQ ?_;exact fL)
 | (cases h;done))
   refine cv 3 0 ?_ ?_ (qM (A8,j+1) ⟨b2,h⟩ (zae _))
   ·(simp only[go_sem,hD,hY,hZ,gC,aw JG];try exact aU)
   ·(simp only[go_sem,hD,hY,hZ,gC,aw JG];try exact aU)
theorem A9 {s:aF} (h:isName s=true):s.length≤8:=by
 cases s with
 |nil=>simp
 | cons c r=>
  simp only[isName]at h
  split at h
  ·cases h
  ·rename_i hc
   simp only[zaC,decide_eq_true_eq,not_or]at hc
   simp only[zat];omega
theorem qN {t:aF} : ∀ {l:List aF},ez l=true→t∈l→isName t=true
 | s::l,h,m=>by
  simp only[ez]at h
  cases hs:isName s
  ·simp[hs]at h
  ·simp [hs]at h
   rcases zap.1 m with rfl|m
   ·exact hs
   ·exact qN h m
theorem MT {a:Ar} : ∀ {l:List Ar},Ar.eU l=true→a∈l→a.may=true
 | s::l,h,m=>by
  simp only[Ar.eU]at h
  cases hs:s.may
  ·simp[hs]at h
  ·simp [hs]at h
   rcases zap.1 m with rfl|m
   ·exact hs
   ·exact MT h m
theorem JH {a:Pm} : ∀ {l:List Pm},Pm.eU l=true→a∈l→isName a.name=true
 | s::l,h,m=>by
  simp only[Pm.eU]at h
  cases hs:isName s.name
  ·simp[hs]at h
  ·simp [hs]at h
   rcases zap.1 m with rfl|m
   ·exact hs
   ·exact JH h m
mutual
theorem G1 : ∀ x:Ex,x.form=true→x.texts
 | ⟨op,n,name,kids⟩,h=>by
  simp only[Ex.form]at h
  split at h
  ·cases h
  ·rename_i hc
   refine⟨?_,EH kids h⟩
   simp only[zaC,zar,zaH,not_or,not_and,zbb]at hc
   cases hn:(name == [])
   ·have:=A9 (hc.2 hn);omega
   ·simp at hn;subst hn;simp
theorem EH : ∀ l:List Ex,Ex.rh l=true→Ex.xd l
 | [],_=>trivial
 | x::l,h=>by
  simp only[Ex.rh]at h
  cases hx:x.form
  ·simp[hx]at h
  ·simp [hx]at h
   exact⟨G1 x hx,EH l h⟩
end
theorem JI {x:Ex} (h:x.may=true):x.texts:=by
 unfold Ex.may at h
 simp only[zar]at h
 exact G1 x h.2
theorem G2 {x:Ex} (h:x.none=true):x.texts:=by
 obtain⟨op,n,name,kids⟩:=x
 simp[Ex.none]at h
 obtain⟨⟨_,h1⟩,h2⟩:=h
 subst h1 h2
 exact⟨by simp,trivial⟩
mutual
theorem Vw {deep a7:Int} {aK:Bool} {out:List It} {i:It} : ∀ s:Sm,i∈gN deep a7 aK out s→i∈out∨i.s.size≤s.size
 | ⟨id,kind,labels,name,proc,x,has,args,a8,e⟩,h=>by
  simp only[gN]at h
  have key:i∈out++ [(⟨⟨id,kind,labels,name,proc,x,has,args,a8,e⟩,deep,a7,aK⟩:It)]→i∈out∨i.s.size≤(⟨id,kind,labels,name,proc,x,has,args,a8,e⟩:Sm).size:=by
   intro h
   rcases zaq.1 h with h|h
   ·exact .inl h
   ·simp at h;subst h;exact .inr (zal _)
  split at h
  ·rcases ye e h with h | h
   ·rcases ye a8 h with h | h
    ·exact key h
    ·right;simp only[Sm.size];omega
   ·right;simp only[Sm.size];omega
  ·exact key h
theorem ye {deep a7:Int} {aK:Bool} {out:List It} {i:It} : ∀ l:List Sm,i∈dJ deep a7 aK out l→i∈out∨i.s.size<Sm.bq l
 | [],h=>by simp only[dJ]at h;exact .inl h
 | s::l,h=>by
  simp only[dJ]at h
  split at h
  ·rcases ye l h with h | h
   ·rcases Vw s h with h | h
    ·exact .inl h
    ·right;simp only[Sm.bq];omega
   ·right;simp only[Sm.bq];omega
  ·exact .inl h
end
theorem MU {i:It} : ∀ (l:List Pc) (out:List It),i∈allM out l→i∈out∨i.s.size<Pc.bq l
 | [],out,h=>by simp only[allM]at h;exact .inl h
 | f::l,out,h=>by
  have key:i∈out++f.flat→i∈out∨i.s.size<Pc.bq (f::l):=by
   intro h
   rcases zaq.1 h with h|h
   ·exact .inl h
   ·rcases ye _ h with h | h
    ·simp at h
    ·right;simp only[Pc.bq,Pc.size];omega
  simp only[allM]at h
  split at h
  ·exact key h
  ·rcases MU l _ h with h | h
   ·exact key h
   ·right;simp only[Pc.bq];omega
theorem G3 {i:It} : ∀ (l:List It) (n:Nat),It.eU n l=true→i∈l→i.s.one=true
 | s::l,n,h,m=>by
  simp only[It.eU]at h
  split at h
  ·cases h
  ·rename_i hc
   simp only[zaC,zaH,not_or,zbb]at hc
   rcases zap.1 m with rfl|m
   ·exact hc.2
   ·exact G3 l (n+1) h m
theorem MV {s:Sm} (h:s.one=true) (hs:s.size<4611686018427387000):s.kO:=by
 unfold Sm.one at h
 split at h
 ·cases h
 split at h
 ·cases h
 split at h
 ·cases h
 split at h
 ·cases h
 rename_i c1 c2 c3 c4
 simp only[zaC,zar,zaH,not_or,not_and,zbb,decide_eq_true_eq]at c1 c2 c3 c4
 obtain⟨⟨⟨⟨⟨_,_⟩,amC⟩,cx⟩,cn⟩,_⟩:=c1
 obtain⟨c21,c22⟩:=c2
 obtain⟨⟨c31,c32⟩,c33⟩:=c3
 have nm : ∀ {t:aF},isName t=true→t.length<4611686018427387904:=fun h=>by have:=A9 h;omega
 have dT:1+s.labels.length+s.x.size+Ar.bq s.args≤s.size:=by cases s;simp only[Sm.size];omega
 have qk:=Ar.dI s.args
 refine⟨fun t ht=>nm (qN amC ht),by omega, ?_, ?_,by omega, ?_,by omega,fun a ha=>?_⟩
 ·cases hn:s.hasName
  ·cases he:(s.name == [])
   ·exact nm (c22 ⟨hn,he⟩).2
   ·simp at he;rw[he];simp
  ·exact nm (c21 hn)
 ·cases ko:s.vx
  ·rw [ko]at c31
   have:s.proc = []:=by simpa using c31
   rw[this];simp
  ·exact nm (c32 ko)
 ·cases hx:s.rI
  ·exact G2 (cn hx)
  ·exact JI (cx hx)
 ·have hm:=MT c4 ha
  have JK:=Ar.cq ha
  unfold Ar.may at hm
  split at hm
  ·simp only [zar]at hm
   exact⟨by omega,G2 hm.2,nm hm.1⟩
  ·simp only [zar,beq_iff_eq]at hm
   exact⟨by omega,JI hm.2,by rw[hm.1];simp⟩
theorem JL {f:Pc} : ∀ {l:List Pc},Pc.lF l=true→f∈l→isName f.name=true∧ez f.vars=true∧ez f.fin=true∧Pm.eU f.params=true
 |s::l,h,m=>by
  simp only[Pc.lF]at h
  split at h
  ·cases h
  split at h
  ·cases h
  rename_i c1 c2
  simp only[zaC,zaH,not_or,zbb]at c1 c2
  rcases zap.1 m with rfl|m
  ·exact⟨c1.1.1.1.1,c1.1.2,c1.2,c2⟩
  ·exact JL h m
theorem YG {p:Pg} (h:p.may=true) (hs:p.size<4611686018427387000):p.kO:=by
 unfold Pg.may at h
 split at h
 ·cases h
 split at h
 ·cases h
 split at h
 ·cases h
 rename_i c1 c2 c3
 simp only[zaC,zaH,not_or,zbb]at c1 c2
 have nm : ∀ {t:aF},isName t=true→t.length<4611686018427387904:=fun h=>by have:=A9 h;omega
 refine⟨hs,fun t ht=>nm (qN c1.2 ht),fun f hf=>?_,fun i hi=>?_⟩
 ·obtain⟨a,b,c,d⟩:=JL c2 hf
  exact⟨nm a,fun t ht=>nm (qN b ht),fun t ht=>nm (qN c ht),fun t ht=>nm (JH d ht)⟩
 ·refine MV (G3 _ _ h hi) ?_
  rcases MU _ _ hi with h1|h1
  ·simp at h1
  ·simp only[Pg.size]at hs;omega
theorem Vx {t:aF} (h:isName t=true):t≠ []:=by rintro rfl;cases h
theorem YH (op n:Int) (name:aF) (kids:List Ex):Ex.form ⟨op,n,name,kids⟩=true↔
 kg op=(kids.length:Int)∧(op=1∨n=0)∧0≤n∧(op=2↔name≠ [])∧(name = []∨isName name=true)∧Ex.rh kids=true:=by
 simp only[Ex.form]
 split
 ·rename_i h
  simp only[zaC,zar,bne_iff_ne,ne_eq,decide_eq_true_eq,zaH]at h
  refine⟨fun h=>(Bool.false_ne_true h).elim,fun⟨h1,h2,h3,h4,h5,_⟩=>?_⟩
  exfalso
  rcases h with (((h|h)|h)|h)|h
  ·exact h h1
  ·rcases h2 with h2 | h2
   ·exact h.1 h2
   ·exact h.2 h2
  ·omega
  ·by_cases h2:op=2<;>cases name<;>simp_all
  ·rcases h5 with h5 | h5
   ·subst h5;simp at h
   ·rw[h5]at h;simp at h
 ·rename_i h
  simp only[zaC,zar,bne_iff_ne,ne_eq,decide_eq_true_eq,zaH,not_or,not_and,Decidable.not_not,zbb]at h
  obtain⟨⟨⟨⟨h1,h2⟩,h3⟩,h4⟩,h5⟩:=h
  refine⟨fun h=>⟨h1, ?_,by omega, ?_, ?_,h⟩,fun h=>h.2.2.2.2.2⟩
  ·by_cases h:op=1
   ·exact .inl h
   ·exact .inr (h2 h)
  ·by_cases h2:op=2<;>cases name<;>simp_all
  ·cases name with
   |nil=>exact .inl rfl
   |cons c r=>exact .inr (h5 rfl)
theorem vA (op n:Int) (name:aF) (kids:List Ex) (k:Int):Ex.dp k ⟨op,n,name,kids⟩=true↔
 1≤k∧(kids.length:Int)=kg op∧(if op=1 then 0≤n∧name = []else if op=2 then n=0∧isName name=true else n=0∧name = []∧Ex.Ac (k - 1) kids=true):=by
 simp only[Ex.dp]
 split
 ·rename_i h
  simp only[zaC,decide_eq_true_eq,bne_iff_ne,ne_eq]at h
  refine⟨fun h=>(Bool.false_ne_true h).elim,fun⟨h1,h2,_⟩=>?_⟩
  rcases h with h|h
  ·omega
  ·exact(h h2).elim
 rename_i h
 simp only[zaC,decide_eq_true_eq,bne_iff_ne,ne_eq,not_or,Decidable.not_not]at h
 have h1:1≤k:=by omega
 simp only[h1,h.2,true_and]
 by_cases o1:op=1
 ·subst o1
  cases name<;>simp
 ·have o1' : ¬ (op==1)=true:=by simpa using o1
  rw[if_neg o1',if_neg o1]
  by_cases o2:op=2
  ·subst o2;simp
  ·have o2' : ¬ (op==2)=true:=by simpa using o2
   rw[if_neg o2',if_neg o2]
   by_cases hn:n=0
   ·subst hn
    cases name<;>simp
   ·simp[hn]
mutual
theorem aaT : ∀ (x:Ex) (k:Int),0≤k→(x.dp k=true↔(x.depth:Int)≤k∧x.form=true)
 | ⟨op,n,name,kids⟩,k,hk=>by
  rw[vA,YH]
  have hd:Ex.depth ⟨op,n,name,kids⟩=Ex.lO kids+1:=by simp only[Ex.depth]
  rw[hd]
  by_cases h1:1≤k
  ·have ih:=Vy kids (k - 1) (by omega)
   by_cases o1:op=1
   ·subst o1
    have ha:kg 1=0:=rfl
    rw[ha,if_pos rfl]
    constructor
    ·rintro⟨_,h2,h3,h4⟩
     have:kids = []:=zbk (by omega)
     subst this;subst h4
     simp[Ex.lO,Ex.rh,h3];omega
    ·rintro⟨h2,h3,_,h4,h5,_⟩
     refine⟨h1,h3.symm,h4, ?_⟩
     cases name
     ·rfl
     ·simp at h5
   ·rw [if_neg o1]
    by_cases o2:op=2
    ·subst o2
     have ha:kg 2=0:=rfl
     rw[ha,if_pos rfl]
     constructor
     ·rintro⟨_,h2,h3,h4⟩
      have:kids = []:=zbk (by omega)
      subst this;subst h3
      have:=Vx h4
      simp[Ex.lO,Ex.rh,h4,this];omega
     ·rintro⟨h2,h3,h4,_,h5,h6,_⟩
      refine⟨h1,h3.symm,h4.resolve_left o1, ?_⟩
      exact h6.resolve_left (h5.1 rfl)
    ·rw [if_neg o2,ih]
     constructor
     ·rintro⟨_,h2,h3,h4,h5,h6⟩
      subst h3;subst h4
      exact⟨by omega,h2.symm, .inr rfl,za8 _,by simp[o2], .inl rfl,h6⟩
     ·rintro⟨h2,h3,h4,_,h5,h6,h7⟩
      refine⟨h1,h3.symm,h4.resolve_left o1, ?_,by omega,h7⟩
      exact Decidable.byContradiction fun h=>o2 (h5.2 h)
  ·constructor
   ·rintro⟨h,_⟩;exact(h1 h).elim
   ·rintro⟨h,_⟩;omega
theorem Vy : ∀ (l:List Ex) (k:Int),0≤k→(Ex.Ac k l=true↔(Ex.lO l:Int)≤k∧Ex.rh l=true)
 | [],k,hk=>by simp[Ex.Ac,Ex.lO,Ex.rh,hk]
 | x::l,k,hk=>by
  have h1:=aaT x k hk
  have h2:=Vy l k hk
  have hd:Ex.lO (x::l)=max x.depth (Ex.lO l):=by simp only[Ex.lO]
  rw[hd]
  simp only[Ex.Ac,Ex.rh]
  cases hx:Ex.dp k x
  ·simp only [zax, ↓reduceIte,zab,false_iff,not_and]
   intro h3
   have : ¬ ((x.depth:Int)≤k∧x.form=true):=by rw[← h1,hx];simp
   have hf:x.form=false:=by
    cases hf:x.form
    ·rfl
    ·exact(this ⟨by omega,hf⟩).elim
   simp[hf]
  ·have:=h1.1 hx
   simp only[zau,zab,↓reduceIte,this.2,h2]
   have h3:=this.1
   refine and_congr_left fun _=>?_
   omega
end
theorem xh (x:Ex):x.dp 20=x.may:=by
 rw[Bool.eq_iff_iff,aaT x 20 (by omega)]
 unfold Ex.may
 simp only[zar,decide_eq_true_eq]
 refine and_congr_left fun _=>?_
 omega
theorem JM (x:Ex) (b:Bool):xf x b=if b then x.may else x.none:=by
 unfold xf
 rw[xh]
 cases b<;>simp
theorem JN (t:aF) (b:Bool):vz t b=if b then isName t else t == []:=by
 unfold vz
 cases b<;>simp
theorem EI : ∀ l:List Ar,rj l=Ar.eU l
 | []=>rfl
 |a::l=>by
  simp only[rj,Ar.eU,Ar.may,JM,JN,EI l]
  grind
theorem H4 {α:Type} (l:List α):((l.length:Int)==0) = !(decide ((l.length:Int) > 0)):=by
 cases l with
 |nil=>rfl
 |cons a l=>
  have h1:(((a::l).length:Int)==0)=false:=by simp only[zat,beq_eq_false_iff_ne];omega
  have h2:decide (((a::l).length:Int) > 0)=true:=by simp only[zat,decide_eq_true_eq];omega
  rw[h1,h2];rfl
theorem G4 (s:Sm):s.one=(ez s.labels && s.fields):=by
 have hk:s.kind=1∨s.kind=2∨s.kind=3∨s.kind=4∨s.kind=5∨s.kind=6∨s.kind=7∨s.kind=8∨s.kind=9∨s.kind=10∨s.kind<1∨s.kind > 10:=by omega
 unfold Sm.one Sm.fields Sm.flags Sm.rI Sm.hasName Sm.vx
 have p1:isName [] = false:=rfl
 rcases hk with h|h|h|h|h|h|h|h|h|h|h|h
 all_goals
  simp only[h,H4,EI,JM,JN,Sm.K9,Sm.K8]
  grind
mutual
def Ex.jC (out:List aF):Ex→List aF
 |⟨op,_,name,kids⟩=>Ex.iy (if op==2 && !(dS out name)then out++ [name]else out) kids
def Ex.iy (out:List aF):List Ex→List aF
 | []=>out
 |x::l=>Ex.iy (Ex.jC out x) l
end
def Ex.names (x:Ex):List aF:=if x.may then x.jC []else []
mutual
theorem nW (out:List aF) : ∀ x:Ex,(Ex.jC out x).length≤out.length+x.size
 |⟨op,n,name,kids⟩=>by
  simp only[Ex.jC,Ex.size]
  have h:=JO (if op==2 && !(dS out name)then out++ [name]else out) kids
  refine zaW h ?_
  split<;>simp<;>omega
theorem JO (out:List aF) : ∀ l:List Ex,(Ex.iy out l).length≤out.length+Ex.bq l
 | []=>by simp[Ex.iy,Ex.bq]
 |x::l=>by
  simp only[Ex.iy,Ex.bq]
  have h1:=nW out x
  have h2:=JO (Ex.jC out x) l
  omega
end
def nG (out:List aF) (x:aF):List aF:=if dS out x then out else out++ [x]
def tD (x:aF):List aF→Bool
 | []=>false
 |s::l=>if s==x then true else tD x l
theorem C2 (x:aF) : ∀ l:List aF,tD x l=dS l x
 | []=>rfl
 | s::l=>by
  have h1:=gK (s::l) x
  have h2:=gK l x
  have h3:=C2 x l
  simp only[tD]
  by_cases e:s=x
  ·subst e;simp only[beq_self_eq_true,if_true];exact(h1.2 zaA).symm
  ·have e':(s==x)=false:=by simp [e]
   simp only[e',zab,if_false,h3]
   cases ha:dS l x<;>cases hb:dS (s::l) x<;>simp_all [Ne.symm e]
theorem YI {out:List aF} (hl:out.length<1000000000) (x:aF):az Tryz.prog 222 [.slice (.tok 0) 1 (out.map encStr), .str x] ⟨[],[some out.length]⟩ (.slice (.tok 0) 1 ((nG out x).map encStr)) ⟨[],[some (nG out x).length]⟩:=by
 rw[nG, ← C2]
 cases h:tD x out
 all_goals
  simp only[zab,if_false,if_true]
  refine az.go yc.h rfl fun B Q hB hQ=>?_
  have⟨hD,hY,hZ,gC⟩:=bb
  have hZ:(out.length+1)*17≤aV:=by unfold aV;omega
  repeat' (first
 |simp only[go_sem,hD,hY,hZ,gC]
 |(with_reducible first|refine cf fun hc=>?_|refine cj fun hc=>?_|refine cm (fun hc=>?_) fun hc=>?_)<;>(try simp only[hc,bs,↓reduceIte]at h)<;>try simp only[hc]
 |(with_reducible refine ax hQ ?_;exact fL)
 | (cases h;done))
  refine di 0 1 (aN.ind (ι:=List aF×Nat) (fun i=>out.drop i.2=i.1∧tD x i.1=_) (fun i=>i.1.length)
   (fun i=> [(0, .slice (.tok 0) 1 (out.map encStr)),(1, .str x),(7, .slice (.tok 0) 1 (out.map encStr)),(8, .int .i64 (out.length:Int)),(9, .int .i64 (i.2:Int))]) (fun i=>⟨[],[some out.length]⟩) ?_ (out,0) ⟨rfl,h⟩)
  rintro⟨rest,k⟩ ⟨h1,h⟩ IH
  dsimp only at h1 h
  cases rest with
  |nil=>
   have hD:=drop_nil h1
   simp only[tD]at h
   repeat' (first
 |simp only[go_sem,hD,hY,hZ,gC,zag,zaf,zai,zaj,zat,zaD,encStr]
 |(with_reducible first|refine cf fun hc=>?_|refine cj fun hc=>?_|refine cm (fun hc=>?_) fun hc=>?_)<;>(try simp only[hc,bs,↓reduceIte]at h)<;>try simp only[hc]
 |(with_reducible refine ax hQ ?_;(try cases h);simp only[bF,bG,bZ,cb,go_sem,hD,hY,hZ,gC,zag,zaf,zai,zaj,zat,zaD,encStr];try exact eQ)
 | (cases h;done))
  |cons a rest=>
   obtain⟨hY,g2,hD,g4⟩:=drop_cons h1
   have aZ:k<4611686018427387904:=by omega
   simp only[tD]at h
   repeat' (first
 |simp only[go_sem,hD,hY,hZ,gC]
 |(with_reducible first|refine cf fun hc=>?_|refine cj fun hc=>?_|refine cm (fun hc=>?_) fun hc=>?_)<;>(try simp only[hc,bs,↓reduceIte]at h)<;>try simp only[hc]
 |(with_reducible refine ax hQ ?_;exact fL)
 | (cases h;done))
   refine cv 0 1 ?_ ?_ (IH (rest,k+1) ⟨g2,h⟩ (zae _))
   ·(simp only[go_sem,hD,hY,hZ,gC,aw aZ];try exact aU)
   ·(simp only[go_sem,hD,hY,hZ,gC,aw aZ];try exact aU)
theorem YJ {out:List aF} (hl:out.length<1000000000) (x:aF) {s:St} {t:Nat} (ht:s.ay[t]? = some (some out.length)):az Tryz.prog 222 [.slice (.tok t) 1 (out.map encStr), .str x] s (.slice (.tok t) 1 ((nG out x).map encStr)) ⟨s.aq,s.ay.set t (some (nG out x).length)⟩:=
 (YI hl x).Rn (pre:= []) (post:= [_]) rfl rfl (dz out) (dz _) ht
abbrev Vz (N:Nat):Prop:=∀ (x:Ex),x.size≤N→∀ out:List aF,out.length+x.size≤1000000000→∀ {s:St} {t:Nat},s.ay[t]? = some (some out.length)→
 az Tryz.prog 207 [.agg (bT x), .slice (.tok t) 1 (out.map encStr)] s (.slice (.tok t) 1 ((x.jC out).map encStr)) ⟨s.aq,s.ay.set t (some (x.jC out).length)⟩
theorem afL {N:Nat} (ih:Vz N) {op m:Int} {name:aF} {kids:List Ex} (h:Ex.size ⟨op,m,name,kids⟩≤N+1) {out:List aF} (ho:out.length+Ex.size ⟨op,m,name,kids⟩≤1000000000) :
 az Tryz.prog 207 [.agg (bT ⟨op,m,name,kids⟩), .slice (.tok 0) 1 (out.map encStr)] ⟨[],[some out.length]⟩ (.slice (.tok 0) 1 ((Ex.jC out ⟨op,m,name,kids⟩).map encStr)) ⟨[],[some (Ex.jC out ⟨op,m,name,kids⟩).length]⟩:=by
 obtain⟨R,hG⟩ : ∃ R,Ex.jC out ⟨op,m,name,kids⟩=R:=⟨_,rfl⟩
 rw[hG]
 simp only[Ex.jC]at hG
 simp only[Ex.size]at h ho
 have hlen:kids.length<1000000000:=by have:=Ex.dI kids;omega
 have hk : ∀ y∈kids,∀ out:List aF,out.length+y.size≤1000000000→∀ {s:St} {t:Nat},s.ay[t]? = some (some out.length)→
  az Tryz.prog 207 [.agg (bT y), .slice (.tok t) 1 (out.map encStr)] s (.slice (.tok t) 1 ((y.jC out).map encStr)) ⟨s.aq,s.ay.set t (some (y.jC out).length)⟩:=fun y hy out ho=>
  ih y (by have:=Ex.cq hy;omega) out ho
 refine az.go tz.h rfl fun B Q hB hQ=>?_
 have⟨hD,hY,hZ,gC⟩:=bb
 have hZ:(out.length+1)*17≤aV:=by unfold aV;omega
 rcases zaa (op==2)with b1|b1
 ·rcases zaa (dS out name)with b2 | b2
  ·simp only [b1,b2,zau,zbt,zab,if_false]at hG
   repeat' (first
 |simp only[go_sem,hD,hY,hZ,gC,b1,b2]
 |(with_reducible refine CU (kF (l:=out) (by omega) name _ _) ?_)
 | (with_reducible refine ax hQ ?_;exact aB))
   refine di 1 1 (aN.ind (ι:=List Ex×Nat×List aF×Nat) (fun i=>kids.drop i.2.1=i.1∧Ex.iy i.2.2.1 i.1=R∧i.2.2.1.length+Ex.bq i.1≤1000000000∧i.2.2.2=i.2.2.1.length) (fun i=>i.1.length)
    (fun i=> [(1, .slice (.tok 0) 1 (i.2.2.1.map encStr)),(2, .ptr 0 0),(23, .slice .shared 4 (kids.map bT)),(24, .int .i64 (kids.length:Int)),(25, .int .i64 (i.2.1:Int))]) (fun i=>⟨[bT ⟨op,m,name,kids⟩],[some i.2.2.2]⟩) ?_ (kids,0,out,out.length) ⟨rfl,hG,by simp;omega,by simp⟩)
   rintro⟨rest,k,bU,n'⟩ ⟨h1,h2,h3,h4⟩ IH
   dsimp only at h1 h2 h3 h4
   subst h4
   cases rest with
   |nil=>
    have hD:=drop_nil h1
    simp only[Ex.iy]at h2
    subst h2
    repeat' (first
 |simp only[go_sem,hD,hY,hZ,gC]
 | (with_reducible refine ax hQ ?_;exact aB))
   |cons y rest=>
    obtain⟨hY,g2,hD,g4⟩:=drop_cons h1
    have aZ:k<4611686018427387904:=by omega
    simp only[Ex.iy]at h2
    simp only[Ex.bq]at h3
    have hy:=fun {s:St} {t:Nat} (ht:s.ay[t]? = some (some bU.length))=>hk y (zad hY) bU (by omega) ht
    have hl:=nW bU y
    repeat' (first
 |simp only[go_sem,hD,hY,hZ,gC]
 |(with_reducible refine CU (hy (by with_unfolding_all rfl)) ?_)
 | (with_reducible refine ax hQ ?_;exact aB))
    refine cv 1 1 ?_ ?_ (IH (rest,k+1,_,_) ⟨g2,h2,by dsimp only;omega,rfl⟩ (zae _))
    ·(simp only[go_sem,hD,hY,hZ,gC,aw aZ];try exact aU)
    ·(simp only[go_sem,hD,hY,hZ,gC,aw aZ];try exact aU)
  ·simp only [b1,b2,zax,zbG,if_true]at hG
   repeat' (first
 |simp only[go_sem,hD,hY,hZ,gC,b1,b2]
 |(with_reducible refine CU (kF (l:=out) (by omega) name _ _) ?_)
 | (with_reducible refine ax hQ ?_;exact aB))
   refine cv 1 1 ?_ ?_ (aN.ind (ι:=List Ex×Nat×List aF×Nat) (fun i=>kids.drop i.2.1=i.1∧Ex.iy i.2.2.1 i.1=R∧i.2.2.1.length+Ex.bq i.1≤1000000000∧i.2.2.2=i.2.2.1.length) (fun i=>i.1.length)
    (fun i=> [(1, .slice (.tok 0) 1 (i.2.2.1.map encStr)),(2, .ptr 0 0),(23, .slice .shared 4 (kids.map bT)),(24, .int .i64 (kids.length:Int)),(25, .int .i64 (i.2.1:Int))]) (fun i=>⟨[bT ⟨op,m,name,kids⟩],[some i.2.2.2]⟩) ?_ (kids,0,(out++ [name]),(out.length+1)) ⟨rfl,hG,by simp;omega,by simp⟩)
   ·(simp only[go_sem,hD,hY,hZ,gC,zag,zaf,zai,zaj,zat,zaD,encStr];try exact aU)
   ·(simp only[go_sem,hD,hY,hZ,gC,zag,zaf,zai,zaj,zat,zaD,encStr];try exact aU)
   rintro⟨rest,k,bU,n'⟩ ⟨h1,h2,h3,h4⟩ IH
   dsimp only at h1 h2 h3 h4
   subst h4
   cases rest with
   |nil=>
    have hD:=drop_nil h1
    simp only[Ex.iy]at h2
    subst h2
    repeat' (first
 |simp only[go_sem,hD,hY,hZ,gC]
 | (with_reducible refine ax hQ ?_;exact aB))
   |cons y rest=>
    obtain⟨hY,g2,hD,g4⟩:=drop_cons h1
    have aZ:k<4611686018427387904:=by omega
    simp only[Ex.iy]at h2
    simp only[Ex.bq]at h3
    have hy:=fun {s:St} {t:Nat} (ht:s.ay[t]? = some (some bU.length))=>hk y (zad hY) bU (by omega) ht
    have hl:=nW bU y
    repeat' (first
 |simp only[go_sem,hD,hY,hZ,gC]
 |(with_reducible refine CU (hy (by with_unfolding_all rfl)) ?_)
 | (with_reducible refine ax hQ ?_;exact aB))
    refine cv 1 1 ?_ ?_ (IH (rest,k+1,_,_) ⟨g2,h2,by dsimp only;omega,rfl⟩ (zae _))
    ·(simp only[go_sem,hD,hY,hZ,gC,aw aZ];try exact aU)
    ·(simp only[go_sem,hD,hY,hZ,gC,aw aZ];try exact aU)
 ·simp only [b1,zaN,zab,if_false]at hG
  repeat' (first
 |simp only[go_sem,hD,hY,hZ,gC,b1]
 | (with_reducible refine ax hQ ?_;exact aB))
  refine di 1 1 (aN.ind (ι:=List Ex×Nat×List aF×Nat) (fun i=>kids.drop i.2.1=i.1∧Ex.iy i.2.2.1 i.1=R∧i.2.2.1.length+Ex.bq i.1≤1000000000∧i.2.2.2=i.2.2.1.length) (fun i=>i.1.length)
   (fun i=> [(1, .slice (.tok 0) 1 (i.2.2.1.map encStr)),(2, .ptr 0 0),(23, .slice .shared 4 (kids.map bT)),(24, .int .i64 (kids.length:Int)),(25, .int .i64 (i.2.1:Int))]) (fun i=>⟨[bT ⟨op,m,name,kids⟩],[some i.2.2.2]⟩) ?_ (kids,0,out,out.length) ⟨rfl,hG,by simp;omega,by simp⟩)
  rintro⟨rest,k,bU,n'⟩ ⟨h1,h2,h3,h4⟩ IH
  dsimp only at h1 h2 h3 h4
  subst h4
  cases rest with
  |nil=>
   have hD:=drop_nil h1
   simp only[Ex.iy]at h2
   subst h2
   repeat' (first
 |simp only[go_sem,hD,hY,hZ,gC]
 | (with_reducible refine ax hQ ?_;exact aB))
  |cons y rest=>
   obtain⟨hY,g2,hD,g4⟩:=drop_cons h1
   have aZ:k<4611686018427387904:=by omega
   simp only[Ex.iy]at h2
   simp only[Ex.bq]at h3
   have hy:=fun {s:St} {t:Nat} (ht:s.ay[t]? = some (some bU.length))=>hk y (zad hY) bU (by omega) ht
   have hl:=nW bU y
   repeat' (first
 |simp only[go_sem,hD,hY,hZ,gC]
 |(with_reducible refine CU (hy (by with_unfolding_all rfl)) ?_)
 | (with_reducible refine ax hQ ?_;exact aB))
   refine cv 1 1 ?_ ?_ (IH (rest,k+1,_,_) ⟨g2,h2,by dsimp only;omega,rfl⟩ (zae _))
   ·(simp only[go_sem,hD,hY,hZ,gC,aw aZ];try exact aU)
   ·(simp only[go_sem,hD,hY,hZ,gC,aw aZ];try exact aU)
theorem YK : ∀ N,Vz N:=by
 intro N
 induction N with
 |zero=>rintro⟨op,m,name,kids⟩ h;simp only[Ex.size]at h;omega
 |succ N ih=>
  rintro⟨op,m,name,kids⟩ h out ho s t ht
  exact(afL ih h ho).Rn (pre:= [_]) (post:= []) (by simp only[D.bM,D.ok,jM];rfl) rfl (dz out) (dz _) ht
abbrev PD (N:Nat):Prop:=∀ (x:Ex),x.size≤N→∀ out:List aF,out.length+x.size≤1000000000→∀ {s:St} {t:Nat},s.ay[t]? = some (some out.length)→
 az Tryz.prog 204 [.agg (bT x), .slice (.tok t) 1 (out.map encStr)] s (.slice (.tok t) 1 ((x.jC out).map encStr)) ⟨s.aq,s.ay.set t (some (x.jC out).length)⟩
theorem acP {N:Nat} (ih:PD N) {op m:Int} {name:aF} {kids:List Ex} (h:Ex.size ⟨op,m,name,kids⟩≤N+1) {out:List aF} (ho:out.length+Ex.size ⟨op,m,name,kids⟩≤1000000000) :
 az Tryz.prog 204 [.agg (bT ⟨op,m,name,kids⟩), .slice (.tok 0) 1 (out.map encStr)] ⟨[],[some out.length]⟩ (.slice (.tok 0) 1 ((Ex.jC out ⟨op,m,name,kids⟩).map encStr)) ⟨[],[some (Ex.jC out ⟨op,m,name,kids⟩).length]⟩:=by
 obtain⟨R,hG⟩ : ∃ R,Ex.jC out ⟨op,m,name,kids⟩=R:=⟨_,rfl⟩
 rw[hG]
 simp only[Ex.jC]at hG
 simp only[Ex.size]at h ho
 have hlen:kids.length<1000000000:=by have:=Ex.dI kids;omega
 have hk : ∀ y∈kids,∀ out:List aF,out.length+y.size≤1000000000→∀ {s:St} {t:Nat},s.ay[t]? = some (some out.length)→
  az Tryz.prog 204 [.agg (bT y), .slice (.tok t) 1 (out.map encStr)] s (.slice (.tok t) 1 ((y.jC out).map encStr)) ⟨s.aq,s.ay.set t (some (y.jC out).length)⟩:=fun y hy out ho=>
  ih y (by have:=Ex.cq hy;omega) out ho
 have qH:=fun {s:St} {t:Nat} (ht:s.ay[t]? = some (some out.length))=>YJ (out:=out) (by omega) name ht
 refine az.go vO.h rfl fun B Q hB hQ=>?_
 have⟨hD,hY,hZ,gC⟩:=bb
 have hZ:(out.length+1)*17≤aV:=by unfold aV;omega
 rcases zaa (op==2)with b1|b1
 ·rcases zaa (dS out name)with b2 | b2
  ·simp only [b1,b2,zau,zbt,zab,if_false]at hG
   simp only[nG,b2,if_true]at qH
   repeat' (first
 |simp only[go_sem,hD,hY,hZ,gC,b1,b2]
 |(with_reducible refine CU (qH (by with_unfolding_all rfl)) ?_)
 | (with_reducible refine ax hQ ?_;exact aB))
   refine di 1 1 (aN.ind (ι:=List Ex×Nat×List aF×Nat) (fun i=>kids.drop i.2.1=i.1∧Ex.iy i.2.2.1 i.1=R∧i.2.2.1.length+Ex.bq i.1≤1000000000∧i.2.2.2=i.2.2.1.length) (fun i=>i.1.length)
    (fun i=> [(1, .slice (.tok 0) 1 (i.2.2.1.map encStr)),(2, .ptr 0 0),(15, .int .i64 (kids.length:Int)),(16, .int .i64 (i.2.1:Int))]) (fun i=>⟨[bT ⟨op,m,name,kids⟩],[some i.2.2.2]⟩) ?_ (kids,0,out,out.length) ⟨rfl,hG,by simp;omega,by simp⟩)
   rintro⟨rest,k,bU,n'⟩ ⟨h1,h2,h3,h4⟩ IH
   dsimp only at h1 h2 h3 h4
   subst h4
   cases rest with
   |nil=>
    have hD:=drop_nil h1
    simp only[Ex.iy]at h2
    subst h2
    repeat' (first
 |simp only[go_sem,hD,hY,hZ,gC]
 | (with_reducible refine ax hQ ?_;exact aB))
   |cons y rest=>
    obtain⟨hY,g2,hD,g4⟩:=drop_cons h1
    have aZ:k<4611686018427387904:=by omega
    simp only[Ex.iy]at h2
    simp only[Ex.bq]at h3
    have hy:=fun {s:St} {t:Nat} (ht:s.ay[t]? = some (some bU.length))=>hk y (zad hY) bU (by omega) ht
    have hl:=nW bU y
    repeat' (first
 |simp only[go_sem,hD,hY,hZ,gC]
 |(with_reducible refine CU (hy (by with_unfolding_all rfl)) ?_)
 | (with_reducible refine ax hQ ?_;exact aB))
    refine cv 1 1 ?_ ?_ (IH (rest,k+1,_,_) ⟨g2,h2,by dsimp only;omega,rfl⟩ (zae _))
    ·(simp only[go_sem,hD,hY,hZ,gC,aw aZ];try exact aU)
    ·(simp only[go_sem,hD,hY,hZ,gC,aw aZ];try exact aU)
  ·simp only [b1,b2,zax,zbG,if_true]at hG
   simp only[nG,b2,zab,if_false,zaj,zat,zaD]at qH
   repeat' (first
 |simp only[go_sem,hD,hY,hZ,gC,b1,b2]
 |(with_reducible refine CU (qH (by with_unfolding_all rfl)) ?_)
 | (with_reducible refine ax hQ ?_;exact aB))
   refine cv 1 1 ?_ ?_ (aN.ind (ι:=List Ex×Nat×List aF×Nat) (fun i=>kids.drop i.2.1=i.1∧Ex.iy i.2.2.1 i.1=R∧i.2.2.1.length+Ex.bq i.1≤1000000000∧i.2.2.2=i.2.2.1.length) (fun i=>i.1.length)
    (fun i=> [(1, .slice (.tok 0) 1 (i.2.2.1.map encStr)),(2, .ptr 0 0),(15, .int .i64 (kids.length:Int)),(16, .int .i64 (i.2.1:Int))]) (fun i=>⟨[bT ⟨op,m,name,kids⟩],[some i.2.2.2]⟩) ?_ (kids,0,(out++ [name]),(out.length+1)) ⟨rfl,hG,by simp;omega,by simp⟩)
   ·(simp only[go_sem,hD,hY,hZ,gC,zag,zaf,zai,zaj,zat,zaD,encStr];try exact aU)
   ·(simp only[go_sem,hD,hY,hZ,gC,zag,zaf,zai,zaj,zat,zaD,encStr];try exact aU)
   rintro⟨rest,k,bU,n'⟩ ⟨h1,h2,h3,h4⟩ IH
   dsimp only at h1 h2 h3 h4
   subst h4
   cases rest with
   |nil=>
    have hD:=drop_nil h1
    simp only[Ex.iy]at h2
    subst h2
    repeat' (first
 |simp only[go_sem,hD,hY,hZ,gC]
 | (with_reducible refine ax hQ ?_;exact aB))
   |cons y rest=>
    obtain⟨hY,g2,hD,g4⟩:=drop_cons h1
    have aZ:k<4611686018427387904:=by omega
    simp only[Ex.iy]at h2
    simp only[Ex.bq]at h3
    have hy:=fun {s:St} {t:Nat} (ht:s.ay[t]? = some (some bU.length))=>hk y (zad hY) bU (by omega) ht
    have hl:=nW bU y
    repeat' (first
 |simp only[go_sem,hD,hY,hZ,gC]
 |(with_reducible refine CU (hy (by with_unfolding_all rfl)) ?_)
 | (with_reducible refine ax hQ ?_;exact aB))
    refine cv 1 1 ?_ ?_ (IH (rest,k+1,_,_) ⟨g2,h2,by dsimp only;omega,rfl⟩ (zae _))
    ·(simp only[go_sem,hD,hY,hZ,gC,aw aZ];try exact aU)
    ·(simp only[go_sem,hD,hY,hZ,gC,aw aZ];try exact aU)
 ·simp only [b1,zaN,zab,if_false]at hG
  repeat' (first
 |simp only[go_sem,hD,hY,hZ,gC,b1]
 | (with_reducible refine ax hQ ?_;exact aB))
  refine di 1 1 (aN.ind (ι:=List Ex×Nat×List aF×Nat) (fun i=>kids.drop i.2.1=i.1∧Ex.iy i.2.2.1 i.1=R∧i.2.2.1.length+Ex.bq i.1≤1000000000∧i.2.2.2=i.2.2.1.length) (fun i=>i.1.length)
   (fun i=> [(1, .slice (.tok 0) 1 (i.2.2.1.map encStr)),(2, .ptr 0 0),(15, .int .i64 (kids.length:Int)),(16, .int .i64 (i.2.1:Int))]) (fun i=>⟨[bT ⟨op,m,name,kids⟩],[some i.2.2.2]⟩) ?_ (kids,0,out,out.length) ⟨rfl,hG,by simp;omega,by simp⟩)
  rintro⟨rest,k,bU,n'⟩ ⟨h1,h2,h3,h4⟩ IH
  dsimp only at h1 h2 h3 h4
  subst h4
  cases rest with
  |nil=>
   have hD:=drop_nil h1
   simp only[Ex.iy]at h2
   subst h2
   repeat' (first
 |simp only[go_sem,hD,hY,hZ,gC]
 | (with_reducible refine ax hQ ?_;exact aB))
  |cons y rest=>
   obtain⟨hY,g2,hD,g4⟩:=drop_cons h1
   have aZ:k<4611686018427387904:=by omega
   simp only[Ex.iy]at h2
   simp only[Ex.bq]at h3
   have hy:=fun {s:St} {t:Nat} (ht:s.ay[t]? = some (some bU.length))=>hk y (zad hY) bU (by omega) ht
   have hl:=nW bU y
   repeat' (first
 |simp only[go_sem,hD,hY,hZ,gC]
 |(with_reducible refine CU (hy (by with_unfolding_all rfl)) ?_)
 | (with_reducible refine ax hQ ?_;exact aB))
   refine cv 1 1 ?_ ?_ (IH (rest,k+1,_,_) ⟨g2,h2,by dsimp only;omega,rfl⟩ (zae _))
   ·(simp only[go_sem,hD,hY,hZ,gC,aw aZ];try exact aU)
   ·(simp only[go_sem,hD,hY,hZ,gC,aw aZ];try exact aU)
theorem VA : ∀ N,PD N:=by
 intro N
 induction N with
 |zero=>rintro⟨op,m,name,kids⟩ h;simp only[Ex.size]at h;omega
 |succ N ih=>
  rintro⟨op,m,name,kids⟩ h out ho s t ht
  exact(acP ih h ho).Rn (pre:= [_]) (post:= []) (by simp only[D.bM,D.ok,jM];rfl) rfl (dz out) (dz _) ht
theorem SR (x:aF) (s:St):az Tryz.prog 222 [.slice .full 0 [], .str x] s (.slice .shared 1 [[.str x]]) s:=by
 refine az.pure ?_ rfl rfl s
 unfold S0
 refine az.go yc.h rfl fun B Q hB hQ=>?_
 have⟨hD,hY,hZ,gC⟩:=bb
 have hZ:17≤aV:=by unfold aV;omega
 repeat' (first
 |simp only[go_sem,hD,hY,hZ,gC,Int.lt_irrefl,decide_false]
 |(with_reducible refine aN.fJ ?_)
 |(with_reducible refine ax hQ ?_;exact aB))
theorem JP {op m:Int} {name:aF} {kids:List Ex} (h:Ex.form ⟨op,m,name,kids⟩=true) (h2:(op==2)=true):kids = []:=by
 have e:op=2:=by simpa using h2
 subst e
 simp only[Ex.form]at h
 split at h
 ·cases h
 ·rename_i hh
  simp only[zaC,not_or,bne_iff_ne,ne_eq,Decidable.not_not]at hh
  have:=hh.1.1.1.1
  have e:kg 2=0:=rfl
  rw[e]at this
  exact List.length_eq_zero_iff.1 (by omega)
theorem YL {op m:Int} {name:aF} {kids:List Ex} (hf:(op==2)=true→kids = []) (ho:Ex.size ⟨op,m,name,kids⟩≤1000000000) (s:St) :
 az Tryz.prog 207 [.agg (bT ⟨op,m,name,kids⟩), .slice .full 0 []] s (.slice .shared 1 ((Ex.jC [] ⟨op,m,name,kids⟩).map encStr)) s:=by
 refine az.pure ?_ (by simp only[D.bM,D.ok,jM];rfl) (by simp only[D.ok,Tag.ok,dz];rfl) s
 obtain⟨R,hG⟩ : ∃ R,Ex.jC [] ⟨op,m,name,kids⟩=R:=⟨_,rfl⟩
 rw[hG]
 simp only[Ex.jC]at hG
 simp only[Ex.size]at ho
 have hlen:kids.length<1000000000:=by have:=Ex.dI kids;omega
 have hk : ∀ y∈kids,∀ out:List aF,out.length+y.size≤1000000000→∀ {s:St} {t:Nat},s.ay[t]? = some (some out.length)→
  az Tryz.prog 207 [.agg (bT y), .slice (.tok t) 1 (out.map encStr)] s (.slice (.tok t) 1 ((y.jC out).map encStr)) ⟨s.aq,s.ay.set t (some (y.jC out).length)⟩:=fun y hy out ho=>
  YK y.size y (zal _) out ho
 unfold S0
 rcases zaa (op==2)with b1|b1
 ·have VB:=hf b1
  subst VB
  have e:dS [] name=false:=rfl
  simp only[b1,e,zax,zbG,if_true,Ex.iy,zaV]at hG
  subst hG
  refine az.go tz.h rfl fun B Q hB hQ=>?_
  have⟨hD,hY,hZ,gC⟩:=bb
  have hZ:17≤aV:=by unfold aV;omega
  repeat' (first
 |simp only[go_sem,hD,hY,hZ,gC,b1,zai,zaf,zaD,encStr,Int.natCast_zero,Int.lt_irrefl,decide_false]
 |(with_reducible refine CU (MN name _ _ _) ?_)
 |(with_reducible refine aN.fJ ?_)
 |(with_reducible refine ax hQ ?_;exact aB))
 ·simp only [b1,zaN,zab,if_false]at hG
  refine az.go tz.h rfl fun B Q hB hQ=>?_
  have⟨hD,hY,hZ,gC⟩:=bb
  repeat' (first
 |simp only[go_sem,hD,hY,hZ,gC,b1]
 | (with_reducible refine ax hQ ?_;exact aB))
  refine aN.ln 1 1 rfl ?_
  simp only[go_sem,hD,hY,hZ,gC]
  refine di 1 1 (aN.ind (ι:=List Ex×Nat×List aF×Nat) (fun i=>kids.drop i.2.1=i.1∧Ex.iy i.2.2.1 i.1=R∧i.2.2.1.length+Ex.bq i.1≤1000000000∧i.2.2.2=i.2.2.1.length) (fun i=>i.1.length)
   (fun i=> [(1, .slice (.tok 0) 1 (i.2.2.1.map encStr)),(2, .ptr 0 0),(23, .slice .shared 4 (kids.map bT)),(24, .int .i64 (kids.length:Int)),(25, .int .i64 (i.2.1:Int))]) (fun i=>⟨[bT ⟨op,m,name,kids⟩],[some i.2.2.2]⟩) ?_ (kids,0,[],0) ⟨rfl,hG,by simp;omega,by simp⟩)
  rintro⟨rest,k,bU,n'⟩ ⟨h1,h2,h3,h4⟩ IH
  dsimp only at h1 h2 h3 h4
  subst h4
  cases rest with
  |nil=>
   have hD:=drop_nil h1
   simp only[Ex.iy]at h2
   subst h2
   repeat' (first
 |simp only[go_sem,hD,hY,hZ,gC]
 | (with_reducible refine ax hQ ?_;exact aB))
  |cons y rest=>
   obtain⟨hY,g2,hD,g4⟩:=drop_cons h1
   have aZ:k<4611686018427387904:=by omega
   simp only[Ex.iy]at h2
   simp only[Ex.bq]at h3
   have hy:=fun {s:St} {t:Nat} (ht:s.ay[t]? = some (some bU.length))=>hk y (zad hY) bU (by omega) ht
   have hl:=nW bU y
   repeat' (first
 |simp only[go_sem,hD,hY,hZ,gC]
 |(with_reducible refine CU (hy (by with_unfolding_all rfl)) ?_)
 | (with_reducible refine ax hQ ?_;exact aB))
   refine cv 1 1 ?_ ?_ (IH (rest,k+1,_,_) ⟨g2,h2,by dsimp only;omega,rfl⟩ (zae _))
   ·(simp only[go_sem,hD,hY,hZ,gC,aw aZ];try exact aU)
   ·(simp only[go_sem,hD,hY,hZ,gC,aw aZ];try exact aU)
theorem VC {op m:Int} {name:aF} {kids:List Ex} (hf:(op==2)=true→kids = []) (ho:Ex.size ⟨op,m,name,kids⟩≤1000000000) (s:St) :
 az Tryz.prog 204 [.agg (bT ⟨op,m,name,kids⟩), .slice .full 0 []] s (.slice .shared 1 ((Ex.jC [] ⟨op,m,name,kids⟩).map encStr)) s:=by
 refine az.pure ?_ (by simp only[D.bM,D.ok,jM];rfl) (by simp only[D.ok,Tag.ok,dz];rfl) s
 obtain⟨R,hG⟩ : ∃ R,Ex.jC [] ⟨op,m,name,kids⟩=R:=⟨_,rfl⟩
 rw[hG]
 simp only[Ex.jC]at hG
 simp only[Ex.size]at ho
 have hlen:kids.length<1000000000:=by have:=Ex.dI kids;omega
 have hk : ∀ y∈kids,∀ out:List aF,out.length+y.size≤1000000000→∀ {s:St} {t:Nat},s.ay[t]? = some (some out.length)→
  az Tryz.prog 204 [.agg (bT y), .slice (.tok t) 1 (out.map encStr)] s (.slice (.tok t) 1 ((y.jC out).map encStr)) ⟨s.aq,s.ay.set t (some (y.jC out).length)⟩:=fun y hy out ho=>
  VA y.size y (zal _) out ho
 unfold S0
 rcases zaa (op==2)with b1|b1
 ·have VB:=hf b1
  subst VB
  have e:dS [] name=false:=rfl
  simp only[b1,e,zax,zbG,if_true,Ex.iy,zaV]at hG
  subst hG
  refine az.go vO.h rfl fun B Q hB hQ=>?_
  have⟨hD,hY,hZ,gC⟩:=bb
  have hZ:17≤aV:=by unfold aV;omega
  repeat' (first
 |simp only[go_sem,hD,hY,hZ,gC,b1,zai,zaf,zaD,encStr,Int.natCast_zero,Int.lt_irrefl,decide_false]
 |(with_reducible refine CU (SR name _) ?_)
 |(with_reducible refine aN.fJ ?_)
 |(with_reducible refine ax hQ ?_;exact aB))
 ·simp only [b1,zaN,zab,if_false]at hG
  refine az.go vO.h rfl fun B Q hB hQ=>?_
  have⟨hD,hY,hZ,gC⟩:=bb
  repeat' (first
 |simp only[go_sem,hD,hY,hZ,gC,b1]
 | (with_reducible refine ax hQ ?_;exact aB))
  refine aN.ln 1 1 rfl ?_
  simp only[go_sem,hD,hY,hZ,gC]
  refine di 1 1 (aN.ind (ι:=List Ex×Nat×List aF×Nat) (fun i=>kids.drop i.2.1=i.1∧Ex.iy i.2.2.1 i.1=R∧i.2.2.1.length+Ex.bq i.1≤1000000000∧i.2.2.2=i.2.2.1.length) (fun i=>i.1.length)
   (fun i=> [(1, .slice (.tok 0) 1 (i.2.2.1.map encStr)),(2, .ptr 0 0),(15, .int .i64 (kids.length:Int)),(16, .int .i64 (i.2.1:Int))]) (fun i=>⟨[bT ⟨op,m,name,kids⟩],[some i.2.2.2]⟩) ?_ (kids,0,[],0) ⟨rfl,hG,by simp;omega,by simp⟩)
  rintro⟨rest,k,bU,n'⟩ ⟨h1,h2,h3,h4⟩ IH
  dsimp only at h1 h2 h3 h4
  subst h4
  cases rest with
  |nil=>
   have hD:=drop_nil h1
   simp only[Ex.iy]at h2
   subst h2
   repeat' (first
 |simp only[go_sem,hD,hY,hZ,gC]
 | (with_reducible refine ax hQ ?_;exact aB))
  |cons y rest=>
   obtain⟨hY,g2,hD,g4⟩:=drop_cons h1
   have aZ:k<4611686018427387904:=by omega
   simp only[Ex.iy]at h2
   simp only[Ex.bq]at h3
   have hy:=fun {s:St} {t:Nat} (ht:s.ay[t]? = some (some bU.length))=>hk y (zad hY) bU (by omega) ht
   have hl:=nW bU y
   repeat' (first
 |simp only[go_sem,hD,hY,hZ,gC]
 |(with_reducible refine CU (hy (by with_unfolding_all rfl)) ?_)
 | (with_reducible refine ax hQ ?_;exact aB))
   refine cv 1 1 ?_ ?_ (IH (rest,k+1,_,_) ⟨g2,h2,by dsimp only;omega,rfl⟩ (zae _))
   ·(simp only[go_sem,hD,hY,hZ,gC,aw aZ];try exact aU)
   ·(simp only[go_sem,hD,hY,hZ,gC,aw aZ];try exact aU)
theorem oQ {x:Ex} (hx:x.size≤1000000000) (ht:x.texts) (s:St):az Tryz.prog 189 [.agg (bT x)] s (.slice .shared 1 (x.names.map encStr)) s:=by
 refine az.pure ?_ (by simp only[D.bM,D.ok,jM];rfl) (by simp only[D.ok,Tag.ok,dz];rfl) s
 have hm:=fun s=>A7 (x:=x) (by omega) ht s
 simp only[xh]at hm
 unfold Ex.names
 unfold S0
 cases hb:x.may
 ·simp only [hb]at hm
  simp only[zab,if_false,zai]
  refine az.go zX.h rfl fun B Q hB hQ=>?_
  have⟨hD,hY,hZ,gC⟩:=bb
  repeat' (first
 |simp only[go_sem,hD,hY,hZ,gC]
 |(with_reducible refine CU (hm _) ?_)
 |(with_reducible refine ax hQ ?_;exact aB))
 ·simp only [hb]at hm
  simp only[if_true]
  have hg : ∀ s,az Tryz.prog 207 [.agg (bT x), .slice .full 0 []] s (.slice .shared 1 ((x.jC []).map encStr)) s:=by
   intro s
   obtain⟨op,m,name,kids⟩:=x
   exact YL (fun h2=>JP (by simp only[Ex.may,zar]at hb;exact hb.2) h2) hx s
  refine az.go zX.h rfl fun B Q hB hQ=>?_
  have⟨hD,hY,hZ,gC⟩:=bb
  repeat' (first
 |simp only[go_sem,hD,hY,hZ,gC]
 |(with_reducible refine CU (hm _) ?_)
 |(with_reducible refine CU (hg _) ?_)
 |(with_reducible refine ax hQ ?_;exact aB))
theorem oR {x:Ex} (hx:x.size≤1000000000) (ht:x.texts) (s:St):az Tryz.prog 182 [.agg (bT x)] s (.slice .shared 1 (x.names.map encStr)) s:=by
 refine az.pure ?_ (by simp only[D.bM,D.ok,jM];rfl) (by simp only[D.ok,Tag.ok,dz];rfl) s
 have hm:=fun s=>CW (x:=x) (by omega) ht s
 unfold Ex.names
 unfold S0
 cases hb:x.may
 ·simp only [hb]at hm
  simp only[zab,if_false,zai]
  refine az.go zW.h rfl fun B Q hB hQ=>?_
  have⟨hD,hY,hZ,gC⟩:=bb
  repeat' (first
 |simp only[go_sem,hD,hY,hZ,gC]
 |(with_reducible refine CU (hm _) ?_)
 |(with_reducible refine ax hQ ?_;exact aB))
 ·simp only [hb]at hm
  simp only[if_true]
  have hg : ∀ s,az Tryz.prog 204 [.agg (bT x), .slice .full 0 []] s (.slice .shared 1 ((x.jC []).map encStr)) s:=by
   intro s
   obtain⟨op,m,name,kids⟩:=x
   exact VC (fun h2=>JP (by simp only[Ex.may,zar]at hb;exact hb.2) h2) hx s
  refine az.go zW.h rfl fun B Q hB hQ=>?_
  have⟨hD,hY,hZ,gC⟩:=bb
  repeat' (first
 |simp only[go_sem,hD,hY,hZ,gC]
 |(with_reducible refine CU (hm _) ?_)
 |(with_reducible refine CU (hg _) ?_)
 |(with_reducible refine ax hQ ?_;exact aB))
def Ar.said (out:List aF):List Ar→List aF
 | []=>out
 |a::l=>Ar.said ((if a.ref then out++ [a.name]else out)++a.x.names) l
def Sm.sg (v:Sm):List aF:=if v.kind != 10 && v.name != []then [v.name]else []
def Sm.said (v:Sm):List aF:=Ar.said (v.sg++v.x.names) v.args
theorem iI (x:Ex):x.names.length≤x.size:=by
 unfold Ex.names
 split
 ·simpa using nW [] x
 ·exact zaz _
def Ar.xd:List Ar→Prop
 | []=>True
 |a::l=>a.x.texts∧Ar.xd l
def Sm.lP (v:Sm):Prop:=v.x.texts∧(∀ a∈v.args,a.x.texts)∧v.x.size+Ar.bq v.args<1000000
theorem fm {l nx:List aF} {n:Nat} (hn:n=l.length) (h:l.length+nx.length≤1000000000) {g:Tag} (o:List (List D)) :
 fH 1 16 (.slice (.tok 0) 1 (l.map encStr)) (.slice g 1 (nx.map encStr)) ⟨o,[some n]⟩=some (.slice (.tok 0) 1 ((l++nx).map encStr),⟨o,[some (l++nx).length]⟩):=by
 subst hn
 have:=kB (size:=1) (bytes:=16) (t:=0) (rows:=l.map encStr) (new:=nx.map encStr) (g:=g) (s:=⟨o,[some l.length]⟩) (by simp only[zaw];unfold aV;omega) (by simp)
 rw[this]
 simp
theorem C3 {v:Sm} (hv:v.lP) (s:St):az Tryz.prog 168 [.agg (aY v)] s (.slice .shared 1 (v.said.map encStr)) s:=by
 refine az.pure ?_ (by simp only[D.bM,D.ok,qe];rfl) (by simp only[D.ok,Tag.ok,dz];rfl) s
 obtain⟨wj,iZ,dT⟩:=hv
 obtain⟨R,hG⟩ : ∃ R,v.said=R:=⟨_,rfl⟩
 rw[hG]
 simp only[Sm.said]at hG
 have hlen:v.args.length<1000000000:=by have:=Ar.dI v.args;omega
 have hx:=fun s=>oQ (x:=v.x) (by omega) wj s
 have Ae:=iI v.x
 unfold S0
 refine az.go Ip.h rfl fun B Q hB hQ=>?_
 have⟨hD,hY,hZ,gC⟩:=bb
 have hZ:17≤aV:=by unfold aV;omega
 by_cases hb:(v.kind != 10 && v.name != [])=true
 ·simp only [Sm.sg,hb,if_true]at hG
  rw[zar]at hb
  obtain⟨b1,b2⟩:=hb
  have dd:=fm (l:= [v.name]) (nx:=v.x.names) (n:=1) rfl (by simp;omega) (g:= .shared)
  simp only[zag,zaf,zai,encStr]at dd
  have b3:(v.name == [])=false:=by simpa using b2
  repeat' (first
 |simp only[go_sem,hD,hY,hZ,gC,b1,b2,b3,dd]
 |(with_reducible refine CU (hx _) ?_)
 | (with_reducible refine ax hQ ?_;exact aB))
  refine cv 1 1 ?_ ?_ (aN.ind (ι:=List Ar×Nat×List aF×Nat) (fun i=>v.args.drop i.2.1=i.1∧Ar.said i.2.2.1 i.1=R∧i.2.2.1.length+Ar.bq i.1≤2000000∧i.2.2.2=i.2.2.1.length) (fun i=>i.1.length)
   (fun i=> [(3, .slice (.tok 0) 1 (i.2.2.1.map encStr)),(1, .ptr 0 0),(25, .slice .shared 6 (v.args.map dE)),(26, .int .i64 (v.args.length:Int)),(27, .int .i64 (i.2.1:Int))]) (fun i=>⟨[aY v],[some i.2.2.2]⟩) ?_ (v.args,0,([v.name]++v.x.names),(v.x.names.length+1)) ⟨rfl,hG,by simp at Ae ⊢;omega,by simp⟩)
  ·(simp only[go_sem,hD,hY,hZ,gC,zag,zaf,zai,encStr];try exact aU)
  ·(simp only[go_sem,hD,hY,hZ,gC,zag,zaf,zai,encStr];try exact aU)
  rintro⟨rest,k,out,n'⟩ ⟨h1,h2,h3,h4⟩ IH
  dsimp only at h1 h2 h3 h4
  subst h4
  cases rest with
  |nil=>
   have hD:=drop_nil h1
   simp only[Ar.said]at h2
   subst h2
   repeat' (first
 |simp only[go_sem,hD,hY,hZ,gC]
 | (with_reducible refine ax hQ ?_;exact aB))
  | cons a rest=>
   obtain⟨hY,g2,hD,g4⟩:=drop_cons h1
   have aZ:k<4611686018427387904:=by omega
   simp only[Ar.said]at h2
   simp only[Ar.bq]at h3
   have nH:=fun s=>oQ (x:=a.x) (by have:=Ar.cq (zad hY);omega) (iZ a (zad hY)) s
   have hl:=iI a.x
   have hZ:(out.length+1)*17≤aV:=by unfold aV;omega
   rcases zaa a.ref with b1|b1
   ·simp only [b1,if_true]at h2
    have dd:=fm (l:=out++ [a.name]) (nx:=a.x.names) (n:=out.length+1) (by simp) (by simp;omega) (g:= .shared)
    simp only[zag,zaf,zai,encStr]at dd
    repeat' (first
 |simp only[go_sem,hD,hY,hZ,gC,b1,dd]
 |(with_reducible refine CU (nH _) ?_)
 | (with_reducible refine ax hQ ?_;exact aB))
    refine cv 1 1 ?_ ?_ (IH (rest,k+1,out++ [a.name]++a.x.names,_) ⟨g2,h2,by simp;omega,by simp<;>omega⟩ (zae _))
    ·(simp only[go_sem,hD,hY,hZ,gC,aw aZ,zag,zaf,zai,encStr];try exact aU)
    ·(simp only[go_sem,hD,hY,hZ,gC,aw aZ,zag,zaf,zai,encStr];try exact aU)
   ·simp only [b1,zab,if_false]at h2
    have dd:=fm (l:=out) (nx:=a.x.names) rfl (by omega) (g:= .shared)
    repeat' (first
 |simp only[go_sem,hD,hY,hZ,gC,b1,dd]
 |(with_reducible refine CU (nH _) ?_)
 | (with_reducible refine ax hQ ?_;exact aB))
    refine cv 1 1 ?_ ?_ (IH (rest,k+1,out++a.x.names,_) ⟨g2,h2,by simp;omega,by simp<;>omega⟩ (zae _))
    ·(simp only[go_sem,hD,hY,hZ,gC,aw aZ];try exact aU)
    ·(simp only[go_sem,hD,hY,hZ,gC,aw aZ];try exact aU)
 ·simp only [Sm.sg,hb,zab,if_false,zaV]at hG
  have qC:(v.kind != 10 && v.name != [])=false:=by simpa using hb
  obtain⟨nx,JQ⟩ : ∃ nx,nx=v.x.names:=⟨_,rfl⟩
  rw[← JQ]at hG Ae
  simp only[← JQ]at hx
  by_cases Ez:nx = []
  ·subst Ez
   simp only[zai]at hx
   have dd : ∀ o:List (List D),fH 1 16 (.slice .full 0 []) (.slice .shared 1 []) ⟨o,[]⟩=some (.slice .full 0 [],⟨o,[]⟩):=fun o=>by simp[fH,aV]
   have HB:(v.kind != 10)=false∨(v.kind != 10)=true∧(v.name != [])=false:=by
    cases h1:(v.kind != 10)
    ·exact .inl rfl
    ·rw[h1]at qC;exact .inr ⟨rfl,by simpa using qC⟩
   rcases HB with b1|⟨b1,b2⟩
   ·rcases zaa (v.name != [])with b2 | b2
    all_goals
     have b3:(v.name == []) = !(v.name != []):=by simp only[bne,zbP]
     rw[b2]at b3
     repeat' (first
 |simp only[go_sem,hD,hY,hZ,gC,b1,b2,b3,zau,zax,dd]
 |(with_reducible refine CU (hx _) ?_)
 | (with_reducible refine ax hQ ?_;simp only [bF,bG,bZ,cb,go_sem,hD,hY,hZ,gC];repeat' (first | exact Ok.out | with_reducible refine ei ?_ ?_ | (simp;done))))
    all_goals
     refine aN.ln 3 1 rfl ?_
     simp only[go_sem,hD,hY,hZ,gC]
     refine di 1 1 (aN.ind (ι:=List Ar×Nat×List aF×Nat) (fun i=>v.args.drop i.2.1=i.1∧Ar.said i.2.2.1 i.1=R∧i.2.2.1.length+Ar.bq i.1≤2000000∧i.2.2.2=i.2.2.1.length) (fun i=>i.1.length)
      (fun i=> [(3, .slice (.tok 0) 1 (i.2.2.1.map encStr)),(1, .ptr 0 0),(25, .slice .shared 6 (v.args.map dE)),(26, .int .i64 (v.args.length:Int)),(27, .int .i64 (i.2.1:Int))]) (fun i=>⟨[aY v],[some i.2.2.2]⟩) ?_ (v.args,0,[],0) ⟨rfl,hG,by simp at Ae ⊢;omega,by simp⟩)
     rintro⟨rest,k,out,n'⟩ ⟨h1,h2,h3,h4⟩ IH
     dsimp only at h1 h2 h3 h4
     subst h4
     cases rest with
     |nil=>
      have hD:=drop_nil h1
      simp only[Ar.said]at h2
      subst h2
      repeat' (first
 |simp only[go_sem,hD,hY,hZ,gC]
 |(with_reducible refine ax hQ ?_;exact aB))
     | cons a rest=>
      obtain⟨hY,g2,hD,g4⟩:=drop_cons h1
      have aZ:k<4611686018427387904:=by omega
      simp only[Ar.said]at h2
      simp only[Ar.bq]at h3
      have nH:=fun s=>oQ (x:=a.x) (by have:=Ar.cq (zad hY);omega) (iZ a (zad hY)) s
      have hl:=iI a.x
      have hZ:(out.length+1)*17≤aV:=by unfold aV;omega
      rcases zaa a.ref with b1|b1
      ·simp only [b1,if_true]at h2
       have dd:=fm (l:=out++ [a.name]) (nx:=a.x.names) (n:=out.length+1) (by simp) (by simp;omega) (g:= .shared)
       simp only[zag,zaf,zai,encStr]at dd
       repeat' (first
 |simp only[go_sem,hD,hY,hZ,gC,b1,dd]
 |(with_reducible refine CU (nH _) ?_)
 |(with_reducible refine ax hQ ?_;exact aB))
       refine cv 1 1 ?_ ?_ (IH (rest,k+1,out++ [a.name]++a.x.names,_) ⟨g2,h2,by simp;omega,by simp<;>omega⟩ (zae _))
       ·(simp only[go_sem,hD,hY,hZ,gC,aw aZ,zag,zaf,zai,encStr];try exact aU)
       ·(simp only[go_sem,hD,hY,hZ,gC,aw aZ,zag,zaf,zai,encStr];try exact aU)
      ·simp only [b1,zab,if_false]at h2
       have dd:=fm (l:=out) (nx:=a.x.names) rfl (by omega) (g:= .shared)
       repeat' (first
 |simp only[go_sem,hD,hY,hZ,gC,b1,dd]
 |(with_reducible refine CU (nH _) ?_)
 | (with_reducible refine ax hQ ?_;exact aB))
       refine cv 1 1 ?_ ?_ (IH (rest,k+1,out++a.x.names,_) ⟨g2,h2,by simp;omega,by simp<;>omega⟩ (zae _))
       ·(simp only[go_sem,hD,hY,hZ,gC,aw aZ];try exact aU)
       ·(simp only[go_sem,hD,hY,hZ,gC,aw aZ];try exact aU)
   ·have b3:(v.name == [])=true:=by simpa using b2
    repeat' (first
 |simp only[go_sem,hD,hY,hZ,gC,b1,b2,b3,dd]
 |(with_reducible refine CU (hx _) ?_)
 | (with_reducible refine ax hQ ?_;exact aB))
    refine aN.ln 3 1 rfl ?_
    simp only[go_sem,hD,hY,hZ,gC]
    refine di 1 1 (aN.ind (ι:=List Ar×Nat×List aF×Nat) (fun i=>v.args.drop i.2.1=i.1∧Ar.said i.2.2.1 i.1=R∧i.2.2.1.length+Ar.bq i.1≤2000000∧i.2.2.2=i.2.2.1.length) (fun i=>i.1.length)
     (fun i=> [(3, .slice (.tok 0) 1 (i.2.2.1.map encStr)),(1, .ptr 0 0),(25, .slice .shared 6 (v.args.map dE)),(26, .int .i64 (v.args.length:Int)),(27, .int .i64 (i.2.1:Int))]) (fun i=>⟨[aY v],[some i.2.2.2]⟩) ?_ (v.args,0,[],0) ⟨rfl,hG,by simp at Ae ⊢;omega,by simp⟩)
    rintro⟨rest,k,out,n'⟩ ⟨h1,h2,h3,h4⟩ IH
    dsimp only at h1 h2 h3 h4
    subst h4
    cases rest with
    |nil=>
     have hD:=drop_nil h1
     simp only[Ar.said]at h2
     subst h2
     repeat' (first
 |simp only[go_sem,hD,hY,hZ,gC]
 | (with_reducible refine ax hQ ?_;exact aB))
    | cons a rest=>
     obtain⟨hY,g2,hD,g4⟩:=drop_cons h1
     have aZ:k<4611686018427387904:=by omega
     simp only[Ar.said]at h2
     simp only[Ar.bq]at h3
     have nH:=fun s=>oQ (x:=a.x) (by have:=Ar.cq (zad hY);omega) (iZ a (zad hY)) s
     have hl:=iI a.x
     have hZ:(out.length+1)*17≤aV:=by unfold aV;omega
     rcases zaa a.ref with b1|b1
     ·simp only [b1,if_true]at h2
      have dd:=fm (l:=out++ [a.name]) (nx:=a.x.names) (n:=out.length+1) (by simp) (by simp;omega) (g:= .shared)
      simp only[zag,zaf,zai,encStr]at dd
      repeat' (first
 |simp only[go_sem,hD,hY,hZ,gC,b1,dd]
 |(with_reducible refine CU (nH _) ?_)
 |(with_reducible refine ax hQ ?_;exact aB))
      refine cv 1 1 ?_ ?_ (IH (rest,k+1,out++ [a.name]++a.x.names,_) ⟨g2,h2,by simp;omega,by simp<;>omega⟩ (zae _))
      ·(simp only[go_sem,hD,hY,hZ,gC,aw aZ,zag,zaf,zai,encStr];try exact aU)
      ·(simp only[go_sem,hD,hY,hZ,gC,aw aZ,zag,zaf,zai,encStr];try exact aU)
     ·simp only [b1,zab,if_false]at h2
      have dd:=fm (l:=out) (nx:=a.x.names) rfl (by omega) (g:= .shared)
      repeat' (first
 |simp only[go_sem,hD,hY,hZ,gC,b1,dd]
 |(with_reducible refine CU (nH _) ?_)
 | (with_reducible refine ax hQ ?_;exact aB))
      refine cv 1 1 ?_ ?_ (IH (rest,k+1,out++a.x.names,_) ⟨g2,h2,by simp;omega,by simp<;>omega⟩ (zae _))
      ·(simp only[go_sem,hD,hY,hZ,gC,aw aZ];try exact aU)
      ·(simp only[go_sem,hD,hY,hZ,gC,aw aZ];try exact aU)
  ·have dd : ∀ o:List (List D),fH 1 16 (.slice .full 0 []) (.slice .shared 1 (nx.map encStr)) ⟨o,[]⟩=some (.slice (.tok 0) 1 (nx.map encStr),⟨o,[some nx.length]⟩):=fun o=>by
    have:nx.length*17≤aV:=by unfold aV;omega
    cases nx with
    |nil=>exact absurd rfl Ez
    |cons a r=>simp only[zat]at this;simp[fH,this]
   have HB:(v.kind != 10)=false∨(v.kind != 10)=true∧(v.name != [])=false:=by
    cases h1:(v.kind != 10)
    ·exact .inl rfl
    ·rw[h1]at qC;exact .inr ⟨rfl,by simpa using qC⟩
   rcases HB with b1|⟨b1,b2⟩
   ·rcases zaa (v.name != [])with b2 | b2
    all_goals
     have b3:(v.name == []) = !(v.name != []):=by simp only[bne,zbP]
     rw[b2]at b3
     repeat' (first
 |simp only[go_sem,hD,hY,hZ,gC,b1,b2,b3,zau,zax,dd]
 |(with_reducible refine CU (hx _) ?_)
 | (with_reducible refine ax hQ ?_;simp only [bF,bG,bZ,cb,go_sem,hD,hY,hZ,gC];repeat' (first | exact Ok.out | with_reducible refine ei ?_ ?_ | (simp;done))))
    all_goals
     refine di 1 1 (aN.ind (ι:=List Ar×Nat×List aF×Nat) (fun i=>v.args.drop i.2.1=i.1∧Ar.said i.2.2.1 i.1=R∧i.2.2.1.length+Ar.bq i.1≤2000000∧i.2.2.2=i.2.2.1.length) (fun i=>i.1.length)
      (fun i=> [(3, .slice (.tok 0) 1 (i.2.2.1.map encStr)),(1, .ptr 0 0),(25, .slice .shared 6 (v.args.map dE)),(26, .int .i64 (v.args.length:Int)),(27, .int .i64 (i.2.1:Int))]) (fun i=>⟨[aY v],[some i.2.2.2]⟩) ?_ (v.args,0,nx,_) ⟨rfl,hG,by simp at Ae ⊢;omega,by simp⟩)
     rintro⟨rest,k,out,n'⟩ ⟨h1,h2,h3,h4⟩ IH
     dsimp only at h1 h2 h3 h4
     subst h4
     cases rest with
     |nil=>
      have hD:=drop_nil h1
      simp only[Ar.said]at h2
      subst h2
      repeat' (first
 |simp only[go_sem,hD,hY,hZ,gC]
 |(with_reducible refine ax hQ ?_;exact aB))
     | cons a rest=>
      obtain⟨hY,g2,hD,g4⟩:=drop_cons h1
      have aZ:k<4611686018427387904:=by omega
      simp only[Ar.said]at h2
      simp only[Ar.bq]at h3
      have nH:=fun s=>oQ (x:=a.x) (by have:=Ar.cq (zad hY);omega) (iZ a (zad hY)) s
      have hl:=iI a.x
      have hZ:(out.length+1)*17≤aV:=by unfold aV;omega
      rcases zaa a.ref with b1|b1
      ·simp only [b1,if_true]at h2
       have dd:=fm (l:=out++ [a.name]) (nx:=a.x.names) (n:=out.length+1) (by simp) (by simp;omega) (g:= .shared)
       simp only[zag,zaf,zai,encStr]at dd
       repeat' (first
 |simp only[go_sem,hD,hY,hZ,gC,b1,dd]
 |(with_reducible refine CU (nH _) ?_)
 |(with_reducible refine ax hQ ?_;exact aB))
       refine cv 1 1 ?_ ?_ (IH (rest,k+1,out++ [a.name]++a.x.names,_) ⟨g2,h2,by simp;omega,by simp<;>omega⟩ (zae _))
       ·(simp only[go_sem,hD,hY,hZ,gC,aw aZ,zag,zaf,zai,encStr];try exact aU)
       ·(simp only[go_sem,hD,hY,hZ,gC,aw aZ,zag,zaf,zai,encStr];try exact aU)
      ·simp only [b1,zab,if_false]at h2
       have dd:=fm (l:=out) (nx:=a.x.names) rfl (by omega) (g:= .shared)
       repeat' (first
 |simp only[go_sem,hD,hY,hZ,gC,b1,dd]
 |(with_reducible refine CU (nH _) ?_)
 | (with_reducible refine ax hQ ?_;exact aB))
       refine cv 1 1 ?_ ?_ (IH (rest,k+1,out++a.x.names,_) ⟨g2,h2,by simp;omega,by simp<;>omega⟩ (zae _))
       ·(simp only[go_sem,hD,hY,hZ,gC,aw aZ];try exact aU)
       ·(simp only[go_sem,hD,hY,hZ,gC,aw aZ];try exact aU)
   ·have b3:(v.name == [])=true:=by simpa using b2
    repeat' (first
 |simp only[go_sem,hD,hY,hZ,gC,b1,b2,b3,dd]
 |(with_reducible refine CU (hx _) ?_)
 | (with_reducible refine ax hQ ?_;exact aB))
    refine di 1 1 (aN.ind (ι:=List Ar×Nat×List aF×Nat) (fun i=>v.args.drop i.2.1=i.1∧Ar.said i.2.2.1 i.1=R∧i.2.2.1.length+Ar.bq i.1≤2000000∧i.2.2.2=i.2.2.1.length) (fun i=>i.1.length)
     (fun i=> [(3, .slice (.tok 0) 1 (i.2.2.1.map encStr)),(1, .ptr 0 0),(25, .slice .shared 6 (v.args.map dE)),(26, .int .i64 (v.args.length:Int)),(27, .int .i64 (i.2.1:Int))]) (fun i=>⟨[aY v],[some i.2.2.2]⟩) ?_ (v.args,0,nx,_) ⟨rfl,hG,by simp at Ae ⊢;omega,by simp⟩)
    rintro⟨rest,k,out,n'⟩ ⟨h1,h2,h3,h4⟩ IH
    dsimp only at h1 h2 h3 h4
    subst h4
    cases rest with
    |nil=>
     have hD:=drop_nil h1
     simp only[Ar.said]at h2
     subst h2
     repeat' (first
 |simp only[go_sem,hD,hY,hZ,gC]
 | (with_reducible refine ax hQ ?_;exact aB))
    | cons a rest=>
     obtain⟨hY,g2,hD,g4⟩:=drop_cons h1
     have aZ:k<4611686018427387904:=by omega
     simp only[Ar.said]at h2
     simp only[Ar.bq]at h3
     have nH:=fun s=>oQ (x:=a.x) (by have:=Ar.cq (zad hY);omega) (iZ a (zad hY)) s
     have hl:=iI a.x
     have hZ:(out.length+1)*17≤aV:=by unfold aV;omega
     rcases zaa a.ref with b1|b1
     ·simp only [b1,if_true]at h2
      have dd:=fm (l:=out++ [a.name]) (nx:=a.x.names) (n:=out.length+1) (by simp) (by simp;omega) (g:= .shared)
      simp only[zag,zaf,zai,encStr]at dd
      repeat' (first
 |simp only[go_sem,hD,hY,hZ,gC,b1,dd]
 |(with_reducible refine CU (nH _) ?_)
 |(with_reducible refine ax hQ ?_;exact aB))
      refine cv 1 1 ?_ ?_ (IH (rest,k+1,out++ [a.name]++a.x.names,_) ⟨g2,h2,by simp;omega,by simp<;>omega⟩ (zae _))
      ·(simp only[go_sem,hD,hY,hZ,gC,aw aZ,zag,zaf,zai,encStr];try exact aU)
      ·(simp only[go_sem,hD,hY,hZ,gC,aw aZ,zag,zaf,zai,encStr];try exact aU)
     ·simp only [b1,zab,if_false]at h2
      have dd:=fm (l:=out) (nx:=a.x.names) rfl (by omega) (g:= .shared)
      repeat' (first
 |simp only[go_sem,hD,hY,hZ,gC,b1,dd]
 |(with_reducible refine CU (nH _) ?_)
 |(with_reducible refine ax hQ ?_;exact aB))
      refine cv 1 1 ?_ ?_ (IH (rest,k+1,out++a.x.names,_) ⟨g2,h2,by simp;omega,by simp<;>omega⟩ (zae _))
      ·(simp only[go_sem,hD,hY,hZ,gC,aw aZ];try exact aU)
      ·(simp only[go_sem,hD,hY,hZ,gC,aw aZ];try exact aU)
theorem EJ {v:Sm} (hv:v.lP) (s:St):az Tryz.prog 152 [.agg (aY v)] s (.slice .shared 1 (v.said.map encStr)) s:=by
 refine az.pure ?_ (by simp only[D.bM,D.ok,qe];rfl) (by simp only[D.ok,Tag.ok,dz];rfl) s
 obtain⟨wj,iZ,dT⟩:=hv
 obtain⟨R,hG⟩ : ∃ R,v.said=R:=⟨_,rfl⟩
 rw[hG]
 simp only[Sm.said]at hG
 have hlen:v.args.length<1000000000:=by have:=Ar.dI v.args;omega
 have hx:=fun s=>oR (x:=v.x) (by omega) wj s
 have Ae:=iI v.x
 unfold S0
 refine az.go KD.h rfl fun B Q hB hQ=>?_
 have⟨hD,hY,hZ,gC⟩:=bb
 have hZ:17≤aV:=by unfold aV;omega
 by_cases hb:(v.kind != 10 && v.name != [])=true
 ·simp only [Sm.sg,hb,if_true]at hG
  rw[zar]at hb
  obtain⟨b1,b2⟩:=hb
  have dd:=fm (l:= [v.name]) (nx:=v.x.names) (n:=1) rfl (by simp;omega) (g:= .shared)
  simp only[zag,zaf,zai,encStr]at dd
  have b3:(v.name == [])=false:=by simpa using b2
  repeat' (first
 |simp only[go_sem,hD,hY,hZ,gC,b1,b2,b3,dd]
 |(with_reducible refine CU (hx _) ?_)
 | (with_reducible refine ax hQ ?_;exact aB))
  refine cv 1 1 ?_ ?_ (aN.ind (ι:=List Ar×Nat×List aF×Nat) (fun i=>v.args.drop i.2.1=i.1∧Ar.said i.2.2.1 i.1=R∧i.2.2.1.length+Ar.bq i.1≤2000000∧i.2.2.2=i.2.2.1.length) (fun i=>i.1.length)
   (fun i=> [(3, .slice (.tok 0) 1 (i.2.2.1.map encStr)),(1, .ptr 0 0),(25, .slice .shared 6 (v.args.map dE)),(26, .int .i64 (v.args.length:Int)),(27, .int .i64 (i.2.1:Int))]) (fun i=>⟨[aY v],[some i.2.2.2]⟩) ?_ (v.args,0,([v.name]++v.x.names),(v.x.names.length+1)) ⟨rfl,hG,by simp at Ae ⊢;omega,by simp⟩)
  ·(simp only[go_sem,hD,hY,hZ,gC,zag,zaf,zai,encStr];try exact aU)
  ·(simp only[go_sem,hD,hY,hZ,gC,zag,zaf,zai,encStr];try exact aU)
  rintro⟨rest,k,out,n'⟩ ⟨h1,h2,h3,h4⟩ IH
  dsimp only at h1 h2 h3 h4
  subst h4
  cases rest with
  |nil=>
   have hD:=drop_nil h1
   simp only[Ar.said]at h2
   subst h2
   repeat' (first
 |simp only[go_sem,hD,hY,hZ,gC]
 | (with_reducible refine ax hQ ?_;exact aB))
  | cons a rest=>
   obtain⟨hY,g2,hD,g4⟩:=drop_cons h1
   have aZ:k<4611686018427387904:=by omega
   simp only[Ar.said]at h2
   simp only[Ar.bq]at h3
   have nH:=fun s=>oR (x:=a.x) (by have:=Ar.cq (zad hY);omega) (iZ a (zad hY)) s
   have hl:=iI a.x
   have hZ:(out.length+1)*17≤aV:=by unfold aV;omega
   rcases zaa a.ref with b1|b1
   ·simp only [b1,if_true]at h2
    have dd:=fm (l:=out++ [a.name]) (nx:=a.x.names) (n:=out.length+1) (by simp) (by simp;omega) (g:= .shared)
    simp only[zag,zaf,zai,encStr]at dd
    repeat' (first
 |simp only[go_sem,hD,hY,hZ,gC,b1,dd]
 |(with_reducible refine CU (nH _) ?_)
 | (with_reducible refine ax hQ ?_;exact aB))
    refine cv 1 1 ?_ ?_ (IH (rest,k+1,out++ [a.name]++a.x.names,_) ⟨g2,h2,by simp;omega,by simp<;>omega⟩ (zae _))
    ·(simp only[go_sem,hD,hY,hZ,gC,aw aZ,zag,zaf,zai,encStr];try exact aU)
    ·(simp only[go_sem,hD,hY,hZ,gC,aw aZ,zag,zaf,zai,encStr];try exact aU)
   ·simp only [b1,zab,if_false]at h2
    have dd:=fm (l:=out) (nx:=a.x.names) rfl (by omega) (g:= .shared)
    repeat' (first
 |simp only[go_sem,hD,hY,hZ,gC,b1,dd]
 |(with_reducible refine CU (nH _) ?_)
 | (with_reducible refine ax hQ ?_;exact aB))
    refine cv 1 1 ?_ ?_ (IH (rest,k+1,out++a.x.names,_) ⟨g2,h2,by simp;omega,by simp<;>omega⟩ (zae _))
    ·(simp only[go_sem,hD,hY,hZ,gC,aw aZ];try exact aU)
    ·(simp only[go_sem,hD,hY,hZ,gC,aw aZ];try exact aU)
 ·simp only [Sm.sg,hb,zab,if_false,zaV]at hG
  have qC:(v.kind != 10 && v.name != [])=false:=by simpa using hb
  obtain⟨nx,JQ⟩ : ∃ nx,nx=v.x.names:=⟨_,rfl⟩
  rw[← JQ]at hG Ae
  simp only[← JQ]at hx
  by_cases Ez:nx = []
  ·subst Ez
   simp only[zai]at hx
   have dd : ∀ o:List (List D),fH 1 16 (.slice .full 0 []) (.slice .shared 1 []) ⟨o,[]⟩=some (.slice .full 0 [],⟨o,[]⟩):=fun o=>by simp[fH,aV]
   have HB:(v.kind != 10)=false∨(v.kind != 10)=true∧(v.name != [])=false:=by
    cases h1:(v.kind != 10)
    ·exact .inl rfl
    ·rw[h1]at qC;exact .inr ⟨rfl,by simpa using qC⟩
   rcases HB with b1|⟨b1,b2⟩
   ·rcases zaa (v.name != [])with b2 | b2
    all_goals
     have b3:(v.name == []) = !(v.name != []):=by simp only[bne,zbP]
     rw[b2]at b3
     repeat' (first
 |simp only[go_sem,hD,hY,hZ,gC,b1,b2,b3,zau,zax,dd]
 |(with_reducible refine CU (hx _) ?_)
 | (with_reducible refine ax hQ ?_;simp only [bF,bG,bZ,cb,go_sem,hD,hY,hZ,gC];repeat' (first | exact Ok.out | with_reducible refine ei ?_ ?_ | (simp;done))))
    all_goals
     refine aN.ln 3 1 rfl ?_
     simp only[go_sem,hD,hY,hZ,gC]
     refine di 1 1 (aN.ind (ι:=List Ar×Nat×List aF×Nat) (fun i=>v.args.drop i.2.1=i.1∧Ar.said i.2.2.1 i.1=R∧i.2.2.1.length+Ar.bq i.1≤2000000∧i.2.2.2=i.2.2.1.length) (fun i=>i.1.length)
      (fun i=> [(3, .slice (.tok 0) 1 (i.2.2.1.map encStr)),(1, .ptr 0 0),(25, .slice .shared 6 (v.args.map dE)),(26, .int .i64 (v.args.length:Int)),(27, .int .i64 (i.2.1:Int))]) (fun i=>⟨[aY v],[some i.2.2.2]⟩) ?_ (v.args,0,[],0) ⟨rfl,hG,by simp at Ae ⊢;omega,by simp⟩)
     rintro⟨rest,k,out,n'⟩ ⟨h1,h2,h3,h4⟩ IH
     dsimp only at h1 h2 h3 h4
     subst h4
     cases rest with
     |nil=>
      have hD:=drop_nil h1
      simp only[Ar.said]at h2
      subst h2
      repeat' (first
 |simp only[go_sem,hD,hY,hZ,gC]
 |(with_reducible refine ax hQ ?_;exact aB))
     | cons a rest=>
      obtain⟨hY,g2,hD,g4⟩:=drop_cons h1
      have aZ:k<4611686018427387904:=by omega
      simp only[Ar.said]at h2
      simp only[Ar.bq]at h3
      have nH:=fun s=>oR (x:=a.x) (by have:=Ar.cq (zad hY);omega) (iZ a (zad hY)) s
      have hl:=iI a.x
      have hZ:(out.length+1)*17≤aV:=by unfold aV;omega
      rcases zaa a.ref with b1|b1
      ·simp only [b1,if_true]at h2
       have dd:=fm (l:=out++ [a.name]) (nx:=a.x.names) (n:=out.length+1) (by simp) (by simp;omega) (g:= .shared)
       simp only[zag,zaf,zai,encStr]at dd
       repeat' (first
 |simp only[go_sem,hD,hY,hZ,gC,b1,dd]
 |(with_reducible refine CU (nH _) ?_)
 |(with_reducible refine ax hQ ?_;exact aB))
       refine cv 1 1 ?_ ?_ (IH (rest,k+1,out++ [a.name]++a.x.names,_) ⟨g2,h2,by simp;omega,by simp<;>omega⟩ (zae _))
       ·(simp only[go_sem,hD,hY,hZ,gC,aw aZ,zag,zaf,zai,encStr];try exact aU)
       ·(simp only[go_sem,hD,hY,hZ,gC,aw aZ,zag,zaf,zai,encStr];try exact aU)
      ·simp only [b1,zab,if_false]at h2
       have dd:=fm (l:=out) (nx:=a.x.names) rfl (by omega) (g:= .shared)
       repeat' (first
 |simp only[go_sem,hD,hY,hZ,gC,b1,dd]
 |(with_reducible refine CU (nH _) ?_)
 | (with_reducible refine ax hQ ?_;exact aB))
       refine cv 1 1 ?_ ?_ (IH (rest,k+1,out++a.x.names,_) ⟨g2,h2,by simp;omega,by simp<;>omega⟩ (zae _))
       ·(simp only[go_sem,hD,hY,hZ,gC,aw aZ];try exact aU)
       ·(simp only[go_sem,hD,hY,hZ,gC,aw aZ];try exact aU)
   ·have b3:(v.name == [])=true:=by simpa using b2
    repeat' (first
 |simp only[go_sem,hD,hY,hZ,gC,b1,b2,b3,dd]
 |(with_reducible refine CU (hx _) ?_)
 | (with_reducible refine ax hQ ?_;exact aB))
    refine aN.ln 3 1 rfl ?_
    simp only[go_sem,hD,hY,hZ,gC]
    refine di 1 1 (aN.ind (ι:=List Ar×Nat×List aF×Nat) (fun i=>v.args.drop i.2.1=i.1∧Ar.said i.2.2.1 i.1=R∧i.2.2.1.length+Ar.bq i.1≤2000000∧i.2.2.2=i.2.2.1.length) (fun i=>i.1.length)
     (fun i=> [(3, .slice (.tok 0) 1 (i.2.2.1.map encStr)),(1, .ptr 0 0),(25, .slice .shared 6 (v.args.map dE)),(26, .int .i64 (v.args.length:Int)),(27, .int .i64 (i.2.1:Int))]) (fun i=>⟨[aY v],[some i.2.2.2]⟩) ?_ (v.args,0,[],0) ⟨rfl,hG,by simp at Ae ⊢;omega,by simp⟩)
    rintro⟨rest,k,out,n'⟩ ⟨h1,h2,h3,h4⟩ IH
    dsimp only at h1 h2 h3 h4
    subst h4
    cases rest with
    |nil=>
     have hD:=drop_nil h1
     simp only[Ar.said]at h2
     subst h2
     repeat' (first
 |simp only[go_sem,hD,hY,hZ,gC]
 | (with_reducible refine ax hQ ?_;exact aB))
    | cons a rest=>
     obtain⟨hY,g2,hD,g4⟩:=drop_cons h1
     have aZ:k<4611686018427387904:=by omega
     simp only[Ar.said]at h2
     simp only[Ar.bq]at h3
     have nH:=fun s=>oR (x:=a.x) (by have:=Ar.cq (zad hY);omega) (iZ a (zad hY)) s
     have hl:=iI a.x
     have hZ:(out.length+1)*17≤aV:=by unfold aV;omega
     rcases zaa a.ref with b1|b1
     ·simp only [b1,if_true]at h2
      have dd:=fm (l:=out++ [a.name]) (nx:=a.x.names) (n:=out.length+1) (by simp) (by simp;omega) (g:= .shared)
      simp only[zag,zaf,zai,encStr]at dd
      repeat' (first
 |simp only[go_sem,hD,hY,hZ,gC,b1,dd]
 |(with_reducible refine CU (nH _) ?_)
 |(with_reducible refine ax hQ ?_;exact aB))
      refine cv 1 1 ?_ ?_ (IH (rest,k+1,out++ [a.name]++a.x.names,_) ⟨g2,h2,by simp;omega,by simp<;>omega⟩ (zae _))
      ·(simp only[go_sem,hD,hY,hZ,gC,aw aZ,zag,zaf,zai,encStr];try exact aU)
      ·(simp only[go_sem,hD,hY,hZ,gC,aw aZ,zag,zaf,zai,encStr];try exact aU)
     ·simp only [b1,zab,if_false]at h2
      have dd:=fm (l:=out) (nx:=a.x.names) rfl (by omega) (g:= .shared)
      repeat' (first
 |simp only[go_sem,hD,hY,hZ,gC,b1,dd]
 |(with_reducible refine CU (nH _) ?_)
 | (with_reducible refine ax hQ ?_;exact aB))
      refine cv 1 1 ?_ ?_ (IH (rest,k+1,out++a.x.names,_) ⟨g2,h2,by simp;omega,by simp<;>omega⟩ (zae _))
      ·(simp only[go_sem,hD,hY,hZ,gC,aw aZ];try exact aU)
      ·(simp only[go_sem,hD,hY,hZ,gC,aw aZ];try exact aU)
  ·have dd : ∀ o:List (List D),fH 1 16 (.slice .full 0 []) (.slice .shared 1 (nx.map encStr)) ⟨o,[]⟩=some (.slice (.tok 0) 1 (nx.map encStr),⟨o,[some nx.length]⟩):=fun o=>by
    have:nx.length*17≤aV:=by unfold aV;omega
    cases nx with
    |nil=>exact absurd rfl Ez
    |cons a r=>simp only[zat]at this;simp[fH,this]
   have HB:(v.kind != 10)=false∨(v.kind != 10)=true∧(v.name != [])=false:=by
    cases h1:(v.kind != 10)
    ·exact .inl rfl
    ·rw[h1]at qC;exact .inr ⟨rfl,by simpa using qC⟩
   rcases HB with b1|⟨b1,b2⟩
   ·rcases zaa (v.name != [])with b2 | b2
    all_goals
     have b3:(v.name == []) = !(v.name != []):=by simp only[bne,zbP]
     rw[b2]at b3
     repeat' (first
 |simp only[go_sem,hD,hY,hZ,gC,b1,b2,b3,zau,zax,dd]
 |(with_reducible refine CU (hx _) ?_)
 | (with_reducible refine ax hQ ?_;simp only [bF,bG,bZ,cb,go_sem,hD,hY,hZ,gC];repeat' (first | exact Ok.out | with_reducible refine ei ?_ ?_ | (simp;done))))
    all_goals
     refine di 1 1 (aN.ind (ι:=List Ar×Nat×List aF×Nat) (fun i=>v.args.drop i.2.1=i.1∧Ar.said i.2.2.1 i.1=R∧i.2.2.1.length+Ar.bq i.1≤2000000∧i.2.2.2=i.2.2.1.length) (fun i=>i.1.length)
      (fun i=> [(3, .slice (.tok 0) 1 (i.2.2.1.map encStr)),(1, .ptr 0 0),(25, .slice .shared 6 (v.args.map dE)),(26, .int .i64 (v.args.length:Int)),(27, .int .i64 (i.2.1:Int))]) (fun i=>⟨[aY v],[some i.2.2.2]⟩) ?_ (v.args,0,nx,_) ⟨rfl,hG,by simp at Ae ⊢;omega,by simp⟩)
     rintro⟨rest,k,out,n'⟩ ⟨h1,h2,h3,h4⟩ IH
     dsimp only at h1 h2 h3 h4
     subst h4
     cases rest with
     |nil=>
      have hD:=drop_nil h1
      simp only[Ar.said]at h2
      subst h2
      repeat' (first
 |simp only[go_sem,hD,hY,hZ,gC]
 |(with_reducible refine ax hQ ?_;exact aB))
     | cons a rest=>
      obtain⟨hY,g2,hD,g4⟩:=drop_cons h1
      have aZ:k<4611686018427387904:=by omega
      simp only[Ar.said]at h2
      simp only[Ar.bq]at h3
      have nH:=fun s=>oR (x:=a.x) (by have:=Ar.cq (zad hY);omega) (iZ a (zad hY)) s
      have hl:=iI a.x
      have hZ:(out.length+1)*17≤aV:=by unfold aV;omega
      rcases zaa a.ref with b1|b1
      ·simp only [b1,if_true]at h2
       have dd:=fm (l:=out++ [a.name]) (nx:=a.x.names) (n:=out.length+1) (by simp) (by simp;omega) (g:= .shared)
       simp only[zag,zaf,zai,encStr]at dd
       repeat' (first
 |simp only[go_sem,hD,hY,hZ,gC,b1,dd]
 |(with_reducible refine CU (nH _) ?_)
 |(with_reducible refine ax hQ ?_;exact aB))
       refine cv 1 1 ?_ ?_ (IH (rest,k+1,out++ [a.name]++a.x.names,_) ⟨g2,h2,by simp;omega,by simp<;>omega⟩ (zae _))
       ·(simp only[go_sem,hD,hY,hZ,gC,aw aZ,zag,zaf,zai,encStr];try exact aU)
       ·(simp only[go_sem,hD,hY,hZ,gC,aw aZ,zag,zaf,zai,encStr];try exact aU)
      ·simp only [b1,zab,if_false]at h2
       have dd:=fm (l:=out) (nx:=a.x.names) rfl (by omega) (g:= .shared)
       repeat' (first
 |simp only[go_sem,hD,hY,hZ,gC,b1,dd]
 |(with_reducible refine CU (nH _) ?_)
 | (with_reducible refine ax hQ ?_;exact aB))
       refine cv 1 1 ?_ ?_ (IH (rest,k+1,out++a.x.names,_) ⟨g2,h2,by simp;omega,by simp<;>omega⟩ (zae _))
       ·(simp only[go_sem,hD,hY,hZ,gC,aw aZ];try exact aU)
       ·(simp only[go_sem,hD,hY,hZ,gC,aw aZ];try exact aU)
   ·have b3:(v.name == [])=true:=by simpa using b2
    repeat' (first
 |simp only[go_sem,hD,hY,hZ,gC,b1,b2,b3,dd]
 |(with_reducible refine CU (hx _) ?_)
 | (with_reducible refine ax hQ ?_;exact aB))
    refine di 1 1 (aN.ind (ι:=List Ar×Nat×List aF×Nat) (fun i=>v.args.drop i.2.1=i.1∧Ar.said i.2.2.1 i.1=R∧i.2.2.1.length+Ar.bq i.1≤2000000∧i.2.2.2=i.2.2.1.length) (fun i=>i.1.length)
     (fun i=> [(3, .slice (.tok 0) 1 (i.2.2.1.map encStr)),(1, .ptr 0 0),(25, .slice .shared 6 (v.args.map dE)),(26, .int .i64 (v.args.length:Int)),(27, .int .i64 (i.2.1:Int))]) (fun i=>⟨[aY v],[some i.2.2.2]⟩) ?_ (v.args,0,nx,_) ⟨rfl,hG,by simp at Ae ⊢;omega,by simp⟩)
    rintro⟨rest,k,out,n'⟩ ⟨h1,h2,h3,h4⟩ IH
    dsimp only at h1 h2 h3 h4
    subst h4
    cases rest with
    |nil=>
     have hD:=drop_nil h1
     simp only[Ar.said]at h2
     subst h2
     repeat' (first
 |simp only[go_sem,hD,hY,hZ,gC]
 | (with_reducible refine ax hQ ?_;exact aB))
    | cons a rest=>
     obtain⟨hY,g2,hD,g4⟩:=drop_cons h1
     have aZ:k<4611686018427387904:=by omega
     simp only[Ar.said]at h2
     simp only[Ar.bq]at h3
     have nH:=fun s=>oR (x:=a.x) (by have:=Ar.cq (zad hY);omega) (iZ a (zad hY)) s
     have hl:=iI a.x
     have hZ:(out.length+1)*17≤aV:=by unfold aV;omega
     rcases zaa a.ref with b1|b1
     ·simp only [b1,if_true]at h2
      have dd:=fm (l:=out++ [a.name]) (nx:=a.x.names) (n:=out.length+1) (by simp) (by simp;omega) (g:= .shared)
      simp only[zag,zaf,zai,encStr]at dd
      repeat' (first
 |simp only[go_sem,hD,hY,hZ,gC,b1,dd]
 |(with_reducible refine CU (nH _) ?_)
 |(with_reducible refine ax hQ ?_;exact aB))
      refine cv 1 1 ?_ ?_ (IH (rest,k+1,out++ [a.name]++a.x.names,_) ⟨g2,h2,by simp;omega,by simp<;>omega⟩ (zae _))
      ·(simp only[go_sem,hD,hY,hZ,gC,aw aZ,zag,zaf,zai,encStr];try exact aU)
      ·(simp only[go_sem,hD,hY,hZ,gC,aw aZ,zag,zaf,zai,encStr];try exact aU)
     ·simp only [b1,zab,if_false]at h2
      have dd:=fm (l:=out) (nx:=a.x.names) rfl (by omega) (g:= .shared)
      repeat' (first
 |simp only[go_sem,hD,hY,hZ,gC,b1,dd]
 |(with_reducible refine CU (nH _) ?_)
 |(with_reducible refine ax hQ ?_;exact aB))
      refine cv 1 1 ?_ ?_ (IH (rest,k+1,out++a.x.names,_) ⟨g2,h2,by simp;omega,by simp<;>omega⟩ (zae _))
      ·(simp only[go_sem,hD,hY,hZ,gC,aw aZ];try exact aU)
      ·(simp only[go_sem,hD,hY,hZ,gC,aw aZ];try exact aU)
theorem lY : ∀ (a b:List It) (n:Nat),It.eU n (a++b)=(It.eU n a && It.eU (n+a.length) b)
 | [],b,n=>by simp[It.eU]
 |i::a,b,n=>by
  simp only[zaR,It.eU,lY a b (n+1),zat]
  have:n+1+a.length=n+(a.length+1):=by omega
  rw[this]
  split<;>simp
theorem G5 (n:Nat) (i:It):It.eU n [i] = true↔i.s.id=((n+1:Nat):Int)∧i.deep≤12∧i.s.one=true:=by
 simp only[It.eU]
 split
 ·rename_i h
  simp only[zaC,bne_iff_ne,ne_eq,decide_eq_true_eq,zaH]at h
  refine⟨fun h=>(Bool.false_ne_true h).elim,fun⟨h1,h2,h3⟩=>?_⟩
  rcases h with (h|h)|h
  ·exact(h h1).elim
  ·omega
  ·rw[h]at h3;cases h3
 ·rename_i h
  simp only[zaC,bne_iff_ne,ne_eq,decide_eq_true_eq,zaH,not_or,Decidable.not_not,zbb]at h
  exact⟨fun _=>⟨h.1.1,by omega,h.2⟩,fun _=>rfl⟩
mutual
theorem C4 (deep a7:Int) (aK:Bool) : ∀ (s:Sm) (out:List It),∃ new,gN deep a7 aK out s=out++(⟨s,deep,a7,aK⟩::new)
 | ⟨id,kind,labels,name,proc,x,has,args,a8,e⟩,out=>by
  simp only[gN]
  split
  ·obtain⟨n1,h1⟩:=sK (deep+1) id false a8 (out++ [⟨⟨id,kind,labels,name,proc,x,has,args,a8,e⟩,deep,a7,aK⟩])
   obtain⟨n2,h2⟩:=sK (deep+1) id true e (dJ (deep+1) id false (out++ [⟨⟨id,kind,labels,name,proc,x,has,args,a8,e⟩,deep,a7,aK⟩]) a8)
   rw[h2,h1]
   exact⟨n1++n2,by simp⟩
  ·exact⟨[],rfl⟩
theorem sK (deep a7:Int) (aK:Bool) : ∀ (l:List Sm) (out:List It),∃ new,dJ deep a7 aK out l=out++new
 | [],out=>⟨[],by simp[dJ]⟩
 | s::l,out=>by
  simp only[dJ]
  split
  ·obtain⟨n1,h1⟩:=C4 deep a7 aK s out
   obtain⟨n2,h2⟩:=sK deep a7 aK l (gN deep a7 aK out s)
   rw[h2,h1]
   exact⟨⟨s,deep,a7,aK⟩::n1++n2,by simp⟩
  ·exact⟨[],by simp⟩
end
theorem JR {nest:Int} {n:Nat} {s:Sm} (h:(Sm.rK nest n s).1=true) :
 n+1≤200∧s.id=((n+1:Nat):Int)∧s.one=true∧(Sm.iC (nest+1) (n+1) s.a8).1=true∧(Sm.iC (nest+1) (Sm.iC (nest+1) (n+1) s.a8).2 s.aK).1=true∧
 (Sm.rK nest n s).2=(Sm.iC (nest+1) (Sm.iC (nest+1) (n+1) s.a8).2 s.aK).2:=by
 rw[IK]at h ⊢
 split at h
 ·cases h
 rename_i h1
 simp only[zaC,bne_iff_ne,ne_eq,decide_eq_true_eq,zaH,not_or,Decidable.not_not,zbb]at h1
 split at h
 ·cases h
 rename_i h2
 have sG:(Sm.iC (nest+1) (n+1) s.a8).1=true:=by simpa using h2
 refine⟨by omega,h1.1.1.2, ?_,sG,h, ?_⟩
 ·rw[G4,h1.1.2,h1.2];rfl
 ·rw[if_neg (by simp only[zaC,bne_iff_ne,ne_eq,decide_eq_true_eq,zaH,not_or,Decidable.not_not,zbb];exact h1),if_neg h2]
theorem vB {nest:Int} {n:Nat} {l:List Sm} (h:(Sm.iC nest n l).1=true):(l = []∨nest≤12)∧Sm.iC nest n l=Sm.fI nest n l:=by
 unfold Sm.iC gate at *
 split at h
 ·cases h
 ·rename_i hc
  rw[if_neg hc]
  refine⟨?_,rfl⟩
  simp only[zar,decide_eq_true_eq,not_and]at hc
  cases l with
  |nil=>exact .inl rfl
  |cons s l=>right;simp only[zat]at hc;omega
mutual
theorem VD : ∀ (s:Sm) (nest a7:Int) (aK:Bool) (n:Nat) (out:List It),nest≤12→out.length≤n→n≤200→(Sm.rK nest n s).1=true→
 ∃ new,gN nest a7 aK out s=out++new∧It.eU n new=true∧n+new.length=(Sm.rK nest n s).2∧(Sm.rK nest n s).2≤200
 | ⟨id,kind,labels,name,proc,x,has,args,a8,e⟩,nest,a7,aK,n,out,VE,ho,hn,h=>by
  obtain⟨h1,h2,h3,h4,h5,h6⟩:=JR h
  dsimp only at h2 h4 h5 h6
  rw[h6]
  obtain⟨g1,e1⟩:=vB h4
  rw[e1]at h4 h5 ⊢
  obtain⟨g2,e2⟩:=vB h5
  rw[e2]at h5 ⊢
  have iD:It.eU n [(⟨⟨id,kind,labels,name,proc,x,has,args,a8,e⟩,nest,a7,aK⟩:It)] = true:=(G5 _ _).2 ⟨h2,VE,h3⟩
  obtain⟨n1,k1,k2,k3,k4⟩:=yf a8 (nest+1) id false (n+1) (out++ [⟨⟨id,kind,labels,name,proc,x,has,args,a8,e⟩,nest,a7,aK⟩]) g1 (by simp;omega) h1 h4
  obtain⟨n2,j1,j2,j3,j4⟩:=yf e (nest+1) id true _ (out++ [⟨⟨id,kind,labels,name,proc,x,has,args,a8,e⟩,nest,a7,aK⟩]++n1) g2 (by simp;omega) k4 h5
  simp only[gN]
  rw[if_pos (by simpa using VE),k1,j1]
  refine⟨⟨⟨id,kind,labels,name,proc,x,has,args,a8,e⟩,nest,a7,aK⟩::(n1++n2),by simp, ?_, ?_,j4⟩
  ·have:(⟨⟨id,kind,labels,name,proc,x,has,args,a8,e⟩,nest,a7,aK⟩:It)::(n1++n2) = [⟨⟨id,kind,labels,name,proc,x,has,args,a8,e⟩,nest,a7,aK⟩]++n1++n2:=by simp
   rw[this,lY,lY,iD,zbf]
   have e3:n+([(⟨⟨id,kind,labels,name,proc,x,has,args,a8,e⟩,nest,a7,aK⟩:It)]++n1).length=(Sm.fI (nest+1) (n+1) a8).2:=by simp;omega
   rw[e3,j2]
   have e4:n + [(⟨⟨id,kind,labels,name,proc,x,has,args,a8,e⟩,nest,a7,aK⟩:It)].length=n+1:=rfl
   rw[e4,k2];rfl
  ·simp only[zat,zaj];omega
theorem yf : ∀ (l:List Sm) (nest a7:Int) (aK:Bool) (n:Nat) (out:List It),(l = []∨nest≤12)→out.length≤n→n≤200→(Sm.fI nest n l).1=true→
 ∃ new,dJ nest a7 aK out l=out++new∧It.eU n new=true∧n+new.length=(Sm.fI nest n l).2∧(Sm.fI nest n l).2≤200
 | [],nest,a7,aK,n,out,VE,ho,hn,h=>⟨[],by simp[dJ],rfl,by simp[Sm.fI],by simpa[Sm.fI]using hn⟩
 |s::l,nest,a7,aK,n,out,VE,ho,hn,h=>by
  have afM:nest≤12:=VE.resolve_left (by simp)
  simp only[Sm.fI]at h ⊢
  split at h
  ·cases h
  rename_i hc
  rw[if_neg hc]
  obtain⟨n1,k1,k2,k3,k4⟩:=VD s nest a7 aK n out afM ho hn (by simpa using hc)
  obtain⟨n2,j1,j2,j3,j4⟩:=yf l nest a7 aK _ (out++n1) (.inr afM) (by simp;omega) k4 h
  simp only[dJ]
  rw[if_pos (by simp only[decide_eq_true_eq];omega),k1,j1]
  refine⟨n1++n2,by simp, ?_,by simp;omega,j4⟩
  rw[lY,k2,k3,j2];rfl
end
mutual
theorem VF : ∀ (s:Sm) (nest a7:Int) (aK:Bool) (n:Nat) (out new:List It),gN nest a7 aK out s=out++new→It.eU n new=true→out.length≤n→n+new.length≤200→
 Sm.rK nest n s=(true,n+new.length)∧nest≤12
 | ⟨id,kind,labels,name,proc,x,has,args,a8,e⟩,nest,a7,aK,n,out,new,fx,hm,ho,hn=>by
  obtain⟨n0,h0⟩:=C4 nest a7 aK ⟨id,kind,labels,name,proc,x,has,args,a8,e⟩ out
  have e0:new = ⟨⟨id,kind,labels,name,proc,x,has,args,a8,e⟩,nest,a7,aK⟩::n0:=List.append_cancel_left (fx.symm.trans h0)
  subst e0
  have ajB:(⟨⟨id,kind,labels,name,proc,x,has,args,a8,e⟩,nest,a7,aK⟩:It)::n0 = [⟨⟨id,kind,labels,name,proc,x,has,args,a8,e⟩,nest,a7,aK⟩]++n0:=rfl
  rw[ajB,lY,zar]at hm
  obtain⟨jq,jr⟩:=hm
  obtain⟨c1,c2,c3⟩:=(G5 _ _).1 jq
  dsimp only at c1 c2 c3
  simp only[zat]at hn ⊢
  have YN:dJ (nest+1) id true (dJ (nest+1) id false (out++ [⟨⟨id,kind,labels,name,proc,x,has,args,a8,e⟩,nest,a7,aK⟩]) a8) e=out++([⟨⟨id,kind,labels,name,proc,x,has,args,a8,e⟩,nest,a7,aK⟩]++n0):=by
   simp only[gN]at fx
   rw[if_pos (by simpa using c2)]at fx
   exact fx
  obtain⟨n1,g1⟩:=sK (nest+1) id false a8 (out++ [⟨⟨id,kind,labels,name,proc,x,has,args,a8,e⟩,nest,a7,aK⟩])
  obtain⟨n2,g2⟩:=sK (nest+1) id true e (dJ (nest+1) id false (out++ [⟨⟨id,kind,labels,name,proc,x,has,args,a8,e⟩,nest,a7,aK⟩]) a8)
  have en:n0=n1++n2:=by
   rw[g2,g1]at YN
   simp only[zaB,List.append_cancel_left_eq]at YN
   exact YN.symm
  subst en
  have YO:It.eU (n+1) (n1++n2)=true:=jr
  rw[lY,zar]at YO
  simp only[zaj]at hn ⊢
  obtain⟨r1,r2⟩:=yh a8 (nest+1) id false (n+1) _ n1 g1 YO.1 (by simp;omega) (by omega)
  obtain⟨q1,q2⟩:=yh e (nest+1) id true (n+1+n1.length) _ n2 g2 YO.2 (by rw[g1];simp;omega) (by omega)
  refine⟨?_,c2⟩
  have gg : ∀ {l:List Sm} {m:Nat} {r:Bool×Nat},Sm.fI (nest+1) m l=r→(l = []∨nest+1≤12)→Sm.iC (nest+1) m l=r:=by
   intro l m r h1 h2
   unfold Sm.iC gate
   rw[if_neg]
   ·exact h1
   ·simp only [zar,decide_eq_true_eq,not_and]
    rcases h2 with h2|h2
    ·subst h2;simp
    ·omega
  have t1:=gg r1 r2
  have t2:=gg q1 q2
  rw[IK]
  dsimp only
  rw[t1]
  dsimp only
  rw[t2]
  rw[G4,zar]at c3
  rw[if_neg]
  ·simp;omega
  ·simp only [zaC,bne_iff_ne,ne_eq,decide_eq_true_eq,zaH,not_or,Decidable.not_not,zbb]
   exact⟨⟨⟨by omega,c1⟩,c3.1⟩,c3.2⟩
theorem yh : ∀ (l:List Sm) (nest a7:Int) (aK:Bool) (n:Nat) (out new:List It),dJ nest a7 aK out l=out++new→It.eU n new=true→out.length≤n→n+new.length≤200→
 Sm.fI nest n l=(true,n+new.length)∧(l = []∨nest≤12)
 | [],nest,a7,aK,n,out,new,fx,hm,ho,hn=>by
  simp only[dJ]at fx
  have:new = []:=by simpa using fx
  subst this
  exact⟨by simp[Sm.fI], .inl rfl⟩
 | s::l,nest,a7,aK,n,out,new,fx,hm,ho,hn=>by
  simp only[dJ]at fx
  rw[if_pos (by simp only[decide_eq_true_eq];omega)]at fx
  obtain⟨n1,g1⟩:=C4 nest a7 aK s out
  obtain⟨n2,g2⟩:=sK nest a7 aK l (gN nest a7 aK out s)
  have en:new=(⟨s,nest,a7,aK⟩::n1)++n2:=by
   rw[g2,g1,zaB,List.append_cancel_left_eq]at fx
   exact fx.symm
  subst en
  rw[lY,zar]at hm
  rw[zaj]at hn ⊢
  obtain⟨r1,r2⟩:=VF s nest a7 aK n out _ g1 hm.1 ho (by omega)
  obtain⟨q1,q2⟩:=yh l nest a7 aK (n+(⟨s,nest,a7,aK⟩::n1:List It).length) _ n2 g2 hm.2 (by rw[g1,zaj];omega) (by omega)
  refine⟨?_, .inr r2⟩
  simp only[Sm.fI,r1,zau,zab,↓reduceIte,q1]
  congr 1;omega
end
theorem C5 : ∀ (l:List Pc) (out:List It),out.length≤200→(Pc.fI out.length l=true↔Pc.lF l=true∧∃ new,allM out l=out++new∧(out++new).length≤200∧It.eU out.length new=true)
 | [],out,ho=>by simp[Pc.fI,Pc.lF,allM,It.eU];exact ho
 | f::l,out,ho=>by
  have kj : ∀ (l:List Pc) (out:List It),∃ new,allM out l=out++new:=by
   intro l
   induction l with
   |nil=>intro out;exact⟨[],by simp[allM]⟩
   | cons f l ih=>
    intro out
    simp only[allM]
    split
    ·exact⟨_,rfl⟩
    ·obtain⟨n1,h1⟩:=ih (out++f.flat)
     exact⟨f.flat++n1,by rw[h1,zaB]⟩
  simp only[Pc.fI,Pc.lF]
  have DW:(decide ((f.params.length:Int) > 8) ||decide ((f.vars.length:Int) > 16) || !(isName f.name) || !(ez f.vars) || !(ez f.fin))=(!(isName f.name) ||decide ((f.params.length:Int) > 8) ||decide ((f.vars.length:Int) > 16) || !(ez f.vars) || !(ez f.fin)):=by
   cases isName f.name<;>simp
  rw[DW]
  split
  ·simp
  split
  ·simp
  have hg:Sm.iC 1 out.length f.body=Sm.fI 1 out.length f.body:=by unfold Sm.iC gate;rw[if_neg (by simp)]
  rw[hg]
  constructor
  ·intro h
   split at h
   ·cases h
   rename_i hc
   obtain⟨n1,k1,k2,k3,k4⟩:=yf f.body 1 0 false out.length [] (.inr (by omega)) (by simp) ho (by simpa using hc)
   have fx:f.flat=n1:=by unfold Pc.flat;rw[k1];rfl
   rw[← k3, ← zaj]at h
   obtain⟨hh,n2,j1,j2,j3⟩:=(C5 l (out++n1) (by rw[zaj];omega)).1 h
   refine⟨hh,n1++n2, ?_,by simpa using j2, ?_⟩
   ·simp only [allM,fx]
    rw[if_neg (by simp only[zaj,decide_eq_true_eq];omega),j1,zaB]
   ·rw[lY,k2, ← zaj,j3];rfl
  ·rintro⟨hh,new,j1,j2,j3⟩
   simp only[allM]at j1
   split at j1
   ·rename_i hc
    have:new=f.flat:=(List.append_cancel_left j1).symm
    subst this
    simp only[decide_eq_true_eq]at hc
    omega
   rename_i hc
   simp only[decide_eq_true_eq]at hc
   obtain⟨n2,g2⟩:=kj l (out++f.flat)
   have en:new=f.flat++n2:=by
    rw[g2,zaB]at j1
    exact(List.append_cancel_left j1).symm
   subst en
   rw[lY,zar]at j3
   rw[zaj,zaj]at j2
   obtain⟨r1,_⟩:=yh f.body 1 0 false out.length [] f.flat (by unfold Pc.flat;rfl) j3.1 (by simp) (by omega)
   rw[r1]
   simp only[zau,zab,↓reduceIte]
   rw[← zaj]
   exact(C5 l (out++f.flat) (by rw[zaj];omega)).2 ⟨hh,n2,g2,by simp;omega,by rw[zaj];exact j3.2⟩
theorem DX (p:Pg):p.IM=p.may:=by
 have h:=C5 p.procs [] (by simp)
 unfold Pg.IM Pg.may
 split
 ·rfl
 ·have e:Pc.fI 0 p.procs=(if !(Pc.lF p.procs)then false else if decide ((p.all.length:Int) > 200)then false else It.eU 0 p.all):=by
   rw[Bool.eq_iff_iff]
   have h':Pc.fI 0 p.procs=true↔_:=h
   rw[h']
   have ha:p.all=allM [] p.procs:=rfl
   constructor
   ·rintro⟨h1,new,h2,h3,h4⟩
    rw[ha,h2,h1]
    simp only[zaV]at h3 ⊢
    simp only[zau,zab,↓reduceIte]
    rw[if_neg (by simp only[decide_eq_true_eq];omega)]
    exact h4
   ·intro h1
    cases hh:Pc.lF p.procs
    ·rw[hh]at h1;simp at h1
    ·rw [hh]at h1
     simp only[zau,zab,↓reduceIte]at h1
     split at h1
     ·cases h1
     ·rename_i hc
      simp only[decide_eq_true_eq]at hc
      exact⟨rfl,p.all,by rw[ha];rfl,by simp;omega,h1⟩
  exact e
def Fu (x:aF):List aF→Bool
 | []=>false
 |s::l=>if x==s then true else Fu x l
theorem MW (x:aF) : ∀ l:List aF,Fu x l=dS l x
 | []=>rfl
 | s::l=>by
  have h1:=gK (s::l) x
  have h2:=gK l x
  have h3:=MW x l
  simp only[Fu]
  by_cases e:x=s
  ·subst e;simp only[beq_self_eq_true,if_true];exact(h1.2 zaA).symm
  ·have e':(x==s)=false:=by simp [e]
   simp only[e',zab,if_false,h3]
   cases ha:dS l x<;>cases hb:dS (s::l) x<;>simp_all
def pW (pre:List aF):List aF→Bool
 | []=>false
 |s::l=>if dS pre s then true else pW (pre++ [s]) l
def er (l:List aF):Bool:=pW [] l
theorem yi {l:List aF} {k:Nat} {a:aF} (h:l[k]? = some a):l.take (k+1)=l.take k++ [a]:=by rw[List.take_add_one,h];rfl
theorem vR {l:List aF} (hl:l.length<4611686018427387904) (x:aF) (g:Tag) (s:St):az Tryz.prog 154 [.slice g 1 (l.map encStr), .str x] s (.bool (dS l x)) s:=by
 refine az.MM (d':= .slice .shared 1 (l.map encStr)) ?_ (Wk.shared _ _ _)
 refine az.pure ?_ (by simp[D.bM,D.ok,Tag.ok,dz]) rfl s
 rw[← C2]
 generalize h:tD x l=p
 unfold S0
 refine az.go OV.h rfl fun B Q hB hQ=>?_
 have⟨hD,hY,hZ,gC⟩:=bb
 repeat' (first
 |simp only[go_sem,hD,hY,hZ,gC]
 |(with_reducible first|refine cf fun hc=>?_|refine cj fun hc=>?_|refine cm (fun hc=>?_) fun hc=>?_)<;>(try simp only[hc,bs,↓reduceIte]at h)<;>try simp only[hc]
 |(with_reducible refine ax hQ ?_;exact fL))
 refine di 0 0 (aN.ind (ι:=List aF×Nat) (fun i=>l.drop i.2=i.1∧tD x i.1=p) (fun i=>i.1.length)
  (fun i=> [(0, .slice .shared 1 (l.map encStr)),(1, .str x),(7, .int .i64 (l.length:Int)),(8, .int .i64 (i.2:Int))]) (fun i=>⟨[],[]⟩) ?_ (l,0) ⟨rfl,h⟩)
 rintro⟨rest,k⟩ ⟨h1,h⟩ IH
 dsimp only at h1 h
 cases rest with
 |nil=>
  have hD:=drop_nil h1
  simp only[tD]at h
  repeat' (first
 |simp only[go_sem,hD,hY,hZ,gC]
 |(with_reducible first|refine cf fun hc=>?_|refine cj fun hc=>?_|refine cm (fun hc=>?_) fun hc=>?_)<;>(try simp only[hc,bs,↓reduceIte]at h)<;>try simp only[hc]
 |(with_reducible refine ax hQ ?_;exact fL))
 |cons a rest=>
  obtain⟨hY,g2,hD,g4⟩:=drop_cons h1
  have aZ:k<4611686018427387904:=by omega
  simp only[tD]at h
  repeat' (first
 |simp only[go_sem,hD,hY,hZ,gC]
 |(with_reducible first|refine cf fun hc=>?_|refine cj fun hc=>?_|refine cm (fun hc=>?_) fun hc=>?_)<;>(try simp only[hc,bs,↓reduceIte]at h)<;>try simp only[hc]
 |(with_reducible refine ax hQ ?_;exact fL))
  refine cv 0 0 ?_ ?_ (IH (rest,k+1) ⟨g2,h⟩ (zae _))
  ·(simp only[go_sem,hD,hY,hZ,gC,aw aZ];try exact aU)
  ·(simp only[go_sem,hD,hY,hZ,gC,aw aZ];try exact aU)
theorem Fv {l:List aF} (hl:l.length<4611686018427387904) (g:Tag) (s:St):az Tryz.prog 128 [.slice g 1 (l.map encStr)] s (.bool (er l)) s:=by
 refine az.MM (d':= .slice .shared 1 (l.map encStr)) ?_ (Wk.shared _ _ _)
 refine az.pure ?_ (by simp[D.bM,D.ok,Tag.ok,dz]) rfl s
 generalize h:er l=p
 simp only[er]at h
 unfold S0
 refine az.go GQ.h rfl fun B Q hB hQ=>?_
 have⟨hD,hY,hZ,gC⟩:=bb
 repeat' (first
 |simp only[go_sem,hD,hY,hZ,gC]
 |(with_reducible first|refine cf fun hc=>?_|refine cj fun hc=>?_|refine cm (fun hc=>?_) fun hc=>?_)<;>(try simp only[hc,bs,↓reduceIte]at h)<;>try simp only[hc]
 |(with_reducible refine ax hQ ?_;exact fL))
 refine di 0 0 (aN.ind (ι:=List aF×Nat) (fun i=>l.drop i.2=i.1∧pW (l.take i.2) i.1=p) (fun i=>i.1.length)
  (fun i=> [(0, .slice .shared 1 (l.map encStr)),(5, .slice .shared 1 (l.map encStr)),(6, .int .i64 (l.length:Int)),(7, .int .i64 (i.2:Int))]) (fun i=>⟨[],[]⟩) ?_ (l,0) ⟨rfl,h⟩)
 rintro⟨rest,k⟩ ⟨h1,h⟩ IH
 dsimp only at h1 h
 cases rest with
 |nil=>
  have hD:=drop_nil h1
  simp only[pW]at h
  repeat' (first
 |simp only[go_sem,hD,hY,hZ,gC]
 |(with_reducible first|refine cf fun hc=>?_|refine cj fun hc=>?_|refine cm (fun hc=>?_) fun hc=>?_)<;>(try simp only[hc,bs,↓reduceIte]at h)<;>try simp only[hc]
 |(with_reducible refine ax hQ ?_;exact fL))
 |cons a rest=>
  obtain⟨hY,g2,hD,g4⟩:=drop_cons h1
  have aZ:k<4611686018427387904:=by omega
  simp only[pW]at h
  have hc:=kF (l:=l.take k) (by rw[zbO];omega) a
  have e1:List.drop 0 (List.take k (l.map encStr))=(l.take k).map encStr:=by simp[List.map_take]
  have c1:((0:Int)≤(k:Int))=True:=by simp
  have c2:((k:Int)≤(l.length:Int))=True:=by simp only[eq_iff_iff,iff_true];omega
  have e2:List.take k (l.map encStr)=(l.take k).map encStr:=by simp[List.map_take]
  repeat' (first
 |simp only[go_sem,hD,hY,hZ,gC,e1,e2,c1,c2,or_true,true_and,and_self,ite_self,zaQ,List.drop_zero]
 |(with_reducible refine CU (hc _ _) ?_)
 |(with_reducible first|refine cf fun hc=>?_|refine cj fun hc=>?_|refine cm (fun hc=>?_) fun hc=>?_)<;>(try simp only[hc,bs,↓reduceIte]at h)<;>try simp only[hc]
 |(with_reducible refine ax hQ ?_;(try cases h);simp only[bF,bG,bZ,cb,go_sem,hD,hY,hZ,gC,e1,e2,c1,c2,or_true,true_and,and_self,ite_self,zaQ,List.drop_zero];try exact eQ))
  refine cv 0 0 ?_ ?_ (IH (rest,k+1) ⟨g2,by dsimp only;rw[yi (by assumption)];exact h⟩ (zae _))
  ·(simp only[go_sem,hD,hY,hZ,gC,aw aZ];try exact aU)
  ·(simp only[go_sem,hD,hY,hZ,gC,aw aZ];try exact aU)
theorem xi {l:List aF} (hl:l.length<4611686018427387904) (g:Tag) (s:St):az Tryz.prog 150 [.slice g 1 (l.map encStr)] s (.bool (er l)) s:=by
 refine az.MM (d':= .slice .shared 1 (l.map encStr)) ?_ (Wk.shared _ _ _)
 refine az.pure ?_ (by simp[D.bM,D.ok,Tag.ok,dz]) rfl s
 generalize h:er l=p
 simp only[er]at h
 unfold S0
 refine az.go Ik.h rfl fun B Q hB hQ=>?_
 have⟨hD,hY,hZ,gC⟩:=bb
 repeat' (first
 |simp only[go_sem,hD,hY,hZ,gC]
 |(with_reducible first|refine cf fun hc=>?_|refine cj fun hc=>?_|refine cm (fun hc=>?_) fun hc=>?_)<;>(try simp only[hc,bs,↓reduceIte]at h)<;>try simp only[hc]
 |(with_reducible refine ax hQ ?_;exact fL))
 refine di 0 0 (aN.ind (ι:=List aF×Nat) (fun i=>l.drop i.2=i.1∧pW (l.take i.2) i.1=p) (fun i=>i.1.length)
  (fun i=> [(0, .slice .shared 1 (l.map encStr)),(6, .int .i64 (l.length:Int)),(7, .int .i64 (i.2:Int))]) (fun i=>⟨[],[]⟩) ?_ (l,0) ⟨rfl,h⟩)
 rintro⟨rest,k⟩ ⟨h1,h⟩ IH
 dsimp only at h1 h
 cases rest with
 |nil=>
  have hD:=drop_nil h1
  simp only[pW]at h
  repeat' (first
 |simp only[go_sem,hD,hY,hZ,gC]
 |(with_reducible first|refine cf fun hc=>?_|refine cj fun hc=>?_|refine cm (fun hc=>?_) fun hc=>?_)<;>(try simp only[hc,bs,↓reduceIte]at h)<;>try simp only[hc]
 |(with_reducible refine ax hQ ?_;exact fL))
 |cons a rest=>
  obtain⟨hY,g2,hD,g4⟩:=drop_cons h1
  have aZ:k<4611686018427387904:=by omega
  have VG:=hY
  simp only[pW]at h
  repeat' (first
 |simp only[go_sem,hD,hY,hZ,gC]
 | (with_reducible refine ax hQ ?_;exact aB))
  obtain⟨q,hq⟩ : ∃ q,Fu a (l.take k)=q:=⟨_,rfl⟩
  rw[← MW,hq]at h
  refine di 0 0 (aN.ind (ι:=List aF×Nat) (fun i=>(l.take k).drop i.2=i.1∧Fu a i.1=q∧i.2≤k) (fun i=>i.1.length)
   (fun i=> [(0, .slice .shared 1 (l.map encStr)),(3, .int .i64 (k:Int)),(4, .int .i64 (i.2:Int)),(6, .int .i64 (l.length:Int)),(7, .int .i64 (k:Int))]) (fun i=>⟨[],[]⟩) ?_ (l.take k,0) ⟨rfl,hq,zaz _⟩)
  rintro⟨po,j⟩ ⟨j1,j2,j3⟩ qo
  dsimp only at j1 j2 j3
  cases po with
  |nil=>
   have hj:j=k:=by have:=zaP.1 j1;rw[zbO]at this;omega
   subst hj
   simp only[Fu]at j2
   subst j2
   simp only[zab,if_false]at h
   repeat' (first
 |simp only[go_sem,hD,hY,hZ,gC,Int.lt_irrefl,decide_false]
 | (with_reducible refine ax hQ ?_;exact aB))
   refine cv 0 0 ?_ ?_ (IH (rest,j+1) ⟨g2,by dsimp only;rw[yi VG];exact h⟩ (zae _))
   ·(simp only[go_sem,hD,hY,hZ,gC,aw aZ];try exact aU)
   ·(simp only[go_sem,hD,hY,hZ,gC,aw aZ];try exact aU)
  | cons b po=>
   obtain⟨fe,oe,iQ,G6⟩:=drop_cons j1
   have rz:j<k:=by rw[zbO]at G6;omega
   have gn:j<4611686018427387904:=by omega
   have CK:l[j]? = some b:=by rw[zaY]at fe;simpa[rz]using fe
   have hlj:decide ((j:Int)<(k:Int))=true:=by simp;omega
   have hY':=CK
   simp only[Fu]at j2
   cases CZ:(a==b)
   ·simp only [CZ,zab,if_false]at j2
    repeat' (first
 |simp only[go_sem,hD,hY,hZ,gC,hlj,CK,VG,CZ]
 |(with_reducible first|refine cf fun hc=>?_|refine cj fun hc=>?_|refine cm (fun hc=>?_) fun hc=>?_)<;>(try simp only[hc,bs,↓reduceIte]at h)<;>try simp only[hc]
 | (with_reducible refine ax hQ ?_;(try cases h);simp only [bF,bG,bZ,cb,go_sem,hD,hY,hZ,gC,hlj,CK,VG,CZ];try exact eQ))
    refine cv 0 0 ?_ ?_ (qo (po,j+1) ⟨oe,j2,rz⟩ (zae _))
    ·(simp only[go_sem,hD,hY,hZ,gC,aw gn];try exact aU)
    ·(simp only[go_sem,hD,hY,hZ,gC,aw gn];try exact aU)
   ·simp only [CZ,if_true]at j2
    subst j2
    simp only[if_true]at h
    repeat' (first
 |simp only[go_sem,hD,hY,hZ,gC,hlj,CK,VG,CZ]
 |(with_reducible first|refine cf fun hc=>?_|refine cj fun hc=>?_|refine cm (fun hc=>?_) fun hc=>?_)<;>(try simp only[hc,bs,↓reduceIte]at h)<;>try simp only[hc]
 |(with_reducible refine ax hQ ?_;(try cases h);simp only[bF,bG,bZ,cb,go_sem,hD,hY,hZ,gC,hlj,CK,VG,CZ];try exact eQ))
theorem gw (a b:Int) (s:St):az Tryz.prog 148 [.int .i64 a, .int .i64 b] s (.agg [.int .i64 a, .int .i64 b]) s:=by
 refine az.pure ?_ rfl rfl s
 unfold S0
 refine az.go Ii.h rfl fun B Q hB hQ=>?_
 have⟨hD,hY,hZ,gC⟩:=bb
 repeat' (first
 |simp only[go_sem,hD,hY,hZ,gC]
 |(with_reducible refine ax hQ ?_;exact aB))
def tF (vars globals:List aF) (name:aF):List Pm→Int
 | []=>if dS vars name then 4 else if dS globals name then 1 else 0
 |a::l=>if a.name==name then(if a.ref then 3 else 2)else tF vars globals name l
def Pc.kx (p:Pg) (f:Pc) (name:aF):Int:=tF f.vars p.globals name f.params
theorem MX {p:Pg} {f:Pc} (hp:f.params.length<1000000000) (hv:f.vars.length<1000000000) (hg:p.globals.length<1000000000) (name:aF) (s:St):az Tryz.prog 169 [.agg (bS p), .agg (bN f), .str name] s (.int .i64 (f.kx p name)) s:=by
 refine az.pure ?_ (by simp[D.bM,D.ok,gR,sw]) rfl s
 have o9:=kF (l:=f.vars) (by omega) name
 have sG:=kF (l:=p.globals) (by omega) name
 generalize h:f.kx p name=q
 simp only[Pc.kx]at h
 unfold S0
 refine az.go Iq.h rfl fun B Q hB hQ=>?_
 have⟨hD,hY,hZ,gC⟩:=bb
 repeat' (first
 |simp only[go_sem,hD,hY,hZ,gC]
 |(with_reducible refine ax hQ ?_;exact aB))
 refine di 2 0 (aN.ind (ι:=List Pm×Nat) (fun i=>f.params.drop i.2=i.1∧tF f.vars p.globals name i.1=q) (fun i=>i.1.length)
  (fun i=> [(2, .str name),(3, .ptr 0 0),(4, .ptr 1 0),(10, .slice .shared 2 (f.params.map fz)),(11, .int .i64 (f.params.length:Int)),(12, .int .i64 (i.2:Int))]) (fun i=>⟨[bS p,bN f],[]⟩) ?_ (f.params,0) ⟨rfl,h⟩)
 rintro⟨rest,k⟩ ⟨h1,h⟩ IH
 dsimp only at h1 h
 cases rest with
 | nil=>
  have hD:=drop_nil h1
  simp only[tF]at h
  rcases zaa (dS f.vars name)with b1|b1
  ·simp only [b1,if_true]at h
   subst h
   repeat' (first
 |simp only[go_sem,hD,hY,hZ,gC,b1]
 |(with_reducible refine CU (o9 _ _) ?_)
 |(with_reducible refine CU (sG _ _) ?_)
 | (with_reducible refine ax hQ ?_;exact aB))
  ·simp only [b1,zab,if_false]at h
   rcases zaa (dS p.globals name)with b2|b2
   ·simp only [b2,if_true]at h
    subst h
    repeat' (first
 |simp only[go_sem,hD,hY,hZ,gC,b1,b2]
 |(with_reducible refine CU (o9 _ _) ?_)
 |(with_reducible refine CU (sG _ _) ?_)
 | (with_reducible refine ax hQ ?_;exact aB))
   ·simp only [b2,zab,if_false]at h
    subst h
    repeat' (first
 |simp only[go_sem,hD,hY,hZ,gC,b1,b2]
 |(with_reducible refine CU (o9 _ _) ?_)
 |(with_reducible refine CU (sG _ _) ?_)
 |(with_reducible refine ax hQ ?_;exact aB))
 | cons a rest=>
  obtain⟨hY,g2,hD,g4⟩:=drop_cons h1
  have aZ:k<4611686018427387904:=by omega
  simp only[tF]at h
  rcases zaa (a.name==name)with b1|b1
  ·simp only [b1,if_true]at h
   rcases zaa a.ref with b2|b2
   ·simp only [b2,if_true]at h
    subst h
    repeat' (first
 |simp only[go_sem,hD,hY,hZ,gC,b1,b2]
 | (with_reducible refine ax hQ ?_;exact aB))
   ·simp only [b2,zab,if_false]at h
    subst h
    repeat' (first
 |simp only[go_sem,hD,hY,hZ,gC,b1,b2]
 | (with_reducible refine ax hQ ?_;exact aB))
  ·simp only [b1,zab,if_false]at h
   repeat' (first
 |simp only[go_sem,hD,hY,hZ,gC,b1]
 | (with_reducible refine ax hQ ?_;exact aB))
   refine cv 2 0 ?_ ?_ (IH (rest,k+1) ⟨g2,h⟩ (zae _))
   ·(simp only[go_sem,hD,hY,hZ,gC,aw aZ];try exact aU)
   ·(simp only[go_sem,hD,hY,hZ,gC,aw aZ];try exact aU)
theorem OX {p:Pg} {f:Pc} (hp:f.params.length<1000000000) (hv:f.vars.length<1000000000) (hg:p.globals.length<1000000000) (name:aF) (s:St):az Tryz.prog 153 [.agg (bS p), .agg (bN f), .str name] s (.int .i64 (f.kx p name)) s:=by
 refine az.pure ?_ (by simp[D.bM,D.ok,gR,sw]) rfl s
 have o9:=vR (l:=f.vars) (by omega) name
 have sG:=vR (l:=p.globals) (by omega) name
 generalize h:f.kx p name=q
 simp only[Pc.kx]at h
 unfold S0
 refine az.go KE.h rfl fun B Q hB hQ=>?_
 have⟨hD,hY,hZ,gC⟩:=bb
 repeat' (first
 |simp only[go_sem,hD,hY,hZ,gC]
 |(with_reducible refine ax hQ ?_;exact aB))
 refine di 2 0 (aN.ind (ι:=List Pm×Nat) (fun i=>f.params.drop i.2=i.1∧tF f.vars p.globals name i.1=q) (fun i=>i.1.length)
  (fun i=> [(2, .str name),(3, .ptr 0 0),(4, .ptr 1 0),(10, .slice .shared 2 (f.params.map fz)),(11, .int .i64 (f.params.length:Int)),(12, .int .i64 (i.2:Int))]) (fun i=>⟨[bS p,bN f],[]⟩) ?_ (f.params,0) ⟨rfl,h⟩)
 rintro⟨rest,k⟩ ⟨h1,h⟩ IH
 dsimp only at h1 h
 cases rest with
 | nil=>
  have hD:=drop_nil h1
  simp only[tF]at h
  rcases zaa (dS f.vars name)with b1|b1
  ·simp only [b1,if_true]at h
   subst h
   repeat' (first
 |simp only[go_sem,hD,hY,hZ,gC,b1]
 |(with_reducible refine CU (o9 _ _) ?_)
 |(with_reducible refine CU (sG _ _) ?_)
 | (with_reducible refine ax hQ ?_;exact aB))
  ·simp only [b1,zab,if_false]at h
   rcases zaa (dS p.globals name)with b2|b2
   ·simp only [b2,if_true]at h
    subst h
    repeat' (first
 |simp only[go_sem,hD,hY,hZ,gC,b1,b2]
 |(with_reducible refine CU (o9 _ _) ?_)
 |(with_reducible refine CU (sG _ _) ?_)
 | (with_reducible refine ax hQ ?_;exact aB))
   ·simp only [b2,zab,if_false]at h
    subst h
    repeat' (first
 |simp only[go_sem,hD,hY,hZ,gC,b1,b2]
 |(with_reducible refine CU (o9 _ _) ?_)
 |(with_reducible refine CU (sG _ _) ?_)
 |(with_reducible refine ax hQ ?_;exact aB))
 | cons a rest=>
  obtain⟨hY,g2,hD,g4⟩:=drop_cons h1
  have aZ:k<4611686018427387904:=by omega
  simp only[tF]at h
  rcases zaa (a.name==name)with b1|b1
  ·simp only [b1,if_true]at h
   rcases zaa a.ref with b2|b2
   ·simp only [b2,if_true]at h
    subst h
    repeat' (first
 |simp only[go_sem,hD,hY,hZ,gC,b1,b2]
 | (with_reducible refine ax hQ ?_;exact aB))
   ·simp only [b2,zab,if_false]at h
    subst h
    repeat' (first
 |simp only[go_sem,hD,hY,hZ,gC,b1,b2]
 | (with_reducible refine ax hQ ?_;exact aB))
  ·simp only [b1,zab,if_false]at h
   repeat' (first
 |simp only[go_sem,hD,hY,hZ,gC,b1]
 | (with_reducible refine ax hQ ?_;exact aB))
   refine cv 2 0 ?_ ?_ (IH (rest,k+1) ⟨g2,h⟩ (zae _))
   ·(simp only[go_sem,hD,hY,hZ,gC,aw aZ];try exact aU)
   ·(simp only[go_sem,hD,hY,hZ,gC,aw aZ];try exact aU)
def gS (name:aF):List Pc→Option Pc
 | []=>none
 |f::l=>if f.name==name then some f else gS name l
def Pg.find (p:Pg) (name:aF):Option Pc:=gS name p.procs
def pc0:Pc:=⟨[],[],[],[],[]⟩
theorem G7:bN pc0 = [.str [], .slice .shared 2 [], .slice .shared 1 [], .slice .shared 13 [], .slice .shared 1 []]:=nd rfl
def kJ (r:Option Pc):D:= .tuple [.agg (bN (r.getD pc0)), .bool r.isSome]
theorem afN (r:Option Pc):D.ok 0 0 (kJ r)=true:=by simp[kJ,D.ok,D.bM,sw]
theorem G8 (f:Pc):bN f = [.str f.name, .slice .shared 2 (f.params.map fz), .slice .shared 1 (f.vars.map encStr), .slice .shared 13 (f.body.map aY), .slice .shared 1 (f.fin.map encStr)]:=nd rfl
theorem DY {p:Pg} (hl:p.procs.length<1000000000) (name:aF) (s:St):az Tryz.prog 149 [.agg (bS p), .str name] s (kJ (p.find name)) s:=by
 refine az.pure ?_ (by simp[D.bM,D.ok,gR]) (afN _) s
 unfold Pg.find
 generalize h:gS name p.procs=q
 unfold S0
 refine az.go Ij.h rfl fun B Q hB hQ=>?_
 have⟨hD,hY,hZ,gC⟩:=bb
 repeat' (first
 |simp only[go_sem,hD,hY,hZ,gC,G8]
 |(with_reducible first|refine cf fun hc=>?_|refine cj fun hc=>?_|refine cm (fun hc=>?_) fun hc=>?_)<;>(try simp only[hc,bs,↓reduceIte]at h)<;>try simp only[hc]
 |(with_reducible refine ax hQ ?_;simp only[bF,bG,bZ,cb,go_sem,hD,hY,hZ,gC,G8];try exact eQ))
 refine di 2 0 (aN.ind (ι:=List Pc×Nat) (fun i=>p.procs.drop i.2=i.1∧gS name i.1=q) (fun i=>i.1.length)
  (fun i=> [(1, .str name),(4, .ptr 1 0),(9, .slice .shared 5 (p.procs.map bN)),(10, .int .i64 (p.procs.length:Int)),(11, .int .i64 (i.2:Int))]) (fun i=>⟨[bS p,[.str [], .slice .full 0 [], .slice .full 0 [], .slice .full 0 [], .slice .full 0 []]],[]⟩) ?_ (p.procs,0) ⟨rfl,h⟩)
 rintro⟨rest,k⟩ ⟨h1,h⟩ IH
 dsimp only at h1 h
 cases rest with
 |nil=>
  have hD:=drop_nil h1
  simp only[gS]at h
  subst h
  repeat' (first
 |simp only[go_sem,hD,hY,hZ,gC,kJ,zbx,zbF,G7]
 |(with_reducible first|refine cf fun hc=>?_|refine cj fun hc=>?_|refine cm (fun hc=>?_) fun hc=>?_)<;>(try simp only[hc,bs,↓reduceIte]at h)<;>try simp only[hc]
 |(with_reducible refine ax hQ ?_;simp only[bF,bG,bZ,cb,go_sem,hD,hY,hZ,gC,kJ,zbx,zbF,G7];try exact eQ))
 | cons a rest=>
  obtain⟨hY,g2,hD,g4⟩:=drop_cons h1
  have aZ:k<4611686018427387904:=by omega
  simp only[gS]at h
  rcases zaa (a.name==name)with b1|b1
  ·simp only [b1,if_true]at h
   subst h
   repeat' (first
 |simp only[go_sem,hD,hY,hZ,gC,b1,kJ,zbh,zbw]
 |(with_reducible first|refine cf fun hc=>?_|refine cj fun hc=>?_|refine cm (fun hc=>?_) fun hc=>?_)<;>(try simp only[hc,bs,↓reduceIte]at h)<;>try simp only[hc]
 | (with_reducible refine ax hQ ?_;simp only [bF,bG,bZ,cb,go_sem,hD,hY,hZ,gC,b1,kJ,zbh,zbw];try exact eQ))
  ·simp only [b1,zab,if_false]at h
   repeat' (first
 |simp only[go_sem,hD,hY,hZ,gC,b1]
 | (with_reducible refine ax hQ ?_;exact aB))
   refine cv 2 0 ?_ ?_ (IH (rest,k+1) ⟨g2,h⟩ (zae _))
   ·(simp only[go_sem,hD,hY,hZ,gC,aw aZ];try exact aU)
   ·(simp only[go_sem,hD,hY,hZ,gC,aw aZ];try exact aU)
def Pc.lx (f:Pc):List aF:=f.params.map (·.name)
def Pc.own (f:Pc):List aF:=f.lx++f.vars
theorem aaW {f:Pc} (hp:f.params.length<1000000) (hv:f.vars.length<1000000) (s:St):az Tryz.prog 110 [.agg (bN f)] s (.slice .shared 1 (f.own.map encStr)) s:=by
 refine az.pure ?_ (by simp[D.bM,D.ok,sw]) (by simp only[D.ok,Tag.ok,dz];rfl) s
 generalize hR:f.own=R
 simp only[Pc.own]at hR
 unfold S0
 refine az.go KQ.h rfl fun B Q hB hQ=>?_
 have⟨hD,hY,hZ,gC⟩:=bb
 repeat' (first
 |simp only[go_sem,hD,hY,hZ,gC]
 |(with_reducible refine ax hQ ?_;exact aB))
 refine aN.ln 3 1 rfl ?_
 simp only[go_sem,hD,hY,hZ,gC]
 refine di 1 1 (aN.ind (ι:=List Pm×Nat×List aF×Nat) (fun i=>f.params.drop i.2.1=i.1∧i.2.2.1++i.1.map (·.name)=f.lx∧i.2.2.2=i.2.2.1.length) (fun i=>i.1.length)
  (fun i=> [(1, .ptr 0 0),(3, .slice (.tok 0) 1 (i.2.2.1.map encStr)),(7, .slice .shared 2 (f.params.map fz)),(8, .int .i64 (f.params.length:Int)),(9, .int .i64 (i.2.1:Int))]) (fun i=>⟨[bN f],[some i.2.2.2]⟩) ?_ (f.params,0,[],0) ⟨rfl,rfl,rfl⟩)
 rintro⟨rest,k,out,n⟩ ⟨h1,h2,h3⟩ IH
 dsimp only at h1 h2 h3
 subst h3
 have hlo:out.length+rest.length<1000000:=by
  have:=congrArg List.length h2
  simp only[zaj,zaw,Pc.lx]at this
  omega
 cases rest with
 |nil=>
  have hD:=drop_nil h1
  simp only[zai,zaI]at h2
  subst hR
  rw[← h2]at hQ
  have dd:=fm (l:=out) (nx:=f.vars) rfl (by omega) (g:= .shared)
  repeat' (first
 |simp only[go_sem,hD,hY,hZ,gC,dd]
 |(with_reducible refine ax hQ ?_;exact aB))
 |cons a rest=>
  obtain⟨hY,g2,hD,g4⟩:=drop_cons h1
  have aZ:k<4611686018427387904:=by omega
  have hZ:(out.length+1)*17≤aV:=by unfold aV;omega
  repeat' (first
 |simp only[go_sem,hD,hY,hZ,gC]
 |(with_reducible refine ax hQ ?_;exact aB))
  refine cv 1 1 ?_ ?_ (IH (rest,k+1,out++ [a.name],out.length+1) ⟨g2,by rw[← h2];simp,by simp⟩ (zae _))
  ·(simp only[go_sem,hD,hY,hZ,gC,aw aZ,zag,zaf,zai,encStr];try exact aU)
  ·(simp only[go_sem,hD,hY,hZ,gC,aw aZ,zag,zaf,zai,encStr];try exact aU)
theorem YP {f:Pc} (hp:f.params.length<1000000) (s:St):az Tryz.prog 151 [.agg (bN f)] s (.slice .shared 1 (f.lx.map encStr)) s:=by
 refine az.pure ?_ (by simp[D.bM,D.ok,sw]) (by simp only[D.ok,Tag.ok,dz];rfl) s
 generalize hR:f.lx=R
 unfold S0
 refine az.go GF.h rfl fun B Q hB hQ=>?_
 have⟨hD,hY,hZ,gC⟩:=bb
 repeat' (first
 |simp only[go_sem,hD,hY,hZ,gC]
 |(with_reducible refine ax hQ ?_;exact aB))
 refine aN.ln 3 1 rfl ?_
 simp only[go_sem,hD,hY,hZ,gC]
 refine di 1 1 (aN.ind (ι:=List Pm×Nat×List aF×Nat) (fun i=>f.params.drop i.2.1=i.1∧i.2.2.1++i.1.map (·.name)=R∧i.2.2.2=i.2.2.1.length∧i.2.2.1.length+i.1.length=f.params.length) (fun i=>i.1.length)
  (fun i=> [(1, .ptr 0 0),(3, .slice (.tok 0) 1 (i.2.2.1.map encStr)),(7, .slice .shared 2 (f.params.map fz)),(8, .int .i64 (f.params.length:Int)),(9, .int .i64 (i.2.1:Int))]) (fun i=>⟨[bN f],[some i.2.2.2]⟩) ?_ (f.params,0,[],0) ⟨rfl,hR,rfl,by simp⟩)
 rintro⟨rest,k,out,n⟩ ⟨h1,h2,h3,h4⟩ IH
 dsimp only at h1 h2 h3 h4
 subst h3
 cases rest with
 |nil=>
  have hD:=drop_nil h1
  simp only[zai,zaI]at h2
  subst h2
  repeat' (first
 |simp only[go_sem,hD,hY,hZ,gC]
 |(with_reducible refine ax hQ ?_;exact aB))
 |cons a rest=>
  obtain⟨hY,g2,hD,g4⟩:=drop_cons h1
  have aZ:k<4611686018427387904:=by omega
  simp only[zat]at h4
  have hZ:(out.length+1)*17≤aV:=by unfold aV;omega
  repeat' (first
 |simp only[go_sem,hD,hY,hZ,gC]
 |(with_reducible refine ax hQ ?_;exact aB))
  refine cv 1 1 ?_ ?_ (IH (rest,k+1,out++ [a.name],out.length+1) ⟨g2,by rw[← h2];simp,by simp,by simp;omega⟩ (zae _))
  ·(simp only[go_sem,hD,hY,hZ,gC,aw aZ,zag,zaf,zai,encStr];try exact aU)
  ·(simp only[go_sem,hD,hY,hZ,gC,aw aZ,zag,zaf,zai,encStr];try exact aU)
def iR:aF:= [109,97,105,110]
def Sm.known (p:Pg) (f:Pc) (procs:List aF) (v:Sm):Bool:=
 !(v.said.any fun n=>f.kx p n==0) && (v.kind != 4 ||(v.proc != iR && dS procs v.proc))
structure Pc.Small (p:Pg) (f:Pc):Prop where
 par:f.params.length<1000000
 vars:f.vars.length<1000000
 rJ:p.globals.length<1000000
def u5 (p:Pg) (f:Pc):List aF→Bool
 | []=>true
 |n::l=>if f.kx p n==0 then false else u5 p f l
theorem C6 (p:Pg) (f:Pc) : ∀ l,u5 p f l = !(l.any fun n=>f.kx p n==0)
 | []=>rfl
 |n::l=>by
  simp only[u5,List.any_cons,C6 p f l]
  cases (f.kx p n==0)<;>simp
theorem Ba (v:Sm) (h:v.lP):v.said.length<3000000:=by
 have : ∀ (l:List Ar) (out:List aF),(Ar.said out l).length≤out.length+2*Ar.bq l:=by
  intro l
  induction l with
  |nil=>intro out;simp[Ar.said]
  |cons a l ih=>
   intro out
   simp only[Ar.said,Ar.bq]
   refine zaW (ih _) ?_
   have:=iI a.x
   have:1≤a.x.size:=by obtain⟨_,_,_,_⟩:=a.x;simp[Ex.size]
   simp only[zaj]
   split<;>simp<;>omega
 have h1:=this v.args (v.sg++v.x.names)
 have h2:=iI v.x
 have h3:=h.2.2
 have h4:v.sg.length≤1:=by unfold Sm.sg;split<;>simp
 simp only[zaj]at h1
 unfold Sm.said
 omega
theorem acQ {p:Pg} {f:Pc} {procs:List aF} {v:Sm} (hs:f.Small p) (sL:procs.length<1000000) (hv:v.lP) (s:St):az Tryz.prog 131 [.agg (bS p), .agg (bN f), .slice .shared 1 (procs.map encStr), .agg (aY v)] s (.bool (v.known p f procs)) s:=by
 refine az.pure ?_ (by simp[D.bM,D.ok,gR,sw,qe,Tag.ok,dz]) rfl s
 have hn:=fun s=>C3 hv s
 have hk:=fun n s=>MX (p:=p) (f:=f) (by have:=hs.par;omega) (by have:=hs.vars;omega) (by have:=hs.rJ;omega) n s
 have afO:=kF (l:=procs) (by omega) v.proc
 have hl:=Ba v hv
 generalize h:v.known p f procs=q
 simp only[Sm.known, ← C6]at h
 unfold S0
 refine az.go GR.h rfl fun B Q hB hQ=>?_
 have⟨hD,hY,hZ,gC⟩:=bb
 repeat' (first
 |simp only[go_sem,hD,hY,hZ,gC]
 |(with_reducible refine CU (hn _) ?_)
 |(with_reducible refine ax hQ ?_;exact aB))
 refine di 3 0 (aN.ind (ι:=List aF×Nat) (fun i=>v.said.drop i.2=i.1∧(u5 p f i.1 && (v.kind != 4 ||(v.proc != iR && dS procs v.proc)))=q) (fun i=>i.1.length)
  (fun i=> [(2, .slice .shared 1 (procs.map encStr)),(4, .ptr 0 0),(5, .ptr 1 0),(7, .ptr 2 0),(12, .slice .shared 1 (v.said.map encStr)),(13, .int .i64 (v.said.length:Int)),(14, .int .i64 (i.2:Int))]) (fun i=>⟨[bS p,bN f,aY v],[]⟩) ?_ (v.said,0) ⟨rfl,h⟩)
 rintro⟨rest,k⟩ ⟨h1,h⟩ IH
 dsimp only at h1 h
 cases rest with
 | nil=>
  have hD:=drop_nil h1
  simp only[u5,zbf]at h
  rcases zaa (v.kind != 4)with b1|b1
  ·simp only [b1,zbj]at h
   subst h
   repeat' (first
 |simp only[go_sem,hD,hY,hZ,gC,b1]
 | (with_reducible refine ax hQ ?_;exact aB))
  ·simp only [b1,zbg]at h
   rcases zaa (v.proc != iR)with b2|b2
   ·simp only [b2,zbf]at h
    unfold iR at b2
    have b3:(v.proc == [109,97,105,110]) = !(v.proc != [109,97,105,110]):=by simp only[bne,zbP]
    rw[b2]at b3
    simp only[zau,zax]at b3
    subst h
    repeat' (first
 |simp only[go_sem,hD,hY,hZ,gC,b1,b2,b3]
 |(with_reducible refine CU (afO _ _) ?_)
 | (with_reducible refine ax hQ ?_;exact aB))
   ·simp only [b2,zaN]at h
    unfold iR at b2
    have b3:(v.proc == [109,97,105,110]) = !(v.proc != [109,97,105,110]):=by simp only[bne,zbP]
    rw[b2]at b3
    simp only[zau,zax]at b3
    subst h
    repeat' (first
 |simp only[go_sem,hD,hY,hZ,gC,b1,b2,b3]
 |(with_reducible refine CU (afO _ _) ?_)
 |(with_reducible refine ax hQ ?_;exact aB))
 | cons a rest=>
  obtain⟨hY,g2,hD,g4⟩:=drop_cons h1
  have aZ:k<4611686018427387904:=by omega
  simp only[u5]at h
  rcases zaa (f.kx p a==0)with b1|b1
  ·simp only [b1,if_true,zaN]at h
   subst h
   repeat' (first
 |simp only[go_sem,hD,hY,hZ,gC,b1]
 |(with_reducible refine CU (hk _ _) ?_)
 | (with_reducible refine ax hQ ?_;exact aB))
  ·simp only [b1,zab,if_false]at h
   repeat' (first
 |simp only[go_sem,hD,hY,hZ,gC,b1]
 |(with_reducible refine CU (hk _ _) ?_)
 | (with_reducible refine ax hQ ?_;exact aB))
   refine cv 3 0 ?_ ?_ (IH (rest,k+1) ⟨g2,h⟩ (zae _))
   ·(simp only[go_sem,hD,hY,hZ,gC,aw aZ];try exact aU)
   ·(simp only[go_sem,hD,hY,hZ,gC,aw aZ];try exact aU)
theorem PE : ∀ (l pre:List aF),pW pre l=true↔(∃ x∈l,x∈pre)∨¬ l.Nodup
 | [],pre=>by simp[pW]
 | s::l,pre=>by
  simp only[pW]
  by_cases h:dS pre s=true
  ·simp only [h,if_true,true_iff]
   exact .inl ⟨s,zaA,(gK _ _).1 h⟩
  ·have h':s∉pre:=fun m=>h ((gK _ _).2 m)
   simp only[h,if_false,zab]
   rw[PE l (pre++ [s])]
   simp only[zaq,zaG,zap,za4,exists_eq_or_imp]
   constructor
   ·rintro(⟨x,m,h1 | h1⟩ | h1)
    ·exact .inl (.inr ⟨x,m,h1⟩)
    ·have h1:x=s:=by simpa using h1
     subst h1;exact .inr fun h=>h.1 m
    ·exact .inr fun h=>h1 h.2
   ·rintro((h1 | ⟨x,m,h1⟩) | h1)
    ·exact absurd h1 h'
    ·exact .inl ⟨x,m, .inl h1⟩
    ·by_cases m:s∈l
     ·exact .inl ⟨s,m, .inr (.inl rfl)⟩
     ·exact .inr fun h=>h1 ⟨m,h⟩
theorem JS (l:List aF):er l=true↔¬ l.Nodup:=by
 unfold er;rw[PE];simp
theorem VH (a b:List aF):er (a++b)=(er a ||(er b ||b.any (dS a))):=by
 have h:er (a++b)=true↔(er a ||(er b ||b.any (dS a)))=true:=by
  rw[JS,zba]
  simp only[zaC,JS,List.any_eq_true,gK]
  constructor
  ·intro h
   by_cases ha:a.Nodup
   ·by_cases hb:b.Nodup
    ·refine .inr (.inr (Classical.byContradiction fun hn=>h ⟨ha,hb,fun x hx y hy e=>hn ⟨y,hy,e ▸ hx⟩⟩))
    ·exact .inr (.inl hb)
   ·exact .inl ha
  ·rintro(h | h | ⟨x,h1,h2⟩) ⟨h3,h4,h5⟩
   ·exact h h3
   ·exact h h4
   ·exact h5 x h2 x h1 rfl
 cases h1:er (a++b)<;>cases h2:(er a ||(er b ||b.any (dS a)))<;>simp_all
theorem MY (name:aF) : ∀ (l:List Pc) (k:Nat),(gS name l=none∧fS name (k:Int) (l.map (·.name)) = -1)∨∃ f j,gS name l=some f∧l[j]? = some f∧fS name (k:Int) (l.map (·.name))=((k+j:Nat):Int)
 | [],k=> .inl ⟨rfl,rfl⟩
 | f::l,k=>by
  by_cases h:f.name=name
  ·subst h
   refine .inr ⟨f,0,by simp[gS],rfl,by simp[fS]⟩
  ·have h1:(f.name==name)=false:=by simp [h]
   have h2:(name==f.name)=false:=by simp[Ne.symm h]
   simp only[gS,h1,zab,if_false,zaf,fS,h2]
   rcases MY name l (k+1)with ⟨g1,g2⟩|⟨g,j,g1,g2,g3⟩
   ·exact .inl ⟨g1,by rw[← g2];rfl⟩
   ·refine .inr ⟨g,j+1,g1,by simpa using g2, ?_⟩
    rw[show((k:Int)+1)=((k+1:Nat):Int)from rfl,g3]
    congr 1;omega
theorem nX {name:aF} {f:Pc} : ∀ {l:List Pc},gS name l=some f→f∈l∧f.name=name
 |g::l,h=>by
  simp only[gS]at h
  split at h
  ·rename_i e;cases h;exact⟨zaA,by simpa using e⟩
  ·have:=nX h;exact⟨zan _ this.1,this.2⟩
mutual
theorem VI (deep a7:Int) (aK:Bool) (out:List It) : ∀ s:Sm,∃ e,gN deep a7 aK out s=out++e
 | ⟨id,kind,labels,name,proc,x,has,args,a8,e⟩=>by
  simp only[gN]
  split
  ·obtain⟨e1,h1⟩:=qO (deep+1) id false (out++ [⟨⟨id,kind,labels,name,proc,x,has,args,a8,e⟩,deep,a7,aK⟩]) a8
   obtain⟨e2,h2⟩:=qO (deep+1) id true (dJ (deep+1) id false (out++ [⟨⟨id,kind,labels,name,proc,x,has,args,a8,e⟩,deep,a7,aK⟩]) a8) e
   rw[h2,h1]
   exact⟨_,by rw[zaB,zaB]⟩
  ·exact⟨_,rfl⟩
theorem qO (deep a7:Int) (aK:Bool) (out:List It) : ∀ l:List Sm,∃ e,dJ deep a7 aK out l=out++e
 | []=>⟨[],by simp[dJ]⟩
 | s::l=>by
  simp only[dJ]
  split
  ·obtain⟨e1,h1⟩:=VI deep a7 aK out s
   obtain⟨e2,h2⟩:=qO deep a7 aK (gN deep a7 aK out s) l
   rw[h2,h1]
   exact⟨_,by rw[zaB]⟩
  ·exact⟨[],by simp⟩
end
mutual
theorem VJ (deep a7:Int) (aK:Bool) (out:List It) : ∀ s:Sm,(gN deep a7 aK out s).length≤200→(∀ i∈gN deep a7 aK out s,i.deep≤12)→(gN deep a7 aK out s).map It.s=out.map It.s++s.pre
 | ⟨id,kind,labels,name,proc,x,has,args,a8,e⟩,h1,h2=>by
  simp only[gN,Sm.pre]at h1 h2 ⊢
  by_cases hd:deep≤12
  ·simp only [hd,decide_true,if_true]at h1 h2 ⊢
   obtain⟨e2,g2⟩:=qO (deep+1) id true (dJ (deep+1) id false (out++ [⟨⟨id,kind,labels,name,proc,x,has,args,a8,e⟩,deep,a7,aK⟩]) a8) e
   have k1:(dJ (deep+1) id false (out++ [⟨⟨id,kind,labels,name,proc,x,has,args,a8,e⟩,deep,a7,aK⟩]) a8).length≤200:=by
    rw[g2,zaj]at h1;omega
   have k2 : ∀ i∈dJ (deep+1) id false (out++ [⟨⟨id,kind,labels,name,proc,x,has,args,a8,e⟩,deep,a7,aK⟩]) a8,i.deep≤12:=fun i m=>h2 i (by rw[g2];exact zaJ _ m)
   rw[yj (deep+1) id true _ e h1 h2,yj (deep+1) id false _ a8 k1 k2]
   simp
  ·simp only [hd,decide_false,zab,if_false]at h1 h2
   exact absurd (h2 _ (za7 _ (zaG.2 rfl))) (by simpa using hd)
theorem yj (deep a7:Int) (aK:Bool) (out:List It) : ∀ l:List Sm,(dJ deep a7 aK out l).length≤200→(∀ i∈dJ deep a7 aK out l,i.deep≤12)→(dJ deep a7 aK out l).map It.s=out.map It.s++Sm.cZ l
 | [],h1,h2=>by simp[dJ,Sm.cZ]
 | s::l,h1,h2=>by
  simp only[dJ,Sm.cZ]at h1 h2 ⊢
  by_cases hc:(out.length:Int)≤200
  ·simp only [hc,decide_true,if_true]at h1 h2 ⊢
   obtain⟨e2,g2⟩:=qO deep a7 aK (gN deep a7 aK out s) l
   have k1:(gN deep a7 aK out s).length≤200:=by rw[g2,zaj]at h1;omega
   have k2 : ∀ i∈gN deep a7 aK out s,i.deep≤12:=fun i m=>h2 i (by rw[g2];exact zaJ _ m)
   rw[yj deep a7 aK _ l h1 h2,VJ deep a7 aK out s k1 k2]
   simp
  ·simp only [hc,decide_false,zab,if_false]at h1
   omega
end
theorem MZ : ∀ (l:List Pc) (out:List It),(allM out l).length≤200→(∀ i∈allM out l,i.deep≤12)→(∀ f∈l,f.flat.map It.s=Sm.cZ f.body)∧(allM out l).map It.s=out.map It.s++(l.map fun f=>Sm.cZ f.body).flatten
 | [],out,h1,h2=>⟨fun f m=>(by cases m),by simp[allM]⟩
 | f::l,out,h1,h2=>by
  simp only[allM]at h1 h2 ⊢
  by_cases hc:(((out++f.flat).length:Nat):Int) > 200
  ·simp only[hc,decide_true,if_true]at h1;omega
  ·simp only [hc,decide_false,zab,if_false]at h1 h2 ⊢
   obtain⟨k1,k2⟩:=MZ l (out++f.flat) h1 h2
   have kj : ∀ (l:List Pc) (out:List It),∃ e,allM out l=out++e:=by
    intro l
    induction l with
    |nil=>intro out;exact⟨[],by simp[allM]⟩
    |cons g l ih=>
     intro out
     simp only[allM]
     split
     ·exact⟨_,rfl⟩
     ·obtain⟨e,h⟩:=ih (out++g.flat);exact⟨g.flat++e,by rw[h];simp⟩
   obtain⟨e,he⟩:=kj l (out++f.flat)
   have k3:f.flat.map It.s=Sm.cZ f.body:=by
    have:=yj 1 0 false [] f.body (by
     have:f.flat.length≤200:=by simp only[zaj]at hc;omega
     exact this) (fun i m=>h2 i (by rw[he];exact zaJ _ (za7 _ m)))
    simpa[Pc.flat]using this
   refine⟨fun g m=>?_, ?_⟩
   ·rcases zap.1 m with rfl | m
    ·exact k3
    ·exact k1 g m
   ·rw[k2];simp[k3]
theorem yk : ∀ (l:List It) (n:Nat),It.eU n l=true→(∀ i∈l,i.deep≤12)∧∀ (j:Nat) (i:It),l[j]? = some i→i.s.id=((n+j+1:Nat):Int)
 | [],n,h=>⟨fun i m=>(by cases m),fun j i h=>by simp at h⟩
 | a::l,n,h=>by
  simp only[It.eU]at h
  split at h
  ·cases h
  ·rename_i c
   simp only[zaC,not_or,bne_iff_ne,ne_eq,Decidable.not_not,decide_eq_true_eq,Int.not_lt,gt_iff_lt]at c
   obtain⟨k1,k2⟩:=yk l (n+1) h
   refine⟨fun i m=>?_,fun j i hj=>?_⟩
   ·rcases zap.1 m with rfl | m
    ·exact c.1.2
    ·exact k1 i m
   ·cases j with
    |zero=>simp at hj;subst hj;rw[c.1.1]
    |succ j=>simp at hj;rw[k2 j i hj];congr 1;omega
theorem wM {p:Pg} (h:p.may=true):p.all.length≤200∧It.eU 0 p.all=true:=by
 unfold Pg.may at h
 split at h
 ·cases h
 ·split at h
  ·cases h
  ·split at h
   ·cases h
   ·rename_i c
    exact⟨by simp only[decide_eq_true_eq,Int.not_lt,gt_iff_lt]at c;omega,h⟩
theorem qP {p:Pg} (h:p.may=true):(∀ f∈p.procs,f.flat.map It.s=Sm.cZ f.body)∧p.all.map It.s=p.pre:=by
 obtain⟨h1,h2⟩:=wM h
 have:=MZ p.procs [] h1 (yk _ 0 h2).1
 simpa[Pg.pre,Pg.all]using this
theorem G9 {p:Pg} (h:p.may=true) {i:Nat} {v:Sm} (hv:p.pre[i]? = some v):v.id=((i+1:Nat):Int):=by
 rw[← (qP h).2,zao,zav]at hv
 obtain⟨it,h1,rfl⟩:=hv
 have:=(yk _ 0 (wM h).2).2 i it h1
 rw[this];congr 1;omega
structure Pg.gu (p:Pg):Prop where
 M3:p.G0
 sz:p.size≤900000
mutual
theorem afP : ∀ s:Sm,s.uZ→s.size<1000000→∀ v∈s.pre,v.lP∧v.kO
 |⟨id,kind,labels,name,proc,x,has,args,a8,aK⟩,h,hs,v,m=>by
  simp only[Sm.uZ]at h
  simp only[Sm.size]at hs
  simp only[Sm.pre,zap,zaq]at m
  rcases m with rfl|m|m
  ·exact⟨⟨h.1.xt,fun a ha=>(h.1.arg a ha).2.1,by dsimp only;omega⟩,h.1⟩
  ·exact DZ a8 h.2.1 (by omega) v m
  ·exact DZ aK h.2.2 (by omega) v m
theorem DZ : ∀ l:List Sm,Sm.kh l→Sm.bq l<1000000→∀ v∈Sm.cZ l,v.lP∧v.kO
 | [],h,hs,v,m=>by simp[Sm.cZ]at m
 |s::l,h,hs,v,m=>by
  simp only[Sm.kh]at h
  simp only[Sm.bq]at hs
  simp only[Sm.cZ,zaq]at m
  rcases m with m|m
  ·exact afP s h.1 (by omega) v m
  ·exact DZ l h.2 (by omega) v m
end
theorem Pg.gu.said {p:Pg} (h:p.gu) {f:Pc} (hf:f∈p.procs) : ∀ v∈Sm.cZ f.body,v.lP:=fun v m=>by
 have h1:=Pc.cq hf
 have h2:=h.sz
 simp only[Pg.size]at h2
 simp only[Pc.size]at h1
 exact(DZ f.body (h.M3.body f hf) (by omega) v m).1
theorem Pg.gu.small {p:Pg} (h:p.gu) {f:Pc} (hf:f∈p.procs):f.Small p:=by
 have h1:=Pc.cq hf
 have h2:=h.sz
 simp only[Pg.size]at h2
 simp only[Pc.size]at h1
 exact⟨by omega,by omega,by omega⟩
theorem Pg.gu.procs {p:Pg} (h:p.gu):p.procs.length≤900000∧Pc.bq p.procs≤900000∧p.globals.length≤900000:=by
 have h2:=h.sz
 have h3:=Pc.dI p.procs
 simp only[Pg.size]at h2
 omega
def Pg.pn (p:Pg):List aF:=p.procs.map (·.name)
def vS (p:Pg) (f:Pc) (procs:List aF):List Sm→Option Sm
 | []=>none
 |v::l=>if v.known p f procs then vS p f procs l else some v
def rV (p:Pg) (procs:List aF):List Pc→Int×Int
 | []=>(0,0)
 |f::l=>if er (p.globals++f.own)then(5,0)else match vS p f procs (Sm.cZ f.body)with|some v=>(5,v.id)|none=>rV p procs l
def Pg.oT (p:Pg):Bool:=match p.find iR with|none=>true|some m=>decide ((m.params.length:Int) > 0)
def Pg.scope (p:Pg):Int×Int:=
 if p.may then if er p.globals ||(er p.pn ||p.oT)then(5,0)else rV p p.pn p.procs else(1,0)
theorem YQ (p:Pg) (hl:p.globals.length<1000000) (n:aF):az Tryz.prog 130 ([.str n]++ [.ptr 0 0]) ⟨[bS p],[]⟩ (.bool (dS p.globals n)) ⟨[bS p],[]⟩:=by
 show az Tryz.prog 130 [.str n, .ptr 0 0] _ _ _
 have rm:=kF (l:=p.globals) (by omega) n
 refine az.go El.h rfl fun B Q hB hQ=>?_
 have⟨hD,hY,hZ,gC⟩:=bb
 repeat' (first
 |simp only[go_sem,hD,hY,hZ,gC]
 |(with_reducible refine CU (rm _ _) ?_)
 |(with_reducible refine ax hQ ?_;exact aB))
theorem aaX (n m:Nat) (p:Pg):D.iz n m (fU p)=fU p:=jk n m _ (vQ p)
attribute [go_sem] aaX
theorem acR {p:Pg} {f:Pc} {procs:List aF} {v:Sm} (hs:f.Small p) (sL:procs.length<1000000) (hv:v.lP) (g:Tag) (s:St):az Tryz.prog 131 [.agg (bS p), .agg (bN f), .slice g 1 (procs.map encStr), .agg (aY v)] s (.bool (v.known p f procs)) s:=
 bp.lU (.cons (Wk.refl _) (.cons (Wk.refl _) (.cons (Wk.shared g 1 _) (jh.refl _)))) (acQ hs sL hv s)
theorem xj {p:Pg} (h:p.gu) (s:St):az Tryz.prog 95 [.agg (bS p)] s (.agg [.int .i64 p.scope.1, .int .i64 p.scope.2]) s:=by
 refine az.pure ?_ (by simp[D.bM,D.ok,gR]) rfl s
 have hm:=fun s=>MS h.M3 s
 simp only[DX]at hm
 obtain⟨nB,nF,lG⟩:=h.procs
 have du:=fun s=>DT (p:=p) (by omega) s
 have od:=fun s=>Fv (l:=p.globals) (by omega) .shared s
 have hpn:p.pn.length=p.procs.length:=by simp[Pg.pn]
 have ug:=fun g s=>Fv (l:=p.pn) (by omega) g s
 have EK:=fun g s=>(DU (l:=p.pn) (by omega) iR s).MM (Wk.shared g 1 (p.pn.map encStr))
 have Fw:=fun g s=>(show az Tryz.prog 111 [.slice g 1 (p.pn.map encStr), .str [109,97,105,110]] s (.int .i64 (fS iR 0 p.pn)) s from EK g s)
 generalize hR:p.scope=R
 simp only[Pg.scope]at hR
 unfold S0
 rcases zaa p.may with hb|hb
 case inr=>
  simp only[hb]at hm
  simp only[hb,zab,if_false]at hR
  subst hR
  refine az.go xZ.h rfl fun B Q hB hQ=>?_
  have⟨hD,hY,hZ,gC⟩:=bb
  repeat' (first
 |simp only[go_sem,hD,hY,hZ,gC]
 |(with_reducible refine CU (hm _) ?_)
 |(with_reducible refine ax hQ ?_;exact aB))
 simp only[hb]at hm
 simp only[hb,if_true]at hR
 refine az.go xZ.h rfl fun B Q hB hQ=>?_
 have⟨hD,hY,hZ,gC⟩:=bb
 repeat' (first
 |simp only[go_sem,hD,hY,hZ,gC]
 |(with_reducible refine CU (hm _) ?_)
 |(with_reducible refine ax hQ ?_;exact aB))
 refine aN.ln 3 1 rfl ?_
 simp only[go_sem,hD,hY,hZ,gC]
 refine di 2 1 (aN.ind (ι:=List Pc×Nat×List aF×Nat) (fun i=>p.procs.drop i.2.1=i.1∧i.2.2.1++i.1.map (·.name)=p.pn∧i.2.2.2=i.2.2.1.length) (fun i=>i.1.length)
  (fun i=> [(1, .ptr 0 0),(2, .ptr 1 0),(3, .slice (.tok 0) 1 (i.2.2.1.map encStr)),(18, .slice .shared 5 (p.procs.map bN)),(19, .int .i64 (p.procs.length:Int)),(20, .int .i64 (i.2.1:Int))]) (fun i=>⟨[bS p,[.int .i64 0, .int .i64 0]],[some i.2.2.2]⟩) ?_ (p.procs,0,[],0) ⟨rfl,rfl,rfl⟩)
 rintro⟨rest,k,out,n⟩ ⟨h1,h2,h3⟩ IH
 dsimp only at h1 h2 h3
 subst h3
 have hlo:out.length+rest.length≤900000:=by
  have:=congrArg List.length h2
  simp only[zaj,zaw]at this
  omega
 cases rest with
 |cons a rest=>
  obtain⟨hY,g2,hD,g4⟩:=drop_cons h1
  have aZ:k<4611686018427387904:=by omega
  have hZ:(out.length+1)*17≤aV:=by unfold aV;omega
  repeat' (first
 |simp only[go_sem,hD,hY,hZ,gC]
 |(with_reducible refine ax hQ ?_;exact aB))
  refine cv 2 1 ?_ ?_ (IH (rest,k+1,out++ [a.name],out.length+1) ⟨g2,by rw[← h2];simp,by simp⟩ (zae _))
  ·(simp only[go_sem,hD,hY,hZ,gC,aw aZ,zag,zaf,zai,encStr];try exact aU)
  ·(simp only[go_sem,hD,hY,hZ,gC,aw aZ,zag,zaf,zai,encStr];try exact aU)
 | nil=>
  have hD:=drop_nil h1
  simp only[zai,zaI]at h2
  subst h2
  rcases zaa (er p.globals)with b1|b1
  ·simp only [b1,zbj,if_true]at hR
   subst hR
   repeat' (first
 |simp only[go_sem,hD,hY,hZ,gC,b1]
 |(with_reducible refine CU (Fw _ _) ?_)
 |(with_reducible refine CU (od _) ?_)
 |(with_reducible refine CU (ug _ _) ?_)
 | (with_reducible refine ax hQ ?_;exact aB))
  rcases zaa (er p.pn)with b2|b2
  ·simp only [b1,b2,zbj,zbI,if_true]at hR
   subst hR
   repeat' (first
 |simp only[go_sem,hD,hY,hZ,gC,b1,b2]
 |(with_reducible refine CU (Fw _ _) ?_)
 |(with_reducible refine CU (od _) ?_)
 |(with_reducible refine CU (ug _ _) ?_)
 | (with_reducible refine ax hQ ?_;exact aB))
  rcases MY iR p.procs 0 with ⟨e1,e2⟩|⟨m,j,e1,e2,e3⟩
  ·have b3:p.oT=true:=by unfold Pg.oT Pg.find;rw [e1]
   have hi:fS iR 0 p.pn = -1:=e2
   simp only[b1,b2,b3,zbI,if_true]at hR
   subst hR
   simp only[hi]at Fw
   have d1:decide ((-1:Int)<0)=true:=by decide
   repeat' (first
 |simp only[go_sem,hD,hY,hZ,gC,b1,b2,d1]
 |(with_reducible refine CU (Fw _ _) ?_)
 |(with_reducible refine CU (od _) ?_)
 |(with_reducible refine CU (ug _ _) ?_)
 | (with_reducible refine ax hQ ?_;exact aB))
  have hi:fS iR 0 p.pn=((j:Nat):Int):=by rw[show p.pn=p.procs.map (·.name)from rfl];simpa using e3
  simp only[hi]at Fw
  have d1:decide (((j:Nat):Int)<0)=false:=by simp
  have hj:j<p.procs.length:=(zac.1 e2).1
  have b3:p.oT=decide ((m.params.length:Int) > 0):=by unfold Pg.oT Pg.find;rw[e1]
  rw[b3]at hR
  rcases zaa (decide ((m.params.length:Int) > 0))with b4|b4
  ·simp only [b1,b2,b4,zbI,if_true]at hR
   subst hR
   repeat' (first
 |simp only[go_sem,hD,hY,hZ,gC,b1,b2,d1,e2,b4]
 |(with_reducible refine CU (Fw _ _) ?_)
 |(with_reducible refine CU (od _) ?_)
 |(with_reducible refine CU (ug _ _) ?_)
 |(with_reducible refine ax hQ ?_;exact aB))
  simp only[b1,b2,b4,Bool.or_false,zab,if_false]at hR
  repeat' (first
 |simp only[go_sem,hD,hY,hZ,gC,b1,b2,d1,e2,b4]
 |(with_reducible refine CU (Fw _ _) ?_)
 |(with_reducible refine CU (od _) ?_)
 |(with_reducible refine CU (ug _ _) ?_)
 |(with_reducible refine CU (du _) ?_)
 | (with_reducible refine ax hQ ?_;exact aB))
  refine di 2 1 (aN.ind (ι:=List Pc×Nat) (fun i=>p.procs.drop i.2=i.1∧rV p p.pn i.1=R) (fun i=>i.1.length)
   (fun i=> [(1, .ptr 0 0),(2, .ptr 1 0),(3, .slice (.tok 0) 1 (p.pn.map encStr)),(7, .dO (fU p) 0),(57, .slice .shared 5 (p.procs.map bN)),(58, .int .i64 (p.procs.length:Int)),(59, .int .i64 (i.2:Int))]) (fun i=>⟨[bS p,[.int .i64 0, .int .i64 0]],[some p.pn.length]⟩) ?_ (p.procs,0) ⟨rfl,hR⟩)
  clear IH h1 hD hR
  rintro⟨rest,k⟩ ⟨h1,hR⟩ IH
  dsimp only at h1 hR
  cases rest with
  |nil=>
   have hD:=drop_nil h1
   simp only[rV]at hR
   subst hR
   repeat' (first
 |simp only[go_sem,hD,hY,hZ,gC]
 | (with_reducible refine ax hQ ?_;exact aB))
  | cons f rest=>
   obtain⟨hY,g2,hD,g4⟩:=drop_cons h1
   have aZ:k<4611686018427387904:=by omega
   have oP:=zad hY
   have rD:=h.small oP
   have M4:=fun s=>aaW (f:=f) rD.par rD.vars s
   have kn:f.own.length<4611686018427387904:=by have h1:=rD.par;have h2:=rD.vars;unfold Pc.own Pc.lx;simp;omega
   have yl:=fun s=>Fv (l:=f.own) kn .shared s
   have rW:=fun {s:St} {o:Nat} (ho:s.aq[o]? = some (bS p))=>Ab (l:=f.own) kn (f:=130) (row:=bS p) (b:=dS p.globals) (gR p) (by with_unfolding_all rfl) (fun x _=>YQ p rD.rJ x) ho
   have YR:=fun {s:St} {o:Nat} (ho:s.aq[o]? = some (bS p))=>(show az Tryz.prog 129 [.slice .shared 1 (f.own.map encStr), .il 130 [.ptr o 0]] s (.bool (f.own.any (dS p.globals))) s from rW ho)
   simp only[rV,VH,b1,zbg]at hR
   rcases zaa (er f.own)with c1|c1
   ·simp only [c1,zbj,if_true]at hR
    subst hR
    repeat' (first
 |simp only[go_sem,hD,hY,hZ,gC,c1]
 |(with_reducible refine CU (M4 _) ?_)
 |(with_reducible refine CU (yl _) ?_)
 |(with_reducible refine CU (YR (by with_unfolding_all rfl)) ?_)
 | (with_reducible refine ax hQ ?_;exact aB))
   rcases zaa (f.own.any (dS p.globals))with c2|c2
   ·simp only [c1,c2,zbg,if_true]at hR
    subst hR
    repeat' (first
 |simp only[go_sem,hD,hY,hZ,gC,c1,c2]
 |(with_reducible refine CU (M4 _) ?_)
 |(with_reducible refine CU (yl _) ?_)
 |(with_reducible refine CU (YR (by with_unfolding_all rfl)) ?_)
 | (with_reducible refine ax hQ ?_;exact aB))
   simp only[c1,c2,Bool.or_self,zab,if_false]at hR
   obtain⟨it,iD,C7⟩:=Yw hY (by omega)
   rw[← iD]at hR
   have IN:it.length≤900000:=by
    have e:=congrArg List.length iD
    have e2:=(pd p).2 k f hY
    obtain⟨a,b,e',_,_,e3,e4⟩:=e2
    have e5:=qL p
    have e6:=congrArg List.length e3
    rw[e4]at e5
    simp only[zaw,zaj]at e e5 e6
    omega
   repeat' (first
 |simp only[go_sem,hD,hY,hZ,gC,c1,c2]
 |(with_reducible refine CU (M4 _) ?_)
 |(with_reducible refine CU (yl _) ?_)
 |(with_reducible refine CU (YR (by with_unfolding_all rfl)) ?_)
 |(with_reducible refine CU (C7 _) ?_)
 | (with_reducible refine ax hQ ?_;exact aB))
   obtain⟨q,hq⟩ : ∃ q,vS p f p.pn (it.map Im.s)=q:=⟨_,rfl⟩
   rw[hq]at hR
   refine di 3 1 (aN.ind (ι:=List Im×Nat) (fun i=>it.drop i.2=i.1∧vS p f p.pn (i.1.map Im.s)=q) (fun i=>i.1.length)
    (fun i=> [(1, .ptr 0 0),(2, .ptr 1 0),(3, .slice (.tok 0) 1 (p.pn.map encStr)),(7, .dO (fU p) 0),(9, .ptr 2 0),(57, .slice .shared 5 (p.procs.map bN)),(58, .int .i64 (p.procs.length:Int)),(59, .int .i64 (k:Int)),(76, .slice .shared 17 (it.map dK)),(77, .int .i64 (it.length:Int)),(78, .int .i64 (i.2:Int))]) (fun i=>⟨[bS p,[.int .i64 0, .int .i64 0],bN f],[some p.pn.length]⟩) ?_ (it,0) ⟨rfl,hq⟩)
   rintro⟨po,n⟩ ⟨j1,j2⟩ qo
   dsimp only at j1 j2
   have zJ:=hD
   cases po with
   |nil=>
    have YS:=drop_nil j1
    simp only[zai,vS]at j2
    subst j2
    simp only at hR
    repeat' (first
 |simp only[go_sem,hD,hY,hZ,gC,YS]
 | (with_reducible refine ax hQ ?_;exact aB))
    refine cv 2 1 ?_ ?_ (IH (rest,k+1) ⟨g2,hR⟩ (zae _))
    ·(simp only[go_sem,hD,hY,hZ,gC,aw aZ];try exact aU)
    ·(simp only[go_sem,hD,hY,hZ,gC,aw aZ];try exact aU)
   | cons i po=>
    obtain⟨fe,oe,iQ,G6⟩:=drop_cons j1
    have gn:n<4611686018427387904:=by omega
    have xk:i.s∈Sm.cZ f.body:=by rw[← iD];exact za1 (zad fe)
    have hkn:=acR (v:=i.s) rD (procs:=p.pn) (by omega) (h.said oP _ xk)
    simp only[zaf,vS]at j2
    rcases zaa (i.s.known p f p.pn)with c3|c3
    ·simp only [c3,if_true]at j2
     repeat' (first
 |simp only[go_sem,hD,hY,hZ,gC,iQ,fe,c3]
 |(with_reducible refine CU (hkn _ _) ?_)
 | (with_reducible refine ax hQ ?_;exact aB))
     refine cv 3 1 ?_ ?_ (qo (po,n+1) ⟨oe,j2⟩ (zae _))
     ·(simp only[go_sem,hD,hY,hZ,gC,aw gn];try exact aU)
     ·(simp only[go_sem,hD,hY,hZ,gC,aw gn];try exact aU)
    ·simp only [c3,zab,if_false]at j2
     subst j2
     simp only at hR
     subst hR
     repeat' (first
 |simp only[go_sem,hD,hY,hZ,gC,iQ,fe,c3]
 |(with_reducible refine CU (hkn _ _) ?_)
 |(with_reducible refine ax hQ ?_;exact aB))
end Go.Abs
namespace Go.Abs
mutual
def Ex.jn:Ex→Prop
 |⟨_,n,_,kids⟩=>n≤9223372036854775807∧Ex.uz kids
def Ex.uz:List Ex→Prop
 | []=>True
 |x::l=>x.jn∧Ex.uz l
end
mutual
def Sm.jn:Sm→Prop
 |⟨_,_,_,_,_,x,_,args,a8,aK⟩=>x.jn∧(∀ a∈args,a.x.jn)∧Sm.uz a8∧Sm.uz aK
def Sm.uz:List Sm→Prop
 | []=>True
 |s::l=>s.jn∧Sm.uz l
end
def Pg.jn (p:Pg):Prop:=∀ f∈p.procs,Sm.uz f.body
theorem JT {f:Pc} : ∀ {l:List Pc} {n:Nat},Pc.fI n l=true→f∈l→(isName f.name=true∧ez f.vars=true∧ez f.fin=true∧Pm.eU f.params=true)∧∃ n,(Sm.iC 1 n f.body).1=true
 |g::l,n,h,m=>by
  simp only[Pc.fI]at h
  split at h
  ·cases h
  rename_i c1
  split at h
  ·cases h
  rename_i c2
  split at h
  ·cases h
  rename_i c3
  simp only[zaC,zaH,not_or,zbb]at c1 c2 c3
  rcases zap.1 m with rfl|m
  ·exact⟨⟨c1.1.1.2,c1.1.2,c1.2,c2⟩,n,c3⟩
  ·exact JT h m
mutual
theorem SS : ∀ (s:Sm) (nest:Int) (n:Nat),(Sm.rK nest n s).1=true→s.size<4611686018427387000→s.uZ
 |⟨id,kind,labels,name,proc,x,has,args,a8,aK⟩,nest,n,hm,hs=>by
  obtain⟨_,_,h1,h2,h3,_⟩:=JR hm
  rw[Ft]
  rw[(vB h2).2]at h2
  rw[(vB h3).2]at h3
  refine⟨MV h1 hs,wB a8 _ _ h2 ?_,wB aK _ _ h3 ?_⟩<;>simp only[Sm.size]at hs<;>omega
theorem wB : ∀ (l:List Sm) (nest:Int) (n:Nat),(Sm.fI nest n l).1=true→Sm.bq l<4611686018427387000→Sm.kh l
 | [],_,_,_,_=>by simp only[Sm.kh]
 |s::l,nest,n,hm,hs=>by
  simp only[Sm.fI]at hm
  simp only[Sm.bq]at hs
  split at hm
  ·cases hm
  rename_i hc
  simp only[zaH,zbb]at hc
  exact⟨SS s nest n hc (by omega),wB l nest _ hm (by omega)⟩
end
theorem VK {p:Pg} (h:p.may=true) (hs:p.size<4611686018427387000):p.G0:=by
 have hf:=YG h hs
 rw[← DX]at h
 unfold Pg.IM at h
 split at h
 ·cases h
 refine⟨hf.sz,hf.rJ,hf.lF,fun f m=>?_⟩
 obtain⟨_,n,e⟩:=JT h m
 rw[(vB e).2]at e
 have:=Pc.cq m
 simp only[Pg.size]at hs
 exact wB f.body 1 n e (by unfold Pc.size at this;omega)
mutual
theorem SU {deep a7:Int} {aK:Bool} {out:List It} {i:It} : ∀ s:Sm,s.uZ→i∈gN deep a7 aK out s→i∈out∨i.s.kO
 | ⟨id,kind,labels,name,proc,x,has,args,a8,e⟩,hf,h=>by
  simp only[gN]at h
  simp only[Sm.uZ]at hf
  have key:i∈out++ [(⟨⟨id,kind,labels,name,proc,x,has,args,a8,e⟩,deep,a7,aK⟩:It)]→i∈out∨i.s.kO:=by
   intro h
   rcases zaq.1 h with h|h
   ·exact .inl h
   ·simp at h;subst h;exact .inr hf.1
  split at h
  ·rcases wC e hf.2.2 h with h | h
   ·rcases wC a8 hf.2.1 h with h | h
    ·exact key h
    ·exact .inr h
   ·exact .inr h
  ·exact key h
theorem wC {deep a7:Int} {aK:Bool} {out:List It} {i:It} : ∀ l:List Sm,Sm.kh l→i∈dJ deep a7 aK out l→i∈out∨i.s.kO
 | [],_,h=>by simp only[dJ]at h;exact .inl h
 | s::l,hf,h=>by
  simp only[dJ]at h
  simp only[Sm.kh]at hf
  split at h
  ·rcases wC l hf.2 h with h | h
   ·exact SU s hf.1 h
   ·exact .inr h
  ·exact .inl h
end
theorem JU {i:It} : ∀ (l:List Pc) (out:List It),(∀ f∈l,Sm.kh f.body)→i∈allM out l→i∈out∨i.s.kO
 | [],out,_,h=>by simp only[allM]at h;exact .inl h
 | f::l,out,hf,h=>by
  have key:i∈out++f.flat→i∈out∨i.s.kO:=by
   intro h
   rcases zaq.1 h with h|h
   ·exact .inl h
   ·rcases wC _ (hf f (zaA ..)) h with h | h
    ·simp at h
    ·exact .inr h
  simp only[allM]at h
  split at h
  ·exact key h
  ·rcases JU l _ (fun g m=>hf g (zan _ m)) h with h | h
   ·exact key h
   ·exact .inr h
theorem SV {p:Pg} (h:p.G0):p.kO:=⟨h.sz,h.rJ,h.lF,fun i hi=>(JU p.procs [] h.body hi).resolve_left (by simp)⟩
end Go.Abs
