/-
  What is proved here: part 5 of the road to the claim (Frz, MirLex, MirMay, Prs, Lex1, Lex2, RefLex1, Prs2, Ref1, Ref2, Ref3, RefMay1, RefMay2, Flat1, Flat2, Flat3, Sl1, MirFlat2, Sl2, TMay1, TMay2, RefMay3, RefMay4, TMay3, TMay4, MayFine, MayEq, Nm1, Cp1, MirMapS, Cp2, SelA, WpA, Cp3, CmA).
  No conditions.
-/
import Derived.Test.YtiopamakecmpkaaGreatCmK2
import Derived.Test.YtiopamakecmpkaaGreatCmK3
import Derived.Test.YtiopamakecmpkaaGreatCmK4

set_option linter.unusedSimpArgs false
set_option linter.unusedVariables false
namespace Go.Abs
theorem ay.xK {P:Program} {f:Nat} {args:List D} {s0 s:St} {o off n m:Nat} {row:List D} (h:ay P f args s0 (.ptr o off) s) (ho:s.av[o]? = some row) (hn:s0.av.length≤n) (hno:n≤o) (hm:s0.aw.length≤m) :
 ay P f args s0 (.dr (D.eI n m row) off) (s.cut n m):=by
 intro M0 w0 fi r0 iM R3 ha
 refine(h M0 w0 fi r0 iM R3 ha).mono ?_
 rintro en w ⟨M,d,v0,s',rfl,⟨rfl,rfl⟩,e,r,hv⟩
 have uY:=hv.xW
 have py:v0 = .pointer (some ⟨M.mu o,off,none⟩):=hv.qg.1
 have wB:o<s'.av.length:=(zae.1 ho).1
 obtain⟨vs,T,hh,cV,⟨fJ,_⟩,gZ⟩:=r.obj o row ho
 replace hh:w.heap[M.mu o]? = some (.cells vs T (0,0)):=hh.cells uY
 let M':Map:= {M with G:=fun b q=>if b=M.mu o then vs[q]? else M.G b q}
 have Yp : ∀ q,M.G (M.mu o) q=none:=r.iK o wB
 have le:Le M s' M' s':=⟨fun b q v hq=>by
  show(if b=M.mu o then vs[q]? else M.G b q)=some v
  by_cases hb:b=M.mu o
  ·subst hb;rw[Yp]at hq;cases hq
  ·rw[if_neg hb];exact hq,zag _,fun _ _=> .refl _,zag _,fun t n' _ e=>⟨n',e,zag _,fun _=>rfl⟩⟩
 have hF : ∀ q,q<(s'.cut n m).av.length→q<s'.av.length∧q≠o:=fun q h=>by rw[ju]at h;omega
 have qK:w0.heap.size≤M.mu o:=e.n5 o (.inl (by omega)) wB
 have ec:=e.cut hn hm
 have OH:Le M (s'.cut n m) M' (s'.cut n m):=⟨le.G,zag _,fun _ _=> .refl _,zag _,fun t n' _ e=>⟨n',e,zag _,fun _=>rfl⟩⟩
 have rc:=r.cut n m
 have lf : ∀ b,b≠M.mu o→∀ q,M'.G b q=M.G b q:=fun b hb q=>if_neg hb
 refine⟨M',_,v0,_,rfl,⟨rfl,rfl⟩,⟨ec.le.trans OH,ec.kept,ec.n5,ec.mR,fun b q dL=>?_,ec.size,ec.os,ec.tape,ec.output⟩,⟨fun b q v hq=>?_,fun q ds hq=>?_,fun q hq oG=>?_,rc.inj,fun t n' DP=>?_,rc.dY,rc.fB⟩, ?_⟩
 ·by_cases hb:b=M.mu o
  ·subst hb;exact .inl qK
  ·rw[lf b hb]at dL;exact ec.n6 b q dL
 ·have ki:(if b=M.mu o then vs[q]? else M.G b q)=some v:=hq
  by_cases hb:b=M.mu o
  ·rw [if_pos hb]at ki
   rw[hb,gY hh]
   exact⟨ki,fJ v (zbp ki)⟩
  ·rw [if_neg hb]at ki
   exact r.comm b q v ki
 ·obtain⟨eR,T',h3,h4,h5,h6⟩:=rc.obj q ds hq
  exact⟨eR,T',h3,h4,h5,fun i d v e1 e2=>(h6 i d v e1 e2).mono OH⟩
 ·obtain⟨h3,h4⟩:=hF q hq
  show M'.G (M.mu q) oG=none
  rw[lf _ (fun e=>h4 (r.inj q o h3 wB e))]
  exact r.iK q h3 oG
 ·rcases rc.tok t n' DP with h3 | ⟨b,cap,z,eR,T',h3,h4,h5,h6,h7⟩
  ·exact .inl h3
  ·refine .inr ⟨b,cap,z,eR,T',h3,h4,h5,h6,fun oG wq=> ?_,h7.2⟩
   rw[lf _ (fun e=>r.dY t b cap z o (sI ⟨n',DP⟩) h3 wB e.symm)]
   exact h7.1 oG wq
 ·rw [py]
  have:=RD.dr (M:=M') (s:=s'.cut n m) (D.eI n m row) off (M.mu o) 0 (fun i d e1=>?_) (fun i d u e1 eu=>?_)
  ·simpa using this
  ·rw [jF,zap,zaq]at e1
   obtain⟨d0,e1,rfl⟩:=e1
   have hi:=(zae.1 e1).1
   refine⟨vs[i]'(by omega), ?_⟩
   show(if M.mu o=M.mu o then vs[0+i]? else _)=_
   rw[if_pos rfl,za6]
   exact za9 _
  ·rw [jF,zap,zaq]at e1
   obtain⟨d0,e1,rfl⟩:=e1
   have BD:(if M.mu o=M.mu o then vs[0+i]? else M.G (M.mu o) (0+i))=some u:=eu
   rw[if_pos rfl,za6]at BD
   exact((gZ i d0 u e1 BD).fg n m).mono OH
theorem ay.DX {P:Program} {f:FuncId} {res:List (Nat×Option (Bool×Nat))} {body:AC} {args:List D} {s:St} {d:D} {s':St} {nt:Nat} (n m:Nat) (hn:s.av.length≤n) (hm:s.aw.length≤m) (h0:Has P f nt res body) (hl:Nat.ble args.length nt=true)
 (h : ∀ (B:ey) (Q:Exit→Tm→St→Prop),B.s=s→gy n m res d s'=Q→eo P B nt body Q (lV 0 args) s):ay P f args s d s':=by
 obtain⟨fn,hf,hc⟩:=h0
 refine dt.T4 (dt.intro (Q:=fun d1 s1=>Wk d1 d∧fT s1.av s'.av∧s1.aw=s'.aw) hf hc (za7 hl) fun B hB=>(gu (h B _ hB rfl)).mono fun e tm s1 hr=>?_) fun d1 s1 ⟨h1,h2,h3⟩=>⟨d,s',h1,h2,h3,rfl,rfl⟩
 subst hB
 cases e with
 |normal=>obtain⟨l,h1,h2,h3,h4⟩:=hr;exact⟨l,h1,_,_,hn,hm,h2,h3,h4⟩
 |ret=>obtain⟨l,h1,h2,h3,h4⟩:=hr;exact⟨l,h1,_,_,hn,hm,h2,h3,h4⟩
 |exit id=>exact hr.elim
 |goto l=>exact hr.elim
 |panic ch=>exact hr.elim
 |outgrown=>exact hr.elim
def pH (c:UInt8):Bool:=decide ((c.toNat:Int)≥97) && decide ((c.toNat:Int)≤122)
def n3 (c:UInt8):Bool:=decide ((c.toNat:Int)≥48) && decide ((c.toNat:Int)≤57)
def xv (c:UInt8):Bool:=(c.toNat:Int)==32 ||(c.toNat:Int)==9 ||(c.toNat:Int)==10 ||(c.toNat:Int)==13
def kp:aA→Nat
 | []=>0
 |c::r=>if pH c ||n3 c then kp r+1 else 0
def pI:aA→Nat
 | []=>0
 |c::r=>if n3 c then pI r+1 else 0
def oz:aA→Nat
 | []=>0
 |c::r=>if(c.toNat:Int) != 10 then oz r+1 else 0
def isWord (s:aA):Bool:=
 s == [103,108,111,98,97,108] ||s == [112,114,111,99] ||s == [118,97,114] ||s == [114,101,102] ||s == [105,102] ||s == [101,108,115,101] ||s == [119,104,105,108,101] ||s == [98,114,101,97,107] ||s == [99,111,110,116,105,110,117,101] ||s == [114,101,116,117,114,110] ||s == [103,111,116,111] ||s == [114,101,97,100] ||s == [112,114,105,110,116]
def Uq (s:aA):Bool:=s == [61,61] ||s == [33,61] ||s == [60,61] ||s == [62,61] ||s == [38,38] ||s == [124,124]
def Fm (c:UInt8):Bool:=
 (c.toNat:Int)==40 ||(c.toNat:Int)==41 ||(c.toNat:Int)==123 ||(c.toNat:Int)==125 ||(c.toNat:Int)==44 ||(c.toNat:Int)==59 ||(c.toNat:Int)==58 ||(c.toNat:Int)==61 ||
 (c.toNat:Int)==33 ||(c.toNat:Int)==60 ||(c.toNat:Int)==62 ||(c.toNat:Int)==43 ||(c.toNat:Int)==45 ||(c.toNat:Int)==42 ||(c.toNat:Int)==47 ||(c.toNat:Int)==37
def qL:aA→Nat
 | []=>0
 | [c]=>if Fm c then 1 else 0
 |c::d::_=>if Uq [c,d]then 2 else if Fm c then 1 else 0
def tQ:Int→aA→Option Int
 |n,[]=>some n
 |n,c::r=>if n > (9223372036854775807 - ((c.toNat:Int) - 48)) / 10 then none else tQ (n*10+((c.toNat:Int) - 48)) r
def Mp (pos:Nat):aA→eY ⊕ Int
 | []=> .inr 2
 | c::r=>
  if pH c then
   let s:=(c::r).take (kp (c::r))
   if s.length > 8 then .inr 4 else .inl ⟨if isWord s then 3 else 1,s,0,pos⟩
  else if n3 c then
   let s:=(c::r).take (pI (c::r))
   if s.length > 1∧(c.toNat:Int)=48 then .inr 2 else
   match tQ 0 s with
   |some n=> .inl ⟨2,s,n,pos⟩
   |none=> .inr 4
  else
   if qL (c::r)=0 then .inr 2 else .inl ⟨4,(c::r).take (qL (c::r)),0,pos⟩
def lW:Nat→Nat→aA→List eY→List eY×Int×Int
 | 0,_,_,_=>([],0,0)
 |_+1,pos,[],out=>(out++ [⟨0,[],0,pos⟩],0,0)
 | n+1,pos,c::r,out=>
  if xv c then lW n (pos+1) r out
  else if(c.toNat:Int)==35 then lW n (pos+oz (c::r)) ((c::r).drop (oz (c::r))) out
  else match Mp pos (c::r)with
   | .inr e=>([],e,pos)
   | .inl t=>if out.length=2000 then([],4,pos)else lW n (pos+t.text.length) ((c::r).drop t.text.length) (out++ [t])
def nk (text:aA):List eY×Int×Int:=if text.length > 100000 then([],4,0)else lW (text.length+1) 0 text []
def sg:aA→Bool
 | []=>true
 |c::r=>if !(pH c) && !(n3 c)then false else sg r
def isName:aA→Bool
 | []=>false
 |c::r=>if decide (((r.length+1:Nat):Int) > 8) || !(pH c)then false else if sg r then !(isWord (c::r))else false
def lr (op:Int):Int:=if op==1 ||op==2 then 0 else if op==3 ||op==4 then 1 else if decide (op≥5) && decide (op≤17)then 2 else -1
mutual
def Ex.form:Ex→Bool
 |⟨op,n,name,kids⟩=>
  if lr op != (kids.length:Int) ||(op != 1 && n != 0) ||decide (n<0) || !((op==2) == !(name == [])) ||(!(name == []) && !(isName name))then false else Ex.nK kids
def Ex.nK:List Ex→Bool
 | []=>true
 |x::l=>if !(Ex.form x)then false else Ex.nK l
end
mutual
def Ex.texts:Ex→Prop
 |⟨_,_,name,kids⟩=>name.length<4611686018427387904∧Ex.sO kids
def Ex.sO:List Ex→Prop
 | []=>True
 |x::l=>x.texts∧Ex.sO l
end
theorem Ex.BE {x:Ex} : ∀ {l:List Ex},Ex.sO l→x∈l→x.texts
 |y::l,h,m=>by
  rcases zan.1 m with rfl|m
  ·exact h.1
  ·exact Ex.BE h.2 m
theorem Ex.DY {op n:Int} {name:aA} {kids:List Ex} (h:Ex.texts ⟨op,n,name,kids⟩) {y:Ex} (m:y∈kids):y.texts:=Ex.BE h.2 m
def Ex.may (x:Ex):Bool:=decide (((min x.depth 21:Nat):Int)≤20) && x.form
def Ex.none (x:Ex):Bool:=x.op==0 && x.n==0 && x.name == [] && (x.kids.length:Int)==0
def cL:List aA→Bool
 | []=>true
 |s::l=>if !(isName s)then false else cL l
def Ar.may (a:Ar):Bool:=if a.ref then isName a.name && a.x.none else a.name == [] && a.x.may
def Ar.dR:List Ar→Bool
 | []=>true
 |a::l=>if !(a.may)then false else Ar.dR l
def Sm.uJ (s:Sm):Bool:=s.kind==1 ||s.kind==3 ||s.kind==5 ||s.kind==6 ||(s.kind==9 && s.has)
def Sm.hasName (s:Sm):Bool:=s.kind==1 ||s.kind==2 ||s.kind==10
def Sm.oj (s:Sm):Bool:=s.kind==4
def Sm.one (s:Sm):Bool:=
 if decide (s.kind<1) ||decide (s.kind > 10) || !(cL s.labels) ||(s.uJ && !(s.x.may)) ||(!(s.uJ) && !(s.x.none)) ||(s.has && s.kind != 9)then false
 else if(s.hasName && !(isName s.name)) ||(!(s.hasName) && !(s.name == []) && !(s.oj && isName s.name))then false
 else if !(s.oj == !(s.proc == [])) ||(s.oj && !(isName s.proc)) ||(!(s.oj) && decide ((s.args.length:Int) > 0))then false
 else if !(Ar.dR s.args)then false
 else((s.aV.length:Int)==0 ||s.kind==5 ||s.kind==6) && ((s.aN.length:Int)==0 ||s.kind==5)
structure It where
 s:Sm
 deep:Int
 bM:Int
 aN:Bool
mutual
def fj (deep bM:Int) (aN:Bool) (out:List It):Sm→List It
 |⟨id,kind,labels,name,proc,x,has,args,aV,e⟩=>
  if decide (deep≤12)then dc (deep+1) id true (dc (deep+1) id false (out++ [⟨⟨id,kind,labels,name,proc,x,has,args,aV,e⟩,deep,bM,aN⟩]) aV) e
  else out++ [⟨⟨id,kind,labels,name,proc,x,has,args,aV,e⟩,deep,bM,aN⟩]
def dc (deep bM:Int) (aN:Bool) (out:List It):List Sm→List It
 | []=>out
 |s::l=>if decide ((out.length:Int)≤200)then dc deep bM aN (fj deep bM aN out s) l else out
end
def Pc.flat (f:Pc):List It:=dc 1 0 false [] f.body
def allM (out:List It):List Pc→List It
 | []=>out
 |f::l=>if decide (((out++f.flat).length:Int) > 200)then out++f.flat else allM (out++f.flat) l
def Pg.all (p:Pg):List It:=allM [] p.procs
def Pm.dR:List Pm→Bool
 | []=>true
 |a::l=>if !(isName a.name)then false else Pm.dR l
def Pc.ie:List Pc→Bool
 | []=>true
 |f::l=>
  if !(isName f.name) ||decide ((f.params.length:Int) > 8) ||decide ((f.vars.length:Int) > 16) || !(cL f.vars) || !(cL f.fin)then false
  else if !(Pm.dR f.params)then false else Pc.ie l
def It.dR (n:Nat):List It→Bool
 | []=>true
 |i::l=>if i.s.id != ((n+1:Nat):Int) ||decide (i.deep > 12) || !(i.s.one)then false else It.dR (n+1) l
def Pg.may (p:Pg):Bool:=
 if decide ((p.globals.length:Int) > 16) ||decide ((p.procs.length:Int) > 16) || !(cL p.globals)then false
 else if !(Pc.ie p.procs)then false
 else if decide ((p.all.length:Int) > 200)then false else It.dR 0 p.all
set_option maxRecDepth 8000
open Go.Proofs
@[go_sem] def cj (r:Rd):List D:= [.slice .shared 4 (r.l.map dS), .int .i64 r.i, .int .i64 r.code, .int .i64 r.tF, .int .i64 r.n]
theorem ff (r:Rd):D.bg 0 0 (cj r)=true:=by simp[cj,D.bg,D.ok,Tag.ok,GO]
theorem qn {r:Rd} {t:eY} (h:r.n8=some t):r.i<4611686018427387904:=(GU h).1
theorem is_lt {r:Rd} {s:aA} {t:Bool} (h:r.is s=some t):r.i<4611686018427387904:=by
 obtain⟨t,h1,h⟩:=zas.1 h
 exact qn h1
-- good
theorem Yq (l:List eY) (i c f n:Int):ay Tryz.prog 133 [.ptr 0 0] ⟨[[.slice .shared 4 (l.map dS), .int .i64 i, .int .i64 c, .int .i64 f, .int .i64 n]],[]⟩ (.bool (c==0)) ⟨[[.slice .shared 4 (l.map dS), .int .i64 i, .int .i64 c, .int .i64 f, .int .i64 n]],[]⟩:=by
 refine ay.go vA.h rfl fun B Q hB hQ=>?_
 have⟨hF,hP,hZ,gA⟩:=bD
 repeat' (first
 |simp only[go_sem,hF,hP,hZ,gA,ln]
 |(with_reducible refine az hQ ?_;exact aR))
theorem jG {l:List eY} {i c f n:Int} {s:St} {o:Nat} (ho:s.av[o]? = some [.slice .shared 4 (l.map dS), .int .i64 i, .int .i64 c, .int .i64 f, .int .i64 n]):ay Tryz.prog 133 [.ptr o 0] s (.bool (c==0)) ⟨s.av.set o [.slice .shared 4 (l.map dS), .int .i64 i, .int .i64 c, .int .i64 f, .int .i64 n],s.aw⟩:=
 have hk:D.bg 0 0 [.slice .shared 4 (l.map dS), .int .i64 i, .int .i64 c, .int .i64 f, .int .i64 n] = true:=by simp[D.bg,D.ok,Tag.ok,GO]
 ay.jv (Yq l i c f n) rfl hk hk rfl ho
theorem Yr {r:Rd} {t:eY} (h:r.n8=some t):ay Tryz.prog 137 [.ptr 0 0] ⟨[cj r],[]⟩ (.agg (dS t)) ⟨[cj r],[]⟩:=by
 obtain⟨h2,h,_,_⟩:=GU h
 refine ay.go vB.h rfl fun B Q hB hQ=>?_
 have⟨hF,hP,hZ,gA⟩:=bD
 repeat' (first
 |simp only[go_sem,hF,hP,hZ,gA,ln,h]
 |(with_reducible refine az hQ ?_;exact aR))
theorem nn {r:Rd} {t:eY} (h:r.n8=some t) {s:St} {o:Nat} (ho:s.av[o]? = some (cj r)):ay Tryz.prog 137 [.ptr o 0] s (.agg (dS t)) ⟨s.av.set o (cj r),s.aw⟩:=
 (Yr h).jv rfl (ff r) (ff r) (Fk t) ho
theorem aeq {r:Rd} {text:aA} {b:Bool} (h:r.is text=some b):ay Tryz.prog 134 [.ptr 0 0, .str text] ⟨[cj r],[]⟩ (.bool b) ⟨[cj r],[]⟩:=by
 unfold Rd.is at h
 refine ay.go xF.h rfl fun B Q hB hQ=>?_
 have⟨hF,hP,hZ,gA⟩:=bD
 repeat' (first
 |simp only[go_sem,hF,hP,hZ,gA,ln]
 |(rw[zas]at h;obtain⟨_,h1,h⟩:=h;first|(with_reducible refine CU (nn h1 (by with_unfolding_all rfl)) ?_))
 |(with_reducible first|refine bj fun hc=>?_|refine bk fun hc=>?_|refine bl (fun hc=>?_) fun hc=>?_)<;>(try simp only[hc,bs,↓reduceIte]at h)<;>try simp only[hc]
 |((with_reducible refine az hQ ?_);(try cases h);simp only[bt,bx,bY,bZ,go_sem,hF,hP,hZ,gA,ln];try exact cB))
theorem yq {r:Rd} {text:aA} {b:Bool} (h:r.is text=some b) {s:St} {o:Nat} (ho:s.av[o]? = some (cj r)):ay Tryz.prog 134 [.ptr o 0, .str text] s (.bool b) ⟨s.av.set o (cj r),s.aw⟩:=
 (aeq h).jv rfl (ff r) (ff r) rfl ho
theorem abn {r r':Rd} {c:Int} (h:r.bad c=some r'):ay Tryz.prog 135 [.ptr 0 0, .int .i64 c] ⟨[cj r],[]⟩ (.tuple []) ⟨[cj r'],[]⟩:=by
 unfold Rd.bad at h
 refine ay.go wA.h rfl fun B Q hB hQ=>?_
 have⟨hF,hP,hZ,gA⟩:=bD
 repeat' (first
 |simp only[go_sem,hF,hP,hZ,gA,ln]
 |(rw[zas]at h;obtain⟨_,h1,h⟩:=h;first|(with_reducible refine CU (nn h1 (by with_unfolding_all rfl)) ?_))
 |(with_reducible refine CU (jG (by with_unfolding_all rfl)) ?_)
 |(with_reducible first|refine bj fun hc=>?_|refine bk fun hc=>?_|refine bl (fun hc=>?_) fun hc=>?_)<;>(try simp only[hc,bs,↓reduceIte]at h)<;>try simp only[hc]
 |((with_reducible refine az hQ ?_);(try cases h);simp only[bt,bx,bY,bZ,go_sem,hF,hP,hZ,gA,ln];try exact cB))
theorem BF {r r':Rd} {c:Int} (h:r.bad c=some r') {s:St} {o:Nat} (ho:s.av[o]? = some (cj r)):ay Tryz.prog 135 [.ptr o 0, .int .i64 c] s (.tuple []) ⟨s.av.set o (cj r'),s.aw⟩:=
 (abn h).jv rfl (ff r) (ff r') rfl ho
theorem Ys {r:Rd} {text:aA} {p:Bool×Rd} (h:r.take text=some p):ay Tryz.prog 131 [.ptr 0 0, .str text] ⟨[cj r],[]⟩ (.bool p.1) ⟨[cj p.2],[]⟩:=by
 unfold Rd.take at h
 refine ay.go vz.h rfl fun B Q hB hQ=>?_
 have⟨hF,hP,hZ,gA⟩:=bD
 repeat' (first
 |simp only[go_sem,hF,hP,hZ,gA,ln]
 |(rw[zas]at h;obtain⟨_,h1,h⟩:=h;first|(with_reducible refine CU (yq h1 (by with_unfolding_all rfl)) ?_;have hF:=is_lt h1))
 |(with_reducible refine CU (jG (by with_unfolding_all rfl)) ?_)
 |(with_reducible first|refine bj fun hc=>?_|refine bk fun hc=>?_|refine bl (fun hc=>?_) fun hc=>?_)<;>(try simp only[hc,bs,↓reduceIte]at h)<;>try simp only[hc]
 |((with_reducible refine az hQ ?_);(try cases h);simp only[bt,bx,bY,bZ,go_sem,hF,hP,hZ,gA,ln];try exact cB))
theorem rk {r:Rd} {text:aA} {p:Bool×Rd} (h:r.take text=some p) {s:St} {o:Nat} (ho:s.av[o]? = some (cj r)):ay Tryz.prog 131 [.ptr o 0, .str text] s (.bool p.1) ⟨s.av.set o (cj p.2),s.aw⟩:=
 (Ys h).jv rfl (ff r) (ff p.2) rfl ho
theorem Yt {r r':Rd} {text:aA} (h:r.want text=some r'):ay Tryz.prog 171 [.ptr 0 0, .str text] ⟨[cj r],[]⟩ (.tuple []) ⟨[cj r'],[]⟩:=by
 unfold Rd.want at h
 refine ay.go vu.h rfl fun B Q hB hQ=>?_
 have⟨hF,hP,hZ,gA⟩:=bD
 repeat' (first
 |simp only[go_sem,hF,hP,hZ,gA,ln]
 |(rw[zas]at h;obtain⟨_,h1,h⟩:=h;first|(with_reducible refine CU (rk h1 (by with_unfolding_all rfl)) ?_))
 |(with_reducible refine CU (BF h (by with_unfolding_all rfl)) ?_)
 |(with_reducible first|refine bj fun hc=>?_|refine bk fun hc=>?_|refine bl (fun hc=>?_) fun hc=>?_)<;>(try simp only[hc,bs,↓reduceIte]at h)<;>try simp only[hc]
 |((with_reducible refine az hQ ?_);(try cases h);simp only[bt,bx,bY,bZ,go_sem,hF,hP,hZ,gA,ln];try exact cB))
theorem om {r r':Rd} {text:aA} (h:r.want text=some r') {s:St} {o:Nat} (ho:s.av[o]? = some (cj r)):ay Tryz.prog 171 [.ptr o 0, .str text] s (.tuple []) ⟨s.av.set o (cj r'),s.aw⟩:=
 (Yt h).jv rfl (ff r) (ff r') rfl ho
theorem Yu {r:Rd} {room:Bool} {p:aA×Rd} (h:r.name room=some p):ay Tryz.prog 170 [.ptr 0 0, .bool room] ⟨[cj r],[]⟩ (.str p.1) ⟨[cj p.2],[]⟩:=by
 unfold Rd.name at h
 refine ay.go vt.h rfl fun B Q hB hQ=>?_
 have⟨hF,hP,hZ,gA⟩:=bD
 repeat' (first
 |simp only[go_sem,hF,hP,hZ,gA,ln]
 |(rw[zas]at h;obtain⟨_,h1,h⟩:=h;first|(with_reducible refine CU (nn h1 (by with_unfolding_all rfl)) ?_;have hF:=qn h1)|(with_reducible refine CU (BF h1 (by with_unfolding_all rfl)) ?_))
 |(with_reducible refine CU (jG (by with_unfolding_all rfl)) ?_)
 |(with_reducible first|refine bj fun hc=>?_|refine bk fun hc=>?_|refine bl (fun hc=>?_) fun hc=>?_)<;>(try simp only[hc,bs,↓reduceIte]at h)<;>try simp only[hc]
 |((with_reducible refine az hQ ?_);(try cases h);simp only[bt,bx,bY,bZ,go_sem,hF,hP,hZ,gA,ln];try exact cB))
theorem vF {r:Rd} {room:Bool} {p:aA×Rd} (h:r.name room=some p) {s:St} {o:Nat} (ho:s.av[o]? = some (cj r)):ay Tryz.prog 170 [.ptr o 0, .bool room] s (.str p.1) ⟨s.av.set o (cj p.2),s.aw⟩:=
 (Yu h).jv rfl (ff r) (ff p.2) rfl ho
set_option maxRecDepth 8000
open Go.Proofs
theorem gF (c:UInt8) (s:St):ay Tryz.prog 76 [.int .u8 (c.toNat:Int)] s (.bool (pH c)) s:=by
 refine ay.pure ?_ rfl rfl s
 generalize h:pH c=b
 unfold pH at h
 unfold S0
 refine ay.go C5.h rfl fun B Q hB hQ=>?_
 have⟨hF,hP,hZ,gA⟩:=bD
 repeat' (first
 |simp only[go_sem,hF,hP,hZ,gA]
 |(with_reducible first|refine bj fun hc=>?_|refine bk fun hc=>?_|refine bl (fun hc=>?_) fun hc=>?_)<;>(try simp only[hc,bs,↓reduceIte]at h)<;>try simp only[hc]
 |((with_reducible refine az hQ ?_);exact dv))
theorem iT (c:UInt8) (s:St):ay Tryz.prog 128 [.int .u8 (c.toNat:Int)] s (.bool (n3 c)) s:=by
 refine ay.pure ?_ rfl rfl s
 generalize h:n3 c=b
 unfold n3 at h
 unfold S0
 refine ay.go E7.h rfl fun B Q hB hQ=>?_
 have⟨hF,hP,hZ,gA⟩:=bD
 repeat' (first
 |simp only[go_sem,hF,hP,hZ,gA]
 |(with_reducible first|refine bj fun hc=>?_|refine bk fun hc=>?_|refine bl (fun hc=>?_) fun hc=>?_)<;>(try simp only[hc,bs,↓reduceIte]at h)<;>try simp only[hc]
 |((with_reducible refine az hQ ?_);exact dv))
theorem sP (t:aA) (s:St):ay Tryz.prog 78 [.str t] s (.bool (isWord t)) s:=by
 refine ay.pure ?_ rfl rfl s
 generalize h:isWord t=b
 unfold isWord at h
 unfold S0
 refine ay.go G1.h rfl fun B Q hB hQ=>?_
 have⟨hF,hP,hZ,gA⟩:=bD
 repeat' (first
 |simp only[go_sem,hF,hP,hZ,gA]
 |(with_reducible first|refine bj fun hc=>?_|refine bk fun hc=>?_|refine bl (fun hc=>?_) fun hc=>?_)<;>(try simp only[hc,bs,↓reduceIte]at h)<;>try simp only[hc]
 |((with_reducible refine az hQ ?_);exact dv))
theorem Ur {text:aA} {pos:Nat} (hl:text.length<4611686018427387904) (s:St):ay Tryz.prog 77 [.str text, .int .i64 (pos:Int)] s (.int .i64 ((pos+kp (text.drop pos):Nat):Int)) s:=by
 refine ay.pure ?_ rfl rfl s
 unfold S0
 refine ay.go IU.h rfl fun B Q hB hQ=>?_
 have⟨hF,hP,hZ,gA⟩:=bD
 repeat' (first
 |simp only[go_sem,hF,hP,hZ,gA]
 |(with_reducible refine az hQ ?_;exact aR))
 refine cr 0 0 (aY.ind (ι:=aA×Nat) (fun i=>text.drop i.2=i.1∧i.2+kp i.1=pos+kp (text.drop pos)) (fun i=>i.1.length)
  (fun i=> [(0, .str text),(1, .int .i64 (i.2:Int))]) (fun i=>⟨[],[]⟩) ?_ (text.drop pos,pos) ⟨rfl,rfl⟩)
 rintro⟨rest,k⟩ ⟨h1,h2⟩ IH
 dsimp only at h1 h2
 cases rest with
 |nil=>
  have hF:=drop_nil h1
  simp only[kp,za4]at h2
  rw[← h2]at hQ
  repeat' (first
 |simp only[go_sem,hF,hP,hZ,gA]
 |(with_reducible refine az hQ ?_;exact aR))
 | cons c rest=>
  obtain⟨hP,g2,hF,g4⟩:=drop_cons h1
  have hZ:k<4611686018427387904:=by omega
  cases hb:(pH c ||n3 c)
  ·simp only [kp,hb,zab, ↓reduceIte,za4]at h2
   rw[← h2]at hQ
   simp only[zbB]at hb
   repeat' (first
 |simp only[go_sem,hF,hP,hZ,gA,hb.1,hb.2]
 |(with_reducible refine CU (gF _ _) ?_)
 |(with_reducible refine CU (iT _ _) ?_)
 | (with_reducible refine az hQ ?_;exact aR))
  ·simp only [kp,hb, ↓reduceIte]at h2
   cases F8:pH c
   ·rw [F8,za1]at hb
    repeat' (first
 |simp only[go_sem,hF,hP,hZ,gA,hb,F8]
 |(with_reducible refine CU (gF _ _) ?_)
 |(with_reducible refine CU (iT _ _) ?_)
 | (with_reducible refine az hQ ?_;exact aR))
    refine cr 0 0 (IH (rest,k+1) ⟨g2,by dsimp only;omega⟩ (zaa _))
   ·repeat' (first
 |simp only[go_sem,hF,hP,hZ,gA,F8]
 |(with_reducible refine CU (gF _ _) ?_)
 |(with_reducible refine CU (iT _ _) ?_)
 | (with_reducible refine az hQ ?_;exact aR))
    refine cr 0 0 (IH (rest,k+1) ⟨g2,by dsimp only;omega⟩ (zaa _))
theorem wD (text:aA) (a b:Nat):(text.take (a+b)).drop a=(text.drop a).take b:=by rw[List.drop_take];congr 1;omega
set_option maxRecDepth 20000 in
theorem Yv {text : aA} {pos : Nat} {c : UInt8} {r : aA} (hd : text.drop pos = c :: r) (hl : text.length < 4611686018427387904) (s : St) :
   ay Tryz.prog 129 [.str text, .int .i64 (pos : Int)] s (.int .i64 ((qL (c :: r) : Nat) : Int)) s := by
 refine ay.pure ?_ rfl rfl s
 obtain ⟨hP, g2, g3, g4⟩ := drop_cons hd
 have hZ : pos < 4611686018427387904 := by omega
 have gA : 0 < 1 := zaS
 generalize h : qL (c :: r) = k
 unfold S0
 cases r with
 | nil =>
   have hF : decide (((pos + 1 : Nat) : Int) < (text.length : Int)) = false := drop_nil g2
   simp only[qL, Fm]at h
   refine ay.go yp.h rfl fun B Q hB hQ =>?_
   repeat' (first
 |simp only[go_sem, hF, hP, hZ, gA]
 |(with_reducible first|refine bj fun hc =>?_|refine bk fun hc =>?_|refine bl (fun hc =>?_) fun hc =>?_)<;>(try simp only[hc, bs,↓reduceIte]at h)<;>try simp only[hc]
 |((with_reducible refine az hQ ?_); exact dv)
 |(cases h; done))
 | cons d r =>
   obtain ⟨_, _, hF, _⟩ := drop_cons g2
   have e1 : (text.take (pos + 2)).drop pos = [c, d] := by rw[wD, hd]; rfl
   have e2 : (0 : Int) ≤ (pos : Int) ∧ (pos : Int) ≤ ((pos + 2 : Nat) : Int) ∧ ((pos + 2 : Nat) : Int) ≤ (text.length : Int) := by omega
   simp only[qL, Fm, Uq]at h
   refine ay.go yp.h rfl fun B Q hB hQ =>?_
   repeat' (first
 |simp only[go_sem, hF, hP, hZ, gA, e1, e2]
 |(with_reducible first|refine bj fun hc =>?_|refine bk fun hc =>?_|refine bl (fun hc =>?_) fun hc =>?_)<;>(try simp only[hc, bs,↓reduceIte]at h)<;>try simp only[hc]
 |((with_reducible refine az hQ ?_); (try cases h); simp only[bt, bx, bY, bZ, go_sem, hF, hP, hZ, gA, e1, e2]; try exact cB)
 |(cases h; done))
theorem OI {c:UInt8} (h:n3 c=true):48≤(c.toNat:Int)∧(c.toNat:Int)≤57:=by
 simp only[n3,zam,decide_eq_true_eq]at h
 omega
def np (s:aA):Int×Bool:=match tQ 0 s with|some n=>(n,true)|none=>(0,false)
theorem R4 {text:aA} (hd : ∀ c∈text,n3 c=true) (hl:text.length<4611686018427387904) (s:St) :
 ay Tryz.prog 130 [.str text] s (.tuple [.int .i64 (np text).1, .bool (np text).2]) s:=by
 refine ay.pure ?_ rfl rfl s
 generalize hw:np text=p
 unfold S0
 refine ay.go Dd.h rfl fun B Q hB hQ=>?_
 have⟨hF,hP,hZ,gA⟩:=bD
 repeat' (first
 |simp only[go_sem,hF,hP,hZ,gA]
 |(with_reducible first|refine bj fun hc=>?_|refine bk fun hc=>?_|refine bl (fun hc=>?_) fun hc=>?_)<;>(try simp only[hc,bs,↓reduceIte]at h)<;>try simp only[hc]
 |((with_reducible refine az hQ ?_);exact dv)
 |(cases h;done))
 refine cr 0 0 (aY.ind (ι:=aA×Nat×Int) (fun i=>text.drop i.2.1=i.1∧0≤i.2.2∧i.2.2≤9223372036854775807∧(match tQ i.2.2 i.1 with|some n=>(n,true)|none=>(0,false))=p) (fun i=>i.1.length)
  (fun i=> [(0, .str text),(4, .int .i64 i.2.2),(5, .int .i64 (i.2.1:Int))]) (fun i=>⟨[],[]⟩) ?_ (text,0,0) ⟨rfl,zaY 0,by dsimp only;omega,hw⟩)
 rintro⟨rest,k,n⟩ ⟨h1,h2,h3,h⟩ IH
 dsimp only at h1 h2 h3 h
 cases rest with
 |nil=>
  have hF:=drop_nil h1
  simp only[tQ]at h
  repeat' (first
 |simp only[go_sem,hF,hP,hZ,gA]
 |(with_reducible first|refine bj fun hc=>?_|refine bk fun hc=>?_|refine bl (fun hc=>?_) fun hc=>?_)<;>(try simp only[hc,bs,↓reduceIte]at h)<;>try simp only[hc]
 |((with_reducible refine az hQ ?_);exact dv)
 |(cases h;done))
 | cons c rest=>
  obtain⟨hP,g2,hF,g4⟩:=drop_cons h1
  have hZ:k<4611686018427387904:=by omega
  have hc:=OI (hd c (zac hP))
  have w1:IntKind.wrap .u8 ((c.toNat:Int) - 48)=(c.toNat:Int) - 48:=by rw[IntKind.wrap_u8];omega
  have w2:IntKind.wrap .i64 ((c.toNat:Int) - 48)=(c.toNat:Int) - 48:=cT (by omega) (by omega)
  have w3:IntKind.wrap .i64 (9223372036854775807 - ((c.toNat:Int) - 48))=9223372036854775807 - ((c.toNat:Int) - 48):=cT (by omega) (by omega)
  have w4:IntKind.wrap .i64 ((9223372036854775807 - ((c.toNat:Int) - 48)).tdiv 10)=(9223372036854775807 - ((c.toNat:Int) - 48)) / 10:=by
   rw[Int.tdiv_eq_ediv_of_nonneg (by omega)];exact cT (by omega) (by omega)
  have t10:((10:Int)=0)=False:=by simp
  simp only[tQ]at h
  by_cases hn:n > (9223372036854775807 - ((c.toNat:Int) - 48)) / 10
  ·have mF:decide (n > (9223372036854775807 - ((c.toNat:Int) - 48)) / 10)=true:=by simpa using hn
   rw[if_pos hn]at h
   repeat' (first
 |simp only[go_sem,hF,hP,hZ,gA,w1,w2,w3,w4,t10,mF]
 |(with_reducible first|refine bj fun hc=>?_|refine bk fun hc=>?_|refine bl (fun hc=>?_) fun hc=>?_)<;>(try simp only[hc,bs,↓reduceIte]at h)<;>try simp only[hc]
 |((with_reducible refine az hQ ?_);(try cases h);simp only[bt,bx,bY,bZ,go_sem,hF,hP,hZ,gA,w1,w2,w3,w4,t10,mF];try exact cB)
 | (cases h;done))
  ·have mF:decide (n > (9223372036854775807 - ((c.toNat:Int) - 48)) / 10)=false:=by simpa using hn
   rw[if_neg hn]at h
   have w5:IntKind.wrap .i64 (n*10)=n*10:=cT (by omega) (by omega)
   have w6:IntKind.wrap .i64 (n*10+((c.toNat:Int) - 48))=n*10+((c.toNat:Int) - 48):=cT (by omega) (by omega)
   repeat' (first
 |simp only[go_sem,hF,hP,hZ,gA,w1,w2,w3,w4,t10,mF,w5,w6]
 |(with_reducible first|refine bj fun hc=>?_|refine bk fun hc=>?_|refine bl (fun hc=>?_) fun hc=>?_)<;>(try simp only[hc,bs,↓reduceIte]at h)<;>try simp only[hc]
 |((with_reducible refine az hQ ?_);(try cases h);simp only[bt,bx,bY,bZ,go_sem,hF,hP,hZ,gA,w1,w2,w3,w4,t10,mF,w5,w6];try exact cB)
 | (cases h;done))
   refine cr 0 0 (IH (rest,k+1,n*10+((c.toNat:Int) - 48)) ⟨g2,by dsimp only;omega,by dsimp only;omega,h⟩ (zaa _))
set_option maxRecDepth 8000
open Go.Proofs
theorem R5 {c:UInt8} {r:aA} (h:pH c=true):0<kp (c::r):=by simp[kp,h]
theorem G6 : ∀ s:aA,kp s≤s.length
 | []=>zag _
 |c::r=>by simp only[kp];split<;>simp only[zal]<;>have:=G6 r<;>omega
theorem G7 : ∀ s:aA,pI s≤s.length
 | []=>zag _
 |c::r=>by simp only[pI];split<;>simp only[zal]<;>have:=G7 r<;>omega
theorem DZ : ∀ s:aA,oz s≤s.length
 | []=>zag _
 |c::r=>by simp only[oz];split<;>simp only[zal]<;>have:=DZ r<;>omega
theorem OM : ∀ s:aA,qL s≤s.length
 | []=>zag _
 | [c]=>by simp only[qL];split<;>simp
 |c::d::r=>by simp only[qL];(repeat' split)<;>simp
theorem G8 : ∀ (s:aA),∀ c∈s.take (pI s),n3 c=true
 | [],c,h=>by simp[pI]at h
 | d::r,c,h=>by
  simp only[pI]at h
  split at h
  ·rw [List.take_succ_cons]at h
   rcases zan.1 h with rfl|h
   ·assumption
   ·exact G8 r c h
  ·simp at h
def lu (f:Int×Int):List D:= [.int .i64 f.1, .int .i64 f.2]
def mI (text:aA) (out:List eY) (pos:Nat):Tm:= [(0, .str text),(3, .ptr 0 0),(4, .slice (.tok 0) 4 (out.map dS)),(5, .ptr 1 0),(6, .int .i64 (pos:Int))]
def nL (out:List eY):St:=⟨[[.int .i64 0, .int .i64 0],[.junk, .junk, .junk, .junk]],[some out.length]⟩
theorem ON {c:UInt8} {r:aA} (h:((c.toNat:Int)==35)=true):0<oz (c::r):=by
 have:((c.toNat:Int) != 10)=true:=by simp only[beq_iff_eq]at h;simp[h]
 simp[oz,this]
def qM (text:aA) (B:ey) (Q:Exit→Tm→St→Prop) (p:List eY×Int×Int) (N:Nat):Prop:=
 ∀ (n pos:Nat) (rest:aA) (out:List eY),text.drop pos=rest→lW n pos rest out=p→rest.length<n→out.length≤2000→pos≤text.length→n<N→
  mB Tryz.prog B 152 tM (.seq .skip zX) Q (mI text out pos) (nL out)
theorem qM.to {text:aA} {B:ey} {Q:Exit→Tm→St→Prop} {p:List eY×Int×Int} {N:Nat} (hB:B.s=S0) (IH:qM text B Q p N) {n pos:Nat} {rest:aA} {out:List eY} {tm:Tm} {s:St}
 (h1:text.drop pos=rest) (h:lW n pos rest out=p) (h2:rest.length<n) (h3:out.length≤2000) (h4:pos≤text.length) (h5:n<N)
 (ht:rT tm 2 1 (mI text out pos)) (ho:fT (s.cut 2 1).av (nL out).av) (hk:(s.cut 2 1).aw=(nL out).aw) :
 ja Tryz.prog B 152 tM Q (.goto 0) tm s:=by
 refine Q8 (l:=0) (r:= .seq .skip zX) rfl (mB.re _ _ 2 1 (by rw[hB];exact im rfl) (by rw[hB];exact im rfl) ht ho ?_)
 have:=IH n pos rest out h1 h h2 h3 h4 h5
 rw[hk]
 exact this
attribute [go_sem] mI nL lu
theorem lex_nil {text:aA} (hl:text.length≤100000) {B:ey} {Q:Exit→Tm→St→Prop} {p:List eY×Int×Int} (hB:B.s=S0)
 (hQ:gy 0 0 [(2,none),(3,some (true,2))] (.tuple [.slice .shared 4 (p.1.map dS), .agg (lu p.2)]) ⟨[],[]⟩=Q)
 {n pos:Nat} {out:List eY} (ho:out.length≤2000) (hp:pos≤text.length) (IH:qM text B Q p (n+1))
 (h1:text.drop pos = []) (h:lW (n+1) pos [] out=p):eo Tryz.prog B 152 zX (ja Tryz.prog B 152 tM Q) (mI text out pos) (nL out):=by
 have⟨hF,hP,hZ,gA⟩:=bD
 have de:(out.length+1)*41≤aT:=by simp only[aT];omega
 have dU:decide ((pos:Int)≥(text.length:Int))=true:=by have:=zbA.1 h1;simp;omega
 have:pos=text.length:=by have:=zbA.1 h1;omega
 subst this
 simp only[lW]at h
 repeat' (first
 |simp only[go_sem,hF,hP,hZ,gA,dU,de]
 |(with_reducible first|refine bj fun hc=>?_|refine bk fun hc=>?_|refine bl (fun hc=>?_) fun hc=>?_)<;>(try simp only[hc,bs,↓reduceIte]at h)<;>try simp only[hc]
 |((with_reducible refine az hQ ?_);(try cases h);simp only[bt,bx,bY,bZ,go_sem,hF,hP,hZ,gA,dU,de];try exact cB))
theorem OO {text:aA} (hl:text.length≤100000) {B:ey} {Q:Exit→Tm→St→Prop} {p:List eY×Int×Int} (hB:B.s=S0)
 (hQ:gy 0 0 [(2,none),(3,some (true,2))] (.tuple [.slice .shared 4 (p.1.map dS), .agg (lu p.2)]) ⟨[],[]⟩=Q)
 {n pos:Nat} {out:List eY} (ho:out.length≤2000) (hp:pos≤text.length) (IH:qM text B Q p (n+1))
 {c:UInt8} {r:aA} (h1:text.drop pos=c::r) (hb:xv c=true) (hn:(c::r).length<n+1) (h:lW (n+1) pos (c::r) out=p) :
 eo Tryz.prog B 152 zX (ja Tryz.prog B 152 tM Q) (mI text out pos) (nL out):=by
 have hZ:0<1:=zaS
 have gA:0<1:=zaS
 obtain⟨hP,g2,g3,g4⟩:=drop_cons h1
 have hF:pos<4611686018427387904:=by omega
 have dU:decide ((pos:Int)≥(text.length:Int))=false:=by simp;omega
 simp only[lW,hb,↓reduceIte]at h
 have mF:r.length<n:=by simp only[zal]at hn;omega
 have e : ∀ x y:Int,(x==y)=false→(x==y)=true→False:=fun x y a b=>by rw[a]at b;cases b
 simp only[xv]at hb
 repeat' (first
 |simp only[go_sem,hF,hP,hZ,gA,dU]
 |(refine IH.to hB g2 h mF ho g4 (zaa _) ?_ ?_ ?_<;>((try simp only[go_sem,hF,hP,hZ,gA]);repeat' (first|exact Ok.out|with_reducible refine dZ ?_ ?_|omega|(simp;done)));done)
 |(with_reducible first|refine bj fun hc=>?_|refine bk fun hc=>?_|refine bl (fun hc=>?_) fun hc=>?_)<;>(try simp only[hc,bs,↓reduceIte]at h)<;>try simp only[hc]
 |(with_reducible refine az hQ ?_;simp only[bt,bx,bY,bZ,go_sem,hF,hP,hZ,gA];repeat' (first|exact Ok.out|with_reducible refine dZ ?_ ?_|(simp;done))))
 all_goals (exfalso;simp_all;done)
theorem Mq {text:aA} (hl:text.length≤100000) {B:ey} {Q:Exit→Tm→St→Prop} {p:List eY×Int×Int} (hB:B.s=S0)
 (hQ:gy 0 0 [(2,none),(3,some (true,2))] (.tuple [.slice .shared 4 (p.1.map dS), .agg (lu p.2)]) ⟨[],[]⟩=Q)
 {n pos:Nat} {out:List eY} (ho:out.length≤2000) (hp:pos≤text.length) (IH:qM text B Q p (n+1))
 {c:UInt8} {r:aA} (h1:text.drop pos=c::r) (hb:xv c=false) (hc:((c.toNat:Int)==35)=true) (hn:(c::r).length<n+1) (h:lW (n+1) pos (c::r) out=p) :
 eo Tryz.prog B 152 zX (ja Tryz.prog B 152 tM Q) (mI text out pos) (nL out):=by
 have hZ:0<1:=zaS
 have gA:0<1:=zaS
 have iy:=(drop_cons h1).1
 have hP:=iy
 have g4:=(drop_cons h1).2.2.2
 have hF:pos<4611686018427387904:=by omega
 have dU:decide ((pos:Int)≥(text.length:Int))=false:=by simp;omega
 simp only[lW,hb,zab,↓reduceIte,hc]at h
 simp only[xv,zbB]at hb
 have hk:=ON (r:=r) hc
 have bH:=DZ (c::r)
 have oZ:(c::r).length=text.length - pos:=by rw[← h1,zbh]
 generalize hL:oz (c::r)=L at h hk bH
 repeat' (first
 |simp only[go_sem,hF,hP,hZ,gA,dU,hb.1.1.1,hb.1.1.2,hb.1.2,hb.2,hc]
 |(with_reducible refine b9 (l:=1) (by with_unfolding_all rfl) ?_)
 |(with_reducible refine az hQ ?_;exact aR))
 refine cr 2 1 (aY.ind (ι:=aA×Nat) (fun i=>text.drop i.2=i.1∧i.2+oz i.1=pos+L) (fun i=>i.1.length)
  (fun i=>mI text out i.2) (fun i=>nL out) ?_ (c::r,pos) ⟨h1,by dsimp only;omega⟩)
 rintro⟨rest,k⟩ ⟨j1,j2⟩ Yw
 dsimp only at j1 j2
 have fin:text.drop (pos+L)=(c::r).drop L:=by rw[← h1,List.drop_drop]
 have hlen:((c::r).drop L).length<n:=by rw[zbh];omega
 cases rest with
 |nil=>
  have dU:=drop_nil j1
  simp only[oz,za4]at j2
  subst j2
  repeat' (first
 |simp only[go_sem,hF,hP,hZ,gA,dU]
 |(refine IH.to hB fin h hlen ho (by omega) (zaa _) ?_ ?_ ?_<;>((try simp only[go_sem,hF,hP,hZ,gA]);repeat' (first|exact Ok.out|with_reducible refine dZ ?_ ?_|omega|(simp;done)));done)
 |(with_reducible refine az hQ ?_;exact aR))
 | cons d rest=>
  obtain⟨hP,g2,dU,g5⟩:=drop_cons j1
  have hF:k<4611686018427387904:=by omega
  cases hd:((d.toNat:Int) != 10)
  ·simp only [oz,hd,zab, ↓reduceIte,za4]at j2
   subst j2
   repeat' (first
 |simp only[go_sem,hF,hP,hZ,gA,dU,hd]
 |(refine IH.to hB fin h hlen ho (by omega) (zaa _) ?_ ?_ ?_<;>((try simp only[go_sem,hF,hP,hZ,gA]);repeat' (first|exact Ok.out|with_reducible refine dZ ?_ ?_|omega|(simp;done)));done)
 | (with_reducible refine az hQ ?_;exact aR))
  ·simp only [oz,hd, ↓reduceIte]at j2
   repeat' (first
 |simp only[go_sem,hF,hP,hZ,gA,dU,hd]
 | (with_reducible refine az hQ ?_;exact aR))
   refine cr 2 1 (Yw (rest,k+1) ⟨g2,by dsimp only;omega⟩ (zaa _))
theorem R6 {text:aA} (hl:text.length≤100000) {B:ey} {Q:Exit→Tm→St→Prop} {p:List eY×Int×Int} (hB:B.s=S0)
 (hQ:gy 0 0 [(2,none),(3,some (true,2))] (.tuple [.slice .shared 4 (p.1.map dS), .agg (lu p.2)]) ⟨[],[]⟩=Q)
 {n pos:Nat} {out:List eY} (ho:out.length≤2000) (hp:pos≤text.length) (IH:qM text B Q p (n+1))
 {c:UInt8} {r:aA} (h1:text.drop pos=c::r) (hb:xv c=false) (hc:((c.toNat:Int)==35)=false) (hL:pH c=false) (hD:n3 c=false) (hn:(c::r).length<n+1) (h:lW (n+1) pos (c::r) out=p) :
 eo Tryz.prog B 152 zX (ja Tryz.prog B 152 tM Q) (mI text out pos) (nL out):=by
 have hZ:0<1:=zaS
 have gA:0<1:=zaS
 have hP:=(drop_cons h1).1
 have g4:=(drop_cons h1).2.2.2
 have hF:pos<4611686018427387904:=by omega
 have dU:decide ((pos:Int)≥(text.length:Int))=false:=by simp;omega
 have de:(out.length+1)*41≤aT:=by simp only[aT];omega
 have Fo:=fun s=>Yv h1 (by omega) s
 have bH:=OM (c::r)
 have oZ:(c::r).length=text.length - pos:=by rw[← h1,zbh]
 simp only[lW,hb,zab,↓reduceIte,hc,Mp,hL,hD]at h
 simp only[xv,zbB]at hb
 generalize hK:qL (c::r)=k at h Fo bH
 have e1:IntKind.wrap .i64 ((pos:Int)+(k:Int))=((pos+k:Nat):Int):=by rw[cT]<;>omega
 have e2:(0:Int)≤(pos:Int)∧(pos:Int)≤((pos+k:Nat):Int)∧((pos+k:Nat):Int)≤(text.length:Int):=by omega
 have e3:(text.take (pos+k)).drop pos=(c::r).take k:=by rw[wD,h1]
 by_cases hz:k=0
 ·have mc:decide (((pos+k:Nat):Int) > (pos:Int))=false:=by simp;omega
  simp only[hz,↓reduceIte]at h
  repeat' (first
 |simp only[go_sem,hF,hP,hZ,gA,dU,hb.1.1.1,hb.1.1.2,hb.1.2,hb.2,hc,hL,hD,e1,e2,e3,mc]
 |(with_reducible refine CU (gF _ _) ?_)
 |(with_reducible refine CU (iT _ _) ?_)
 |(with_reducible refine CU (Fo _) ?_)
 |(with_reducible refine b9 (l:=4) (by with_unfolding_all rfl) ?_)
 |(with_reducible refine b9 (l:=5) (by with_unfolding_all rfl) ?_)
 |(with_reducible first|refine bj fun hc=>?_|refine bk fun hc=>?_|refine bl (fun hc=>?_) fun hc=>?_)<;>(try simp only[hc,bs,↓reduceIte]at h)<;>try simp only[hc]
 |((with_reducible refine az hQ ?_);(try cases h);simp only[bt,bx,bY,bZ,go_sem,hF,hP,hZ,gA,dU,hb.1.1.1,hb.1.1.2,hb.1.2,hb.2,hc,hL,hD,e1,e2,e3,mc];try exact cB))
 ·have mc:decide (((pos+k:Nat):Int) > (pos:Int))=true:=by simp;omega
  have hlen:((c::r).take k).length=k:=by rw[zbw];omega
  have fin:text.drop (pos+k)=(c::r).drop k:=by rw[← h1,List.drop_drop]
  have sh:((c::r).drop k).length<n:=by rw[zbh];omega
  simp only[hz,↓reduceIte,hlen]at h
  by_cases p9:out.length=2000
  ·have jn:((out.length:Int)==2000)=true:=by simp [p9]
   simp only[p9,↓reduceIte]at h
   repeat' (first
 |simp only[go_sem,hF,hP,hZ,gA,dU,hb.1.1.1,hb.1.1.2,hb.1.2,hb.2,hc,hL,hD,e1,e2,e3,mc,jn]
 |(with_reducible refine CU (gF _ _) ?_)
 |(with_reducible refine CU (iT _ _) ?_)
 |(with_reducible refine CU (Fo _) ?_)
 |(with_reducible refine b9 (l:=4) (by with_unfolding_all rfl) ?_)
 |(with_reducible refine b9 (l:=5) (by with_unfolding_all rfl) ?_)
 |(with_reducible first|refine bj fun hc=>?_|refine bk fun hc=>?_|refine bl (fun hc=>?_) fun hc=>?_)<;>(try simp only[hc,bs,↓reduceIte]at h)<;>try simp only[hc]
 | ((with_reducible refine az hQ ?_);(try cases h);simp only [bt,bx,bY,bZ,go_sem,hF,hP,hZ,gA,dU,hb.1.1.1,hb.1.1.2,hb.1.2,hb.2,hc,hL,hD,e1,e2,e3,mc,jn];try exact cB))
  ·have jn:((out.length:Int)==2000)=false:=by simp;omega
   have zY : ∀ t:eY,(out++ [t]).length≤2000:=by intro t;simp;omega
   simp only[p9,↓reduceIte]at h
   repeat' (first
 |simp only[go_sem,hF,hP,hZ,gA,dU,hb.1.1.1,hb.1.1.2,hb.1.2,hb.2,hc,hL,hD,e1,e2,e3,mc,jn,de]
 |(with_reducible refine CU (gF _ _) ?_)
 |(with_reducible refine CU (iT _ _) ?_)
 |(with_reducible refine CU (Fo _) ?_)
 |(with_reducible refine b9 (l:=4) (by with_unfolding_all rfl) ?_)
 |(with_reducible refine b9 (l:=5) (by with_unfolding_all rfl) ?_)
 |(refine IH.to hB fin h sh (zY _) (by omega) (zaa _) ?_ ?_ ?_<;>((try simp only[go_sem,hF,hP,hZ,gA]);repeat' (first|exact Ok.out|with_reducible refine dZ ?_ ?_|omega|(simp;done)));done)
 |(with_reducible refine az hQ ?_;exact aR))
theorem R7 {text:aA} (hl:text.length≤100000) {B:ey} {Q:Exit→Tm→St→Prop} {p:List eY×Int×Int} (hB:B.s=S0)
 (hQ:gy 0 0 [(2,none),(3,some (true,2))] (.tuple [.slice .shared 4 (p.1.map dS), .agg (lu p.2)]) ⟨[],[]⟩=Q)
 {n pos:Nat} {out:List eY} (ho:out.length≤2000) (hp:pos≤text.length) (IH:qM text B Q p (n+1))
 {c:UInt8} {r:aA} (h1:text.drop pos=c::r) (hb:xv c=false) (hc:((c.toNat:Int)==35)=false) (hL:pH c=true) (hn:(c::r).length<n+1) (h:lW (n+1) pos (c::r) out=p) :
 eo Tryz.prog B 152 zX (ja Tryz.prog B 152 tM Q) (mI text out pos) (nL out):=by
 have hZ:0<1:=zaS
 have gA:0<1:=zaS
 have hP:=(drop_cons h1).1
 have g4:=(drop_cons h1).2.2.2
 have hF:pos<4611686018427387904:=by omega
 have dU:decide ((pos:Int)≥(text.length:Int))=false:=by simp;omega
 have de:(out.length+1)*41≤aT:=by simp only[aT];omega
 have da:=fun s=>Ur (text:=text) (pos:=pos) (by omega) s
 rw[h1]at da
 have bH:=G6 (c::r)
 have sA:=R5 (r:=r) hL
 have oZ:(c::r).length=text.length - pos:=by rw[← h1,zbh]
 simp only[lW,hb,zab,↓reduceIte,hc,Mp,hL]at h
 simp only[xv,zbB]at hb
 generalize hK:kp (c::r)=k at h da bH sA
 have hlen:((c::r).take k).length=k:=by rw[zbw];omega
 simp only[hlen]at h
 have e1:IntKind.wrap .i64 (((pos+k:Nat):Int) - (pos:Int))=(k:Int):=by rw[cT]<;>omega
 have e2:(0:Int)≤(pos:Int)∧(pos:Int)≤((pos+k:Nat):Int)∧((pos+k:Nat):Int)≤(text.length:Int):=by omega
 have e3:(text.take (pos+k)).drop pos=(c::r).take k:=by rw[wD,h1]
 by_cases hz:k > 8
 ·have mc:decide ((k:Int) > 8)=true:=by simp;omega
  simp only[hz,↓reduceIte]at h
  cases hw:isWord ((c::r).take k)
  ·repeat' (first
 |simp only[go_sem,hF,hP,hZ,gA,dU,hb.1.1.1,hb.1.1.2,hb.1.2,hb.2,hc,hL,e1,e2,e3,mc,hw]
 |(with_reducible refine CU (gF _ _) ?_)
 |(with_reducible refine CU (da _) ?_)
 |(with_reducible refine CU (sP _ _) ?_)
 |(with_reducible refine b9 (l:=2) (by with_unfolding_all rfl) ?_)
 |(with_reducible refine b9 (l:=4) (by with_unfolding_all rfl) ?_)
 |(with_reducible refine b9 (l:=5) (by with_unfolding_all rfl) ?_)
 |(with_reducible first|refine bj fun hc=>?_|refine bk fun hc=>?_|refine bl (fun hc=>?_) fun hc=>?_)<;>(try simp only[hc,bs,↓reduceIte]at h)<;>try simp only[hc]
 |((with_reducible refine az hQ ?_);(try cases h);simp only[bt,bx,bY,bZ,go_sem,hF,hP,hZ,gA,dU,hb.1.1.1,hb.1.1.2,hb.1.2,hb.2,hc,hL,e1,e2,e3,mc,hw];try exact cB))
  ·repeat' (first
 |simp only[go_sem,hF,hP,hZ,gA,dU,hb.1.1.1,hb.1.1.2,hb.1.2,hb.2,hc,hL,e1,e2,e3,mc,hw]
 |(with_reducible refine CU (gF _ _) ?_)
 |(with_reducible refine CU (da _) ?_)
 |(with_reducible refine CU (sP _ _) ?_)
 |(with_reducible refine b9 (l:=2) (by with_unfolding_all rfl) ?_)
 |(with_reducible refine b9 (l:=4) (by with_unfolding_all rfl) ?_)
 |(with_reducible refine b9 (l:=5) (by with_unfolding_all rfl) ?_)
 |(with_reducible first|refine bj fun hc=>?_|refine bk fun hc=>?_|refine bl (fun hc=>?_) fun hc=>?_)<;>(try simp only[hc,bs,↓reduceIte]at h)<;>try simp only[hc]
 |((with_reducible refine az hQ ?_);(try cases h);simp only[bt,bx,bY,bZ,go_sem,hF,hP,hZ,gA,dU,hb.1.1.1,hb.1.1.2,hb.1.2,hb.2,hc,hL,e1,e2,e3,mc,hw];try exact cB))
 ·have mc:decide ((k:Int) > 8)=false:=by simp;omega
  have fin:text.drop (pos+k)=(c::r).drop k:=by rw[← h1,List.drop_drop]
  have sh:((c::r).drop k).length<n:=by rw[zbh];omega
  simp only[hz,↓reduceIte,hlen]at h
  by_cases p9:out.length=2000
  ·have jn:((out.length:Int)==2000)=true:=by simp [p9]
   simp only[p9,↓reduceIte]at h
   cases hw:isWord ((c::r).take k)
   ·repeat' (first
 |simp only[go_sem,hF,hP,hZ,gA,dU,hb.1.1.1,hb.1.1.2,hb.1.2,hb.2,hc,hL,e1,e2,e3,mc,jn,hw]
 |(with_reducible refine CU (gF _ _) ?_)
 |(with_reducible refine CU (da _) ?_)
 |(with_reducible refine CU (sP _ _) ?_)
 |(with_reducible refine b9 (l:=2) (by with_unfolding_all rfl) ?_)
 |(with_reducible refine b9 (l:=4) (by with_unfolding_all rfl) ?_)
 |(with_reducible refine b9 (l:=5) (by with_unfolding_all rfl) ?_)
 |(with_reducible first|refine bj fun hc=>?_|refine bk fun hc=>?_|refine bl (fun hc=>?_) fun hc=>?_)<;>(try simp only[hc,bs,↓reduceIte]at h)<;>try simp only[hc]
 | ((with_reducible refine az hQ ?_);(try cases h);simp only [bt,bx,bY,bZ,go_sem,hF,hP,hZ,gA,dU,hb.1.1.1,hb.1.1.2,hb.1.2,hb.2,hc,hL,e1,e2,e3,mc,jn,hw];try exact cB))
   ·repeat' (first
 |simp only[go_sem,hF,hP,hZ,gA,dU,hb.1.1.1,hb.1.1.2,hb.1.2,hb.2,hc,hL,e1,e2,e3,mc,jn,hw]
 |(with_reducible refine CU (gF _ _) ?_)
 |(with_reducible refine CU (da _) ?_)
 |(with_reducible refine CU (sP _ _) ?_)
 |(with_reducible refine b9 (l:=2) (by with_unfolding_all rfl) ?_)
 |(with_reducible refine b9 (l:=4) (by with_unfolding_all rfl) ?_)
 |(with_reducible refine b9 (l:=5) (by with_unfolding_all rfl) ?_)
 |(with_reducible first|refine bj fun hc=>?_|refine bk fun hc=>?_|refine bl (fun hc=>?_) fun hc=>?_)<;>(try simp only[hc,bs,↓reduceIte]at h)<;>try simp only[hc]
 | ((with_reducible refine az hQ ?_);(try cases h);simp only [bt,bx,bY,bZ,go_sem,hF,hP,hZ,gA,dU,hb.1.1.1,hb.1.1.2,hb.1.2,hb.2,hc,hL,e1,e2,e3,mc,jn,hw];try exact cB))
  ·have jn:((out.length:Int)==2000)=false:=by simp;omega
   have zY : ∀ t:eY,(out++ [t]).length≤2000:=by intro t;simp;omega
   simp only[p9,↓reduceIte]at h
   cases hw:isWord ((c::r).take k)
   ·simp only [hw,zab, ↓reduceIte]at h
    repeat' (first
 |simp only[go_sem,hF,hP,hZ,gA,dU,hb.1.1.1,hb.1.1.2,hb.1.2,hb.2,hc,hL,e1,e2,e3,mc,jn,de,hw]
 |(with_reducible refine CU (gF _ _) ?_)
 |(with_reducible refine CU (da _) ?_)
 |(with_reducible refine CU (sP _ _) ?_)
 |(with_reducible refine b9 (l:=2) (by with_unfolding_all rfl) ?_)
 |(with_reducible refine b9 (l:=4) (by with_unfolding_all rfl) ?_)
 |(with_reducible refine b9 (l:=5) (by with_unfolding_all rfl) ?_)
 |(refine IH.to hB fin h sh (zY _) (by omega) (zaa _) ?_ ?_ ?_<;>((try simp only[go_sem,hF,hP,hZ,gA]);repeat' (first|exact Ok.out|with_reducible refine dZ ?_ ?_|omega|(simp;done)));done)
 |(with_reducible first|refine bj fun hc=>?_|refine bk fun hc=>?_|refine bl (fun hc=>?_) fun hc=>?_)<;>(try simp only[hc,bs,↓reduceIte]at h)<;>try simp only[hc]
 | ((with_reducible refine az hQ ?_);(try cases h);simp only [bt,bx,bY,bZ,go_sem,hF,hP,hZ,gA,dU,hb.1.1.1,hb.1.1.2,hb.1.2,hb.2,hc,hL,e1,e2,e3,mc,jn,de,hw];try exact cB))
   ·simp only [hw, ↓reduceIte]at h
    repeat' (first
 |simp only[go_sem,hF,hP,hZ,gA,dU,hb.1.1.1,hb.1.1.2,hb.1.2,hb.2,hc,hL,e1,e2,e3,mc,jn,de,hw]
 |(with_reducible refine CU (gF _ _) ?_)
 |(with_reducible refine CU (da _) ?_)
 |(with_reducible refine CU (sP _ _) ?_)
 |(with_reducible refine b9 (l:=2) (by with_unfolding_all rfl) ?_)
 |(with_reducible refine b9 (l:=4) (by with_unfolding_all rfl) ?_)
 |(with_reducible refine b9 (l:=5) (by with_unfolding_all rfl) ?_)
 |(refine IH.to hB fin h sh (zY _) (by omega) (zaa _) ?_ ?_ ?_<;>((try simp only[go_sem,hF,hP,hZ,gA]);repeat' (first|exact Ok.out|with_reducible refine dZ ?_ ?_|omega|(simp;done)));done)
 |(with_reducible refine az hQ ?_;exact aR))
end Go.Abs
namespace Go.Abs
set_option maxRecDepth 8000
open Go.Proofs
theorem G9 (c:UInt8) (s:St):ay Tryz.prog 177 [.int .u8 (c.toNat:Int)] s (.bool (pH c)) s:=by
 refine ay.pure ?_ rfl rfl s
 generalize h:pH c=b
 unfold pH at h
 unfold S0
 refine ay.go C8.h rfl fun B Q hB hQ=>?_
 have⟨hF,hP,hZ,gA⟩:=bD
 repeat' (first
 |simp only[go_sem,hF,hP,hZ,gA]
 |(with_reducible first|refine bj fun hc=>?_|refine bk fun hc=>?_|refine bl (fun hc=>?_) fun hc=>?_)<;>(try simp only[hc,bs,↓reduceIte]at h)<;>try simp only[hc]
 |((with_reducible refine az hQ ?_);exact dv))
theorem R8 (c:UInt8) (s:St):ay Tryz.prog 178 [.int .u8 (c.toNat:Int)] s (.bool (n3 c)) s:=by
 refine ay.pure ?_ rfl rfl s
 generalize h:n3 c=b
 unfold n3 at h
 unfold S0
 refine ay.go C9.h rfl fun B Q hB hQ=>?_
 have⟨hF,hP,hZ,gA⟩:=bD
 repeat' (first
 |simp only[go_sem,hF,hP,hZ,gA]
 |(with_reducible first|refine bj fun hc=>?_|refine bk fun hc=>?_|refine bl (fun hc=>?_) fun hc=>?_)<;>(try simp only[hc,bs,↓reduceIte]at h)<;>try simp only[hc]
 |((with_reducible refine az hQ ?_);exact dv))
theorem VT (s:St):ay Tryz.prog 209 [] s (.slice .shared 1 [[.str [103,108,111,98,97,108]],[.str [112,114,111,99]],[.str [118,97,114]],[.str [114,101,102]],[.str [105,102]],[.str [101,108,115,101]],[.str [119,104,105,108,101]],[.str [98,114,101,97,107]],[.str [99,111,110,116,105,110,117,101]],[.str [114,101,116,117,114,110]],[.str [103,111,116,111]],[.str [114,101,97,100]],[.str [112,114,105,110,116]]]) s:=by
 refine ay.pure ?_ rfl rfl s
 unfold S0
 refine ay.go Da.h rfl fun B Q hB hQ=>?_
 have⟨hF,hP,hZ,gA⟩:=bD
 repeat' (first
 |simp only[go_sem,hF,hP,hZ,gA]
 |(with_reducible refine az hQ ?_;exact aR))
def zk (s:aA):Bool:=
 [103,108,111,98,97,108] == s || [112,114,111,99] == s || [118,97,114] == s || [114,101,102] == s || [105,102] == s || [101,108,115,101] == s || [119,104,105,108,101] == s || [98,114,101,97,107] == s || [99,111,110,116,105,110,117,101] == s || [114,101,116,117,114,110] == s || [103,111,116,111] == s || [114,101,97,100] == s || [112,114,105,110,116] == s
theorem Mr (s:aA):zk s=isWord s:=by
 have e : ∀ a:aA,(a==s)=(s==a):=fun a=>BEq.comm
 simp only[zk,isWord,e]
theorem VU (text:aA) (s:St):ay Tryz.prog 179 [.str text] s (.bool (isWord text)) s:=by
 refine ay.pure ?_ rfl rfl s
 rw[← Mr]
 generalize h:zk text=p
 unfold zk at h
 unfold S0
 refine ay.go E2.h rfl fun B Q hB hQ=>?_
 have⟨hF,hP,hZ,gA⟩:=bD
 repeat' (first
 |simp only[go_sem,hF,hP,hZ,gA,Int.cast_ofNat_Int,cT,Int.reduceAdd,Int.reduceLT,Int.reduceNeg,decide_true,decide_false,Int.reduceToNat]
 |(with_reducible refine CU (VT _) ?_)
 |(with_reducible refine aY.kF ?_)
 |(with_reducible first|refine bj fun hc=>?_|refine bk fun hc=>?_|refine bl (fun hc=>?_) fun hc=>?_)<;>(try simp only[hc,bs,↓reduceIte]at h)<;>try simp only[hc]
 |((with_reducible refine az hQ ?_);(try cases h);simp only[bt,bx,bY,bZ,go_sem,hF,hP,hZ,gA,Int.cast_ofNat_Int,cT,Int.reduceAdd,Int.reduceLT,Int.reduceNeg,decide_true,decide_false,Int.reduceToNat];try exact cB))
theorem aer {t:eY} {p:Int×Int} (h:pC t=p):ay Tryz.prog 245 [.agg (dS t)] S0 (.tuple [.int .i64 p.1, .int .i64 p.2]) S0:=by
 unfold pC at h
 unfold S0
 refine ay.go G5.h rfl fun B Q hB hQ=>?_
 have⟨hF,hP,hZ,gA⟩:=bD
 repeat' (first
 |simp only[go_sem,hF,hP,hZ,gA]
 |(with_reducible first|refine bj fun hc=>?_|refine bk fun hc=>?_|refine bl (fun hc=>?_) fun hc=>?_)<;>(try simp only[hc,bs,↓reduceIte]at h)<;>try simp only[hc]
 |((with_reducible refine az hQ ?_);exact dv))
theorem VV : ∀ n,n<4611686018427387904→∀ x:Ex,x.size≤n→ay Tryz.prog 243 [.agg (bA x)] S0 (.int .i64 (x.depth:Int)) S0:=by
 intro n
 induction n with
 |zero=>rintro _ ⟨op,m,name,kids⟩ h;simp only[Ex.size]at h;omega
 |succ n OP=>
 rintro hn ⟨op,m,name,kids⟩ hx
 have hk : ∀ y∈kids,ay Tryz.prog 243 [.agg (bA y)] S0 (.int .i64 (y.depth:Int)) S0:=fun y hy=>OP (by omega) y (by simp only[Ex.size]at hx;have:=Ex.bC hy;omega)
 have hlen:kids.length<4611686018427387904:=by simp only[Ex.size]at hx;have:=Ex.cd kids;omega
 have K8:Ex.gh kids<4611686018427387904:=by have:=Ex.Mm _ _ hx;simp only[Ex.depth]at this;omega
 unfold S0
 refine ay.go By.h rfl fun B Q hB hQ=>?_
 have⟨hF,hP,hZ,gA⟩:=bD
 repeat' (first
 |simp only[go_sem,hF,hP,hZ,gA]
 |(with_reducible first|refine bj fun hc=>?_|refine bk fun hc=>?_|refine bl (fun hc=>?_) fun hc=>?_)<;>(try simp only[hc,bs,↓reduceIte]at h)<;>try simp only[hc]
 |(with_reducible refine az hQ ?_;exact aR))
 refine cr 0 0 (aY.ind (ι:=List Ex×Nat×Nat) (fun i=>kids.drop i.2.1=i.1∧max i.2.2 (Ex.gh i.1)=Ex.gh kids) (fun i=>i.1.length)
  (fun i=> [(3, .int .i64 (i.2.2:Int)),(7, .slice .shared 4 (kids.map bA)),(8, .int .i64 (kids.length:Int)),(9, .int .i64 (i.2.1:Int))]) (fun _=>S0) ?_ (kids,0,0) ⟨rfl,by simp⟩)
 rintro⟨rest,k,acc⟩ ⟨h1,h2⟩ IH
 unfold S0
 cases rest with
 |nil=>
  have hF:=drop_nil h1
  simp only[Ex.gh,Nat.max_zero]at h2
  subst h2
  repeat' (first
 |simp only[go_sem,hF,hP,hZ,gA,aC K8,Ex.depth]
 |(with_reducible first|refine bj fun hc=>?_|refine bk fun hc=>?_|refine bl (fun hc=>?_) fun hc=>?_)<;>(try simp only[hc,bs,↓reduceIte]at h)<;>try simp only[hc]
 |(with_reducible refine az hQ ?_;simp only[bt,bx,bY,bZ,go_sem,hF,hP,hZ,gA,aC K8,Ex.depth];try exact cB))
 |cons y rest=>
  obtain⟨g1,g2,hF,g4⟩:=drop_cons h1
  simp only[Ex.gh]at h2
  have hy:=fun s=>(hk y (zac g1)).pure (by simp[D.bg,D.ok,fK]) rfl s
  dsimp only at g1 g2 hF g4 h2
  repeat' (first
 |simp only[go_sem,hF,hP,hZ,gA,g1]
 |(with_reducible refine CU (hy _) ?_)
 |(with_reducible refine az hQ ?_;exact aR))
  refine cD 0 0 ?_ ?_ (IH (rest,k+1,max acc y.depth) ⟨g2,by dsimp only;omega⟩ (by simp))
  ·(simp only[go_sem,hF,hP,hZ,gA,mx,aC (show k<4611686018427387904 by omega)];try exact bd)
  ·(simp only[go_sem,hF,hP,hZ,gA,mx,aC (show k<4611686018427387904 by omega)];try exact bd)
theorem VW {x:Ex} {d:Int} (h:GR x=some d) (s:St):ay Tryz.prog 243 [.agg (bA x)] s (.int .i64 d) s:=by
 unfold GR at h
 split at h
 ·cases h;exact(VV x.size ‹_› x (zag _)).pure (by simp[D.bg,D.ok,fK]) rfl s
 ·cases h
theorem aes (t:eY) (s:St):ay Tryz.prog 245 [.agg (dS t)] s (.tuple [.int .i64 (pC t).1, .int .i64 (pC t).2]) s:=(aer rfl).pure rfl rfl s
theorem abo {c:Prop} [Decidable c] {α:Type} {P:α→Prop} {a b:α} (ha:P a) (hb:P b):P (if c then a else b):=by
 by_cases h:c
 ·rw[if_pos h];exact ha
 ·rw[if_neg h];exact hb
def OpR (p:Int×Int):Prop:=0≤p.2∧p.2≤6
theorem R9 (t:eY):OpR (pC t):=by
 unfold pC
 repeat' with_reducible refine abo (P:=OpR) ?_ ?_
 all_goals exact⟨by decide,by decide⟩
theorem Jp (t:eY):IntKind.wrap .i64 ((pC t).2+1)=(pC t).2+1:=by
 have:0≤(pC t).2∧(pC t).2≤6:=R9 t
 rw[cT]<;>omega
abbrev Fp (m:Nat):Prop:=∀ {r:Rd} {p:Ex×Rd},Rd.one m r=some p→∀ {s:St} {o:Nat},s.av[o]? = some (cj r)→ay Tryz.prog 244 [.ptr o 0] s (.agg (bA p.1)) ⟨s.av.set o (cj p.2),s.aw⟩
abbrev Fq (m:Nat):Prop:=∀ {k:Int} {r:Rd} {p:Ex×Rd},Rd.two m k r=some p→∀ {s:St} {o:Nat},s.av[o]? = some (cj r)→ay Tryz.prog 242 [.ptr o 0, .int .i64 k] s (.agg (bA p.1)) ⟨s.av.set o (cj p.2),s.aw⟩
theorem Sb {m:Nat} (Fs:Fp m) (BG:Fq m):Fp (m+1):=by
 intro r p h s o ho
 refine ay.jv ?_ rfl (ff r) (ff p.2) (by simp[D.ok,fK]) ho
 unfold Rd.one at h
 refine ay.go wz.h rfl fun B Q hB hQ=>?_
 have⟨hF,hP,hZ,gA⟩:=bD
 repeat' (first
 |simp only[go_sem,hF,hP,hZ,gA]
 |(rw[zas]at h;obtain⟨_,h1,h⟩:=h;first|(with_reducible refine CU (nn h1 (by with_unfolding_all rfl)) ?_;have hF:=qn h1)|(with_reducible refine CU (rk h1 (by with_unfolding_all rfl)) ?_)|(with_reducible refine CU (BG h1 (by with_unfolding_all rfl)) ?_)|(with_reducible refine CU (om h1 (by with_unfolding_all rfl)) ?_)|(with_reducible refine CU (Fs h1 (by with_unfolding_all rfl)) ?_)|(with_reducible refine CU (BF h1 (by with_unfolding_all rfl)) ?_))
 |(with_reducible refine CU (jG (by with_unfolding_all rfl)) ?_)
 |(with_reducible first|refine bj fun hc=>?_|refine bk fun hc=>?_|refine bl (fun hc=>?_) fun hc=>?_)<;>(try simp only[hc,bs,↓reduceIte]at h)<;>try simp only[hc]
 |((with_reducible refine az hQ ?_);exact dv))
theorem Sc {m:Nat} (Fs:Fp m) (BG : ∀ j<m,Fq j):Fq (m+1):=by
 intro k r p h s o ho
 refine ay.jv ?_ rfl (ff r) (ff p.2) (by simp[D.ok,fK]) ho
 unfold Rd.two at h
 refine ay.go wy.h rfl fun B Q hB hQ=>?_
 have⟨hF,hP,hZ,gA⟩:=bD
 repeat' (first
 |simp only[go_sem,hF,hP,hZ,gA]
 |(rw[zas]at h;obtain⟨_,h1,h⟩:=h;first|(with_reducible refine CU (Fs h1 (by with_unfolding_all rfl)) ?_))
 |(with_reducible refine az hQ ?_;exact aR))
 refine cr 3 0 (aY.ind (ι:=Nat×Ex×Rd) (fun i=>Rd.C1 i.1 k i.2.1 i.2.2=some p∧i.1≤m) (fun i=>i.1)
  (fun i=> [(0, .ptr 0 0),(1, .int .i64 k),(4, .ptr 1 0),(5, .ptr 2 0)]) (fun i=>⟨[cj i.2.2,bA lN,bA i.2.1],[]⟩) ?_ (m,_,_) ⟨h,zag _⟩)
 rintro⟨n,x,r⟩ ⟨h,hn⟩ IH
 cases n with
 |zero=>simp only[Rd.C1]at h;cases h
 |succ n=>
  have abp:=@BG n (by omega)
  simp only[Rd.C1]at h
  repeat' (first
 |simp only[go_sem,hF,hP,hZ,gA,Jp]
 |(rw[zas]at h;obtain⟨_,h1,h⟩:=h;first|(with_reducible refine CU (nn h1 (by with_unfolding_all rfl)) ?_;have hF:=qn h1)|(with_reducible refine CU (abp h1 (by with_unfolding_all rfl)) ?_))
 |(with_reducible refine CU (jG (by with_unfolding_all rfl)) ?_)
 |(with_reducible refine CU (aes _ _) ?_)
 |(with_reducible first|refine bj fun hc=>?_|refine bk fun hc=>?_|refine bl (fun hc=>?_) fun hc=>?_)<;>(try simp only[hc,bs,↓reduceIte]at h)<;>try simp only[hc]
 |((with_reducible refine az hQ ?_);(try cases h);simp only[bt,bx,bY,bZ,go_sem,hF,hP,hZ,gA,Jp];try exact cB))
  refine cr 3 0 (IH (n,_,_) ⟨h,by dsimp only at hn ⊢;omega⟩ (zaa _))
theorem VX : ∀ n,∀ m<n,Fp m∧Fq m:=by
 intro n
 induction n with
 |zero=>intro m h;exact absurd h (zaG _)
 | succ n ih=>
  intro m h
  cases m with
  |zero=>
   refine⟨?_, ?_⟩
   ·intro r p h;simp only[Rd.one]at h;cases h
   ·intro k r p h;simp only[Rd.two]at h;cases h
  |succ m=>
   have hm:=ih m (by omega)
   exact⟨Sb hm.1 hm.2,Sc hm.1 fun j hj=>(ih j (by omega)).2⟩
theorem BG {m:Nat} {k:Int} {r:Rd} {p:Ex×Rd} (h:Rd.two m k r=some p) {s:St} {o:Nat} (ho:s.av[o]? = some (cj r)) :
 ay Tryz.prog 242 [.ptr o 0, .int .i64 k] s (.agg (bA p.1)) ⟨s.av.set o (cj p.2),s.aw⟩:=(VX (m+1) m (zaa _)).2 h ho
theorem zl {n:Nat} {r:Rd} {p:Ex×Rd} (h:Rd.whole n r=some p) {s:St} {o:Nat} (ho:s.av[o]? = some (cj r)) :
 ay Tryz.prog 240 [.ptr o 0] s (.agg (bA p.1)) ⟨s.av.set o (cj p.2),s.aw⟩:=by
 refine ay.jv ?_ rfl (ff r) (ff p.2) (by simp[D.ok,fK]) ho
 unfold Rd.whole at h
 refine ay.go uH.h rfl fun B Q hB hQ=>?_
 have⟨hF,hP,hZ,gA⟩:=bD
 repeat' (first
 |simp only[go_sem,hF,hP,hZ,gA]
 |(rw[zas]at h;obtain⟨_,h1,h⟩:=h;first|(with_reducible refine CU (nn h1 (by with_unfolding_all rfl)) ?_)|(with_reducible refine CU (VW h1 _) ?_)|(with_reducible refine CU (BG h1 (by with_unfolding_all rfl)) ?_))
 |(with_reducible refine CU (jG (by with_unfolding_all rfl)) ?_)
 |(with_reducible first|refine bj fun hc=>?_|refine bk fun hc=>?_|refine bl (fun hc=>?_) fun hc=>?_)<;>(try simp only[hc,bs,↓reduceIte]at h)<;>try simp only[hc]
 |((with_reducible refine az hQ ?_);exact dv))
@[go_sem] def tR (z:D) (r:Rd):List D:= [.slice .shared 4 (r.l.map dS), .int .i64 r.i, .int .i64 r.code, .int .i64 r.tF,z]
class Cell (z:D):Prop where
 ok:D.ok 0 0 z=true
 fg : ∀ n m,D.fg n m z=z
instance (n:Int):Cell (.int .i64 n):=⟨rfl,fun _ _=>rfl⟩
instance:Cell .junk:=⟨rfl,fun _ _=>rfl⟩
theorem VY (z:D) [h:Cell z] (n m:Nat):D.fg n m z=z:=h.fg n m
attribute [go_sem] VY
def Rd.isO (text:aA) (r:Rd):Option Bool:=if r.good then r.is text else some false
end Go.Abs
namespace Go.Abs
set_option maxRecDepth 8000
open Go.Proofs
def Yx (s:aA):Int×Int:=
 if [42] == s then(6,5)else if [47] == s then(6,6)else if [37] == s then(6,7)else if [43] == s then(5,8)else if [45] == s then(5,9)
 else if [60] == s then(4,10)else if [60,61] == s then(4,11)else if [62] == s then(4,12)else if [62,61] == s then(4,13)
 else if [61,61] == s then(3,14)else if [33,61] == s then(3,15)else if [38,38] == s then(2,16)else if [124,124] == s then(1,17)else(0,0)
abbrev afa (m:Nat):Prop:=∀ {z:D} [Cell z] {r:Rd} {p:Ex×Rd},Rd.one m r=some p→∀ {s:St} {o:Nat},s.av[o]? = some (tR z r)→ay Tryz.prog 235 [.ptr o 0] s (.agg (bA p.1)) ⟨s.av.set o (tR z p.2),s.aw⟩
abbrev af8 (m:Nat):Prop:=∀ {z:D} [Cell z] {k:Int} {x:Ex} {r:Rd} {p:Ex×Rd},Rd.C1 m k x r=some p→∀ {s:St} {o:Nat},s.av[o]? = some (tR z r)→ay Tryz.prog 234 [.ptr o 0, .agg (bA x), .int .i64 k] s (.agg (bA p.1)) ⟨s.av.set o (tR z p.2),s.aw⟩
def BZ (p:Int×Int):Prop:=(p.2==0)=(p.1==0)
theorem Yy : ∀ (fP:Nat),fP<1000000→∀ x:Ex,x.size<4611686018427387904→∀ s:St,ay Tryz.prog 206 [.agg (bA x), .int .i64 (fP:Int)] s (.int .i64 ((min x.depth (fP+1):Nat):Int)) s:=by
 intro fP
 induction fP with
 |zero=>
  rintro _ ⟨op,m,name,kids⟩ hx s
  refine ay.pure ?_ (by simp[D.bg,D.ok,fK]) rfl s
  have hz:((0:Int)==0)=true:=rfl
  have e:min (Ex.depth ⟨op,m,name,kids⟩) (0+1)=1:=by simp only[Ex.depth];omega
  rw[e]
  unfold S0
  refine ay.go xo.h rfl fun B Q hB hQ=>?_
  have⟨hF,hP,hZ,gA⟩:=bD
  repeat' (first
 |simp only[go_sem,hF,hP,hZ,gA,hz]
 |(with_reducible refine az hQ ?_;exact aR))
 | succ fP ih=>
  rintro ahJ ⟨op,m,name,kids⟩ hx s
  refine ay.pure ?_ (by simp[D.bg,D.ok,fK]) rfl s
  have hlen:kids.length<4611686018427387904:=by simp only[Ex.size]at hx;have:=Ex.cd kids;omega
  have hk : ∀ y∈kids,∀ s,ay Tryz.prog 206 [.agg (bA y), .int .i64 (fP:Int)] s (.int .i64 ((min y.depth (fP+1):Nat):Int)) s:=fun y hy s=>
   ih (by omega) y (by simp only[Ex.size]at hx;have:=Ex.bC hy;omega) s
  have hz:(((fP+1:Nat):Int)==0)=false:=by simp;omega
  have w1:IntKind.wrap .i64 (((fP+1:Nat):Int) - 1)=(fP:Int):=by rw[cT]<;>omega
  unfold S0
  refine ay.go xo.h rfl fun B Q hB hQ=>?_
  have⟨hF,hP,hZ,gA⟩:=bD
  repeat' (first
 |simp only[go_sem,hF,hP,hZ,gA,hz]
 | (with_reducible refine az hQ ?_;exact aR))
  refine cr 1 0 (aY.ind (ι:=List Ex×Nat×Nat) (fun i=>kids.drop i.2.1=i.1∧i.2.2≤fP+1∧min (max i.2.2 (Ex.gh i.1)) (fP+1)=min (Ex.gh kids) (fP+1)) (fun i=>i.1.length)
   (fun i=> [(1, .int .i64 ((fP+1:Nat):Int)),(2, .ptr 0 0),(5, .int .i64 (i.2.2:Int)),(6, .int .i64 (i.2.1:Int))]) (fun i=>⟨[bA ⟨op,m,name,kids⟩],[]⟩) ?_ (kids,0,0) ⟨rfl,zar _,by simp⟩)
  rintro⟨rest,k,d⟩ ⟨h1,h2,h3⟩ IH
  dsimp only at h1 h2 h3
  have hd:min (Ex.depth ⟨op,m,name,kids⟩) (fP+1+1)=min (Ex.gh kids) (fP+1)+1:=by simp only[Ex.depth];omega
  rw[hd, ← h3]at hQ
  have w2:IntKind.wrap .i64 ((d:Int)+1)=((d+1:Nat):Int):=by rw[cT]<;>omega
  by_cases ah6:d<fP+1
  ·have c2:decide ((d:Int)<((fP+1:Nat):Int))=true:=by simp;omega
   cases rest with
   |nil=>
    have hF:=drop_nil h1
    simp only[Ex.gh,Nat.max_zero]at hQ
    have e:min d (fP+1)=d:=by omega
    rw[e]at hQ
    repeat' (first
 |simp only[go_sem,hF,hP,hZ,gA,c2,w2]
 | (with_reducible refine az hQ ?_;exact aR))
   | cons y rest=>
    obtain⟨hP,g2,hF,g4⟩:=drop_cons h1
    have hy:=hk y (zac hP)
    simp only[Ex.gh]at h3
    have bH:k<4611686018427387904:=by omega
    by_cases mc:min y.depth (fP+1) > d
    ·have c3:decide (((min y.depth (fP+1):Nat):Int) > (d:Int))=true:=by simp only [decide_eq_true_eq];omega
     repeat' (first
 |simp only[go_sem,hF,hP,hZ,gA,c2,w1,c3]
 |(with_reducible refine CU (hy _) ?_)
 | (with_reducible refine az hQ ?_;exact aR))
     refine cD 1 0 ?_ ?_ (IH (rest,k+1,min y.depth (fP+1)) ⟨g2,by dsimp only;omega,by dsimp only;omega⟩ (zaa _))
     ·(simp only[go_sem,hF,hP,hZ,gA,aC bH];try exact bd)
     ·(simp only[go_sem,hF,hP,hZ,gA,aC bH];try exact bd)
    ·have c3:decide (((min y.depth (fP+1):Nat):Int) > (d:Int))=false:=by simp only [decide_eq_false_iff_not];omega
     repeat' (first
 |simp only[go_sem,hF,hP,hZ,gA,c2,w1,c3]
 |(with_reducible refine CU (hy _) ?_)
 | (with_reducible refine az hQ ?_;exact aR))
     refine cD 1 0 ?_ ?_ (IH (rest,k+1,d) ⟨g2,h2,by dsimp only;omega⟩ (zaa _))
     ·(simp only[go_sem,hF,hP,hZ,gA,aC bH];try exact bd)
     ·(simp only[go_sem,hF,hP,hZ,gA,aC bH];try exact bd)
  ·have c2:decide ((d:Int)<((fP+1:Nat):Int))=false:=by simp;omega
   have e:min (max d (Ex.gh rest)) (fP+1)=d:=by omega
   rw[e]at hQ
   cases rest with
   |nil=>
    have hF:=drop_nil h1
    repeat' (first
 |simp only[go_sem,hF,hP,hZ,gA,c2,w2]
 | (with_reducible refine az hQ ?_;exact aR))
   |cons y rest=>
    obtain⟨hP,g2,hF,g4⟩:=drop_cons h1
    repeat' (first
 |simp only[go_sem,hF,hP,hZ,gA,c2,w2]
 |(with_reducible refine az hQ ?_;exact aR))
theorem vG (text:aA) (hl:text.length<4611686018427387904) (s:St):ay Tryz.prog 149 [.str text] s (.bool (isName text)) s:=by
 refine ay.pure ?_ rfl rfl s
 unfold S0
 cases text with
 |nil=>
  have e:(([] : aA) == [])=true:=rfl
  refine ay.go xu.h rfl fun B Q hB hQ=>?_
  have⟨hF,hP,hZ,gA⟩:=bD
  repeat' (first
 |simp only[go_sem,hF,hP,hZ,gA,e,isName]
 |(with_reducible first|refine bj fun hc=>?_|refine bk fun hc=>?_|refine bl (fun hc=>?_) fun hc=>?_)<;>(try simp only[hc,bs,↓reduceIte]at h)<;>try simp only[hc]
 |(with_reducible refine az hQ ?_;simp only[bt,bx,bY,bZ,go_sem,hF,hP,hZ,gA,e,isName];try exact cB))
 |cons c r=>
  have e:((c::r) == [])=false:=rfl
  generalize h:isName (c::r)=p
  simp only[isName]at h
  refine ay.go xu.h rfl fun B Q hB hQ=>?_
  have⟨hF,hP,hZ,gA⟩:=bD
  repeat' (first
 |simp only[go_sem,hF,hP,hZ,gA,e]
 |(with_reducible refine CU (G9 _ _) ?_)
 |(with_reducible first|refine bj fun hc=>?_|refine bk fun hc=>?_|refine bl (fun hc=>?_) fun hc=>?_)<;>(try simp only[hc,bs,↓reduceIte]at h)<;>try simp only[hc]
 | ((with_reducible refine az hQ ?_);(try cases h);simp only [bt,bx,bY,bZ,go_sem,hF,hP,hZ,gA,e];try exact cB))
  refine cr 0 0 (aY.ind (ι:=aA×Nat) (fun i=>(c::r).drop i.2=i.1∧(if sg i.1 then !(isWord (c::r))else false)=p) (fun i=>i.1.length)
   (fun i=> [(0, .str (c::r)),(3, .int .i64 (i.2:Int))]) (fun i=>⟨[],[]⟩) ?_ (r,1) ⟨rfl,h⟩)
  rintro⟨rest,k⟩ ⟨h1,h⟩ IH
  dsimp only at h1 h
  cases rest with
  |nil=>
   have hF:=drop_nil h1
   simp only[zal]at hF
   simp only[sg,↓reduceIte]at h
   repeat' (first
 |simp only[go_sem,hF,hP,hZ,gA]
 |(with_reducible refine CU (VU _ _) ?_)
 |(with_reducible first|refine bj fun hc=>?_|refine bk fun hc=>?_|refine bl (fun hc=>?_) fun hc=>?_)<;>(try simp only[hc,bs,↓reduceIte]at h)<;>try simp only[hc]
 | ((with_reducible refine az hQ ?_);exact dv))
  |cons d rest=>
   obtain⟨hP,g2,hF,g4⟩:=drop_cons h1
   simp only[zal]at hF
   have hZ:k<4611686018427387904:=by omega
   simp only[sg]at h
   repeat' (first
 |simp only[go_sem,hF,hP,hZ,gA]
 |(with_reducible refine CU (G9 _ _) ?_)
 |(with_reducible refine CU (R8 _ _) ?_)
 |(with_reducible first|refine bj fun hc=>?_|refine bk fun hc=>?_|refine bl (fun hc=>?_) fun hc=>?_)<;>(try simp only[hc,bs,↓reduceIte]at h)<;>try simp only[hc]
 |((with_reducible refine az hQ ?_);(try cases h);simp only[bt,bx,bY,bZ,go_sem,hF,hP,hZ,gA];repeat' (first|exact Ok.out|with_reducible refine dZ ?_ ?_|(simp;done)))
 | (cases h;done))
   all_goals
    refine cr 0 0 (IH (rest,k+1) ⟨g2,h⟩ (zaa _))
theorem VZ (op:Int) (s:St):ay Tryz.prog 210 [.int .i64 op] s (.int .i64 (lr op)) s:=by
 refine ay.pure ?_ rfl rfl s
 unfold S0
 generalize h:lr op=p
 unfold lr at h
 refine ay.go Db.h rfl fun B Q hB hQ=>?_
 have⟨hF,hP,hZ,gA⟩:=bD
 repeat' (first
 |simp only[go_sem,hF,hP,hZ,gA]
 |(with_reducible first|refine bj fun hc=>?_|refine bk fun hc=>?_|refine bl (fun hc=>?_) fun hc=>?_)<;>(try simp only[hc,bs,↓reduceIte]at h)<;>try simp only[hc]
 |((with_reducible refine az hQ ?_);exact dv))
theorem Sd {l:List aA} (hl:l.length<4611686018427387904) (hs : ∀ t∈l,t.length<4611686018427387904) (s:St):ay Tryz.prog 148 [.slice .shared 1 (l.map encStr)] s (.bool (cL l)) s:=by
 refine ay.pure ?_ (by simp[D.bg,D.ok,dd,Tag.ok]) rfl s
 unfold S0
 generalize h:cL l=p
 refine ay.go De.h rfl fun B Q hB hQ=>?_
 have⟨hF,hP,hZ,gA⟩:=bD
 repeat' (first
 |simp only[go_sem,hF,hP,hZ,gA]
 |(with_reducible first|refine bj fun hc=>?_|refine bk fun hc=>?_|refine bl (fun hc=>?_) fun hc=>?_)<;>(try simp only[hc,bs,↓reduceIte]at h)<;>try simp only[hc]
 |((with_reducible refine az hQ ?_);exact dv))
 refine cr 0 0 (aY.ind (ι:=List aA×Nat) (fun i=>l.drop i.2=i.1∧cL i.1=p) (fun i=>i.1.length)
  (fun i=> [(5, .slice .shared 1 (l.map encStr)),(6, .int .i64 (l.length:Int)),(7, .int .i64 (i.2:Int))]) (fun i=>⟨[],[]⟩) ?_ (l,0) ⟨rfl,h⟩)
 rintro⟨rest,k⟩ ⟨h1,h⟩ IH
 dsimp only at h1 h
 cases rest with
 |nil=>
  have hF:=drop_nil h1
  simp only[cL]at h
  repeat' (first
 |simp only[go_sem,hF,hP,hZ,gA]
 |(with_reducible first|refine bj fun hc=>?_|refine bk fun hc=>?_|refine bl (fun hc=>?_) fun hc=>?_)<;>(try simp only[hc,bs,↓reduceIte]at h)<;>try simp only[hc]
 |((with_reducible refine az hQ ?_);exact dv))
 |cons t rest=>
  obtain⟨hP,g2,hF,g4⟩:=drop_cons h1
  have hZ:k<4611686018427387904:=by omega
  have hn:=vG t (hs t (zac hP))
  simp only[cL]at h
  repeat' (first
 |simp only[go_sem,hF,hP,hZ,gA]
 |(with_reducible refine CU (hn _) ?_)
 |(with_reducible first|refine bj fun hc=>?_|refine bk fun hc=>?_|refine bl (fun hc=>?_) fun hc=>?_)<;>(try simp only[hc,bs,↓reduceIte]at h)<;>try simp only[hc]
 |((with_reducible refine az hQ ?_);exact dv))
  refine cr 0 0 (IH (rest,k+1) ⟨g2,h⟩ (zaa _))
theorem Yz : ∀ (n:Nat) (x:Ex),x.size≤n→x.size<4611686018427387904→x.texts→∀ s:St,ay Tryz.prog 207 [.agg (bA x)] s (.bool x.form) s:=by
 intro n
 induction n with
 |zero=>rintro⟨op,m,name,kids⟩ h;simp only[Ex.size]at h;omega
 | succ n ih=>
  rintro⟨op,m,name,kids⟩ h hx ht s
  refine ay.pure ?_ (by simp[D.bg,D.ok,fK]) rfl s
  have hlen:kids.length<4611686018427387904:=by simp only[Ex.size]at hx;have:=Ex.cd kids;omega
  have hk : ∀ y∈kids,∀ s,ay Tryz.prog 207 [.agg (bA y)] s (.bool y.form) s:=fun y hy s=>
   ih y (by simp only[Ex.size]at h;have:=Ex.bC hy;omega) (by simp only[Ex.size]at hx;have:=Ex.bC hy;omega) (Ex.DY ht hy) s
  have hn:=vG name ht.1
  unfold S0
  generalize h:Ex.form ⟨op,m,name,kids⟩=p
  simp only[Ex.form]at h
  refine ay.go E5.h rfl fun B Q hB hQ=>?_
  have⟨hF,hP,hZ,gA⟩:=bD
  repeat' (first
 |simp only[go_sem,hF,hP,hZ,gA]
 |(with_reducible refine CU (VZ _ _) ?_)
 |(with_reducible refine CU (hn _) ?_)
 |(with_reducible first|refine bj fun hc=>?_|refine bk fun hc=>?_|refine bl (fun hc=>?_) fun hc=>?_)<;>(try simp only[hc,bs,↓reduceIte]at h)<;>try simp only[hc]
 | ((with_reducible refine az hQ ?_);(try cases h);simp only [bt,bx,bY,bZ,go_sem,hF,hP,hZ,gA];repeat' (first | exact Ok.out | with_reducible refine dZ ?_ ?_ | (simp;done))))
  all_goals
   refine cr 1 0 (aY.ind (ι:=List Ex×Nat) (fun i=>kids.drop i.2=i.1∧Ex.nK i.1=p) (fun i=>i.1.length)
    (fun i=> [(1, .ptr 0 0),(48, .int .i64 (kids.length:Int)),(49, .int .i64 (i.2:Int))]) (fun i=>⟨[bA ⟨op,m,name,kids⟩],[]⟩) ?_ (kids,0) ⟨rfl,h⟩)
   rintro⟨rest,k⟩ ⟨h1,h⟩ IH
   dsimp only at h1 h
   cases rest with
   |nil=>
    have hF:=drop_nil h1
    simp only[Ex.nK]at h
    repeat' (first
 |simp only[go_sem,hF,hP,hZ,gA]
 |(with_reducible first|refine bj fun hc=>?_|refine bk fun hc=>?_|refine bl (fun hc=>?_) fun hc=>?_)<;>(try simp only[hc,bs,↓reduceIte]at h)<;>try simp only[hc]
 |((with_reducible refine az hQ ?_);exact dv)
 | (cases h;done))
   |cons y rest=>
    obtain⟨hP,g2,hF,g4⟩:=drop_cons h1
    have hy:=hk y (zac hP)
    have hZ:k<4611686018427387904:=by omega
    simp only[Ex.nK]at h
    repeat' (first
 |simp only[go_sem,hF,hP,hZ,gA]
 |(with_reducible refine CU (hy _) ?_)
 |(with_reducible first|refine bj fun hc=>?_|refine bk fun hc=>?_|refine bl (fun hc=>?_) fun hc=>?_)<;>(try simp only[hc,bs,↓reduceIte]at h)<;>try simp only[hc]
 | ((with_reducible refine az hQ ?_);exact dv))
    refine cr 1 0 (IH (rest,k+1) ⟨g2,h⟩ (zaa _))
theorem yr {x:Ex} (hx:x.size<4611686018427387904) (ht:x.texts) (s:St):ay Tryz.prog 174 [.agg (bA x)] s (.bool x.may) s:=by
 refine ay.pure ?_ (by simp[D.bg,D.ok,fK]) rfl s
 have hd:=fun s=>Yy 20 (by decide) x hx s
 have c20:((20:Nat):Int)=20:=rfl
 rw[c20]at hd
 have hf:=Yz _ x (zag _) hx ht
 unfold S0
 generalize h:Ex.may x=p
 unfold Ex.may at h
 refine ay.go AG.h rfl fun B Q hB hQ=>?_
 have⟨hF,hP,hZ,gA⟩:=bD
 repeat' (first
 |simp only[go_sem,hF,hP,hZ,gA]
 |(with_reducible refine CU (hd _) ?_)
 |(with_reducible refine CU (hf _) ?_)
 |(with_reducible first|refine bj fun hc=>?_|refine bk fun hc=>?_|refine bl (fun hc=>?_) fun hc=>?_)<;>(try simp only[hc,bs,↓reduceIte]at h)<;>try simp only[hc]
 |((with_reducible refine az hQ ?_);exact dv))
theorem OQ (x:Ex) (s:St):ay Tryz.prog 180 [.agg (bA x)] s (.bool x.none) s:=by
 refine ay.pure ?_ (by simp[D.bg,D.ok,fK]) rfl s
 unfold S0
 generalize h:Ex.none x=p
 unfold Ex.none at h
 refine ay.go E3.h rfl fun B Q hB hQ=>?_
 have⟨hF,hP,hZ,gA⟩:=bD
 repeat' (first
 |simp only[go_sem,hF,hP,hZ,gA]
 |(with_reducible first|refine bj fun hc=>?_|refine bk fun hc=>?_|refine bl (fun hc=>?_) fun hc=>?_)<;>(try simp only[hc,bs,↓reduceIte]at h)<;>try simp only[hc]
 |((with_reducible refine az hQ ?_);exact dv))
theorem abq {a:Ar} (hx:a.x.size<4611686018427387904) (ht:a.x.texts) (hn:a.name.length<4611686018427387904) (s:St):ay Tryz.prog 181 [.agg (dz a)] s (.bool a.may) s:=by
 refine ay.pure ?_ (by simp[D.bg,D.ok,GN]) rfl s
 have hm:=yr hx ht
 have h1:=vG a.name hn
 unfold S0
 generalize h:Ar.may a=p
 simp only[Ar.may]at h
 refine ay.go G4.h rfl fun B Q hB hQ=>?_
 have⟨hF,hP,hZ,gA⟩:=bD
 repeat' (first
 |simp only[go_sem,hF,hP,hZ,gA]
 |(with_reducible refine CU (hm _) ?_)
 |(with_reducible refine CU (h1 _) ?_)
 |(with_reducible refine CU (OQ _ _) ?_)
 |(with_reducible first|refine bj fun hc=>?_|refine bk fun hc=>?_|refine bl (fun hc=>?_) fun hc=>?_)<;>(try simp only[hc,bs,↓reduceIte]at h)<;>try simp only[hc]
 |((with_reducible refine az hQ ?_);exact dv))
structure Sm.lx (s:Sm):Prop where
 lab : ∀ t∈s.labels,t.length<4611686018427387904
 YA:s.labels.length<4611686018427387904
 name:s.name.length<4611686018427387904
 proc:s.proc.length<4611686018427387904
 x:s.x.size<4611686018427387904
 xt:s.x.texts
 YB:s.args.length<4611686018427387904
 arg : ∀ a∈s.args,a.x.size<4611686018427387904∧a.x.texts∧a.name.length<4611686018427387904
section
variable {v:Sm} {B:ey} {Q:Exit→Tm→St→Prop} {p:Bool}
theorem abr (hf:v.lx) (hB:B.s = ⟨[],[]⟩) (hQ:gy 0 0 [(2,none)] (.bool p) ⟨[],[]⟩=Q)
 (h:(if !(Ar.dR v.args)then false else((v.aV.length:Int)==0 ||v.kind==5 ||v.kind==6) && ((v.aN.length:Int)==0 ||v.kind==5))=p) :
 Sem Tryz.prog B 178 Q0O Q [(1, .ptr 0 0)] ⟨[aH v],[]⟩:=by
 have ahK:=hf.YB
 have Se:=fun a ha s=>abq (hf.arg a ha).1 (hf.arg a ha).2.1 (hf.arg a ha).2.2 s
 have⟨hF,hP,hZ,gA⟩:=bD
 refine gu ?_
 repeat' (first
 |simp only[go_sem,hF,hP,hZ,gA]
 |(with_reducible refine az hQ ?_;exact aR))
 refine cr 1 0 (aY.ind (ι:=List Ar×Nat) (fun i=>v.args.drop i.2=i.1∧(if !(Ar.dR i.1)then false else((v.aV.length:Int)==0 ||v.kind==5 ||v.kind==6) && ((v.aN.length:Int)==0 ||v.kind==5))=p) (fun i=>i.1.length)
  (fun i=> [(1, .ptr 0 0),(143, .slice .shared 6 (v.args.map dz)),(144, .int .i64 (v.args.length:Int)),(145, .int .i64 (i.2:Int))]) (fun i=>⟨[aH v],[]⟩) ?_ (v.args,0) ⟨rfl,h⟩)
 rintro⟨rest,k⟩ ⟨h1,h⟩ IH
 dsimp only at h1 h
 cases rest with
 |nil=>
  have hF:=drop_nil h1
  simp only[Ar.dR,zax,zab,↓reduceIte]at h
  repeat' (first
 |simp only[go_sem,hF,hP,hZ,gA]
 |(with_reducible first|refine bj fun hc=>?_|refine bk fun hc=>?_|refine bl (fun hc=>?_) fun hc=>?_)<;>(try simp only[hc,bs,↓reduceIte]at h)<;>try simp only[hc]
 | ((with_reducible refine az hQ ?_);(try cases h);simp only [bt,bx,bY,bZ,go_sem,hF,hP,hZ,gA];repeat' (first | exact Ok.out | with_reducible refine dZ ?_ ?_ | (simp;done))))
  all_goals
   simp only[*]
   exact Ok.out
 |cons a rest=>
  obtain⟨hP,g2,hF,g4⟩:=drop_cons h1
  have ha:=Se a (zac hP)
  have hZ:k<4611686018427387904:=by omega
  simp only[Ar.dR]at h
  repeat' (first
 |simp only[go_sem,hF,hP,hZ,gA]
 |(with_reducible refine CU (ha _) ?_)
 |(with_reducible first|refine bj fun hc=>?_|refine bk fun hc=>?_|refine bl (fun hc=>?_) fun hc=>?_)<;>(try simp only[hc,bs,↓reduceIte]at h)<;>try simp only[hc]
 |((with_reducible refine az hQ ?_);exact dv))
  refine cr 1 0 (IH (rest,k+1) ⟨g2,h⟩ (zaa _))
theorem abt {cl:Bool} (hf:v.lx) (hB:B.s = ⟨[],[]⟩) (hQ:gy 0 0 [(2,none)] (.bool p) ⟨[],[]⟩=Q)
 (h:(if !(cl == !(v.proc == [])) || (cl && !(isName v.proc)) || (!cl && decide ((v.args.length:Int) > 0))then false
  else if !(Ar.dR v.args)then false else((v.aV.length:Int)==0 ||v.kind==5 ||v.kind==6) && ((v.aN.length:Int)==0 ||v.kind==5))=p) :
 Sem Tryz.prog B 178 Q0N Q [(1, .ptr 0 0),(5, .bool cl)] ⟨[aH v],[]⟩:=by
 have Ms:=vG v.proc hf.proc
 have⟨hF,hP,hZ,gA⟩:=bD
 refine Sem.fY ?_
 repeat' (first
 |simp only[go_sem,hF,hP,hZ,gA]
 |(with_reducible refine CU (Ms _) ?_)
 |(with_reducible first|refine bj fun hc=>?_|refine bk fun hc=>?_|refine bl (fun hc=>?_) fun hc=>?_)<;>(try simp only[hc,bs,↓reduceIte]at h)<;>try simp only[hc]
 |((with_reducible refine az hQ ?_);(try cases h);simp only[bt,bx,bY,bZ,go_sem,hF,hP,hZ,gA];repeat' (first|exact Ok.out|with_reducible refine dZ ?_ ?_|(simp;done))))
 all_goals
  refine Sem.re _ _ 1 0 (by rw[hB];exact im rfl) (by rw[hB];exact im rfl) ?_ ?_ (abr hf hB hQ h)
  ·(simp only[go_sem,hF,hP,hZ,gA];repeat' (first|exact Ok.out|with_reducible refine dZ ?_ ?_))
  ·(simp only[go_sem,hF,hP,hZ,gA];repeat' (first|exact Ok.out|with_reducible refine dZ ?_ ?_))
theorem abu {hn cl:Bool} (hf:v.lx) (hB:B.s = ⟨[],[]⟩) (hQ:gy 0 0 [(2,none)] (.bool p) ⟨[],[]⟩=Q)
 (h:(if(hn && !(isName v.name)) || (!hn && !(v.name == []) && !(cl && isName v.name))then false
  else if !(cl == !(v.proc == [])) ||(cl && !(isName v.proc)) ||(!cl && decide ((v.args.length:Int) > 0))then false
  else if !(Ar.dR v.args)then false else((v.aV.length:Int)==0 ||v.kind==5 ||v.kind==6) && ((v.aN.length:Int)==0 ||v.kind==5))=p) :
 Sem Tryz.prog B 178 Q0M Q [(1, .ptr 0 0),(4, .bool hn),(5, .bool cl)] ⟨[aH v],[]⟩:=by
 have Ko:=vG v.name hf.name
 have⟨hF,hP,hZ,gA⟩:=bD
 have k:=@abt v B Q p cl hf hB hQ
 cases cl
 all_goals
  refine Sem.fY ?_
  repeat' (first
 |simp only[go_sem,hF,hP,hZ,gA]
 |(with_reducible refine CU (Ko _) ?_)
 |(with_reducible first|refine bj fun hc=>?_|refine bk fun hc=>?_|refine bl (fun hc=>?_) fun hc=>?_)<;>(try simp only[hc,bs,↓reduceIte]at h)<;>try simp only[hc]
 |((with_reducible refine az hQ ?_);(try cases h);simp only[bt,bx,bY,bZ,go_sem,hF,hP,hZ,gA];repeat' (first|exact Ok.out|with_reducible refine dZ ?_ ?_|(simp;done))))
 all_goals
  refine Sem.re _ _ 1 0 (by rw[hB];exact im rfl) (by rw[hB];exact im rfl) ?_ ?_ (k (by simpa only[bs,↓reduceIte]using h))
  ·(simp only[go_sem,hF,hP,hZ,gA];repeat' (first|exact Ok.out|with_reducible refine dZ ?_ ?_))
  ·(simp only[go_sem,hF,hP,hZ,gA];repeat' (first|exact Ok.out|with_reducible refine dZ ?_ ?_))
theorem abv {hx hn cl:Bool} (hf:v.lx) (hB:B.s = ⟨[],[]⟩) (hQ:gy 0 0 [(2,none)] (.bool p) ⟨[],[]⟩=Q)
 (h:(if decide (v.kind<1) || decide (v.kind > 10) || !(cL v.labels) || (hx && !(v.x.may)) || (!hx && !(v.x.none)) || (v.has && v.kind != 9)then false
  else if(hn && !(isName v.name)) ||(!hn && !(v.name == []) && !(cl && isName v.name))then false
  else if !(cl == !(v.proc == [])) ||(cl && !(isName v.proc)) ||(!cl && decide ((v.args.length:Int) > 0))then false
  else if !(Ar.dR v.args)then false else((v.aV.length:Int)==0 ||v.kind==5 ||v.kind==6) && ((v.aN.length:Int)==0 ||v.kind==5))=p) :
 Sem Tryz.prog B 178 Q0L Q [(1, .ptr 0 0),(3, .bool hx),(4, .bool hn),(5, .bool cl)] ⟨[aH v],[]⟩:=by
 have hns:=fun s=>Sd hf.YA hf.lab s
 have hm:=yr hf.x hf.xt
 have⟨hF,hP,hZ,gA⟩:=bD
 refine Sem.fY ?_
 repeat' (first
 |simp only[go_sem,hF,hP,hZ,gA]
 |(with_reducible refine CU (hns _) ?_)
 |(with_reducible refine CU (hm _) ?_)
 |(with_reducible refine CU (OQ _ _) ?_)
 |(with_reducible first|refine bj fun hc=>?_|refine bk fun hc=>?_|refine bl (fun hc=>?_) fun hc=>?_)<;>(try simp only[hc,bs,↓reduceIte]at h)<;>try simp only[hc]
 |((with_reducible refine az hQ ?_);(try cases h);simp only[bt,bx,bY,bZ,go_sem,hF,hP,hZ,gA];repeat' (first|exact Ok.out|with_reducible refine dZ ?_ ?_|(simp;done))))
 all_goals
  refine Sem.re _ _ 1 0 (by rw[hB];exact im rfl) (by rw[hB];exact im rfl) ?_ ?_ (abu hf hB hQ h)
  ·(simp only[go_sem,hF,hP,hZ,gA];repeat' (first|exact Ok.out|with_reducible refine dZ ?_ ?_))
  ·(simp only[go_sem,hF,hP,hZ,gA];repeat' (first|exact Ok.out|with_reducible refine dZ ?_ ?_))
theorem abw {hx hn:Bool} (hf:v.lx) (hB:B.s = ⟨[],[]⟩) (hQ:gy 0 0 [(2,none)] (.bool p) ⟨[],[]⟩=Q) (ex:v.uJ=hx) (en:v.hasName=hn) (h:v.one=p) :
 Sem Tryz.prog B 178 Q0K Q [(1, .ptr 0 0),(3, .bool hx),(4, .bool hn)] ⟨[aH v],[]⟩:=by
 unfold Sm.one at h
 rw[ex,en]at h
 have⟨hF,hP,hZ,gA⟩:=bD
 refine Sem.fY ?_
 repeat' (first
 |simp only[go_sem,hF,hP,hZ,gA]
 |(with_reducible refine az hQ ?_;exact aR))
 refine Sem.re _ _ 1 0 (by rw[hB];exact im rfl) (by rw[hB];exact im rfl) ?_ ?_ (abv hf hB hQ h)
 ·(simp only[go_sem,hF,hP,hZ,gA,Sm.oj];repeat' (first|exact Ok.out|with_reducible refine dZ ?_ ?_))
 ·(simp only[go_sem,hF,hP,hZ,gA,Sm.oj];repeat' (first|exact Ok.out|with_reducible refine dZ ?_ ?_))
theorem abx {hx:Bool} (hf:v.lx) (hB:B.s = ⟨[],[]⟩) (hQ:gy 0 0 [(2,none)] (.bool p) ⟨[],[]⟩=Q) (ex:v.uJ=hx) (hp:v.one=p) :
 Sem Tryz.prog B 178 Q0J Q [(1, .ptr 0 0),(3, .bool hx)] ⟨[aH v],[]⟩:=by
 generalize h:v.hasName=hn
 have hn:=h
 unfold Sm.hasName at h
 have⟨hF,hP,hZ,gA⟩:=bD
 refine Sem.fY ?_
 repeat' (first
 |simp only[go_sem,hF,hP,hZ,gA]
 |(with_reducible first|refine bj fun hc=>?_|refine bk fun hc=>?_|refine bl (fun hc=>?_) fun hc=>?_)<;>(try simp only[hc,bs,↓reduceIte]at h)<;>try simp only[hc]
 |(with_reducible refine az hQ ?_;simp only[bt,bx,bY,bZ,go_sem,hF,hP,hZ,gA];repeat' (first|exact Ok.out|with_reducible refine dZ ?_ ?_|(simp;done))))
 all_goals
  refine Sem.re _ _ 1 0 (by rw[hB];exact im rfl) (by rw[hB];exact im rfl) ?_ ?_ (abw hf hB hQ ex hn hp)
  ·(simp only[go_sem,hF,hP,hZ,gA,h];repeat' (first|exact Ok.out|with_reducible refine dZ ?_ ?_))
  ·(simp only[go_sem,hF,hP,hZ,gA,h];repeat' (first|exact Ok.out|with_reducible refine dZ ?_ ?_))
theorem aby (hf:v.lx) (hB:B.s = ⟨[],[]⟩) (hQ:gy 0 0 [(2,none)] (.bool p) ⟨[],[]⟩=Q) (hp:v.one=p) :
 Sem Tryz.prog B 178 Q0I Q [(1, .ptr 0 0)] ⟨[aH v],[]⟩:=by
 generalize h:v.uJ=hx
 have ex:=h
 unfold Sm.uJ at h
 have⟨hF,hP,hZ,gA⟩:=bD
 refine Sem.fY ?_
 repeat' (first
 |simp only[go_sem,hF,hP,hZ,gA]
 |(with_reducible first|refine bj fun hc=>?_|refine bk fun hc=>?_|refine bl (fun hc=>?_) fun hc=>?_)<;>(try simp only[hc,bs,↓reduceIte]at h)<;>try simp only[hc]
 |(with_reducible refine az hQ ?_;simp only[bt,bx,bY,bZ,go_sem,hF,hP,hZ,gA];repeat' (first|exact Ok.out|with_reducible refine dZ ?_ ?_|(simp;done))))
 all_goals
  refine Sem.re _ _ 1 0 (by rw[hB];exact im rfl) (by rw[hB];exact im rfl) ?_ ?_ (abx hf hB hQ ex hp)
  ·(simp only[go_sem,hF,hP,hZ,gA,h];repeat' (first|exact Ok.out|with_reducible refine dZ ?_ ?_))
  ·(simp only[go_sem,hF,hP,hZ,gA,h];repeat' (first|exact Ok.out|with_reducible refine dZ ?_ ?_))
end
theorem ay.YC {P:Program} {f:FuncId} {nt:Nat} {res:List (Nat×Option (Bool×Nat))} {body:AC} {args:List D} {s:St} {d:D} {s':St} (h0:Has P f nt res body) (hl:Nat.ble args.length nt=true)
 (h : ∀ (B:ey) (Q:Exit→Tm→St→Prop),B.s=s→gy s.av.length s.aw.length res d s'=Q→Sem P B nt body Q (lV 0 args) s):ay P f args s d s':=by
 obtain⟨fn,hf,hc⟩:=h0
 exact ay.intro ⟨fn,hf,hc⟩ (za7 hl) fun B hB=>h B _ hB rfl
theorem Fs {v:Sm} (hf:v.lx) (s:St):ay Tryz.prog 150 [.agg (aH v)] s (.bool v.one) s:=by
 refine ay.pure ?_ (by simp[D.bg,D.ok,il]) rfl s
 unfold S0
 refine ay.YC jg.h rfl fun B Q hB hQ=>?_
 have⟨hF,hP,hZ,gA⟩:=bD
 refine Sem.fY ?_
 repeat' (first
 |simp only[go_sem,hF,hP,hZ,gA]
 |(with_reducible refine az hQ ?_;exact aR))
 refine Sem.re _ _ 1 0 (by rw[hB];exact im rfl) (by rw[hB];exact im rfl) ?_ ?_ (aby hf hB hQ rfl)
 ·(simp only[go_sem,hF,hP,hZ,gA];repeat' (first|exact Ok.out|with_reducible refine dZ ?_ ?_))
 ·(simp only[go_sem,hF,hP,hZ,gA];repeat' (first|exact Ok.out|with_reducible refine dZ ?_ ?_))
end Go.Abs
namespace Go.Abs
set_option maxRecDepth 8000
open Go.Proofs
def eA (i:Im):List D:= [.int .i64 i.s.id, .int .i64 i.s.kind, .slice .shared 1 (i.s.labels.map encStr), .str i.s.name, .str i.s.proc,
 .int .i64 i.s.x.op, .int .i64 i.s.x.n, .str i.s.x.name, .slice .shared 4 (i.s.x.kids.map bA), .bool i.s.has, .slice .shared 6 (i.s.args.map dz), .slice .shared 13 (i.s.aV.map aH), .slice .shared 13 (i.s.aN.map aH), .int .i64 i.proc, .int .i64 i.up, .int .i64 i.next, .int .i64 i.loop]
def kH (n:Int):List D:= [.int .i64 n]
theorem Mt (i:Im):D.bg 0 0 (eA i)=true:=by simp[eA,D.bg,D.ok,Tag.ok,dd,Um,Fl,gR]
theorem Ft (l:List Im):D.fu 0 0 (l.map eA)=true:=gl Mt l
theorem Us (n m:Nat) (l:List Im):D.iI n m (l.map eA)=l.map eA:=ll Mt n m l
theorem abz (n m:Nat) (i:Im):D.eI n m (eA i)=eA i:=fU n m _ (Mt i)
theorem abA (x:Im):(eA x).length=17:=nd rfl
theorem V0 (x:Im):List.take 17 (eA x)=eA x:=nd rfl
theorem YD (x:Im):List.drop 17 (eA x) = []:=nd rfl
theorem YE (x:Im):List.take 13 (eA x)=aH x.s:=by simp only[eA,bU];rfl
theorem Sf (x:Im):(eA x)[0]? = some (.int .i64 x.s.id):=nd rfl
theorem Sg (x:Im):(eA x)[1]? = some (.int .i64 x.s.kind):=nd rfl
theorem Si (x:Im):(eA x)[4]? = some (.str x.s.proc):=nd rfl
theorem OR (x:Im):(eA x)[13]? = some (.int .i64 x.proc):=nd rfl
theorem OS (x:Im):(eA x)[14]? = some (.int .i64 x.up):=nd rfl
theorem OT (x:Im):(eA x)[15]? = some (.int .i64 x.next):=nd rfl
theorem OU (x:Im):(eA x)[16]? = some (.int .i64 x.loop):=nd rfl
theorem Mu (s:Sm) (a b c d:Int):eA ⟨s,a,b,c,d⟩ = [.int .i64 s.id, .int .i64 s.kind, .slice .shared 1 (s.labels.map encStr), .str s.name, .str s.proc,
 .int .i64 s.x.op, .int .i64 s.x.n, .str s.x.name, .slice .shared 4 (s.x.kids.map bA), .bool s.has, .slice .shared 6 (s.args.map dz), .slice .shared 13 (s.aV.map aH), .slice .shared 13 (s.aN.map aH), .int .i64 a, .int .i64 b, .int .i64 c, .int .i64 d]:=nd rfl
theorem Ut (n:Int):D.bg 0 0 (kH n)=true:=rfl
theorem yu (l:List Int):D.fu 0 0 (l.map kH)=true:=gl Ut l
theorem OV (n m:Nat) (l:List Int):D.iI n m (l.map kH)=l.map kH:=ll Ut n m l
attribute [go_sem] Us abz abA V0 YD YE Sf Sg Si OR OS OT OU OV kH
theorem YF : ∀ n,n<1000000000→∀ v:Sm,v.size≤n→ay Tryz.prog 161 [.agg (aH v)] S0 (.int .i64 (v.fH:Int)) S0:=by
 intro n
 induction n with
 |zero=>intro _ v h;obtain⟨_,_,_,_,_,_,_,_,_,_⟩:=v;simp only[Sm.size]at h;omega
 |succ n ih=>
 intro hn v hv
 have cV:Sm.aM v.aV≤n∧Sm.aM v.aN≤n∧v.fH=1+Sm.dm v.aV+Sm.dm v.aN:=by
  obtain⟨_,_,_,_,_,_,_,_,_,_⟩:=v
  simp only[Sm.size]at hv;exact⟨by dsimp only;omega,by dsimp only;omega,rfl⟩
 obtain⟨h1,h2,h3⟩:=cV
 have c1:=jO v.aV
 have c2:=jO v.aN
 have l1:=Sm.cd v.aV
 have l2:=Sm.cd v.aN
 have hk : ∀ y,y∈v.aV∨y∈v.aN→∀ s,ay Tryz.prog 161 [.agg (aH y)] s (.int .i64 (y.fH:Int)) s:=fun y hy s=>
  (ih (by omega) y (by rcases hy with hy|hy<;>(have:=Sm.bC hy;omega))).pure (by simp only[D.bg,D.ok,il];rfl) rfl s
 rw[h3]
 unfold S0
 refine ay.go E8.h rfl fun B Q hB hQ=>?_
 have⟨hF,hP,hZ,gA⟩:=bD
 repeat' (first
 |simp only[go_sem,hF,hP,hZ,gA]
 |(with_reducible refine az hQ ?_;exact aR))
 refine cr 1 0 (aY.ind (ι:=List Sm×Nat×Nat) (fun i=>v.aV.drop i.2.1=i.1∧i.2.2+Sm.dm i.1=1+Sm.dm v.aV) (fun i=>i.1.length)
  (fun i=> [(1, .ptr 0 0),(3, .int .i64 (i.2.2:Int)),(9, .slice .shared 13 (v.aV.map aH)),(10, .int .i64 (v.aV.length:Int)),(11, .int .i64 (i.2.1:Int))]) (fun i=>⟨[aH v],[]⟩) ?_ (v.aV,0,1) ⟨rfl,rfl⟩)
 rintro⟨rest,k,c⟩ ⟨g1,g2⟩ IH
 dsimp only at g1 g2
 cases rest with
 |cons y rest=>
  obtain⟨hP,g3,hF,g4⟩:=drop_cons g1
  have hy:=hk y (.inl (zac hP))
  simp only[Sm.dm]at g2
  have rX:=AB y
  have Ba:=Sm.bC (zac hP)
  have w1:IntKind.wrap .i64 ((k:Int)+1)=((k+1:Nat):Int):=by rw[cT]<;>omega
  have w2:IntKind.wrap .i64 ((c:Int)+(y.fH:Int))=((c+y.fH:Nat):Int):=by rw[cT]<;>omega
  repeat' (first
 |simp only[go_sem,hF,hP,hZ,gA,w1,w2]
 |(with_reducible refine CU (hy _) ?_)
 |(with_reducible refine az hQ ?_;exact aR))
  refine cr 1 0 (IH (rest,k+1,c+y.fH) ⟨g3,by dsimp only;omega⟩ (zaa _))
 |nil=>
  have hF:=drop_nil g1
  simp only[Sm.dm,za4]at g2
  subst g2
  repeat' (first
 |simp only[go_sem,hF,hP,hZ,gA]
 | (with_reducible refine az hQ ?_;exact aR))
  refine cr 1 0 (aY.ind (ι:=List Sm×Nat×Nat) (fun i=>v.aN.drop i.2.1=i.1∧i.2.2+Sm.dm i.1=1+Sm.dm v.aV+Sm.dm v.aN) (fun i=>i.1.length)
   (fun i=> [(1, .ptr 0 0),(3, .int .i64 (i.2.2:Int)),(21, .slice .shared 13 (v.aN.map aH)),(22, .int .i64 (v.aN.length:Int)),(23, .int .i64 (i.2.1:Int))]) (fun i=>⟨[aH v],[]⟩) ?_ (v.aN,0,1+Sm.dm v.aV) ⟨rfl,rfl⟩)
  rintro⟨rest,k,c⟩ ⟨g1,g2⟩ IH
  dsimp only at g1 g2
  cases rest with
  |cons y rest=>
   obtain⟨hP,g3,hF,g4⟩:=drop_cons g1
   have hy:=hk y (.inr (zac hP))
   simp only[Sm.dm]at g2
   have rX:=AB y
   have Ba:=Sm.bC (zac hP)
   have w1:IntKind.wrap .i64 ((k:Int)+1)=((k+1:Nat):Int):=by rw[cT]<;>omega
   have w2:IntKind.wrap .i64 ((c:Int)+(y.fH:Int))=((c+y.fH:Nat):Int):=by rw[cT]<;>omega
   repeat' (first
 |simp only[go_sem,hF,hP,hZ,gA,w1,w2]
 |(with_reducible refine CU (hy _) ?_)
 | (with_reducible refine az hQ ?_;exact aR))
   refine cr 1 0 (IH (rest,k+1,c+y.fH) ⟨g3,by dsimp only;omega⟩ (zaa _))
  |nil=>
   have hF:=drop_nil g1
   simp only[Sm.dm,za4]at g2
   subst g2
   repeat' (first
 |simp only[go_sem,hF,hP,hZ,gA]
 |(with_reducible refine az hQ ?_;exact aR))
theorem YG {v:Sm} (h:v.size<1000000000) (s:St):ay Tryz.prog 161 [.agg (aH v)] s (.int .i64 (v.fH:Int)) s:=
 (YF v.size h v (zag _)).pure (by simp only[D.bg,D.ok,il];rfl) rfl s
end Go.Abs
namespace Go.Abs
set_option maxRecDepth 8000
open Go.Proofs
abbrev gS (g ps:D) (L:List Im) (lo hi:List Int):List D:= [g,ps, .slice (.tok 0) 17 (L.map eA), .slice (.tok 1) 1 (lo.map kH), .slice (.tok 2) 1 (hi.map kH)]
abbrev Sj (proc up next loop:Int):List D:= [.int .i64 0, .int .i64 0, .slice .full 0 [], .str [], .str [], .int .i64 0, .int .i64 0, .str [], .slice .full 0 [], .bool false, .slice .full 0 [], .slice .full 0 [], .slice .full 0 [], .int .i64 proc, .int .i64 up, .int .i64 next, .int .i64 loop]
theorem ay.abB {P:Program} {f:Nat} {args:List D} {g ps:D} {L L':List Im} {lo hi DM gB:List Int} {a b c a' b' c':Option Nat}
 (h:ay P f (.ptr 0 0::args) ⟨[gS g ps L lo hi],[a,b,c]⟩ (.tuple []) ⟨[gS g ps L' DM gB],[a',b',c']⟩)
 (ha:D.bg 0 0 args=true) (hg:D.ok 0 0 g=true) (hp:D.ok 0 0 ps=true)
 {s:St} {o:Nat} (ho:s.av[o]? = some (gS g ps L lo hi)) (ht:s.aw = [a,b,c]):ay P f (.ptr o 0::args) s (.tuple []) ⟨s.av.set o (gS g ps L' DM gB),[a',b',c']⟩:=by
 have hr : ∀ (L:List Im) (lo hi:List Int),D.ct [o] [0,1,2] (gS g ps L lo hi)=gS g ps L lo hi:=fun L lo hi=>by
  simp[D.ct,D.bw,Tag.bw,qj _ _ _ hg,qj _ _ _ hp,ic _ _ _ (Ft L),ic _ _ _ (yu lo),ic _ _ _ (yu hi)]
 have hk : ∀ (L:List Im) (lo hi:List Int),D.bg 1 3 (gS g ps L lo hi)=true:=fun L lo hi=>by
  simp[D.bg,D.ok,Tag.ok,CX (zar 1) (zar 3) _ hg,CX (zar 1) (zar 3) _ hp,kV (zar 1) (zar 3) _ (Ft L),kV (zar 1) (zar 3) _ (yu lo),kV (zar 1) (zar 3) _ (yu hi)]
 refine dt.frame [o] [0,1,2] h (by simp) (by decide) (by simpa using (zae.1 ho).1) (by rw[ht];simp) rfl (fun i o' ds e1 e2=>?_) rfl (fun i t' e1=>?_)
  (by simp[D.ct,D.bw,dV _ _ _ ha])
  (by simp[D.bg,D.ok,gp (zar 1) (zar 3) _ ha]) ?_
 ·cases i with
  |zero=>simp only[zaK,Option.some.injEq]at e1 e2;subst e1;subst e2;exact⟨by rw[hr];exact ho,hk L lo hi⟩
  |succ i=>simp at e1
 ·rw [ht]
  match i,e1 with
  | 0,e1=>simp at e1;subst e1;rfl
  | 1,e1=>simp at e1;subst e1;rfl
  | 2,e1=>simp at e1;subst e1;rfl
  |i+3,e1=>simp at e1
 ·rintro _ _ ⟨rfl,rfl⟩
  refine⟨by simp[D.back,D.bw,D.ct], ?_⟩
  have:=hr L' DM gB
  simp[St.back,iS,gM,this,ht]
abbrev Uu (N:Nat):Prop:=∀ (l:List Sm) (proc up next loop:Int) (out:List Im) (g ps:D) (lo hi:List Int) (b c:Option Nat),Sm.aM l<N→out.length+Sm.dm l<1000000000→D.ok 0 0 g=true→D.ok 0 0 ps=true→
 ∀ {s:St} {o:Nat},s.av[o]? = some (gS g ps out lo hi)→s.aw = [some out.length,b,c]→
 ay Tryz.prog 117 [.ptr o 0, .slice .shared 13 (l.map aH), .agg (Sj proc up next loop)] s (.tuple []) ⟨s.av.set o (gS g ps (Im.rows proc up next loop out l) lo hi),[some (Im.rows proc up next loop out l).length,b,c]⟩
theorem abC {N:Nat} (ih:Uu N) {l:List Sm} {proc up next loop:Int} {out:List Im} {g ps:D} {lo hi:List Int} {b c:Option Nat} (hs:Sm.aM l<N+1) (hc:out.length+Sm.dm l<1000000000) (hg:D.ok 0 0 g=true) (hp:D.ok 0 0 ps=true) (hN:N<1000000000) :
 ay Tryz.prog 117 [.ptr 0 0, .slice .shared 13 (l.map aH), .agg (Sj proc up next loop)] ⟨[gS g ps out lo hi],[some out.length,b,c]⟩ (.tuple []) ⟨[gS g ps (Im.rows proc up next loop out l) lo hi],[some (Im.rows proc up next loop out l).length,b,c]⟩:=by
 obtain⟨R,hR⟩ : ∃ R,R=Im.rows proc up next loop out l:=⟨_,rfl⟩
 have hlR:R.length=out.length+Sm.dm l:=by rw[hR,fZ]
 rw[← hR]
 have k1 : ∀ n m,D.fg n m g=g:=fun n m=>Bo n m _ hg
 have k2 : ∀ n m,D.fg n m ps=ps:=fun n m=>Bo n m _ hp
 refine ay.go yo.h rfl fun B Q hB hQ=>?_
 have⟨hF,hP,hZ,gA⟩:=bD
 repeat' (first
 |simp only[go_sem,hF,hP,hZ,gA,k1,k2]
 |(with_reducible first|refine bj fun hc=>?_|refine bk fun hc=>?_|refine bl (fun hc=>?_) fun hc=>?_)<;>(try simp only[hc,bs,↓reduceIte]at h)<;>try simp only[hc]
 |(with_reducible refine az hQ ?_;simp only[bt,bx,bY,bZ,go_sem,hF,hP,hZ,gA,k1,k2];try exact cB))
 refine cD 2 3 ?_ ?_ (aY.ind (ι:=List Sm×Nat×List Im) (fun i=>l.drop i.2.1=i.1∧Im.rows proc up next loop i.2.2 i.1=R∧i.2.2.length+Sm.dm i.1=out.length+Sm.dm l) (fun i=>i.1.length)
  (fun i=> [(0, .ptr 0 0),(1, .slice .shared 13 (l.map aH)),(5, .ptr 1 0),(11, .slice .shared 13 (l.map aH)),(12, .int .i64 (l.length:Int)),(13, .int .i64 (i.2.1:Int))]) (fun i=>⟨[gS g ps i.2.2 lo hi,Sj proc up next loop],[some i.2.2.length,b,c]⟩) ?_ (l,0,out) ⟨rfl,hR.symm,rfl⟩)
 ·(simp only[go_sem,hF,hP,hZ,gA,k1,k2];try exact bd)
 ·(simp only[go_sem,hF,hP,hZ,gA,k1,k2];try exact bd)
 rintro⟨rest,k,bV⟩ ⟨h1,h2,h3⟩ IH
 dsimp only at h1 h2 h3
 have hlen:l.length<1000000000:=by have:=Sm.cd l;omega
 cases rest with
 |nil=>
  have hF:=drop_nil h1
  simp only[Im.rows]at h2
  subst h2
  repeat' (first
 |simp only[go_sem,hF,hP,hZ,gA,k1,k2]
 |(with_reducible first|refine bj fun hc=>?_|refine bk fun hc=>?_|refine bl (fun hc=>?_) fun hc=>?_)<;>(try simp only[hc,bs,↓reduceIte]at h)<;>try simp only[hc]
 |(with_reducible refine az hQ ?_;simp only[bt,bx,bY,bZ,go_sem,hF,hP,hZ,gA,k1,k2];try exact cB))
 | cons v rest=>
  obtain⟨hP,g2,hF,g4⟩:=drop_cons h1
  have bH:k<4611686018427387904:=by omega
  have hv:=Sm.bC (zac hP)
  have mZ:Sm.aM v.aV<N∧Sm.aM v.aN<N∧v.fH=1+Sm.dm v.aV+Sm.dm v.aN:=by
   obtain⟨_,_,_,_,_,_,_,_,_,_⟩:=v
   simp only[Sm.size]at hv
   exact⟨by dsimp only;omega,by dsimp only;omega,rfl⟩
  obtain⟨Bg,F6,hv3⟩:=mZ
  simp only[Sm.dm]at h3
  simp only[Im.rows,Im.Yo]at h2
  have hZ:(bV.length+1)*241≤aT:=by unfold aT;omega
  have Jq:IntKind.wrap .i64 ((bV.length:Int)+1)=(bV.length:Int)+1:=cT (by omega) (by omega)
  have tT:IntKind.wrap .i64 ((k:Int)+1)=((k+1:Nat):Int):=by rw[cT]<;>omega
  have Uv:IntKind.wrap .i64 ((bV.length:Int)+1+(v.fH:Int))=(bV.length:Int)+1+(v.fH:Int):=cT (by omega) (by omega)
  have cV:=fun s=>YG (v:=v) (by omega) s
  simp only[bU]at cV
  have Ja:rest.length=l.length - (k+1):=by rw[← g2,zbh]
  by_cases ahL:k+1<l.length
  ·have d1:decide (((k+1:Nat):Int)<(l.length:Int))=true:=by simp;omega
   have e1:(rest.length=0)=False:=by simp;intro h;rw[h]at Ja;simp at Ja;omega
   by_cases OW:v.kind=6
   ·have d2:(v.kind==6)=true:=by simp [OW]
    simp only[e1,d2,↓reduceIte,zab]at h2
    have f1:=fun {s:St} {o:Nat}=>@ih v.aV proc ((bV.length:Int)+1) ((bV.length:Int)+1) ((bV.length:Int)+1) (bV++ [⟨v,proc,up,((bV.length:Int)+1+(v.fH:Int)),loop⟩]) g ps lo hi b c Bg (by simp;omega) hg hp s o
    have f2:=fun {s:St} {o:Nat}=>@ih v.aN proc ((bV.length:Int)+1) ((bV.length:Int)+1) ((bV.length:Int)+1) _ g ps lo hi b c F6 (by rw[fZ proc ((bV.length:Int)+1) ((bV.length:Int)+1) ((bV.length:Int)+1) (bV++ [⟨v,proc,up,((bV.length:Int)+1+(v.fH:Int)),loop⟩]) v.aV];simp;omega) hg hp s o
    have hl:(Im.rows proc ((bV.length:Int)+1) ((bV.length:Int)+1) ((bV.length:Int)+1) (Im.rows proc ((bV.length:Int)+1) ((bV.length:Int)+1) ((bV.length:Int)+1) (bV++ [⟨v,proc,up,((bV.length:Int)+1+(v.fH:Int)),loop⟩]) v.aV) v.aN).length=bV.length+v.fH:=by rw[fZ,fZ];simp;omega
    simp only[gS,zah,zaf,zaj,Mu,zai,zal,zaE]at f1
    repeat' (first
 |simp only[go_sem,hF,hP,hZ,gA,k1,k2,Jq,tT,Uv,d1,d2,bU]
 |(with_reducible refine CU (cV _) ?_)
 |(with_reducible refine CU (f1 (by with_unfolding_all rfl) (by with_unfolding_all rfl)) ?_)
 |(with_reducible refine CU (f2 (by with_unfolding_all rfl) (by with_unfolding_all rfl)) ?_)
 | (with_reducible refine az hQ ?_;exact aR))
    refine cD 2 3 ?_ ?_ (IH (rest,k+1,_) ⟨g2,h2,by dsimp only;rw[hl];omega⟩ (zaa _))
    ·(simp only[go_sem,hF,hP,hZ,gA,tT,k1,k2];try exact bd)
    ·(simp only[go_sem,hF,hP,hZ,gA,tT,k1,k2];try exact bd)
   ·have d2:(v.kind==6)=false:=by simp [OW]
    simp only[e1,d2,↓reduceIte,zab]at h2
    have f1:=fun {s:St} {o:Nat}=>@ih v.aV proc ((bV.length:Int)+1) ((bV.length:Int)+1+(v.fH:Int)) loop (bV++ [⟨v,proc,up,((bV.length:Int)+1+(v.fH:Int)),loop⟩]) g ps lo hi b c Bg (by simp;omega) hg hp s o
    have f2:=fun {s:St} {o:Nat}=>@ih v.aN proc ((bV.length:Int)+1) ((bV.length:Int)+1+(v.fH:Int)) loop _ g ps lo hi b c F6 (by rw[fZ proc ((bV.length:Int)+1) ((bV.length:Int)+1+(v.fH:Int)) loop (bV++ [⟨v,proc,up,((bV.length:Int)+1+(v.fH:Int)),loop⟩]) v.aV];simp;omega) hg hp s o
    have hl:(Im.rows proc ((bV.length:Int)+1) ((bV.length:Int)+1+(v.fH:Int)) loop (Im.rows proc ((bV.length:Int)+1) ((bV.length:Int)+1+(v.fH:Int)) loop (bV++ [⟨v,proc,up,((bV.length:Int)+1+(v.fH:Int)),loop⟩]) v.aV) v.aN).length=bV.length+v.fH:=by rw[fZ,fZ];simp;omega
    simp only[gS,zah,zaf,zaj,Mu,zai,zal,zaE]at f1
    repeat' (first
 |simp only[go_sem,hF,hP,hZ,gA,k1,k2,Jq,tT,Uv,d1,d2,bU]
 |(with_reducible refine CU (cV _) ?_)
 |(with_reducible refine CU (f1 (by with_unfolding_all rfl) (by with_unfolding_all rfl)) ?_)
 |(with_reducible refine CU (f2 (by with_unfolding_all rfl) (by with_unfolding_all rfl)) ?_)
 | (with_reducible refine az hQ ?_;exact aR))
    refine cD 2 3 ?_ ?_ (IH (rest,k+1,_) ⟨g2,h2,by dsimp only;rw[hl];omega⟩ (zaa _))
    ·(simp only[go_sem,hF,hP,hZ,gA,tT,k1,k2];try exact bd)
    ·(simp only[go_sem,hF,hP,hZ,gA,tT,k1,k2];try exact bd)
  ·have d1:decide (((k+1:Nat):Int)<(l.length:Int))=false:=by simp;omega
   have e1:(rest.length=0)=True:=by simp only[eq_iff_iff,iff_true];omega
   by_cases OW:v.kind=6
   ·have d2:(v.kind==6)=true:=by simp [OW]
    simp only[e1,d2,↓reduceIte,zab]at h2
    have f1:=fun {s:St} {o:Nat}=>@ih v.aV proc ((bV.length:Int)+1) ((bV.length:Int)+1) ((bV.length:Int)+1) (bV++ [⟨v,proc,up,next,loop⟩]) g ps lo hi b c Bg (by simp;omega) hg hp s o
    have f2:=fun {s:St} {o:Nat}=>@ih v.aN proc ((bV.length:Int)+1) ((bV.length:Int)+1) ((bV.length:Int)+1) _ g ps lo hi b c F6 (by rw[fZ proc ((bV.length:Int)+1) ((bV.length:Int)+1) ((bV.length:Int)+1) (bV++ [⟨v,proc,up,next,loop⟩]) v.aV];simp;omega) hg hp s o
    have hl:(Im.rows proc ((bV.length:Int)+1) ((bV.length:Int)+1) ((bV.length:Int)+1) (Im.rows proc ((bV.length:Int)+1) ((bV.length:Int)+1) ((bV.length:Int)+1) (bV++ [⟨v,proc,up,next,loop⟩]) v.aV) v.aN).length=bV.length+v.fH:=by rw[fZ,fZ];simp;omega
    simp only[gS,zah,zaf,zaj,Mu,zai,zal,zaE]at f1
    repeat' (first
 |simp only[go_sem,hF,hP,hZ,gA,k1,k2,Jq,tT,Uv,d1,d2,bU]
 |(with_reducible refine CU (cV _) ?_)
 |(with_reducible refine CU (f1 (by with_unfolding_all rfl) (by with_unfolding_all rfl)) ?_)
 |(with_reducible refine CU (f2 (by with_unfolding_all rfl) (by with_unfolding_all rfl)) ?_)
 | (with_reducible refine az hQ ?_;exact aR))
    refine cD 2 3 ?_ ?_ (IH (rest,k+1,_) ⟨g2,h2,by dsimp only;rw[hl];omega⟩ (zaa _))
    ·(simp only[go_sem,hF,hP,hZ,gA,tT,k1,k2];try exact bd)
    ·(simp only[go_sem,hF,hP,hZ,gA,tT,k1,k2];try exact bd)
   ·have d2:(v.kind==6)=false:=by simp [OW]
    simp only[e1,d2,↓reduceIte,zab]at h2
    have f1:=fun {s:St} {o:Nat}=>@ih v.aV proc ((bV.length:Int)+1) next loop (bV++ [⟨v,proc,up,next,loop⟩]) g ps lo hi b c Bg (by simp;omega) hg hp s o
    have f2:=fun {s:St} {o:Nat}=>@ih v.aN proc ((bV.length:Int)+1) next loop _ g ps lo hi b c F6 (by rw[fZ proc ((bV.length:Int)+1) next loop (bV++ [⟨v,proc,up,next,loop⟩]) v.aV];simp;omega) hg hp s o
    have hl:(Im.rows proc ((bV.length:Int)+1) next loop (Im.rows proc ((bV.length:Int)+1) next loop (bV++ [⟨v,proc,up,next,loop⟩]) v.aV) v.aN).length=bV.length+v.fH:=by rw[fZ,fZ];simp;omega
    simp only[gS,zah,zaf,zaj,Mu,zai,zal,zaE]at f1
    repeat' (first
 |simp only[go_sem,hF,hP,hZ,gA,k1,k2,Jq,tT,Uv,d1,d2,bU]
 |(with_reducible refine CU (cV _) ?_)
 |(with_reducible refine CU (f1 (by with_unfolding_all rfl) (by with_unfolding_all rfl)) ?_)
 |(with_reducible refine CU (f2 (by with_unfolding_all rfl) (by with_unfolding_all rfl)) ?_)
 | (with_reducible refine az hQ ?_;exact aR))
    refine cD 2 3 ?_ ?_ (IH (rest,k+1,_) ⟨g2,h2,by dsimp only;rw[hl];omega⟩ (zaa _))
    ·(simp only[go_sem,hF,hP,hZ,gA,tT,k1,k2];try exact bd)
    ·(simp only[go_sem,hF,hP,hZ,gA,tT,k1,k2];try exact bd)
theorem V1 : ∀ N,N<1000000000→Uu N:=by
 intro N
 induction N with
 |zero=>exact fun _ l proc up next loop out g ps lo hi b c h=>absurd h (zaG _)
 |succ N ih=>
  intro h l proc up next loop out g ps lo hi b c hs hc hg hp s o ho ht
  exact(abC (ih (by omega)) hs hc hg hp (by omega)).abB (by simp[D.bg,D.ok,Tag.ok,gR,D.fu]) hg hp ho ht
def gK (p:Pg):List D:= [.slice .shared 1 (p.globals.map encStr), .slice .shared 5 (p.procs.map bn), .slice .shared 17 (p.eO.L.map eA), .slice .shared 1 (p.eO.lo.map kH), .slice .shared 1 (p.eO.hi.map kH)]
theorem qp (p:Pg):gK p = [.slice .shared 1 (p.globals.map encStr), .slice .shared 5 (p.procs.map bn), .slice .shared 17 (p.eO.L.map eA), .slice .shared 1 (p.eO.lo.map kH), .slice .shared 1 (p.eO.hi.map kH)]:=nd rfl
theorem wE (p:Pg):D.bg 0 0 (gK p)=true:=by simp[gK,D.bg,D.ok,Tag.ok,dd,sf,Ft,yu]
theorem OX (p:Pg):bf p = [.slice .shared 1 (p.globals.map encStr), .slice .shared 5 (p.procs.map bn)]:=nd rfl
theorem abD {p:Pg} (hs:Pc.aM p.procs<1000000000):ay Tryz.prog 60 [.agg (bf p)] S0 (.ptr 1 0) ⟨[bf p,gS (.slice .shared 1 (p.globals.map encStr)) (.slice .shared 5 (p.procs.map bn)) p.eO.L p.eO.lo p.eO.hi],[some p.eO.L.length,some p.eO.lo.length,some p.eO.hi.length]⟩:=by
 have hlen:p.procs.length<1000000000:=by have:=Pc.cd p.procs;omega
 obtain⟨R,hR⟩ : ∃ R,R=p.eO:=⟨_,rfl⟩
 have hR':=hR
 unfold Pg.eO at hR'
 unfold S0
 rw[OX, ← hR]
 refine ay.DX 2 3 (zar _) (zar _) G0.h rfl fun B Q hB hQ=>?_
 have⟨hF,hP,hZ,gA⟩:=bD
 repeat' (first
 |simp only[go_sem,hF,hP,hZ,gA,OX]
 |(with_reducible refine az hQ ?_;exact aR))
 refine aY.qk 1 2 17 rfl rfl ?_
 simp only[go_sem,hF,hP,hZ,gA]
 refine aY.qk 1 3 1 rfl rfl ?_
 simp only[go_sem,hF,hP,hZ,gA]
 refine aY.qk 1 4 1 rfl rfl ?_
 simp only[go_sem,hF,hP,hZ,gA]
 refine cD 2 3 ?_ ?_ (aY.ind (ι:=List Pc×Nat×Sh×Nat×Nat) (fun i=>p.procs.drop i.2.1=i.1∧Sh.go i.2.1 i.2.2.1 i.1=R∧i.2.2.1.L.length+Pc.aM i.1≤Pc.aM p.procs∧i.2.2.1.lo.length=i.2.1∧i.2.2.1.hi.length=i.2.1∧i.2.2.2.1=i.2.2.1.lo.length∧i.2.2.2.2=i.2.2.1.hi.length) (fun i=>i.1.length)
  (fun i=> [(1, .ptr 0 0),(3, .ptr 1 0),(10, .slice .shared 5 (p.procs.map bn)),(11, .int .i64 (p.procs.length:Int)),(12, .int .i64 (i.2.1:Int))]) (fun i=>⟨[[.slice .shared 1 (p.globals.map encStr), .slice .shared 5 (p.procs.map bn)],gS (.slice .shared 1 (p.globals.map encStr)) (.slice .shared 5 (p.procs.map bn)) i.2.2.1.L i.2.2.1.lo i.2.2.1.hi],[some i.2.2.1.L.length,some i.2.2.2.1,some i.2.2.2.2]⟩) ?_ (p.procs,0,⟨[],[],[]⟩,0,0) ⟨rfl,hR'.symm,by simp,rfl,rfl,rfl,rfl⟩)
 ·(simp only[go_sem,hF,hP,hZ,gA,gS];try exact bd)
 ·(simp only[go_sem,hF,hP,hZ,gA,gS];try exact bd)
 rintro⟨rest,k,h,n1,n2⟩ ⟨h1,h2,h3,h4,h5,h6,h7⟩ IH
 dsimp only at h1 h2 h3 h4 h5 h6 h7
 subst h6 h7
 cases rest with
 |nil=>
  have hF:=drop_nil h1
  simp only[Sh.go]at h2
  rw[← h2]at hQ
  repeat' (first
 |simp only[go_sem,hF,hP,hZ,gA,gS]
 |(with_reducible refine az hQ ?_;exact aR))
 |cons f rest=>
  obtain⟨hP,g2,hF,g4⟩:=drop_cons h1
  have bH:k<4611686018427387904:=by omega
  simp only[Pc.aM,Pc.size]at h3
  simp only[Sh.go]at h2
  have c1:=jO f.body
  have hZ:(h.lo.length+1)*9≤aT:=by unfold aT;omega
  have aev:(h.hi.length+1)*9≤aT:=by unfold aT;omega
  have Jq:IntKind.wrap .i64 ((h.L.length:Int)+1)=(h.L.length:Int)+1:=cT (by omega) (by omega)
  have hl:(Im.rows (k:Int) 0 (-1) 0 h.L f.body).length=h.L.length+Sm.dm f.body:=fZ ..
  have tT:IntKind.wrap .i64 (((Im.rows (k:Int) 0 (-1) 0 h.L f.body).length:Int)+1)=((Im.rows (k:Int) 0 (-1) 0 h.L f.body).length:Int)+1:=cT (by omega) (by omega)
  have hr:=fun {s:St} {o:Nat}=>@V1 (Sm.aM f.body+1) (by omega) f.body (k:Int) 0 (-1) 0 h.L (.slice .shared 1 (p.globals.map encStr)) (.slice .shared 5 (p.procs.map bn)) (h.lo++ [(h.L.length:Int)+1]) h.hi (some (h.lo.length+1)) (some h.hi.length) (zaa _) (by omega) (by simp[D.ok,Tag.ok,dd]) (by simp[D.ok,Tag.ok,sf]) s o
  simp only[gS,zah,zaf,zaj,kH]at hr
  repeat' (first
 |simp only[go_sem,hF,hP,hZ,gA,Jq,tT,aev,gS]
 |(with_reducible refine CU (hr (by with_unfolding_all rfl) (by with_unfolding_all rfl)) ?_)
 |(with_reducible refine az hQ ?_;exact aR))
  refine cD 2 3 ?_ ?_ (IH (rest,k+1,⟨Im.rows (k:Int) 0 (-1) 0 h.L f.body,h.lo++ [(h.L.length:Int)+1],h.hi++ [((Im.rows (k:Int) 0 (-1) 0 h.L f.body).length:Int)+1]⟩,_,_) ⟨g2,h2,by dsimp only;rw[hl];omega,by simp[h4],by simp[h5],by simp,by simp⟩ (zaa _))
  ·(simp only[go_sem,hF,hP,hZ,gA,gS,aC bH,zah,zaf,zaj,kH];try exact bd)
  ·(simp only[go_sem,hF,hP,hZ,gA,gS,aC bH,zah,zaf,zaj,kH];try exact bd)
theorem BH {p:Pg} (hs:Pc.aM p.procs<1000000000) (s:St):ay Tryz.prog 60 [.agg (bf p)] s (.dr (gK p) 0) s:=by
 refine ay.pure ?_ (by simp only[D.bg,D.ok,fm];rfl) (by simp only[D.ok,wE]) s
 have h:=(abD hs).xK (n:=0) (m:=0) rfl (zag _) (zar _) (zag _)
 simpa[D.eI,D.fg,Tag.fg,GQ,Un,Us,OV,St.cut,gK,S0]using h
def mD (x:aA) (k:Int):List aA→Int
 | []=> -1
 |s::l=>if x==s then k else mD x (k+1) l
def dg (l:List aA) (x:aA):Bool:=decide (mD x 0 l≥0)
def kX {α:Type} (b:α→Bool) (k:Int):List α→Int
 | []=> -1
 |s::l=>if b s then k else kX b (k+1) l
theorem Jr (x:aA) : ∀ (l:List aA) (k:Int),0≤k→(mD x k l≥0↔x∈l)
 | [],k,h=>by simp[mD]
 | s::l,k,h=>by
  by_cases e:x=s
  ·simp[mD,e];omega
  ·have e':(x==s)=false:=by simp [e]
   simp only[mD,e',zab,if_false,zan,e,false_or]
   exact Jr x l (k+1) (by omega)
theorem eD (l:List aA) (x:aA):dg l x=true↔x∈l:=by
 simp only[dg,decide_eq_true_eq];exact Jr x l 0 (zaY 0)
theorem Dk {α:Type} (b:α→Bool) : ∀ (l:List α) (k:Int),0≤k→(kX b k l≥0↔l.any b=true)
 | [],k,h=>by simp[kX]
 | s::l,k,h=>by
  by_cases e:b s=true
  ·simp[kX,e];omega
  ·have e':b s=false:=by simpa using e
   simp only[kX,e',zab,if_false,List.any_cons,zay,false_or]
   exact Dk b l (k+1) (by omega)
theorem Js {l:List aA} (hl:l.length<4611686018427387904) (x:aA) (s:St):ay Tryz.prog 58 [.slice .shared 1 (l.map encStr), .str x] s (.int .i64 (mD x 0 l)) s:=by
 refine ay.pure ?_ (by simp[D.bg,D.ok,Tag.ok,dd]) rfl s
 generalize h:mD x 0 l=p
 unfold S0
 refine ay.go ta.h rfl fun B Q hB hQ=>?_
 have⟨hF,hP,hZ,gA⟩:=bD
 repeat' (first
 |simp only[go_sem,hF,hP,hZ,gA]
 |(with_reducible first|refine bj fun hc=>?_|refine bk fun hc=>?_|refine bl (fun hc=>?_) fun hc=>?_)<;>(try simp only[hc,bs,↓reduceIte]at h)<;>try simp only[hc]
 |((with_reducible refine az hQ ?_);exact dv))
 refine cr 0 0 (aY.ind (ι:=List aA×Nat) (fun i=>l.drop i.2=i.1∧mD x (i.2:Int) i.1=p) (fun i=>i.1.length)
  (fun i=> [(0, .slice .shared 1 (l.map encStr)),(1, .str x),(7, .int .i64 (l.length:Int)),(8, .int .i64 (i.2:Int))]) (fun i=>⟨[],[]⟩) ?_ (l,0) ⟨rfl,h⟩)
 rintro⟨rest,k⟩ ⟨h1,h⟩ IH
 dsimp only at h1 h
 cases rest with
 |nil=>
  have hF:=drop_nil h1
  simp only[mD]at h
  repeat' (first
 |simp only[go_sem,hF,hP,hZ,gA]
 |(with_reducible first|refine bj fun hc=>?_|refine bk fun hc=>?_|refine bl (fun hc=>?_) fun hc=>?_)<;>(try simp only[hc,bs,↓reduceIte]at h)<;>try simp only[hc]
 |((with_reducible refine az hQ ?_);exact dv))
 |cons a rest=>
  obtain⟨hP,g2,hF,g4⟩:=drop_cons h1
  have bH:k<4611686018427387904:=by omega
  simp only[mD]at h
  repeat' (first
 |simp only[go_sem,hF,hP,hZ,gA]
 |(with_reducible first|refine bj fun hc=>?_|refine bk fun hc=>?_|refine bl (fun hc=>?_) fun hc=>?_)<;>(try simp only[hc,bs,↓reduceIte]at h)<;>try simp only[hc]
 |((with_reducible refine az hQ ?_);exact dv))
  refine cD 0 0 ?_ ?_ (IH (rest,k+1) ⟨g2,h⟩ (zaa _))
  ·(simp only[go_sem,hF,hP,hZ,gA,aC bH];try exact bd)
  ·(simp only[go_sem,hF,hP,hZ,gA,aC bH];try exact bd)
theorem pJ {l:List aA} (hl:l.length<4611686018427387904) (x:aA) (s:St):ay Tryz.prog 64 [.slice .shared 1 (l.map encStr), .str x] s (.bool (dg l x)) s:=by
 refine ay.pure ?_ (by simp[D.bg,D.ok,Tag.ok,dd]) rfl s
 have hi:=fun s=>Js hl x s
 unfold S0
 refine ay.go rG.h rfl fun B Q hB hQ=>?_
 have⟨hF,hP,hZ,gA⟩:=bD
 repeat' (first
 |simp only[go_sem,hF,hP,hZ,gA,dg]
 |(with_reducible refine CU (hi _) ?_)
 |(with_reducible first|refine bj fun hc=>?_|refine bk fun hc=>?_|refine bl (fun hc=>?_) fun hc=>?_)<;>(try simp only[hc,bs,↓reduceIte]at h)<;>try simp only[hc]
 |(with_reducible refine az hQ ?_;simp only[bt,bx,bY,bZ,go_sem,hF,hP,hZ,gA,dg];try exact cB))
theorem ay.Jt {P:Program} {f:Nat} {d d':D} {r:List D} {s s':St} {x:D} (h:ay P f (d'::r) s x s') (hw:Wk d d'):ay P f (d::r) s x s':=dt.wk (.cons hw (gw.refl r)) h
theorem iz {l:List aA} (hl:l.length<4611686018427387904) (x:aA) (g:Tag) (s:St):ay Tryz.prog 64 [.slice g 1 (l.map encStr), .str x] s (.bool (dg l x)) s:=
 (pJ hl x s).Jt (Wk.shared _ _ _)
theorem Ha (x:aA) (z:Nat) (g:Tag) (s:St):ay Tryz.prog 64 [.slice g z [], .str x] s (.bool false) s:=
 (pJ (l:= []) (by simp) x s).Jt (Wk.nil _ _ _)
theorem yv {l:List aA} (hl:l.length<4611686018427387904) {f:Nat} {row:List D} {b:aA→Bool} (rY:D.bg 0 0 row=true) (he:enters Tryz.prog f=true)
 (hb : ∀ x∈l,ay Tryz.prog f ([.str x]++ [.ptr 0 0]) ⟨[row],[]⟩ (.bool (b x)) ⟨[row],[]⟩) :
 ay Tryz.prog 118 [.slice .shared 1 (l.map encStr), .fL f [.ptr 0 0]] ⟨[row],[]⟩ (.int .i64 (kX b 0 l)) ⟨[row],[]⟩:=by
 generalize h:kX b 0 l=p
 have k1 : ∀ n m,D.eI n m row=row:=fun n m=>fU n m _ rY
 refine ay.go rj.h rfl fun B Q hB hQ=>?_
 have⟨hF,hP,hZ,gA⟩:=bD
 repeat' (first
 |simp only[go_sem,hF,hP,hZ,gA,k1]
 |(with_reducible first|refine bj fun hc=>?_|refine bk fun hc=>?_|refine bl (fun hc=>?_) fun hc=>?_)<;>(try simp only[hc,bs,↓reduceIte]at h)<;>try simp only[hc]
 |((with_reducible refine az hQ ?_);(try cases h);simp only[bt,bx,bY,bZ,go_sem,hF,hP,hZ,gA,k1];try exact cB))
 refine cD 1 0 ?_ ?_ (aY.ind (ι:=List aA×Nat) (fun i=>l.drop i.2=i.1∧kX b (i.2:Int) i.1=p) (fun i=>i.1.length)
  (fun i=> [(0, .slice .shared 1 (l.map encStr)),(1, .fL f [.ptr 0 0]),(7, .int .i64 (l.length:Int)),(8, .int .i64 (i.2:Int))]) (fun i=>⟨[row],[]⟩) ?_ (l,0) ⟨rfl,h⟩)
 ·(simp only[go_sem,hF,hP,hZ,gA,k1];try exact bd)
 ·(simp only[go_sem,hF,hP,hZ,gA,k1];try exact bd)
 rintro⟨rest,k⟩ ⟨h1,h⟩ IH
 dsimp only at h1 h
 cases rest with
 |nil=>
  have hF:=drop_nil h1
  simp only[kX]at h
  repeat' (first
 |simp only[go_sem,hF,hP,hZ,gA,k1]
 |(with_reducible first|refine bj fun hc=>?_|refine bk fun hc=>?_|refine bl (fun hc=>?_) fun hc=>?_)<;>(try simp only[hc,bs,↓reduceIte]at h)<;>try simp only[hc]
 |((with_reducible refine az hQ ?_);(try cases h);simp only[bt,bx,bY,bZ,go_sem,hF,hP,hZ,gA,k1];try exact cB))
 |cons a rest=>
  obtain⟨hP,g2,hF,g4⟩:=drop_cons h1
  have bH:k<4611686018427387904:=by omega
  have YH:=hb a (zac hP)
  simp only[kX]at h
  repeat' (first
 |simp only[go_sem,hF,hP,hZ,gA,k1]
 |(with_reducible refine CV.use (he) (YH) ?_)
 |(with_reducible first|refine bj fun hc=>?_|refine bk fun hc=>?_|refine bl (fun hc=>?_) fun hc=>?_)<;>(try simp only[hc,bs,↓reduceIte]at h)<;>try simp only[hc]
 |((with_reducible refine az hQ ?_);(try cases h);simp only[bt,bx,bY,bZ,go_sem,hF,hP,hZ,gA,k1];try exact cB))
  refine cD 1 0 ?_ ?_ (IH (rest,k+1) ⟨g2,h⟩ (zaa _))
  ·(simp only[go_sem,hF,hP,hZ,gA,k1,aC bH];try exact bd)
  ·(simp only[go_sem,hF,hP,hZ,gA,k1,aC bH];try exact bd)
theorem yw {P:Program} {g f:Nat} {row:List D} {rows:List (List D)} {z:Nat} {d:D} (h:ay P g [.slice .shared z rows, .fL f [.ptr 0 0]] ⟨[row],[]⟩ d ⟨[row],[]⟩) (rY:D.bg 0 0 row=true) (hw:D.fu 0 0 rows=true) (hd:D.ok 0 0 d=true) {s:St} {o:Nat} (ho:s.av[o]? = some row) :
 ay P g [.slice .shared z rows, .fL f [.ptr o 0]] s d s:=by
 refine dt.frame [o] [] h (by simp) zbq (by simpa using (zae.1 ho).1) (by simp) rfl (fun i o' ds e1 e2=>?_) rfl (by simp) (by simp[D.ct,D.bw,Tag.bw,ic _ _ _ hw])
  (by simp[D.bg,D.ok,Tag.ok,kV (zar 1) (zag 0) _ hw]) ?_
 ·cases i with
  |zero=>simp at e1 e2;subst e1;subst e2;exact⟨by rw[dV _ _ _ rY];exact ho,gp (zar 1) (zag 0) _ rY⟩
  |succ i=>simp at e1
 ·rintro _ _ ⟨rfl,rfl⟩
  refine⟨qj _ _ _ hd, ?_⟩
  have:s.av.set o row=s.av:=by
   apply List.ext_getElem?
   intro i
   rw[zaM]
   split
   ·rename_i e;subst e;rw [ho];split
    ·rfl
    ·rename_i hh;exact absurd (zae.1 ho).1 hh
   ·rfl
  simp[St.back,iS,dV _ _ _ rY,this]
theorem vH {l:List aA} (hl:l.length<4611686018427387904) {f:Nat} {row:List D} {b:aA→Bool} (rY:D.bg 0 0 row=true) (he:enters Tryz.prog f=true)
 (hb : ∀ x∈l,ay Tryz.prog f ([.str x]++ [.ptr 0 0]) ⟨[row],[]⟩ (.bool (b x)) ⟨[row],[]⟩) :
 ay Tryz.prog 62 [.slice .shared 1 (l.map encStr), .fL f [.ptr 0 0]] ⟨[row],[]⟩ (.bool (l.any b)) ⟨[row],[]⟩:=by
 have k1 : ∀ n m,D.eI n m row=row:=fun n m=>fU n m _ rY
 have hi:=yv hl rY he hb
 have e:decide (kX b 0 l≥0)=l.any b:=by
  have:=Dk b l 0 (zaY 0)
  cases hh:l.any b<;>simp_all
 refine ay.go pF.h rfl fun B Q hB hQ=>?_
 have⟨hF,hP,hZ,gA⟩:=bD
 repeat' (first
 |simp only[go_sem,hF,hP,hZ,gA,k1,e]
 |(with_reducible refine CU (hi) ?_)
 |(with_reducible first|refine bj fun hc=>?_|refine bk fun hc=>?_|refine bl (fun hc=>?_) fun hc=>?_)<;>(try simp only[hc,bs,↓reduceIte]at h)<;>try simp only[hc]
 |(with_reducible refine az hQ ?_;simp only[bt,bx,bY,bZ,go_sem,hF,hP,hZ,gA,k1,e];try exact cB))
theorem vI {l:List aA} (hl:l.length<4611686018427387904) {f:Nat} {row:List D} {b:aA→Bool} (rY:D.bg 0 0 row=true) (he:enters Tryz.prog f=true)
 (hb : ∀ x∈l,ay Tryz.prog f ([.str x]++ [.ptr 0 0]) ⟨[row],[]⟩ (.bool (b x)) ⟨[row],[]⟩) {s:St} {o:Nat} (ho:s.av[o]? = some row) :
 ay Tryz.prog 62 [.slice .shared 1 (l.map encStr), .fL f [.ptr o 0]] s (.bool (l.any b)) s:=
 yw (vH hl rY he hb) rY (dd l) rfl ho
theorem sQ {l:List Pc} (hl:l.length<4611686018427387904) {f:Nat} {row:List D} {b:Pc→Bool} (rY:D.bg 0 0 row=true) (he:enters Tryz.prog f=true)
 (hb : ∀ x∈l,ay Tryz.prog f ([.agg (bn x)]++ [.ptr 0 0]) ⟨[row],[]⟩ (.bool (b x)) ⟨[row],[]⟩) :
 ay Tryz.prog 166 [.slice .shared 5 (l.map bn), .fL f [.ptr 0 0]] ⟨[row],[]⟩ (.int .i64 (kX b 0 l)) ⟨[row],[]⟩:=by
 generalize h:kX b 0 l=p
 have k1 : ∀ n m,D.eI n m row=row:=fun n m=>fU n m _ rY
 refine ay.go p7.h rfl fun B Q hB hQ=>?_
 have⟨hF,hP,hZ,gA⟩:=bD
 repeat' (first
 |simp only[go_sem,hF,hP,hZ,gA,k1]
 |(with_reducible first|refine bj fun hc=>?_|refine bk fun hc=>?_|refine bl (fun hc=>?_) fun hc=>?_)<;>(try simp only[hc,bs,↓reduceIte]at h)<;>try simp only[hc]
 |((with_reducible refine az hQ ?_);(try cases h);simp only[bt,bx,bY,bZ,go_sem,hF,hP,hZ,gA,k1];try exact cB))
 refine cD 1 0 ?_ ?_ (aY.ind (ι:=List Pc×Nat) (fun i=>l.drop i.2=i.1∧kX b (i.2:Int) i.1=p) (fun i=>i.1.length)
  (fun i=> [(0, .slice .shared 5 (l.map bn)),(1, .fL f [.ptr 0 0]),(7, .int .i64 (l.length:Int)),(8, .int .i64 (i.2:Int))]) (fun i=>⟨[row],[]⟩) ?_ (l,0) ⟨rfl,h⟩)
 ·(simp only[go_sem,hF,hP,hZ,gA,k1];try exact bd)
 ·(simp only[go_sem,hF,hP,hZ,gA,k1];try exact bd)
 rintro⟨rest,k⟩ ⟨h1,h⟩ IH
 dsimp only at h1 h
 cases rest with
 |nil=>
  have hF:=drop_nil h1
  simp only[kX]at h
  repeat' (first
 |simp only[go_sem,hF,hP,hZ,gA,k1]
 |(with_reducible first|refine bj fun hc=>?_|refine bk fun hc=>?_|refine bl (fun hc=>?_) fun hc=>?_)<;>(try simp only[hc,bs,↓reduceIte]at h)<;>try simp only[hc]
 |((with_reducible refine az hQ ?_);(try cases h);simp only[bt,bx,bY,bZ,go_sem,hF,hP,hZ,gA,k1];try exact cB))
 |cons a rest=>
  obtain⟨hP,g2,hF,g4⟩:=drop_cons h1
  have bH:k<4611686018427387904:=by omega
  have YH:=hb a (zac hP)
  simp only[kX]at h
  repeat' (first
 |simp only[go_sem,hF,hP,hZ,gA,k1]
 |(with_reducible refine CV.use (he) (YH) ?_)
 |(with_reducible first|refine bj fun hc=>?_|refine bk fun hc=>?_|refine bl (fun hc=>?_) fun hc=>?_)<;>(try simp only[hc,bs,↓reduceIte]at h)<;>try simp only[hc]
 |((with_reducible refine az hQ ?_);(try cases h);simp only[bt,bx,bY,bZ,go_sem,hF,hP,hZ,gA,k1];try exact cB))
  refine cD 1 0 ?_ ?_ (IH (rest,k+1) ⟨g2,h⟩ (zaa _))
  ·(simp only[go_sem,hF,hP,hZ,gA,k1,aC bH];try exact bd)
  ·(simp only[go_sem,hF,hP,hZ,gA,k1,aC bH];try exact bd)
theorem xG {l:List Pc} (hl:l.length<4611686018427387904) {f:Nat} {row:List D} {b:Pc→Bool} (rY:D.bg 0 0 row=true) (he:enters Tryz.prog f=true)
 (hb : ∀ x∈l,ay Tryz.prog f ([.agg (bn x)]++ [.ptr 0 0]) ⟨[row],[]⟩ (.bool (b x)) ⟨[row],[]⟩) :
 ay Tryz.prog 163 [.slice .shared 5 (l.map bn), .fL f [.ptr 0 0]] ⟨[row],[]⟩ (.bool (l.any b)) ⟨[row],[]⟩:=by
 have k1 : ∀ n m,D.eI n m row=row:=fun n m=>fU n m _ rY
 have hi:=sQ hl rY he hb
 have e:decide (kX b 0 l≥0)=l.any b:=by
  have:=Dk b l 0 (zaY 0)
  cases hh:l.any b<;>simp_all
 refine ay.go oM.h rfl fun B Q hB hQ=>?_
 have⟨hF,hP,hZ,gA⟩:=bD
 repeat' (first
 |simp only[go_sem,hF,hP,hZ,gA,k1,e]
 |(with_reducible refine CU (hi) ?_)
 |(with_reducible first|refine bj fun hc=>?_|refine bk fun hc=>?_|refine bl (fun hc=>?_) fun hc=>?_)<;>(try simp only[hc,bs,↓reduceIte]at h)<;>try simp only[hc]
 |(with_reducible refine az hQ ?_;simp only[bt,bx,bY,bZ,go_sem,hF,hP,hZ,gA,k1,e];try exact cB))
mutual
def Sm.pre:Sm→List Sm
 |⟨id,kind,labels,name,pc,x,has,args,aV,aN⟩=>⟨id,kind,labels,name,pc,x,has,args,aV,aN⟩::(Sm.cP aV++Sm.cP aN)
def Sm.cP:List Sm→List Sm
 | []=> []
 |s::l=>s.pre++Sm.cP l
end
def Pg.pre (p:Pg):List Sm:=(p.procs.map fun f=>Sm.cP f.body).flatten
theorem Sm.sR (s:Sm):s.pre=s::(Sm.cP s.aV++Sm.cP s.aN):=by cases s;simp only[Sm.pre]
mutual
theorem V2 (proc up next loop:Int) (out:List Im) : ∀ s:Sm,∃ e:List Im,Im.one proc up next loop out s=out++e∧e.map Im.s=s.pre
 |⟨id,kind,labels,name,pc,x,has,args,aV,aN⟩=>by
  simp only[Im.one,Sm.pre]
  obtain⟨e1,h1,k1⟩:=wF proc ((out.length:Int)+1) (if kind==6 then(out.length:Int)+1 else next) (if kind==6 then(out.length:Int)+1 else loop) (out++ [⟨⟨id,kind,labels,name,pc,x,has,args,aV,aN⟩,proc,up,next,loop⟩]) aV
  obtain⟨e2,h2,k2⟩:=wF proc ((out.length:Int)+1) (if kind==6 then(out.length:Int)+1 else next) (if kind==6 then(out.length:Int)+1 else loop) (Im.rows proc ((out.length:Int)+1) (if kind==6 then(out.length:Int)+1 else next) (if kind==6 then(out.length:Int)+1 else loop) (out++ [⟨⟨id,kind,labels,name,pc,x,has,args,aV,aN⟩,proc,up,next,loop⟩]) aV) aN
  refine⟨⟨⟨id,kind,labels,name,pc,x,has,args,aV,aN⟩,proc,up,next,loop⟩::(e1++e2), ?_, ?_⟩
  ·rw[h2,h1];simp
  ·simp[k1,k2]
theorem wF (proc up next loop:Int) (out:List Im) : ∀ l:List Sm,∃ e:List Im,Im.rows proc up next loop out l=out++e∧e.map Im.s=Sm.cP l
 | []=>⟨[],by simp[Im.rows],rfl⟩
 |s::l=>by
  simp only[Im.rows,Sm.cP]
  obtain⟨e1,h1,k1⟩:=V2 proc up (if l.length=0 then next else(out.length:Int)+1+(s.fH:Int)) loop out s
  obtain⟨e2,h2,k2⟩:=wF proc up next loop (Im.one proc up (if l.length=0 then next else(out.length:Int)+1+(s.fH:Int)) loop out s) l
  refine⟨e1++e2, ?_,by simp[k1,k2]⟩
  rw[h2,h1];simp
end
theorem OY : ∀ (l:List Pc) (n:Nat) (h:Sh),h.lo.length=n→h.hi.length=n→
 ∃ e lo hi,Sh.go n h l = ⟨h.L++e,h.lo++lo,h.hi++hi⟩∧e.map Im.s=(l.map fun f=>Sm.cP f.body).flatten∧lo.length=l.length∧hi.length=l.length∧
  ∀ (i:Nat) (f:Pc),l[i]? = some f→∃ a b e' I8:List Im,lo[i]? = some (((h.L++a).length:Int)+1)∧hi[i]? = some (((h.L++a++b).length:Int)+1)∧b.map Im.s=Sm.cP f.body∧e=a++b++e'
 | [],n,h,hl,hh=>⟨[],[],[],by simp[Sh.go],rfl,rfl,rfl,fun i f h=>by simp at h⟩
 | f::l,n,h,hl,hh=>by
  simp only[Sh.go]
  obtain⟨e1,h1,k1⟩:=wF (n:Int) 0 (-1) 0 h.L f.body
  obtain⟨e2,lo,hi,h2,k2,h3,h4,h5⟩:=OY l (n+1) ⟨Im.rows (n:Int) 0 (-1) 0 h.L f.body,h.lo++ [(h.L.length:Int)+1],h.hi++ [((Im.rows (n:Int) 0 (-1) 0 h.L f.body).length:Int)+1]⟩ (by simp[hl]) (by simp[hh])
  refine⟨e1++e2,((h.L.length:Int)+1)::lo,(((Im.rows (n:Int) 0 (-1) 0 h.L f.body).length:Int)+1)::hi, ?_,by simp[k1,k2],by simp[h3],by simp[h4],fun i g gB=>?_⟩
  ·rw[h2,h1];simp
  ·cases i with
   |zero=>
    simp only[zaK,Option.some.injEq]at gB
    subst gB
    exact⟨[],e1,e2,[],by simp,by rw[h1];simp,k1,by simp⟩
   |succ i=>
    simp only[zaW]at gB
    obtain⟨a,b,e',I8,g1,g2,g3,g4⟩:=h5 i g gB
    refine⟨e1++a,b,e',I8, ?_, ?_,g3,by rw[g4];simp⟩
    ·rw[zaW,g1,h1];simp
    ·rw[zaW,g2,h1];simp
theorem o5 (p:Pg):p.eO.L.map Im.s=p.pre∧∀ (i:Nat) (f:Pc),p.procs[i]? = some f→∃ a b e:List Im,p.eO.lo[i]? = some ((a.length:Int)+1)∧p.eO.hi[i]? = some (((a++b).length:Int)+1)∧b.map Im.s=Sm.cP f.body∧p.eO.L=a++b++e:=by
 obtain⟨e,lo,hi,h1,h2,h3,h4,h5⟩:=OY p.procs 0 ⟨[],[],[]⟩ rfl rfl
 unfold Pg.eO
 rw[h1]
 refine⟨by simpa[Pg.pre]using h2,fun i f hf=>?_⟩
 obtain⟨a,b,e',_,g1,g2,g3,g4⟩:=h5 i f hf
 exact⟨a,b,e',by simpa using g1,by simpa using g2,g3,by simpa using g4⟩
def Pg.at (p:Pg) (name:aA):Int:=kX (fun f:Pc=>f.name==name) 0 p.procs
theorem V3 (name:aA) (f:Pc):ay Tryz.prog 167 ([.agg (bn f)]++ [.ptr 0 0]) ⟨[[.str name]],[]⟩ (.bool (f.name==name)) ⟨[[.str name]],[]⟩:=by
 show ay Tryz.prog 167 [.agg (bn f), .ptr 0 0] _ _ _
 refine ay.go vr.h rfl fun B Q hB hQ=>?_
 have⟨hF,hP,hZ,gA⟩:=bD
 repeat' (first
 |simp only[go_sem,hF,hP,hZ,gA]
 |(with_reducible refine az hQ ?_;exact aR))
theorem OZ {p:Pg} (hs:p.procs.length<4611686018427387904) (name:aA) (s:St):ay Tryz.prog 125 [.dr (gK p) 0, .str name] s (.int .i64 (p.at name)) s:=by
 refine ay.pure ?_ (by simp[D.bg,D.ok,wE]) rfl s
 have hi:=fun {s:St} {o:Nat} (ho:s.av[o]? = some [.str name])=>yw (sQ (l:=p.procs) (f:=167) (row:= [.str name]) (b:=fun f:Pc=>f.name==name) hs rfl (by with_unfolding_all rfl) (fun x _=>V3 name x)) rfl (sf _) rfl ho
 have gB:=fun {s:St} {o:Nat} (ho:s.av[o]? = some [.str name])=>(show ay Tryz.prog 166 [.slice .shared 5 (p.procs.map bn), .fL 167 [.ptr o 0]] s (.int .i64 (p.at name)) s from hi ho)
 unfold S0
 rw[qp]
 refine ay.go xE.h rfl fun B Q hB hQ=>?_
 have⟨hF,hP,hZ,gA⟩:=bD
 repeat' (first
 |simp only[go_sem,hF,hP,hZ,gA]
 |(with_reducible refine CU (gB (by with_unfolding_all rfl)) ?_)
 |(with_reducible refine az hQ ?_;exact aR))
theorem O0 : ∀ (l:List Pc) (n:Nat) (h:Sh),(Sh.go n h l).L.length≤h.L.length+Pc.aM l
 | [],n,h=>by simp[Sh.go]
 |f::l,n,h=>by
  simp only[Sh.go]
  refine zbb (O0 l _ _) ?_
  have:=fZ (n:Int) 0 (-1) 0 h.L f.body
  have:=jO f.body
  simp only[Pc.aM,Pc.size];omega
theorem o6 (p:Pg):p.eO.L.length≤Pc.aM p.procs:=by have:=O0 p.procs 0 ⟨[],[],[]⟩;simpa[Pg.eO]using this
theorem YI {p:Pg} {i:Nat} (hs:Pc.aM p.procs<1000000000) {a b e:List Im} (h1:p.eO.lo[i]? = some ((a.length:Int)+1)) (h2:p.eO.hi[i]? = some (((a++b).length:Int)+1)) (h4:p.eO.L=a++b++e) (s:St) :
 ay Tryz.prog 65 [.dr (gK p) 0, .int .i64 (i:Int)] s (.slice .shared 17 (b.map eA)) s:=by
 refine ay.pure ?_ (by simp[D.bg,D.ok,wE]) (by simp[D.ok,Tag.ok,Ft]) s
 have hL:p.eO.L.length<1000000000:=Nat.lt_of_le_of_lt (o6 p) hs
 have l1:(i:Int)<(p.eO.lo.length:Int):=by have:=(zae.1 h1).1;omega
 have l2:(i:Int)<(p.eO.hi.length:Int):=by have:=(zae.1 h2).1;omega
 have Uw:a.length+b.length≤p.eO.L.length:=by rw[h4];simp
 have w1:IntKind.wrap .i64 ((a.length:Int)+1 - 1)=(a.length:Int):=by rw[show(a.length:Int)+1 - 1=(a.length:Int) by omega];exact cT (by omega) (by omega)
 have w2:IntKind.wrap .i64 (((a.length+b.length:Nat):Int)+1 - 1)=((a.length+b.length:Nat):Int):=by rw[show((a.length+b.length:Nat):Int)+1 - 1=((a.length+b.length:Nat):Int) by omega];exact cT (by omega) (by omega)
 have c1:((a.length:Int)≤((a.length+b.length:Nat):Int))=True:=by simp only[eq_iff_iff,iff_true];omega
 have c2:(((a.length+b.length:Nat):Int)≤(p.eO.L.length:Int))=True:=by simp only[eq_iff_iff,iff_true];omega
 have hb:List.drop a.length (List.take (a.length+b.length) (List.map eA p.eO.L))=List.map eA b:=by rw[h4];simp[zah,List.take_append,List.drop_append]
 unfold S0
 rw[qp]
 refine ay.go zF.h rfl fun B Q hB hQ=>?_
 have⟨hF,hP,hZ,gA⟩:=bD
 repeat' (first
 |simp only[go_sem,hF,hP,hZ,gA,h1,h2,zai,w1,w2,c1,c2,or_true,true_and,and_self,ite_self,Int.toNat_natCast,hb]
 |(with_reducible first|refine bj fun hc=>?_|refine bk fun hc=>?_|refine bl (fun hc=>?_) fun hc=>?_)<;>(try simp only[hc,bs,↓reduceIte]at h)<;>try simp only[hc]
 |((with_reducible refine az hQ ?_);(try cases h);simp only[bt,bx,bY,bZ,go_sem,hF,hP,hZ,gA,h1,h2,zai,w1,w2,c1,c2,or_true,true_and,and_self,ite_self,Int.toNat_natCast,hb];try exact cB)
 |(cases h;done))
theorem Sk {p:Pg} {i:Nat} {f:Pc} (hf:p.procs[i]? = some f) (hs:Pc.aM p.procs<1000000000) : ∃ it:List Im,it.map Im.s=Sm.cP f.body∧∀ s,ay Tryz.prog 65 [.dr (gK p) 0, .int .i64 (i:Int)] s (.slice .shared 17 (it.map eA)) s:=by
 obtain⟨a,b,e,h1,h2,h3,h4⟩:=(o5 p).2 i f hf
 exact⟨b,h3,YI hs h1 h2 h4⟩
theorem D0 {r:aA} : sg r=true↔kp r=r.length:=by
 induction r with
 |nil=>simp[sg,kp]
 |cons c r ih=>
  simp only[sg,kp]
  cases h1:pH c<;>cases h2:n3 c<;>simp[ih]
theorem vJ (t:aA) (hl:t.length<4611686018427387904) (s:St):ay Tryz.prog 28 [.str t] s (.bool (isName t)) s:=by
 refine ay.pure ?_ rfl rfl s
 have hr:=fun s=>Ur (pos:=0) hl s
 simp only[List.drop_zero,za6]at hr
 unfold S0
 cases t with
 |nil=>
  have z:decide (((0:Nat):Int)<1)=true:=rfl
  have z':decide ((0:Int)<1)=true:=rfl
  have e:isName [] = false:=rfl
  rw[e]
  refine ay.go kc.h rfl fun B Q hB hQ=>?_
  have⟨hF,hP,hZ,gA⟩:=bD
  repeat' (first
 |simp only[go_sem,hF,hP,hZ,gA,z,z']
 |(with_reducible refine az hQ ?_;exact aR))
 | cons c r=>
  have l1:decide (((r.length+1:Nat):Int)<1)=false:=by simp;omega
  generalize h:isName (c::r)=p
  simp only[isName]at h
  cases hL:pH c
  ·simp only [hL,zaB,Bool.or_true, ↓reduceIte]at h
   subst h
   by_cases c8:decide (((r.length+1:Nat):Int) > 8)=true
   ·refine ay.go kc.h rfl fun B Q hB hQ=> ?_
    have⟨hF,hP,hZ,gA⟩:=bD
    repeat' (first
 |simp only[go_sem,hF,hP,hZ,gA,l1,c8]
 | (with_reducible refine az hQ ?_;exact aR))
   ·have c8:decide (((r.length+1:Nat):Int) > 8)=false:=by simpa using c8
    refine ay.go kc.h rfl fun B Q hB hQ=>?_
    have⟨hF,hP,hZ,gA⟩:=bD
    repeat' (first
 |simp only[go_sem,hF,hP,hZ,gA,l1,c8,hL]
 |(with_reducible refine CU (gF _ _) ?_)
 | (with_reducible refine az hQ ?_;exact aR))
  ·simp only [hL,zax,Bool.or_false]at h
   by_cases c8:decide (((r.length+1:Nat):Int) > 8)=true
   ·simp only [c8, ↓reduceIte]at h
    subst h
    refine ay.go kc.h rfl fun B Q hB hQ=>?_
    have⟨hF,hP,hZ,gA⟩:=bD
    repeat' (first
 |simp only[go_sem,hF,hP,hZ,gA,l1,c8]
 | (with_reducible refine az hQ ?_;exact aR))
   ·have c8:decide (((r.length+1:Nat):Int) > 8)=false:=by simpa using c8
    simp only[c8,zab,↓reduceIte]at h
    have da:kp (c::r)=kp r+1:=by simp[kp,hL]
    cases hn:sg r
    ·simp only [hn,zab, ↓reduceIte]at h
     have:kp r≠r.length:=fun e=>by rw[D0.2 e]at hn;cases hn
     have e:(((kp (c::r):Nat):Int)==((r.length+1:Nat):Int))=false:=by rw[da];simp;omega
     subst h
     refine ay.go kc.h rfl fun B Q hB hQ=>?_
     have⟨hF,hP,hZ,gA⟩:=bD
     repeat' (first
 |simp only[go_sem,hF,hP,hZ,gA,l1,c8,hL,e]
 |(with_reducible refine CU (gF _ _) ?_)
 |(with_reducible refine CU (hr _) ?_)
 | (with_reducible refine az hQ ?_;exact aR))
    ·simp only [hn, ↓reduceIte]at h
     have:=D0.1 hn
     have e:(((kp (c::r):Nat):Int)==((r.length+1:Nat):Int))=true:=by rw[da];simp;omega
     subst h
     refine ay.go kc.h rfl fun B Q hB hQ=>?_
     have⟨hF,hP,hZ,gA⟩:=bD
     repeat' (first
 |simp only[go_sem,hF,hP,hZ,gA,l1,c8,hL,e]
 |(with_reducible refine CU (gF _ _) ?_)
 |(with_reducible refine CU (hr _) ?_)
 |(with_reducible refine CU (sP _ _) ?_)
 |(with_reducible refine az hQ ?_;exact aR))
theorem Ju (op:Int) (s:St):ay Tryz.prog 237 [.int .i64 op] s (.int .i64 (lr op)) s:=by
 refine ay.pure ?_ rfl rfl s
 unfold S0
 generalize h:lr op=p
 unfold lr at h
 refine ay.go E6.h rfl fun B Q hB hQ=>?_
 have⟨hF,hP,hZ,gA⟩:=bD
 repeat' (first
 |simp only[go_sem,hF,hP,hZ,gA]
 |(with_reducible first|refine bj fun hc=>?_|refine bk fun hc=>?_|refine bl (fun hc=>?_) fun hc=>?_)<;>(try simp only[hc,bs,↓reduceIte]at h)<;>try simp only[hc]
 |((with_reducible refine az hQ ?_);exact dv))
theorem wG {l:List aA} (hl:l.length<4611686018427387904) (hs : ∀ t∈l,t.length<4611686018427387904) (s:St):ay Tryz.prog 56 [.slice .shared 1 (l.map encStr)] s (.bool (cL l)) s:=by
 refine ay.pure ?_ (by simp[D.bg,D.ok,dd,Tag.ok]) rfl s
 unfold S0
 generalize h:cL l=p
 refine ay.go C4.h rfl fun B Q hB hQ=>?_
 have⟨hF,hP,hZ,gA⟩:=bD
 repeat' (first
 |simp only[go_sem,hF,hP,hZ,gA]
 |(with_reducible first|refine bj fun hc=>?_|refine bk fun hc=>?_|refine bl (fun hc=>?_) fun hc=>?_)<;>(try simp only[hc,bs,↓reduceIte]at h)<;>try simp only[hc]
 |((with_reducible refine az hQ ?_);exact dv))
 refine cr 0 0 (aY.ind (ι:=List aA×Nat) (fun i=>l.drop i.2=i.1∧cL i.1=p) (fun i=>i.1.length)
  (fun i=> [(5, .slice .shared 1 (l.map encStr)),(6, .int .i64 (l.length:Int)),(7, .int .i64 (i.2:Int))]) (fun i=>⟨[],[]⟩) ?_ (l,0) ⟨rfl,h⟩)
 rintro⟨rest,k⟩ ⟨h1,h⟩ IH
 dsimp only at h1 h
 cases rest with
 |nil=>
  have hF:=drop_nil h1
  simp only[cL]at h
  repeat' (first
 |simp only[go_sem,hF,hP,hZ,gA]
 |(with_reducible first|refine bj fun hc=>?_|refine bk fun hc=>?_|refine bl (fun hc=>?_) fun hc=>?_)<;>(try simp only[hc,bs,↓reduceIte]at h)<;>try simp only[hc]
 |((with_reducible refine az hQ ?_);exact dv))
 |cons t rest=>
  obtain⟨hP,g2,hF,g4⟩:=drop_cons h1
  have hZ:k<4611686018427387904:=by omega
  have hn:=vJ t (hs t (zac hP))
  simp only[cL]at h
  repeat' (first
 |simp only[go_sem,hF,hP,hZ,gA]
 |(with_reducible refine CU (hn _) ?_)
 |(with_reducible first|refine bj fun hc=>?_|refine bk fun hc=>?_|refine bl (fun hc=>?_) fun hc=>?_)<;>(try simp only[hc,bs,↓reduceIte]at h)<;>try simp only[hc]
 |((with_reducible refine az hQ ?_);exact dv))
  refine cr 0 0 (IH (rest,k+1) ⟨g2,h⟩ (zaa _))
mutual
def Ex.dp (left:Int):Ex→Bool
 |⟨op,n,name,kids⟩=>
  if decide (left<1) ||(kids.length:Int) != lr op then false
  else if op==1 then decide (n≥0) && name == []
  else if op==2 then n==0 && isName name
  else if n != 0 || !(name == [])then false
  else Ex.BI (left - 1) kids
def Ex.BI (left:Int):List Ex→Bool
 | []=>true
 |x::l=>if !(Ex.dp left x)then false else Ex.BI left l
end
theorem V4 : ∀ (m:Nat) (x:Ex),x.size≤m→x.size<4611686018427387904→x.texts→∀ left:Int,0≤left→left≤100→∀ s:St,ay Tryz.prog 219 [.agg (bA x), .int .i64 left] s (.bool (x.dp left)) s:=by
 intro m
 induction m with
 |zero=>rintro⟨op,v,name,kids⟩ h;simp only[Ex.size]at h;omega
 | succ m ih=>
  rintro⟨op,v,name,kids⟩ h hx ht left h0 ah7 s
  refine ay.pure ?_ (by simp[D.bg,D.ok,fK]) rfl s
  have hlen:kids.length<4611686018427387904:=by simp only[Ex.size]at hx;have:=Ex.cd kids;omega
  have hn:=vJ name ht.1
  generalize hp:Ex.dp left ⟨op,v,name,kids⟩=p
  simp only[Ex.dp]at hp
  unfold S0
  by_cases zZ:left<1
  ·have d1:decide (left<1)=true:=by simpa using zZ
   simp only[d1,za8,↓reduceIte]at hp
   subst hp
   refine ay.go xp.h rfl fun B Q hB hQ=>?_
   have⟨hF,hP,hZ,gA⟩:=bD
   repeat' (first
 |simp only[go_sem,hF,hP,hZ,gA,d1]
 |(with_reducible refine CU (Ju _ _) ?_)
 |(with_reducible refine CU (hn _) ?_)
 | (with_reducible refine az hQ ?_;exact aR))
  ·have d1:decide (left<1)=false:=by simpa using zZ
   have w1:IntKind.wrap .i64 (left - 1)=left - 1:=cT (by omega) (by omega)
   have hk : ∀ y∈kids,∀ s,ay Tryz.prog 219 [.agg (bA y), .int .i64 (left - 1)] s (.bool (y.dp (left - 1))) s:=fun y hy s=>
    ih y (by simp only[Ex.size]at h;have:=Ex.bC hy;omega) (by simp only[Ex.size]at hx;have:=Ex.bC hy;omega) (Ex.DY ht hy) (left - 1) (by omega) (by omega) s
   simp only[d1,za1]at hp
   have h:=hp
   clear hp
   refine ay.go xp.h rfl fun B Q hB hQ=>?_
   have⟨hF,hP,hZ,gA⟩:=bD
   repeat' (first
 |simp only[go_sem,hF,hP,hZ,gA,d1]
 |(with_reducible refine CU (Ju _ _) ?_)
 |(with_reducible refine CU (hn _) ?_)
 |(with_reducible first|refine bj fun hc=>?_|refine bk fun hc=>?_|refine bl (fun hc=>?_) fun hc=>?_)<;>(try simp only[hc,bs,↓reduceIte]at h)<;>try simp only[hc]
 | ((with_reducible refine az hQ ?_);(try cases h);simp only [bt,bx,bY,bZ,go_sem,hF,hP,hZ,gA,d1];repeat' (first | exact Ok.out | with_reducible refine dZ ?_ ?_ | (simp;done))))
   all_goals
    refine cr 1 0 (aY.ind (ι:=List Ex×Nat) (fun i=>kids.drop i.2=i.1∧Ex.BI (left - 1) i.1=p) (fun i=>i.1.length)
     (fun i=> [(1, .int .i64 left),(49, .slice .shared 4 (kids.map bA)),(50, .int .i64 (kids.length:Int)),(51, .int .i64 (i.2:Int))]) (fun i=>⟨[bA ⟨op,v,name,kids⟩],[]⟩) ?_ (kids,0) ⟨rfl,h⟩)
    rintro⟨rest,k⟩ ⟨h1,h⟩ IH
    dsimp only at h1 h
    cases rest with
    |nil=>
     have hF:=drop_nil h1
     simp only[Ex.BI]at h
     repeat' (first
 |simp only[go_sem,hF,hP,hZ,gA]
 |(with_reducible first|refine bj fun hc=>?_|refine bk fun hc=>?_|refine bl (fun hc=>?_) fun hc=>?_)<;>(try simp only[hc,bs,↓reduceIte]at h)<;>try simp only[hc]
 |((with_reducible refine az hQ ?_);exact dv)
 | (cases h;done))
    |cons y rest=>
     obtain⟨hP,g2,hF,g4⟩:=drop_cons h1
     have hy:=hk y (zac hP)
     have hZ:k<4611686018427387904:=by omega
     simp only[Ex.BI]at h
     repeat' (first
 |simp only[go_sem,hF,hP,hZ,gA,w1]
 |(with_reducible refine CU (hy _) ?_)
 |(with_reducible first|refine bj fun hc=>?_|refine bk fun hc=>?_|refine bl (fun hc=>?_) fun hc=>?_)<;>(try simp only[hc,bs,↓reduceIte]at h)<;>try simp only[hc]
 | ((with_reducible refine az hQ ?_);(try cases h);simp only [bt,bx,bY,bZ,go_sem,hF,hP,hZ,gA,w1];try exact cB))
     refine cr 1 0 (IH (rest,k+1) ⟨g2,h⟩ (zaa _))
theorem BJ {x:Ex} (hx:x.size<4611686018427387904) (ht:x.texts) (s:St):ay Tryz.prog 190 [.agg (bA x)] s (.bool (x.dp 20)) s:=by
 refine ay.pure ?_ (by simp[D.bg,D.ok,fK]) rfl s
 have hd:=fun s=>V4 _ x (zag _) hx ht 20 (by omega) (by omega) s
 unfold S0
 refine ay.go AH.h rfl fun B Q hB hQ=>?_
 have⟨hF,hP,hZ,gA⟩:=bD
 repeat' (first
 |simp only[go_sem,hF,hP,hZ,gA]
 |(with_reducible refine CU (hd _) ?_)
 |(with_reducible refine az hQ ?_;exact aR))
theorem V5 (x:Ex) (s:St):ay Tryz.prog 191 [.agg (bA x)] s (.bool x.none) s:=by
 refine ay.pure ?_ (by simp[D.bg,D.ok,fK]) rfl s
 unfold S0
 generalize h:Ex.none x=p
 unfold Ex.none at h
 refine ay.go E4.h rfl fun B Q hB hQ=>?_
 have⟨hF,hP,hZ,gA⟩:=bD
 repeat' (first
 |simp only[go_sem,hF,hP,hZ,gA]
 |(with_reducible first|refine bj fun hc=>?_|refine bk fun hc=>?_|refine bl (fun hc=>?_) fun hc=>?_)<;>(try simp only[hc,bs,↓reduceIte]at h)<;>try simp only[hc]
 |((with_reducible refine az hQ ?_);exact dv))
def pK (t:aA) (is:Bool):Bool:=(is && isName t) ||(!is && t == [])
theorem AL (t:aA) (is:Bool) (hl:t.length<4611686018427387904) (s:St):ay Tryz.prog 158 [.str t, .bool is] s (.bool (pK t is)) s:=by
 refine ay.pure ?_ rfl rfl s
 have hn:=vJ t hl
 unfold S0
 generalize h:pK t is=p
 unfold pK at h
 refine ay.go Df.h rfl fun B Q hB hQ=>?_
 have⟨hF,hP,hZ,gA⟩:=bD
 repeat' (first
 |simp only[go_sem,hF,hP,hZ,gA]
 |(with_reducible refine CU (hn _) ?_)
 |(with_reducible first|refine bj fun hc=>?_|refine bk fun hc=>?_|refine bl (fun hc=>?_) fun hc=>?_)<;>(try simp only[hc,bs,↓reduceIte]at h)<;>try simp only[hc]
 |((with_reducible refine az hQ ?_);exact dv))
def sS (x:Ex) (is:Bool):Bool:=(is && x.dp 20) ||(!is && x.none)
theorem Jv {x:Ex} (is:Bool) (hx:x.size<4611686018427387904) (ht:x.texts) (s:St):ay Tryz.prog 159 [.agg (bA x), .bool is] s (.bool (sS x is)) s:=by
 refine ay.pure ?_ (by simp[D.bg,D.ok,fK]) rfl s
 have hm:=BJ hx ht
 unfold S0
 generalize h:sS x is=p
 unfold sS at h
 refine ay.go Dg.h rfl fun B Q hB hQ=>?_
 have⟨hF,hP,hZ,gA⟩:=bD
 repeat' (first
 |simp only[go_sem,hF,hP,hZ,gA]
 |(with_reducible refine CU (hm _) ?_)
 |(with_reducible refine CU (V5 _ _) ?_)
 |(with_reducible first|refine bj fun hc=>?_|refine bk fun hc=>?_|refine bl (fun hc=>?_) fun hc=>?_)<;>(try simp only[hc,bs,↓reduceIte]at h)<;>try simp only[hc]
 |((with_reducible refine az hQ ?_);exact dv))
def nM:List Ar→Bool
 | []=>true
 |a::l=>if !(pK a.name a.ref) || !(sS a.x !a.ref)then false else nM l
theorem Sl {l:List Ar} (hl:l.length<4611686018427387904) (hs : ∀ a∈l,a.x.size<4611686018427387904∧a.x.texts∧a.name.length<4611686018427387904) (s:St) :
 ay Tryz.prog 160 [.slice .shared 6 (l.map dz)] s (.bool (nM l)) s:=by
 refine ay.pure ?_ (by simp[D.bg,D.ok,Fl,Tag.ok]) rfl s
 unfold S0
 generalize h:nM l=p
 refine ay.go BA.h rfl fun B Q hB hQ=>?_
 have⟨hF,hP,hZ,gA⟩:=bD
 repeat' (first
 |simp only[go_sem,hF,hP,hZ,gA]
 |(with_reducible first|refine bj fun hc=>?_|refine bk fun hc=>?_|refine bl (fun hc=>?_) fun hc=>?_)<;>(try simp only[hc,bs,↓reduceIte]at h)<;>try simp only[hc]
 |((with_reducible refine az hQ ?_);exact dv))
 refine cr 0 0 (aY.ind (ι:=List Ar×Nat) (fun i=>l.drop i.2=i.1∧nM i.1=p) (fun i=>i.1.length)
  (fun i=> [(5, .slice .shared 6 (l.map dz)),(6, .int .i64 (l.length:Int)),(7, .int .i64 (i.2:Int))]) (fun i=>⟨[],[]⟩) ?_ (l,0) ⟨rfl,h⟩)
 rintro⟨rest,k⟩ ⟨h1,h⟩ IH
 dsimp only at h1 h
 cases rest with
 |nil=>
  have hF:=drop_nil h1
  simp only[nM]at h
  repeat' (first
 |simp only[go_sem,hF,hP,hZ,gA]
 |(with_reducible first|refine bj fun hc=>?_|refine bk fun hc=>?_|refine bl (fun hc=>?_) fun hc=>?_)<;>(try simp only[hc,bs,↓reduceIte]at h)<;>try simp only[hc]
 |((with_reducible refine az hQ ?_);exact dv))
 |cons a rest=>
  obtain⟨hP,g2,hF,g4⟩:=drop_cons h1
  have hZ:k<4611686018427387904:=by omega
  obtain⟨a1,a2,a3⟩:=hs a (zac hP)
  have hn:=fun b s=>AL a.name b a3 s
  have hw:=fun b s=>Jv b a1 a2 s
  simp only[nM]at h
  repeat' (first
 |simp only[go_sem,hF,hP,hZ,gA]
 |(with_reducible refine CU (hn _ _) ?_)
 |(with_reducible refine CU (hw _ _) ?_)
 |(with_reducible first|refine bj fun hc=>?_|refine bk fun hc=>?_|refine bl (fun hc=>?_) fun hc=>?_)<;>(try simp only[hc,bs,↓reduceIte]at h)<;>try simp only[hc]
 |((with_reducible refine az hQ ?_);exact dv))
  refine cr 0 0 (IH (rest,k+1) ⟨g2,h⟩ (zaa _))
def Sm.flags (s:Sm):Option (Bool×Bool×Bool×Bool×Bool×Bool):=
 if s.kind==1 then some (true,false,true,s.has,false,false)
 else if s.kind==2 ||s.kind==10 then some (true,false,false,s.has,false,false)
 else if s.kind==3 then some (false,false,true,s.has,false,false)
 else if s.kind==4 then some (!(s.name == []),true,false,s.has,false,false)
 else if s.kind==5 then some (false,false,true,s.has,true,true)
 else if s.kind==6 then some (false,false,true,s.has,true,false)
 else if s.kind==9 then some (false,false,s.has,false,false,false)
 else if s.kind==7 ||s.kind==8 then some (false,false,false,s.has,false,false)
 else none
def Sm.Fu (s:Sm) (nm pr x:Bool):Bool:=if !(pK s.name nm) || !(pK s.proc pr) || !(sS s.x x)then false else nM s.args
def Sm.Fv (s:Sm) (f:Bool×Bool×Bool×Bool×Bool×Bool):Bool:=
 if f.2.2.2.1 ||(!f.2.2.2.2.1 && decide ((s.aV.length:Int) > 0)) ||(!f.2.2.2.2.2 && decide ((s.aN.length:Int) > 0)) ||(!(s.kind==4) && decide ((s.args.length:Int) > 0))then false
 else s.Fu f.1 f.2.1 f.2.2.1
def Sm.fields (s:Sm):Bool:=match s.flags with
 |none=>false
 |some f=>s.Fv f
section
variable {v:Sm} {B:ey} {Q:Exit→Tm→St→Prop} {p:Bool}
theorem Sn {nm pr x:Bool} (hf:v.lx) (hB:B.s = ⟨[],[]⟩) (hQ:gy 0 0 [(2,none)] (.bool p) ⟨[],[]⟩=Q) (h:v.Fu nm pr x=p) :
 Sem Tryz.prog B 93 Q0E Q [(1, .ptr 0 0),(3, .bool nm),(4, .bool pr),(5, .bool x)] ⟨[aH v],[]⟩:=by
 have h1:=fun b s=>AL v.name b hf.name s
 have h2:=fun b s=>AL v.proc b hf.proc s
 have h3:=fun b s=>Jv b hf.x hf.xt s
 have h4:=fun s=>Sl hf.YB hf.arg s
 unfold Sm.Fu at h
 have⟨hF,hP,hZ,gA⟩:=bD
 refine gu ?_
 repeat' (first
 |simp only[go_sem,hF,hP,hZ,gA]
 |(with_reducible refine CU (h1 _ _) ?_)
 |(with_reducible refine CU (h2 _ _) ?_)
 |(with_reducible refine CU (h3 _ _) ?_)
 |(with_reducible refine CU (h4 _) ?_)
 |(with_reducible first|refine bj fun hc=>?_|refine bk fun hc=>?_|refine bl (fun hc=>?_) fun hc=>?_)<;>(try simp only[hc,bs,↓reduceIte]at h)<;>try simp only[hc]
 |((with_reducible refine az hQ ?_);exact dv))
theorem Sp {nm pr x has th ot ar:Bool} (hf:v.lx) (hB:B.s = ⟨[],[]⟩) (hQ:gy 0 0 [(2,none)] (.bool p) ⟨[],[]⟩=Q) (e:(v.kind==4)=ar) (h:v.Fv (nm,pr,x,has,th,ot)=p) :
 Sem Tryz.prog B 93 Q0D Q [(1, .ptr 0 0),(3, .bool nm),(4, .bool pr),(5, .bool x),(6, .bool has),(7, .bool th),(8, .bool ot),(9, .bool ar)] ⟨[aH v],[]⟩:=by
 simp only[Sm.Fv,e]at h
 have⟨hF,hP,hZ,gA⟩:=bD
 refine Sem.fY ?_
 repeat' (first
 |simp only[go_sem,hF,hP,hZ,gA]
 |(with_reducible first|refine bj fun hc=>?_|refine bk fun hc=>?_|refine bl (fun hc=>?_) fun hc=>?_)<;>(try simp only[hc,bs,↓reduceIte]at h)<;>try simp only[hc]
 |((with_reducible refine az hQ ?_);(try cases h);simp only[bt,bx,bY,bZ,go_sem,hF,hP,hZ,gA];repeat' (first|exact Ok.out|with_reducible refine dZ ?_ ?_|(simp;done))))
 all_goals
  refine Sem.re _ _ 1 0 (by rw[hB];exact im rfl) (by rw[hB];exact im rfl) ?_ ?_ (Sn hf hB hQ h)
  ·(simp only[go_sem,hF,hP,hZ,gA];repeat' (first|exact Ok.out|with_reducible refine dZ ?_ ?_))
  ·(simp only[go_sem,hF,hP,hZ,gA];repeat' (first|exact Ok.out|with_reducible refine dZ ?_ ?_))
theorem Sq {ar:Bool} (hf:v.lx) (hB:B.s = ⟨[],[]⟩) (hQ:gy 0 0 [(2,none)] (.bool p) ⟨[],[]⟩=Q) (e:(v.kind==4)=ar) (h:v.fields=p) :
 Sem Tryz.prog B 93 Q0C Q [(1, .ptr 0 0),(3, .bool false),(4, .bool false),(5, .bool false),(6, .bool v.has),(7, .bool false),(8, .bool false),(9, .bool ar)] ⟨[aH v],[]⟩:=by
 simp only[Sm.fields,Sm.flags]at h
 have⟨hF,hP,hZ,gA⟩:=bD
 refine Sem.fY ?_
 repeat' (first
 |simp only[go_sem,hF,hP,hZ,gA]
 |(with_reducible first|refine bj fun hc=>?_|refine bk fun hc=>?_|refine bl (fun hc=>?_) fun hc=>?_)<;>(try simp only[hc,bs,↓reduceIte]at h)<;>try simp only[hc]
 |((with_reducible refine az hQ ?_);(try cases h);simp only[bt,bx,bY,bZ,go_sem,hF,hP,hZ,gA];repeat' (first|exact Ok.out|with_reducible refine dZ ?_ ?_|(simp;done))))
 all_goals
  refine Sem.re _ _ 1 0 (by rw[hB];exact im rfl) (by rw[hB];exact im rfl) ?_ ?_ (Sp hf hB hQ e h)
  ·(simp only[go_sem,hF,hP,hZ,gA];repeat' (first|exact Ok.out|with_reducible refine dZ ?_ ?_))
  ·(simp only[go_sem,hF,hP,hZ,gA];repeat' (first|exact Ok.out|with_reducible refine dZ ?_ ?_))
end
theorem Sr {v:Sm} (hf:v.lx) (s:St):ay Tryz.prog 116 [.agg (aH v)] s (.bool v.fields) s:=by
 refine ay.pure ?_ (by simp[D.bg,D.ok,il]) rfl s
 unfold S0
 refine ay.YC jo.h rfl fun B Q hB hQ=>?_
 have⟨hF,hP,hZ,gA⟩:=bD
 refine Sem.seq (b:=Q0A) (gu ?_)
 repeat' (first
 |simp only[go_sem,hF,hP,hZ,gA]
 |(with_reducible refine az hQ ?_;exact aR))
 refine Sem.seq (b:=Q0B) (gu ?_)
 repeat' (first
 |simp only[go_sem,hF,hP,hZ,gA]
 |(with_reducible refine az hQ ?_;exact aR))
 refine Sem.seq (b:=Q0C) (gu ?_)
 repeat' (first
 |simp only[go_sem,hF,hP,hZ,gA]
 |(with_reducible refine az hQ ?_;exact aR))
 refine Sem.re _ _ 1 0 (by rw[hB];exact im rfl) (by rw[hB];exact im rfl) ?_ ?_ (Sq hf hB hQ rfl rfl)
 ·(simp only[go_sem,hF,hP,hZ,gA];repeat' (first|exact Ok.out|with_reducible refine dZ ?_ ?_))
 ·(simp only[go_sem,hF,hP,hZ,gA];repeat' (first|exact Ok.out|with_reducible refine dZ ?_ ?_))
end Go.Abs
namespace Go.Abs
set_option maxRecDepth 8000
open Go.Proofs
def fQ (i:It):List D:= [.int .i64 i.s.id, .int .i64 i.s.kind, .slice .shared 1 (i.s.labels.map encStr), .str i.s.name, .str i.s.proc,
 .int .i64 i.s.x.op, .int .i64 i.s.x.n, .str i.s.x.name, .slice .shared 4 (i.s.x.kids.map bA), .bool i.s.has, .slice .shared 6 (i.s.args.map dz), .slice .shared 13 (i.s.aV.map aH), .slice .shared 13 (i.s.aN.map aH), .int .i64 i.deep, .int .i64 i.bM, .bool i.aN]
theorem Ss (i:It):D.bg 0 0 (fQ i)=true:=by simp[fQ,D.bg,D.ok,Tag.ok,dd,Um,Fl,gR]
theorem Fw (l:List It):D.fu 0 0 (l.map fQ)=true:=gl Ss l
theorem abE (n m:Nat) (l:List It):D.iI n m (l.map fQ)=l.map fQ:=ll Ss n m l
theorem abF (n m:Nat) (i:It):D.eI n m (fQ i)=fQ i:=fU n m _ (Ss i)
theorem abG (x:It):(fQ x).length=16:=nd rfl
theorem YK (x:It):List.take 13 (fQ x)=aH x.s:=by simp only[fQ,bU];rfl
theorem Sv (x:It):(fQ x)[0]? = some (.int .i64 x.s.id):=nd rfl
theorem O1 (x:It):(fQ x)[13]? = some (.int .i64 x.deep):=nd rfl
theorem Dl (s:Sm) (d n:Int) (e:Bool):fQ ⟨s,d,n,e⟩ = [.int .i64 s.id, .int .i64 s.kind, .slice .shared 1 (s.labels.map encStr), .str s.name, .str s.proc,
 .int .i64 s.x.op, .int .i64 s.x.n, .str s.x.name, .slice .shared 4 (s.x.kids.map bA), .bool s.has, .slice .shared 6 (s.args.map dz), .slice .shared 13 (s.aV.map aH), .slice .shared 13 (s.aN.map aH), .int .i64 d, .int .i64 n, .bool e]:=nd rfl
attribute [go_sem] abE abF abG YK Sv O1
theorem Hb (deep bM:Int) (aN:Bool) (out:List It) (s:Sm) :
 fj deep bM aN out s=if decide (deep≤12)then dc (deep+1) s.id true (dc (deep+1) s.id false (out++ [⟨s,deep,bM,aN⟩]) s.aV) s.aN else out++ [⟨s,deep,bM,aN⟩]:=by
 cases s;simp only[fj]
mutual
theorem O2 (deep bM:Int) (aN:Bool) (out:List It) (h:out.length≤200) : ∀ s:Sm,(fj deep bM aN out s).length≤201
 |⟨id,kind,labels,name,proc,x,has,args,aV,e⟩=>by
  simp only[fj]
  have h1:(out++ [(⟨⟨id,kind,labels,name,proc,x,has,args,aV,e⟩,deep,bM,aN⟩:It)]).length≤201:=by simp;omega
  split
  ·exact jP _ _ _ _ (jP _ _ _ _ h1 aV) e
  ·exact h1
theorem jP (deep bM:Int) (aN:Bool) (out:List It) (h:out.length≤201) : ∀ l:List Sm,(dc deep bM aN out l).length≤201
 | []=>by simpa only[dc]using h
 | s::l=>by
  simp only[dc]
  split
  ·rename_i hc
   simp only[decide_eq_true_eq]at hc
   exact jP deep bM aN _ (O2 _ _ _ _ (by omega) s) l
  ·exact h
end
abbrev O3 (N:Nat):Prop:=∀ (l:List Sm) (deep bM:Int) (aN:Bool) (out:List It),Sm.aM l<N→0≤deep→deep≤13→out.length≤201→∀ {s:St} {t:Nat},s.aw[t]? = some (some out.length)→
 ay Tryz.prog 142 [.slice .shared 13 (l.map aH), .int .i64 deep, .int .i64 bM, .bool aN, .slice (.tok t) 16 (out.map fQ)] s (.slice (.tok t) 16 ((dc deep bM aN out l).map fQ)) ⟨s.av,s.aw.set t (some (dc deep bM aN out l).length)⟩
theorem YL {N:Nat} (hN:N<4611686018427387904) (ih:O3 N) {l:List Sm} {deep bM:Int} {aN:Bool} {out:List It} (hs:Sm.aM l<N+1) (tU:0≤deep) (hd:deep≤13) (ho:out.length≤201) :
 ay Tryz.prog 142 [.slice .shared 13 (l.map aH), .int .i64 deep, .int .i64 bM, .bool aN, .slice (.tok 0) 16 (out.map fQ)] ⟨[],[some out.length]⟩ (.slice (.tok 0) 16 ((dc deep bM aN out l).map fQ)) ⟨[],[some (dc deep bM aN out l).length]⟩:=by
 generalize hR:dc deep bM aN out l=R
 refine ay.go xr.h rfl fun B Q hB hQ=>?_
 have⟨hF,hP,hZ,gA⟩:=bD
 repeat' (first
 |simp only[go_sem,hF,hP,hZ,gA]
 |(with_reducible refine az hQ ?_;exact aR))
 refine cr 0 1 (aY.ind (ι:=List Sm×Nat×List It×Nat) (fun i=>l.drop i.2.1=i.1∧dc deep bM aN i.2.2.1 i.1=R∧i.2.2.1.length≤201∧i.2.2.2=i.2.2.1.length) (fun i=>i.1.length)
  (fun i=> [(0, .slice .shared 13 (l.map aH)),(1, .int .i64 deep),(2, .int .i64 bM),(3, .bool aN),(4, .slice (.tok 0) 16 (i.2.2.1.map fQ)),(11, .int .i64 (i.2.1:Int))]) (fun i=>⟨[],[some i.2.2.2]⟩) ?_ (l,0,out,out.length) ⟨rfl,hR,ho,rfl⟩)
 rintro⟨rest,k,out,n⟩ ⟨h1,h2,h3,h4⟩ IH
 dsimp only at h1 h2 h3 h4
 subst h4
 have hlen:l.length<4611686018427387904:=by have:=Sm.cd l;omega
 cases rest with
 |nil=>
  have hF:=drop_nil h1
  simp only[dc]at h2
  subst h2
  repeat' (first
 |simp only[go_sem,hF,hP,hZ,gA]
 |(with_reducible refine az hQ ?_;exact aR))
 | cons v rest=>
  obtain⟨hP,g2,hF,g4⟩:=drop_cons h1
  have bH:k<4611686018427387904:=by omega
  have hv:=Sm.bC (zac hP)
  have mZ:Sm.aM v.aV<N∧Sm.aM v.aN<N:=by
   obtain⟨_,_,_,_,_,_,_,_,_,_⟩:=v
   simp only[Sm.size]at hv ⊢;omega
  simp only[dc]at h2
  by_cases hc:out.length≤200
  ·have c1:decide ((out.length:Int)≤200)=true:=by simp;omega
   simp only[c1,↓reduceIte,Hb]at h2
   have hZ:(out.length+1)*233≤aT:=by unfold aT;omega
   have jZ:(out++ [(⟨v,deep,bM,aN⟩:It)]).length≤201:=by simp;omega
   have hw:IntKind.wrap .i64 (deep+1)=deep+1:=cT (by omega) (by omega)
   by_cases aew:deep≤12
   ·have c2:decide (deep≤12)=true:=by simp;omega
    simp only[c2,↓reduceIte]at h2
    have f1:=fun {s:St} {t:Nat} (ht:s.aw[t]? = some (some (out++ [(⟨v,deep,bM,aN⟩:It)]).length))=>ih v.aV (deep+1) v.id false _ mZ.1 (by omega) (by omega) jZ ht
    have f2:=fun {s:St} {t:Nat} (ht:s.aw[t]? = some (some (dc (deep+1) v.id false (out++ [(⟨v,deep,bM,aN⟩:It)]) v.aV).length))=>ih v.aN (deep+1) v.id true _ mZ.2 (by omega) (by omega) (jP _ _ _ _ jZ _) ht
    simp only[zah,zaf,zaj,Dl,zai,zal,zaE]at f1
    repeat' (first
 |simp only[go_sem,hF,hP,hZ,gA,c1,c2,hw,bU]
 |(with_reducible refine CU (f1 (by with_unfolding_all rfl)) ?_)
 |(with_reducible refine CU (f2 (by with_unfolding_all rfl)) ?_)
 | (with_reducible refine az hQ ?_;exact aR))
    refine cD 0 1 ?_ ?_ (IH (rest,k+1,_,_) ⟨g2,h2,jP _ _ _ _ (jP _ _ _ _ jZ _) _,rfl⟩ (zaa _))
    ·(simp only[go_sem,hF,hP,hZ,gA,aC bH];try exact bd)
    ·(simp only[go_sem,hF,hP,hZ,gA,aC bH];try exact bd)
   ·have c2:decide (deep≤12)=false:=by simp;omega
    simp only[c2,zab,↓reduceIte]at h2
    repeat' (first
 |simp only[go_sem,hF,hP,hZ,gA,c1,c2,bU]
 | (with_reducible refine az hQ ?_;exact aR))
    refine cD 0 1 ?_ ?_ (IH (rest,k+1,out++ [⟨v,deep,bM,aN⟩],out.length+1) ⟨g2,h2,jZ,by simp⟩ (zaa _))
    ·(simp only[go_sem,hF,hP,hZ,gA,aC bH,Dl,zah,zaf,zaj];try exact bd)
    ·(simp only[go_sem,hF,hP,hZ,gA,aC bH,Dl,zah,zaf,zaj];try exact bd)
  ·have c1:decide ((out.length:Int)≤200)=false:=by simp;omega
   simp only[c1,zab,↓reduceIte]at h2
   subst h2
   repeat' (first
 |simp only[go_sem,hF,hP,hZ,gA,c1]
 |(with_reducible refine az hQ ?_;exact aR))
theorem Sw : ∀ N,N<4611686018427387904→O3 N:=by
 intro N
 induction N with
 |zero=>exact fun _ l deep bM aN out h=>absurd h (zaG _)
 |succ N ih=>
  intro h l deep bM aN out hs tU hd ho s t ht
  exact(YL (by omega) (ih (by omega)) hs tU hd ho).Lb (pre:= [_,_,_,_]) (post:= []) (by simp[D.bg,D.ok,Tag.ok,gR]) rfl (Fw out) (Fw _) ht
theorem Sx {l:List Sm} (hs:Sm.aM l<4611686018427387000) (s:St) :
 ay Tryz.prog 142 [.slice .shared 13 (l.map aH), .int .i64 1, .int .i64 0, .bool false, .slice .full 0 []] s (.slice .shared 16 ((dc 1 0 false [] l).map fQ)) s:=by
 refine ay.pure ?_ (by simp[D.bg,D.ok,Tag.ok,gR,D.fu]) (by simp[D.ok,Tag.ok,Fw]) s
 obtain⟨N,hN⟩ : ∃ N,N=Sm.aM l:=⟨_,rfl⟩
 have ih:=Sw N (by omega)
 replace hs:Sm.aM l<N+1∧N<4611686018427387000:=by omega
 obtain⟨hs,hN⟩:=hs
 generalize hR:dc 1 0 false [] l=R
 obtain⟨deep,Mv⟩ : ∃ d:Int,d=1:=⟨_,rfl⟩
 obtain⟨bM,Sy⟩ : ∃ d:Int,d=0:=⟨_,rfl⟩
 obtain⟨aN,Sz⟩ : ∃ d:Bool,d=false:=⟨_,rfl⟩
 rw[← Mv, ← Sy, ← Sz]at hR
 rw[← Mv, ← Sy, ← Sz]
 have tU:0≤deep:=by omega
 have hd:deep≤13:=by omega
 clear Mv Sy Sz
 have ho:([] : List It).length≤201:=zar _
 unfold S0
 refine ay.go xr.h rfl fun B Q hB hQ=>?_
 have⟨hF,hP,hZ,gA⟩:=bD
 repeat' (first
 |simp only[go_sem,hF,hP,hZ,gA]
 |(with_reducible refine az hQ ?_;exact aR))
 refine aY.ko 4 16 rfl ?_
 simp only[go_sem,hF,hP,hZ,gA]
 refine cr 0 1 (aY.ind (ι:=List Sm×Nat×List It×Nat) (fun i=>l.drop i.2.1=i.1∧dc deep bM aN i.2.2.1 i.1=R∧i.2.2.1.length≤201∧i.2.2.2=i.2.2.1.length) (fun i=>i.1.length)
  (fun i=> [(0, .slice .shared 13 (l.map aH)),(1, .int .i64 deep),(2, .int .i64 bM),(3, .bool aN),(4, .slice (.tok 0) 16 (i.2.2.1.map fQ)),(11, .int .i64 (i.2.1:Int))]) (fun i=>⟨[],[some i.2.2.2]⟩) ?_ (l,0,[],0) ⟨rfl,hR,ho,rfl⟩)
 rintro⟨rest,k,out,n⟩ ⟨h1,h2,h3,h4⟩ IH
 dsimp only at h1 h2 h3 h4
 subst h4
 have hlen:l.length<4611686018427387904:=by have:=Sm.cd l;omega
 cases rest with
 |nil=>
  have hF:=drop_nil h1
  simp only[dc]at h2
  subst h2
  repeat' (first
 |simp only[go_sem,hF,hP,hZ,gA]
 |(with_reducible refine az hQ ?_;exact aR))
 | cons v rest=>
  obtain⟨hP,g2,hF,g4⟩:=drop_cons h1
  have bH:k<4611686018427387904:=by omega
  have hv:=Sm.bC (zac hP)
  have mZ:Sm.aM v.aV<N∧Sm.aM v.aN<N:=by
   obtain⟨_,_,_,_,_,_,_,_,_,_⟩:=v
   simp only[Sm.size]at hv ⊢;omega
  simp only[dc]at h2
  by_cases hc:out.length≤200
  ·have c1:decide ((out.length:Int)≤200)=true:=by simp;omega
   simp only[c1,↓reduceIte,Hb]at h2
   have hZ:(out.length+1)*233≤aT:=by unfold aT;omega
   have jZ:(out++ [(⟨v,deep,bM,aN⟩:It)]).length≤201:=by simp;omega
   have hw:IntKind.wrap .i64 (deep+1)=deep+1:=cT (by omega) (by omega)
   by_cases aew:deep≤12
   ·have c2:decide (deep≤12)=true:=by simp;omega
    simp only[c2,↓reduceIte]at h2
    have f1:=fun {s:St} {t:Nat} (ht:s.aw[t]? = some (some (out++ [(⟨v,deep,bM,aN⟩:It)]).length))=>ih v.aV (deep+1) v.id false _ mZ.1 (by omega) (by omega) jZ ht
    have f2:=fun {s:St} {t:Nat} (ht:s.aw[t]? = some (some (dc (deep+1) v.id false (out++ [(⟨v,deep,bM,aN⟩:It)]) v.aV).length))=>ih v.aN (deep+1) v.id true _ mZ.2 (by omega) (by omega) (jP _ _ _ _ jZ _) ht
    simp only[zah,zaf,zaj,Dl,zai,zal,zaE]at f1
    repeat' (first
 |simp only[go_sem,hF,hP,hZ,gA,c1,c2,hw,bU]
 |(with_reducible refine CU (f1 (by with_unfolding_all rfl)) ?_)
 |(with_reducible refine CU (f2 (by with_unfolding_all rfl)) ?_)
 | (with_reducible refine az hQ ?_;exact aR))
    refine cD 0 1 ?_ ?_ (IH (rest,k+1,_,_) ⟨g2,h2,jP _ _ _ _ (jP _ _ _ _ jZ _) _,rfl⟩ (zaa _))
    ·(simp only[go_sem,hF,hP,hZ,gA,aC bH];try exact bd)
    ·(simp only[go_sem,hF,hP,hZ,gA,aC bH];try exact bd)
   ·have c2:decide (deep≤12)=false:=by simp;omega
    simp only[c2,zab,↓reduceIte]at h2
    repeat' (first
 |simp only[go_sem,hF,hP,hZ,gA,c1,c2,bU]
 | (with_reducible refine az hQ ?_;exact aR))
    refine cD 0 1 ?_ ?_ (IH (rest,k+1,out++ [⟨v,deep,bM,aN⟩],out.length+1) ⟨g2,h2,jZ,by simp⟩ (zaa _))
    ·(simp only[go_sem,hF,hP,hZ,gA,aC bH,Dl,zah,zaf,zaj];try exact bd)
    ·(simp only[go_sem,hF,hP,hZ,gA,aC bH,Dl,zah,zaf,zaj];try exact bd)
  ·have c1:decide ((out.length:Int)≤200)=false:=by simp;omega
   simp only[c1,zab,↓reduceIte]at h2
   subst h2
   repeat' (first
 |simp only[go_sem,hF,hP,hZ,gA,c1]
 |(with_reducible refine az hQ ?_;exact aR))
theorem YM {f:Pc} (hs:Sm.aM f.body<4611686018427387000) (s:St):ay Tryz.prog 83 [.agg (bn f)] s (.slice .shared 16 (f.flat.map fQ)) s:=by
 refine ay.pure ?_ (by simp only[D.bg,D.ok,ql];rfl) (by simp[D.ok,Tag.ok,Fw]) s
 have h:=fun s=>Sx hs s
 unfold S0
 refine ay.go EX.h rfl fun B Q hB hQ=>?_
 have⟨hF,hP,hZ,gA⟩:=bD
 repeat' (first
 |simp only[go_sem,hF,hP,hZ,gA,Pc.flat]
 |(with_reducible refine CU (h _) ?_)
 |(with_reducible first|refine bj fun hc=>?_|refine bk fun hc=>?_|refine bl (fun hc=>?_) fun hc=>?_)<;>(try simp only[hc,bs,↓reduceIte]at h)<;>try simp only[hc]
 |(with_reducible refine az hQ ?_;simp only[bt,bx,bY,bZ,go_sem,hF,hP,hZ,gA,Pc.flat];try exact cB))
end Go.Abs
namespace Go.Abs
set_option maxRecDepth 8000
open Go.Proofs
theorem Pc.SA (f:Pc):f.flat.length≤201:=jP _ _ _ _ (zar _) _
structure Pg.lx (p:Pg):Prop where
 sz:p.size<4611686018427387000
 uK : ∀ t∈p.globals,t.length<4611686018427387904
 ie : ∀ f∈p.procs,f.name.length<4611686018427387904∧(∀ t∈f.vars,t.length<4611686018427387904)∧(∀ t∈f.fin,t.length<4611686018427387904)∧∀ a∈f.params,a.name.length<4611686018427387904
 items : ∀ i∈p.all,i.s.lx
def gate (nest:Int) (len n:Nat) (r:Bool×Nat):Bool×Nat:=if decide (nest > 12) && decide ((len:Int) > 0)then(false,n)else r
mutual
def Sm.oa (nest:Int) (n:Nat):Sm→Bool×Nat
 |⟨id,kind,labels,name,proc,x,has,args,aV,aN⟩=>
  if decide (((n+1:Nat):Int) > 200) ||id != ((n+1:Nat):Int) || !(cL labels) || !(Sm.fields ⟨id,kind,labels,name,proc,x,has,args,aV,aN⟩)then(false,n+1)
  else if !(gate (nest+1) aV.length (n+1) (Sm.ez (nest+1) (n+1) aV)).1 then(false,(gate (nest+1) aV.length (n+1) (Sm.ez (nest+1) (n+1) aV)).2)
  else gate (nest+1) aN.length (gate (nest+1) aV.length (n+1) (Sm.ez (nest+1) (n+1) aV)).2 (Sm.ez (nest+1) (gate (nest+1) aV.length (n+1) (Sm.ez (nest+1) (n+1) aV)).2 aN)
def Sm.ez (nest:Int) (n:Nat):List Sm→Bool×Nat
 | []=>(true,n)
 |s::l=>if !(Sm.oa nest n s).1 then(false,(Sm.oa nest n s).2)else Sm.ez nest (Sm.oa nest n s).2 l
end
def Sm.fV (nest:Int) (n:Nat) (l:List Sm):Bool×Nat:=gate nest l.length n (Sm.ez nest n l)
theorem Dm (nest:Int) (n:Nat) (s:Sm):Sm.oa nest n s =
 if decide (((n+1:Nat):Int) > 200) ||s.id != ((n+1:Nat):Int) || !(cL s.labels) || !(s.fields)then(false,n+1)
 else if !(Sm.fV (nest+1) (n+1) s.aV).1 then(false,(Sm.fV (nest+1) (n+1) s.aV).2)
 else Sm.fV (nest+1) (Sm.fV (nest+1) (n+1) s.aV).2 s.aN:=by
 cases s;simp only[Sm.oa,Sm.fV];rfl
mutual
def Sm.tV:Sm→Prop
 |⟨id,kind,labels,name,proc,x,has,args,aV,aN⟩=>Sm.lx ⟨id,kind,labels,name,proc,x,has,args,aV,aN⟩∧Sm.ji aV∧Sm.ji aN
def Sm.ji:List Sm→Prop
 | []=>True
 |s::l=>s.tV∧Sm.ji l
end
theorem AN (s:Sm):s.tV↔s.lx∧Sm.ji s.aV∧Sm.ji s.aN:=by cases s;simp only[Sm.tV]
theorem BL {s:Sm} : ∀ {l:List Sm},Sm.ji l→s∈l→s.tV
 |y::l,h,m=>by
  simp only[Sm.ji]at h
  rcases zan.1 m with rfl|m
  ·exact h.1
  ·exact BL h.2 m
mutual
theorem V6 (nest:Int) (n:Nat) : ∀ s:Sm,n≤201→(Sm.oa nest n s).2≤202∧((Sm.oa nest n s).1=true→(Sm.oa nest n s).2≤200)
 | ⟨id,kind,labels,name,proc,x,has,args,aV,aN⟩,hn=>by
  simp only[Sm.oa]
  split
  ·exact⟨by dsimp only;omega,fun h=>by cases h⟩
  rename_i hc
  simp only[zay,decide_eq_true_eq,not_or]at hc
  have sT:n+1≤200:=by omega
  have g1 : ∀ (nest:Int) (l:List Sm) (m:Nat),m≤200→(Sm.ez nest m l).2≤202∧((Sm.ez nest m l).1=true→(Sm.ez nest m l).2≤200)→
   (gate nest l.length m (Sm.ez nest m l)).2≤202∧((gate nest l.length m (Sm.ez nest m l)).1=true→(gate nest l.length m (Sm.ez nest m l)).2≤200):=by
   intro nest l m hm h
   unfold gate
   split
   ·exact⟨by dsimp only;omega,fun h=>by cases h⟩
   ·exact h
  have h1:=g1 (nest+1) aV (n+1) sT (zm (nest+1) (n+1) aV sT)
  split
  ·exact⟨h1.1,fun h=>by cases h⟩
  rename_i FW
  have h2:=h1.2 (by simpa using FW)
  exact g1 (nest+1) aN _ h2 (zm (nest+1) _ aN h2)
theorem zm (nest:Int) (n:Nat) : ∀ l:List Sm,n≤200→(Sm.ez nest n l).2≤202∧((Sm.ez nest n l).1=true→(Sm.ez nest n l).2≤200)
 | [],hn=>by simp only[Sm.ez];exact⟨by omega,fun _=>hn⟩
 |s::l,hn=>by
  simp only[Sm.ez]
  have h1:=V6 nest n s (by omega)
  split
  ·exact⟨h1.1,fun h=>by cases h⟩
  rename_i hc
  exact zm nest _ l (h1.2 (by simpa using hc))
end
theorem Dn {nest:Int} {n:Nat} {l:List Sm} (hn:n≤200):(Sm.fV nest n l).2≤202∧((Sm.fV nest n l).1=true→(Sm.fV nest n l).2≤200):=by
 unfold Sm.fV gate
 split
 ·exact⟨by dsimp only;omega,fun h=>by cases h⟩
 ·exact zm nest n l hn
theorem V7 : ∀ (m:Nat) (l:List Sm),Sm.aM l≤m→Sm.aM l<4611686018427387000→Sm.ji l→∀ (nest:Int) (n:Nat),0≤nest→nest≤13→n≤200→
 ay Tryz.prog 57 [.ptr 0 0, .slice .shared 13 (l.map aH), .int .i64 nest] ⟨[[.int .i64 n]],[]⟩ (.bool (Sm.fV nest n l).1) ⟨[[.int .i64 (Sm.fV nest n l).2]],[]⟩:=by
 intro m
 induction m with
 | zero=>
  intro l h hs hf nest n h0 h13 hn
  cases l with
  |nil=>
   have d1:decide ((0:Int) > 0)=false:=rfl
   have e:Sm.fV nest n [] = (true,n):=by simp[Sm.fV,gate,Sm.ez]
   have z:decide ((0:Int)<0)=false:=rfl
   rw[e]
   refine ay.go pE.h rfl fun B Q hB hQ=>?_
   have⟨hF,hP,hZ,gA⟩:=bD
   repeat' (first
 |simp only[go_sem,hF,hP,hZ,gA,d1,z]
 |(with_reducible refine aY.kF ?_)
 |(with_reducible first|refine bj fun hc=>?_|refine bk fun hc=>?_|refine bl (fun hc=>?_) fun hc=>?_)<;>(try simp only[hc,bs,↓reduceIte]at h)<;>try simp only[hc]
 |(with_reducible refine az hQ ?_;exact aR))
  |cons s l=>simp only[Sm.aM]at h;omega
 |succ m ih=>
  intro l h hs hf nest n h0 h13 hn
  generalize hR:Sm.fV nest n l=R
  have hlen:=Sm.cd l
  unfold Sm.fV gate at hR
  have h:=hR
  refine ay.go pE.h rfl fun B Q hB hQ=>?_
  have⟨hF,hP,hZ,gA⟩:=bD
  repeat' (first
 |simp only[go_sem,hF,hP,hZ,gA]
 |(with_reducible first|refine bj fun hc=>?_|refine bk fun hc=>?_|refine bl (fun hc=>?_) fun hc=>?_)<;>(try simp only[hc,bs,↓reduceIte]at h)<;>try simp only[hc]
 | ((with_reducible refine az hQ ?_);(try cases h);simp only [bt,bx,bY,bZ,go_sem,hF,hP,hZ,gA];repeat' (first | exact Ok.out | with_reducible refine dZ ?_ ?_ | (simp;done))))
  all_goals
   have abH:l≠ []→nest≤12:=by
    intro dL
    have:l.length≠0:=by simpa using dL
    simp_all<;>omega
   refine cr 1 0 (aY.ind (ι:=List Sm×Nat×Nat) (fun i=>l.drop i.2.1=i.1∧Sm.ez nest i.2.2 i.1=R∧i.2.2≤200) (fun i=>i.1.length)
    (fun i=> [(0, .ptr 0 0),(2, .int .i64 nest),(16, .slice .shared 13 (l.map aH)),(17, .int .i64 (l.length:Int)),(18, .int .i64 (i.2.1:Int))]) (fun i=>⟨[[.int .i64 (i.2.2:Int)]],[]⟩) ?_ (l,0,n) ⟨rfl,h,hn⟩)
   rintro⟨rest,k,j⟩ ⟨h1,h,hj⟩ IH
   dsimp only at h1 h hj
   cases rest with
   |nil=>
    have hF:=drop_nil h1
    simp only[Sm.ez]at h
    repeat' (first
 |simp only[go_sem,hF,hP,hZ,gA]
 |(with_reducible first|refine bj fun hc=>?_|refine bk fun hc=>?_|refine bl (fun hc=>?_) fun hc=>?_)<;>(try simp only[hc,bs,↓reduceIte]at h)<;>try simp only[hc]
 | ((with_reducible refine az hQ ?_);exact dv))
   | cons s rest=>
    obtain⟨hP,g2,hF,g4⟩:=drop_cons h1
    have hZ:k<4611686018427387904:=by omega
    have mC:=zac hP
    have cV:=Sm.bC mC
    have ah8:=abH (by rintro rfl;simp at mC)
    obtain⟨Be,hft,hfe⟩:=(AN s).1 (BL hf mC)
    have KK:Sm.aM s.aV<s.size∧Sm.aM s.aN<s.size:=by cases s;simp only[Sm.size];omega
    have w1:IntKind.wrap .i64 ((j:Int)+1)=((j+1:Nat):Int):=by rw[cT]<;>omega
    have w2:IntKind.wrap .i64 (nest+1)=nest+1:=cT (by omega) (by omega)
    have c1:=fun s=>wG Be.YA Be.lab s
    have c2:=fun s=>Sr Be s
    simp only[Sm.ez,Dm]at h
    by_cases O4:j+1≤200
    ·have r1:=Dn (nest:=nest+1) (l:=s.aV) O4
     have c3:=fun s' ho=>(ih s.aV (by omega) (by omega) hft (nest+1) (j+1) (by omega) (by omega) O4).jv (s:=s') (o:=0) (by simp[D.bg,D.ok,gR,Tag.ok]) rfl rfl rfl ho
     by_cases sU:(Sm.fV (nest+1) (j+1) s.aV).1=true
     ·have c4:=fun s' ho=>(ih s.aN (by omega) (by omega) hfe (nest+1) _ (by omega) (by omega) (r1.2 sU)).jv (s:=s') (o:=0) (by simp [D.bg,D.ok,gR,Tag.ok]) rfl rfl rfl ho
      have r2:=Dn (nest:=nest+1) (l:=s.aN) (r1.2 sU)
      simp only[sU]at c3
      simp only[sU,zax,zab,↓reduceIte]at h
      repeat' (first
 |simp only[go_sem,hF,hP,hZ,gA,w1,w2,sU]
 |(with_reducible refine CU (c1 _) ?_)
 |(with_reducible refine CU (c2 _) ?_)
 |(with_reducible refine CU (c3 _ rfl) ?_)
 |(with_reducible refine CU (c4 _ rfl) ?_)
 |(with_reducible first|refine bj fun hc=>?_|refine bk fun hc=>?_|refine bl (fun hc=>?_) fun hc=>?_)<;>(try simp only[hc,bs,↓reduceIte]at h)<;>try simp only[hc]
 | ((with_reducible refine az hQ ?_);(try cases h);simp only [bt,bx,bY,bZ,go_sem,hF,hP,hZ,gA,w1,w2,sU];try exact cB))
      refine cr 1 0 (IH (rest,k+1,(Sm.fV (nest+1) (Sm.fV (nest+1) (j+1) s.aV).2 s.aN).2) ⟨g2,h,r2.2 (by assumption)⟩ (zaa _))
     ·have sU:(Sm.fV (nest+1) (j+1) s.aV).1=false:=by simpa using sU
      simp only[sU]at c3
      simp only[sU,zaB,↓reduceIte]at h
      repeat' (first
 |simp only[go_sem,hF,hP,hZ,gA,w1,w2,sU]
 |(with_reducible refine CU (c1 _) ?_)
 |(with_reducible refine CU (c2 _) ?_)
 |(with_reducible refine CU (c3 _ rfl) ?_)
 |(with_reducible first|refine bj fun hc=>?_|refine bk fun hc=>?_|refine bl (fun hc=>?_) fun hc=>?_)<;>(try simp only[hc,bs,↓reduceIte]at h)<;>try simp only[hc]
 | ((with_reducible refine az hQ ?_);(try cases h);simp only [bt,bx,bY,bZ,go_sem,hF,hP,hZ,gA,w1,w2,sU];try exact cB))
    ·have d1:decide (((j+1:Nat):Int) > 200)=true:=by simp;omega
     simp only[d1,za8,zaB,↓reduceIte]at h
     repeat' (first
 |simp only[go_sem,hF,hP,hZ,gA,w1,w2,d1]
 |(with_reducible refine CU (c1 _) ?_)
 |(with_reducible refine CU (c2 _) ?_)
 |(with_reducible first|refine bj fun hc=>?_|refine bk fun hc=>?_|refine bl (fun hc=>?_) fun hc=>?_)<;>(try simp only[hc,bs,↓reduceIte]at h)<;>try simp only[hc]
 |((with_reducible refine az hQ ?_);(try cases h);simp only[bt,bx,bY,bZ,go_sem,hF,hP,hZ,gA,w1,w2,d1];try exact cB))
def Pc.ez (n:Nat):List Pc→Bool
 | []=>true
 |f::l=>
  if decide ((f.params.length:Int) > 8) ||decide ((f.vars.length:Int) > 16) || !(isName f.name) || !(cL f.vars) || !(cL f.fin)then false
  else if !(Pm.dR f.params)then false
  else if !(Sm.fV 1 n f.body).1 then false
  else Pc.ez (Sm.fV 1 n f.body).2 l
def Pg.Dp (p:Pg):Bool:=
 if decide ((p.globals.length:Int) > 16) ||decide ((p.procs.length:Int) > 16) || !(cL p.globals)then false
 else Pc.ez 0 p.procs
structure Pg.Fx (p:Pg):Prop where
 sz:p.size<4611686018427387000
 uK : ∀ t∈p.globals,t.length<4611686018427387904
 ie : ∀ f∈p.procs,f.name.length<4611686018427387904∧(∀ t∈f.vars,t.length<4611686018427387904)∧(∀ t∈f.fin,t.length<4611686018427387904)∧∀ a∈f.params,a.name.length<4611686018427387904
 body : ∀ f∈p.procs,Sm.ji f.body
theorem O5 {p:Pg} (hf:p.Fx) (s:St):ay Tryz.prog 22 [.agg (bf p)] s (.bool p.Dp) s:=by
 refine ay.pure ?_ (by simp only[D.bg,D.ok,fm];rfl) rfl s
 obtain⟨cV,vK,Hc,KR⟩:=hf
 have rl:Pc.aM p.procs<4611686018427387000:=by simp only[Pg.size]at cV;omega
 have abI:p.globals.length<4611686018427387904:=by simp only[Pg.size]at cV;omega
 have ahM:p.procs.length<4611686018427387904:=by have:=Pc.cd p.procs;omega
 have hg:=fun s=>wG abI vK s
 unfold S0
 generalize h:p.Dp=R
 unfold Pg.Dp at h
 refine ay.go GZ.h rfl fun B Q hB hQ=>?_
 have⟨hF,hP,hZ,gA⟩:=bD
 repeat' (first
 |simp only[go_sem,hF,hP,hZ,gA]
 |(with_reducible refine CU (hg _) ?_)
 |(with_reducible first|refine bj fun hc=>?_|refine bk fun hc=>?_|refine bl (fun hc=>?_) fun hc=>?_)<;>(try simp only[hc,bs,↓reduceIte]at h)<;>try simp only[hc]
 |((with_reducible refine az hQ ?_);exact dv))
 refine cr 2 0 (aY.ind (ι:=List Pc×Nat×Nat) (fun i=>p.procs.drop i.2.1=i.1∧Pc.ez i.2.2 i.1=R∧i.2.2≤200) (fun i=>i.1.length)
  (fun i=> [(1, .ptr 0 0),(3, .ptr 1 0),(27, .slice .shared 5 (p.procs.map bn)),(28, .int .i64 (p.procs.length:Int)),(29, .int .i64 (i.2.1:Int))]) (fun i=>⟨[bf p,[.int .i64 (i.2.2:Int)]],[]⟩) ?_ (p.procs,0,0) ⟨rfl,h,zar _⟩)
 rintro⟨rest,k,n⟩ ⟨h1,h,hn⟩ IH
 dsimp only at h1 h hn
 cases rest with
 |nil=>
  have hF:=drop_nil h1
  simp only[Pc.ez]at h
  repeat' (first
 |simp only[go_sem,hF,hP,hZ,gA]
 |(with_reducible first|refine bj fun hc=>?_|refine bk fun hc=>?_|refine bl (fun hc=>?_) fun hc=>?_)<;>(try simp only[hc,bs,↓reduceIte]at h)<;>try simp only[hc]
 |((with_reducible refine az hQ ?_);exact dv))
 |cons f rest=>
  obtain⟨hP,g2,hF,g4⟩:=drop_cons h1
  have bH:k<4611686018427387904:=by omega
  have mC:=zac hP
  have rZ:=Pc.bC mC
  simp only[Pc.size]at rZ
  obtain⟨xw,hfv,hff,hfp⟩:=Hc f mC
  have D1:=vJ f.name xw
  have hv:=fun s=>wG (by omega) hfv s
  have he:=fun s=>wG (by omega) hff s
  have hb:=fun s' o ho=>(V7 _ f.body (zag _) (by omega) (KR f mC) 1 n (by omega) (by omega) hn).jv (s:=s') (o:=o) (by simp[D.bg,D.ok,gR,Tag.ok]) rfl rfl rfl ho
  have hle:=Dn (nest:=1) (l:=f.body) hn
  simp only[Pc.ez]at h
  repeat' (first
 |simp only[go_sem,hF,hP,hZ,gA]
 |(with_reducible refine CU (D1 _) ?_)
 |(with_reducible refine CU (hv _) ?_)
 |(with_reducible refine CU (he _) ?_)
 |(with_reducible first|refine bj fun hc=>?_|refine bk fun hc=>?_|refine bl (fun hc=>?_) fun hc=>?_)<;>(try simp only[hc,bs,↓reduceIte]at h)<;>try simp only[hc]
 |((with_reducible refine az hQ ?_);exact dv)
 | (cases h;done))
  refine cr 3 0 (aY.ind (ι:=List Pm×Nat) (fun i=>f.params.drop i.2=i.1∧(if !(Pm.dR i.1)then false else if !(Sm.fV 1 n f.body).1 then false else Pc.ez (Sm.fV 1 n f.body).2 rest)=R) (fun i=>i.1.length)
   (fun i=> [(1, .ptr 0 0),(3, .ptr 1 0),(5, .ptr 2 0),(27, .slice .shared 5 (p.procs.map bn)),(28, .int .i64 (p.procs.length:Int)),(29, .int .i64 (k:Int)),(62, .slice .shared 2 (f.params.map df)),(63, .int .i64 (f.params.length:Int)),(64, .int .i64 (i.2:Int))]) (fun i=>⟨[bf p,[.int .i64 (n:Int)],bn f],[]⟩) ?_ (f.params,0) ⟨rfl,h⟩)
  rintro⟨Mw,j⟩ ⟨j1,h⟩ yx
  dsimp only at j1 h
  cases Mw with
  |nil=>
   have hF:=drop_nil j1
   simp only[Pm.dR,zax,zab,↓reduceIte]at h
   repeat' (first
 |simp only[go_sem,hF,hP,hZ,gA]
 |(with_reducible refine CU (hb _ _ rfl) ?_)
 |(with_reducible first|refine bj fun hc=>?_|refine bk fun hc=>?_|refine bl (fun hc=>?_) fun hc=>?_)<;>(try simp only[hc,bs,↓reduceIte]at h)<;>try simp only[hc]
 |((with_reducible refine az hQ ?_);exact dv)
 | (cases h;done))
   refine cD 2 0 ?_ ?_ (IH (rest,k+1,(Sm.fV 1 n f.body).2) ⟨g2,h,hle.2 (by assumption)⟩ (zaa _))
   ·(simp only[go_sem,hF,hP,hZ,gA,aC bH];try exact bd)
   ·(simp only[go_sem,hF,hP,hZ,gA,aC bH];try exact bd)
  |cons a Mw=>
   obtain⟨hP,b2,hF,b4⟩:=drop_cons j1
   have O4:j<4611686018427387904:=by omega
   have ha:=vJ a.name (hfp a (zac hP))
   simp only[Pm.dR]at h
   repeat' (first
 |simp only[go_sem,hF,hP,hZ,gA]
 |(with_reducible refine CU (ha _) ?_)
 |(with_reducible first|refine bj fun hc=>?_|refine bk fun hc=>?_|refine bl (fun hc=>?_) fun hc=>?_)<;>(try simp only[hc,bs,↓reduceIte]at h)<;>try simp only[hc]
 |((with_reducible refine az hQ ?_);exact dv)
 | (cases h;done))
   refine cD 3 0 ?_ ?_ (yx (Mw,j+1) ⟨b2,h⟩ (zaa _))
   ·(simp only[go_sem,hF,hP,hZ,gA,aC O4];try exact bd)
   ·(simp only[go_sem,hF,hP,hZ,gA,aC O4];try exact bd)
theorem wH {s:aA} (h:isName s=true):s.length≤8:=by
 cases s with
 |nil=>simp
 | cons c r=>
  simp only[isName]at h
  split at h
  ·cases h
  ·rename_i hc
   simp only[zay,decide_eq_true_eq,not_or]at hc
   simp only[zal];omega
theorem nq {t:aA} : ∀ {l:List aA},cL l=true→t∈l→isName t=true
 | s::l,h,m=>by
  simp only[cL]at h
  cases hs:isName s
  ·simp[hs]at h
  ·simp [hs]at h
   rcases zan.1 m with rfl|m
   ·exact hs
   ·exact nq h m
theorem Hd {a:Ar} : ∀ {l:List Ar},Ar.dR l=true→a∈l→a.may=true
 | s::l,h,m=>by
  simp only[Ar.dR]at h
  cases hs:s.may
  ·simp[hs]at h
  ·simp [hs]at h
   rcases zan.1 m with rfl|m
   ·exact hs
   ·exact Hd h m
theorem D2 {a:Pm} : ∀ {l:List Pm},Pm.dR l=true→a∈l→isName a.name=true
 | s::l,h,m=>by
  simp only[Pm.dR]at h
  cases hs:isName s.name
  ·simp[hs]at h
  ·simp [hs]at h
   rcases zan.1 m with rfl|m
   ·exact hs
   ·exact D2 h m
mutual
theorem BN : ∀ x:Ex,x.form=true→x.texts
 | ⟨op,n,name,kids⟩,h=>by
  simp only[Ex.form]at h
  split at h
  ·cases h
  ·rename_i hc
   refine⟨?_,z6 kids h⟩
   simp only[zay,zam,zaF,not_or,not_and,zaV]at hc
   cases hn:(name == [])
   ·have:=wH (hc.2 hn);omega
   ·simp at hn;subst hn;simp
theorem z6 : ∀ l:List Ex,Ex.nK l=true→Ex.sO l
 | [],_=>trivial
 | x::l,h=>by
  simp only[Ex.nK]at h
  cases hx:x.form
  ·simp[hx]at h
  ·simp [hx]at h
   exact⟨BN x hx,z6 l h⟩
end
theorem D3 {x:Ex} (h:x.may=true):x.texts:=by
 unfold Ex.may at h
 simp only[zam]at h
 exact BN x h.2
theorem BO {x:Ex} (h:x.none=true):x.texts:=by
 obtain⟨op,n,name,kids⟩:=x
 simp[Ex.none]at h
 obtain⟨⟨_,h1⟩,h2⟩:=h
 subst h1 h2
 exact⟨by simp,trivial⟩
mutual
theorem O6 {deep bM:Int} {aN:Bool} {out:List It} {i:It} : ∀ s:Sm,i∈fj deep bM aN out s→i∈out∨i.s.size≤s.size
 | ⟨id,kind,labels,name,proc,x,has,args,aV,e⟩,h=>by
  simp only[fj]at h
  have key:i∈out++ [(⟨⟨id,kind,labels,name,proc,x,has,args,aV,e⟩,deep,bM,aN⟩:It)]→i∈out∨i.s.size≤(⟨id,kind,labels,name,proc,x,has,args,aV,e⟩:Sm).size:=by
   intro h
   rcases zaw.1 h with h|h
   ·exact .inl h
   ·simp at h;subst h;exact .inr (zag _)
  split at h
  ·rcases tW e h with h | h
   ·rcases tW aV h with h | h
    ·exact key h
    ·right;simp only[Sm.size];omega
   ·right;simp only[Sm.size];omega
  ·exact key h
theorem tW {deep bM:Int} {aN:Bool} {out:List It} {i:It} : ∀ l:List Sm,i∈dc deep bM aN out l→i∈out∨i.s.size<Sm.aM l
 | [],h=>by simp only[dc]at h;exact .inl h
 | s::l,h=>by
  simp only[dc]at h
  split at h
  ·rcases tW l h with h | h
   ·rcases O6 s h with h | h
    ·exact .inl h
    ·right;simp only[Sm.aM];omega
   ·right;simp only[Sm.aM];omega
  ·exact .inl h
end
theorem He {i:It} : ∀ (l:List Pc) (out:List It),i∈allM out l→i∈out∨i.s.size<Pc.aM l
 | [],out,h=>by simp only[allM]at h;exact .inl h
 | f::l,out,h=>by
  have key:i∈out++f.flat→i∈out∨i.s.size<Pc.aM (f::l):=by
   intro h
   rcases zaw.1 h with h|h
   ·exact .inl h
   ·rcases tW _ h with h | h
    ·simp at h
    ·right;simp only[Pc.aM,Pc.size];omega
  simp only[allM]at h
  split at h
  ·exact key h
  ·rcases He l _ h with h | h
   ·exact key h
   ·right;simp only[Pc.aM];omega
theorem BP {i:It} : ∀ (l:List It) (n:Nat),It.dR n l=true→i∈l→i.s.one=true
 | s::l,n,h,m=>by
  simp only[It.dR]at h
  split at h
  ·cases h
  ·rename_i hc
   simp only[zay,zaF,not_or,zaV]at hc
   rcases zan.1 m with rfl|m
   ·exact hc.2
   ·exact BP l (n+1) h m
theorem Hf {s:Sm} (h:s.one=true) (hs:s.size<4611686018427387000):s.lx:=by
 unfold Sm.one at h
 split at h
 ·cases h
 split at h
 ·cases h
 split at h
 ·cases h
 split at h
 ·cases h
 rename_i c1 c2 c3 c4
 simp only[zay,zam,zaF,not_or,not_and,zaV,decide_eq_true_eq]at c1 c2 c3 c4
 obtain⟨⟨⟨⟨⟨_,_⟩,aex⟩,cx⟩,cn⟩,_⟩:=c1
 obtain⟨c21,c22⟩:=c2
 obtain⟨⟨c31,c32⟩,c33⟩:=c3
 have nm : ∀ {t:aA},isName t=true→t.length<4611686018427387904:=fun h=>by have:=wH h;omega
 have cV:1+s.labels.length+s.x.size+Ar.aM s.args≤s.size:=by cases s;simp only[Sm.size];omega
 have rS:=Ar.cd s.args
 refine⟨fun t ht=>nm (nq aex ht),by omega, ?_, ?_,by omega, ?_,by omega,fun a ha=>?_⟩
 ·cases hn:s.hasName
  ·cases he:(s.name == [])
   ·exact nm (c22 ⟨hn,he⟩).2
   ·simp at he;rw[he];simp
  ·exact nm (c21 hn)
 ·cases rN:s.oj
  ·rw [rN]at c31
   have:s.proc = []:=by simpa using c31
   rw[this];simp
  ·exact nm (c32 rN)
 ·cases hx:s.uJ
  ·exact BO (cn hx)
  ·exact D3 (cx hx)
 ·have hm:=Hd c4 ha
  have Ux:=Ar.bC ha
  unfold Ar.may at hm
  split at hm
  ·simp only [zam]at hm
   exact⟨by omega,BO hm.2,nm hm.1⟩
  ·simp only [zam,beq_iff_eq]at hm
   exact⟨by omega,D3 hm.2,by rw[hm.1];simp⟩
theorem D4 {f:Pc} : ∀ {l:List Pc},Pc.ie l=true→f∈l→isName f.name=true∧cL f.vars=true∧cL f.fin=true∧Pm.dR f.params=true
 |s::l,h,m=>by
  simp only[Pc.ie]at h
  split at h
  ·cases h
  split at h
  ·cases h
  rename_i c1 c2
  simp only[zay,zaF,not_or,zaV]at c1 c2
  rcases zan.1 m with rfl|m
  ·exact⟨c1.1.1.1.1,c1.1.2,c1.2,c2⟩
  ·exact D4 h m
theorem SB {p:Pg} (h:p.may=true) (hs:p.size<4611686018427387000):p.lx:=by
 unfold Pg.may at h
 split at h
 ·cases h
 split at h
 ·cases h
 split at h
 ·cases h
 rename_i c1 c2 c3
 simp only[zay,zaF,not_or,zaV]at c1 c2
 have nm : ∀ {t:aA},isName t=true→t.length<4611686018427387904:=fun h=>by have:=wH h;omega
 refine⟨hs,fun t ht=>nm (nq c1.2 ht),fun f hf=>?_,fun i hi=>?_⟩
 ·obtain⟨a,b,c,d⟩:=D4 c2 hf
  exact⟨nm a,fun t ht=>nm (nq b ht),fun t ht=>nm (nq c ht),fun t ht=>nm (D2 d ht)⟩
 ·refine Hf (BP _ _ h hi) ?_
  rcases He _ _ hi with h1|h1
  ·simp at h1
  ·simp only[Pg.size]at hs;omega
theorem O7 {t:aA} (h:isName t=true):t≠ []:=by rintro rfl;cases h
theorem SC (op n:Int) (name:aA) (kids:List Ex):Ex.form ⟨op,n,name,kids⟩=true↔
 lr op=(kids.length:Int)∧(op=1∨n=0)∧0≤n∧(op=2↔name≠ [])∧(name = []∨isName name=true)∧Ex.nK kids=true:=by
 simp only[Ex.form]
 split
 ·rename_i h
  simp only[zay,zam,bne_iff_ne,ne_eq,decide_eq_true_eq,zaF]at h
  refine⟨fun h=>(Bool.false_ne_true h).elim,fun⟨h1,h2,h3,h4,h5,_⟩=>?_⟩
  exfalso
  rcases h with (((h|h)|h)|h)|h
  ·exact h h1
  ·rcases h2 with h2 | h2
   ·exact h.1 h2
   ·exact h.2 h2
  ·omega
  ·by_cases h2:op=2<;>cases name<;>simp_all
  ·rcases h5 with h5 | h5
   ·subst h5;simp at h
   ·rw[h5]at h;simp at h
 ·rename_i h
  simp only[zay,zam,bne_iff_ne,ne_eq,decide_eq_true_eq,zaF,not_or,not_and,Decidable.not_not,zaV]at h
  obtain⟨⟨⟨⟨h1,h2⟩,h3⟩,h4⟩,h5⟩:=h
  refine⟨fun h=>⟨h1, ?_,by omega, ?_, ?_,h⟩,fun h=>h.2.2.2.2.2⟩
  ·by_cases h:op=1
   ·exact .inl h
   ·exact .inr (h2 h)
  ·by_cases h2:op=2<;>cases name<;>simp_all
  ·cases name with
   |nil=>exact .inl rfl
   |cons c r=>exact .inr (h5 rfl)
theorem YN (op n:Int) (name:aA) (kids:List Ex) (k:Int):Ex.dp k ⟨op,n,name,kids⟩=true↔
 1≤k∧(kids.length:Int)=lr op∧(if op=1 then 0≤n∧name = []else if op=2 then n=0∧isName name=true else n=0∧name = []∧Ex.BI (k - 1) kids=true):=by
 simp only[Ex.dp]
 split
 ·rename_i h
  simp only[zay,decide_eq_true_eq,bne_iff_ne,ne_eq]at h
  refine⟨fun h=>(Bool.false_ne_true h).elim,fun⟨h1,h2,_⟩=>?_⟩
  rcases h with h|h
  ·omega
  ·exact(h h2).elim
 rename_i h
 simp only[zay,decide_eq_true_eq,bne_iff_ne,ne_eq,not_or,Decidable.not_not]at h
 have h1:1≤k:=by omega
 simp only[h1,h.2,true_and]
 by_cases o1:op=1
 ·subst o1
  cases name<;>simp
 ·have o1' : ¬ (op==1)=true:=by simpa using o1
  rw[if_neg o1',if_neg o1]
  by_cases o2:op=2
  ·subst o2;simp
  ·have o2' : ¬ (op==2)=true:=by simpa using o2
   rw[if_neg o2',if_neg o2]
   by_cases hn:n=0
   ·subst hn
    cases name<;>simp
   ·simp[hn]
mutual
theorem Uy : ∀ (x:Ex) (k:Int),0≤k→(x.dp k=true↔(x.depth:Int)≤k∧x.form=true)
 | ⟨op,n,name,kids⟩,k,hk=>by
  rw[YN,SC]
  have hd:Ex.depth ⟨op,n,name,kids⟩=Ex.gh kids+1:=by simp only[Ex.depth]
  rw[hd]
  by_cases h1:1≤k
  ·have ih:=O8 kids (k - 1) (by omega)
   by_cases o1:op=1
   ·subst o1
    have ha:lr 1=0:=rfl
    rw[ha,if_pos rfl]
    constructor
    ·rintro⟨_,h2,h3,h4⟩
     have:kids = []:=zbe (by omega)
     subst this;subst h4
     simp[Ex.gh,Ex.nK,h3];omega
    ·rintro⟨h2,h3,_,h4,h5,_⟩
     refine⟨h1,h3.symm,h4, ?_⟩
     cases name
     ·rfl
     ·simp at h5
   ·rw [if_neg o1]
    by_cases o2:op=2
    ·subst o2
     have ha:lr 2=0:=rfl
     rw[ha,if_pos rfl]
     constructor
     ·rintro⟨_,h2,h3,h4⟩
      have:kids = []:=zbe (by omega)
      subst this;subst h3
      have:=O7 h4
      simp[Ex.gh,Ex.nK,h4,this];omega
     ·rintro⟨h2,h3,h4,_,h5,h6,_⟩
      refine⟨h1,h3.symm,h4.resolve_left o1, ?_⟩
      exact h6.resolve_left (h5.1 rfl)
    ·rw [if_neg o2,ih]
     constructor
     ·rintro⟨_,h2,h3,h4,h5,h6⟩
      subst h3;subst h4
      exact⟨by omega,h2.symm, .inr rfl,zaY _,by simp[o2], .inl rfl,h6⟩
     ·rintro⟨h2,h3,h4,_,h5,h6,h7⟩
      refine⟨h1,h3.symm,h4.resolve_left o1, ?_,by omega,h7⟩
      exact Decidable.byContradiction fun h=>o2 (h5.2 h)
  ·constructor
   ·rintro⟨h,_⟩;exact(h1 h).elim
   ·rintro⟨h,_⟩;omega
theorem O8 : ∀ (l:List Ex) (k:Int),0≤k→(Ex.BI k l=true↔(Ex.gh l:Int)≤k∧Ex.nK l=true)
 | [],k,hk=>by simp[Ex.BI,Ex.gh,Ex.nK,hk]
 | x::l,k,hk=>by
  have h1:=Uy x k hk
  have h2:=O8 l k hk
  have hd:Ex.gh (x::l)=max x.depth (Ex.gh l):=by simp only[Ex.gh]
  rw[hd]
  simp only[Ex.BI,Ex.nK]
  cases hx:Ex.dp k x
  ·simp only [zaB, ↓reduceIte,zab,false_iff,not_and]
   intro h3
   have : ¬ ((x.depth:Int)≤k∧x.form=true):=by rw[← h1,hx];simp
   have hf:x.form=false:=by
    cases hf:x.form
    ·rfl
    ·exact(this ⟨by omega,hf⟩).elim
   simp[hf]
  ·have:=h1.1 hx
   simp only[zax,zab,↓reduceIte,this.2,h2]
   have h3:=this.1
   refine and_congr_left fun _=>?_
   omega
end
theorem O9 (x:Ex):x.dp 20=x.may:=by
 rw[Bool.eq_iff_iff,Uy x 20 (by omega)]
 unfold Ex.may
 simp only[zam,decide_eq_true_eq]
 refine and_congr_left fun _=>?_
 omega
theorem D5 (x:Ex) (b:Bool):sS x b=if b then x.may else x.none:=by
 unfold sS
 rw[O9]
 cases b<;>simp
theorem D6 (t:aA) (b:Bool):pK t b=if b then isName t else t == []:=by
 unfold pK
 cases b<;>simp
theorem z7 : ∀ l:List Ar,nM l=Ar.dR l
 | []=>rfl
 |a::l=>by
  simp only[nM,Ar.dR,Ar.may,D5,D6,z7 l]
  grind
theorem XD {α:Type} (l:List α):((l.length:Int)==0) = !(decide ((l.length:Int) > 0)):=by
 cases l with
 |nil=>rfl
 |cons a l=>
  have h1:(((a::l).length:Int)==0)=false:=by simp only[zal,beq_eq_false_iff_ne];omega
  have h2:decide (((a::l).length:Int) > 0)=true:=by simp only[zal,decide_eq_true_eq];omega
  rw[h1,h2];rfl
theorem BQ (s:Sm):s.one=(cL s.labels && s.fields):=by
 have hk:s.kind=1∨s.kind=2∨s.kind=3∨s.kind=4∨s.kind=5∨s.kind=6∨s.kind=7∨s.kind=8∨s.kind=9∨s.kind=10∨s.kind<1∨s.kind > 10:=by omega
 unfold Sm.one Sm.fields Sm.flags Sm.uJ Sm.hasName Sm.oj
 have p1:isName [] = false:=rfl
 rcases hk with h|h|h|h|h|h|h|h|h|h|h|h
 all_goals
  simp only[h,XD,z7,D5,D6,Sm.Fv,Sm.Fu]
  grind
mutual
def Ex.gG (out:List aA):Ex→List aA
 |⟨op,_,name,kids⟩=>Ex.fR (if op==2 && !(dg out name)then out++ [name]else out) kids
def Ex.fR (out:List aA):List Ex→List aA
 | []=>out
 |x::l=>Ex.fR (Ex.gG out x) l
end
def Ex.names (x:Ex):List aA:=if x.may then x.gG []else []
mutual
theorem kY (out:List aA) : ∀ x:Ex,(Ex.gG out x).length≤out.length+x.size
 |⟨op,n,name,kids⟩=>by
  simp only[Ex.gG,Ex.size]
  have h:=D7 (if op==2 && !(dg out name)then out++ [name]else out) kids
  refine zbb h ?_
  split<;>simp<;>omega
theorem D7 (out:List aA) : ∀ l:List Ex,(Ex.fR out l).length≤out.length+Ex.aM l
 | []=>by simp[Ex.fR,Ex.aM]
 |x::l=>by
  simp only[Ex.fR,Ex.aM]
  have h1:=kY out x
  have h2:=D7 (Ex.gG out x) l
  omega
end
def kI (out:List aA) (x:aA):List aA:=if dg out x then out else out++ [x]
def pL (x:aA):List aA→Bool
 | []=>false
 |s::l=>if s==x then true else pL x l
theorem yy (x:aA) : ∀ l:List aA,pL x l=dg l x
 | []=>rfl
 | s::l=>by
  have h1:=eD (s::l) x
  have h2:=eD l x
  have h3:=yy x l
  simp only[pL]
  by_cases e:s=x
  ·subst e;simp only[beq_self_eq_true,if_true];exact(h1.2 zaD).symm
  ·have e':(s==x)=false:=by simp [e]
   simp only[e',zab,if_false,h3]
   cases ha:dg l x<;>cases hb:dg (s::l) x<;>simp_all [Ne.symm e]
theorem SD {out:List aA} (hl:out.length<1000000000) (x:aA):ay Tryz.prog 208 [.slice (.tok 0) 1 (out.map encStr), .str x] ⟨[],[some out.length]⟩ (.slice (.tok 0) 1 ((kI out x).map encStr)) ⟨[],[some (kI out x).length]⟩:=by
 rw[kI, ← yy]
 cases h:pL x out
 all_goals
  simp only[zab,if_false,if_true]
  refine ay.go tO.h rfl fun B Q hB hQ=>?_
  have⟨hF,hP,hZ,gA⟩:=bD
  have hZ:(out.length+1)*17≤aT:=by unfold aT;omega
  repeat' (first
 |simp only[go_sem,hF,hP,hZ,gA]
 |(with_reducible first|refine bj fun hc=>?_|refine bk fun hc=>?_|refine bl (fun hc=>?_) fun hc=>?_)<;>(try simp only[hc,bs,↓reduceIte]at h)<;>try simp only[hc]
 |((with_reducible refine az hQ ?_);exact dv)
 | (cases h;done))
  refine cr 0 1 (aY.ind (ι:=List aA×Nat) (fun i=>out.drop i.2=i.1∧pL x i.1=_) (fun i=>i.1.length)
   (fun i=> [(0, .slice (.tok 0) 1 (out.map encStr)),(1, .str x),(7, .slice (.tok 0) 1 (out.map encStr)),(8, .int .i64 (out.length:Int)),(9, .int .i64 (i.2:Int))]) (fun i=>⟨[],[some out.length]⟩) ?_ (out,0) ⟨rfl,h⟩)
  rintro⟨rest,k⟩ ⟨h1,h⟩ IH
  dsimp only at h1 h
  cases rest with
  |nil=>
   have hF:=drop_nil h1
   simp only[pL]at h
   repeat' (first
 |simp only[go_sem,hF,hP,hZ,gA,zah,zaf,zaj,zai,zal,zaE,encStr]
 |(with_reducible first|refine bj fun hc=>?_|refine bk fun hc=>?_|refine bl (fun hc=>?_) fun hc=>?_)<;>(try simp only[hc,bs,↓reduceIte]at h)<;>try simp only[hc]
 |((with_reducible refine az hQ ?_);(try cases h);simp only[bt,bx,bY,bZ,go_sem,hF,hP,hZ,gA,zah,zaf,zaj,zai,zal,zaE,encStr];try exact cB)
 | (cases h;done))
  |cons a rest=>
   obtain⟨hP,g2,hF,g4⟩:=drop_cons h1
   have bH:k<4611686018427387904:=by omega
   simp only[pL]at h
   repeat' (first
 |simp only[go_sem,hF,hP,hZ,gA]
 |(with_reducible first|refine bj fun hc=>?_|refine bk fun hc=>?_|refine bl (fun hc=>?_) fun hc=>?_)<;>(try simp only[hc,bs,↓reduceIte]at h)<;>try simp only[hc]
 |((with_reducible refine az hQ ?_);exact dv)
 | (cases h;done))
   refine cD 0 1 ?_ ?_ (IH (rest,k+1) ⟨g2,h⟩ (zaa _))
   ·(simp only[go_sem,hF,hP,hZ,gA,aC bH];try exact bd)
   ·(simp only[go_sem,hF,hP,hZ,gA,aC bH];try exact bd)
theorem SE {out:List aA} (hl:out.length<1000000000) (x:aA) {s:St} {t:Nat} (ht:s.aw[t]? = some (some out.length)):ay Tryz.prog 208 [.slice (.tok t) 1 (out.map encStr), .str x] s (.slice (.tok t) 1 ((kI out x).map encStr)) ⟨s.av,s.aw.set t (some (kI out x).length)⟩:=
 (SD hl x).Lb (pre:= []) (post:= [_]) rfl rfl (dd out) (dd _) ht
abbrev Pa (N:Nat):Prop:=∀ (x:Ex),x.size≤N→∀ out:List aA,out.length+x.size≤1000000000→∀ {s:St} {t:Nat},s.aw[t]? = some (some out.length)→
 ay Tryz.prog 192 [.agg (bA x), .slice (.tok t) 1 (out.map encStr)] s (.slice (.tok t) 1 ((x.gG out).map encStr)) ⟨s.av,s.aw.set t (some (x.gG out).length)⟩
theorem YO {N:Nat} (ih:Pa N) {op m:Int} {name:aA} {kids:List Ex} (h:Ex.size ⟨op,m,name,kids⟩≤N+1) {out:List aA} (ho:out.length+Ex.size ⟨op,m,name,kids⟩≤1000000000) :
 ay Tryz.prog 192 [.agg (bA ⟨op,m,name,kids⟩), .slice (.tok 0) 1 (out.map encStr)] ⟨[],[some out.length]⟩ (.slice (.tok 0) 1 ((Ex.gG out ⟨op,m,name,kids⟩).map encStr)) ⟨[],[some (Ex.gG out ⟨op,m,name,kids⟩).length]⟩:=by
 obtain⟨R,hG⟩ : ∃ R,Ex.gG out ⟨op,m,name,kids⟩=R:=⟨_,rfl⟩
 rw[hG]
 simp only[Ex.gG]at hG
 simp only[Ex.size]at h ho
 have hlen:kids.length<1000000000:=by have:=Ex.cd kids;omega
 have hk : ∀ y∈kids,∀ out:List aA,out.length+y.size≤1000000000→∀ {s:St} {t:Nat},s.aw[t]? = some (some out.length)→
  ay Tryz.prog 192 [.agg (bA y), .slice (.tok t) 1 (out.map encStr)] s (.slice (.tok t) 1 ((y.gG out).map encStr)) ⟨s.av,s.aw.set t (some (y.gG out).length)⟩:=fun y hy out ho=>
  ih y (by have:=Ex.bC hy;omega) out ho
 refine ay.go pG.h rfl fun B Q hB hQ=>?_
 have⟨hF,hP,hZ,gA⟩:=bD
 have hZ:(out.length+1)*17≤aT:=by unfold aT;omega
 rcases zad (op==2)with b1|b1
 ·rcases zad (dg out name)with b2 | b2
  ·simp only [b1,b2,zax,Bool.and_false,zab,if_false]at hG
   repeat' (first
 |simp only[go_sem,hF,hP,hZ,gA,b1,b2]
 |(with_reducible refine CU (iz (l:=out) (by omega) name _ _) ?_)
 | (with_reducible refine az hQ ?_;exact aR))
   refine cr 1 1 (aY.ind (ι:=List Ex×Nat×List aA×Nat) (fun i=>kids.drop i.2.1=i.1∧Ex.fR i.2.2.1 i.1=R∧i.2.2.1.length+Ex.aM i.1≤1000000000∧i.2.2.2=i.2.2.1.length) (fun i=>i.1.length)
    (fun i=> [(1, .slice (.tok 0) 1 (i.2.2.1.map encStr)),(2, .ptr 0 0),(23, .slice .shared 4 (kids.map bA)),(24, .int .i64 (kids.length:Int)),(25, .int .i64 (i.2.1:Int))]) (fun i=>⟨[bA ⟨op,m,name,kids⟩],[some i.2.2.2]⟩) ?_ (kids,0,out,out.length) ⟨rfl,hG,by simp;omega,by simp⟩)
   rintro⟨rest,k,bV,n'⟩ ⟨h1,h2,h3,h4⟩ IH
   dsimp only at h1 h2 h3 h4
   subst h4
   cases rest with
   |nil=>
    have hF:=drop_nil h1
    simp only[Ex.fR]at h2
    subst h2
    repeat' (first
 |simp only[go_sem,hF,hP,hZ,gA]
 | (with_reducible refine az hQ ?_;exact aR))
   |cons y rest=>
    obtain⟨hP,g2,hF,g4⟩:=drop_cons h1
    have bH:k<4611686018427387904:=by omega
    simp only[Ex.fR]at h2
    simp only[Ex.aM]at h3
    have hy:=fun {s:St} {t:Nat} (ht:s.aw[t]? = some (some bV.length))=>hk y (zac hP) bV (by omega) ht
    have hl:=kY bV y
    repeat' (first
 |simp only[go_sem,hF,hP,hZ,gA]
 |(with_reducible refine CU (hy (by with_unfolding_all rfl)) ?_)
 | (with_reducible refine az hQ ?_;exact aR))
    refine cD 1 1 ?_ ?_ (IH (rest,k+1,_,_) ⟨g2,h2,by dsimp only;omega,rfl⟩ (zaa _))
    ·(simp only[go_sem,hF,hP,hZ,gA,aC bH];try exact bd)
    ·(simp only[go_sem,hF,hP,hZ,gA,aC bH];try exact bd)
  ·simp only [b1,b2,zaB,zbu,if_true]at hG
   repeat' (first
 |simp only[go_sem,hF,hP,hZ,gA,b1,b2]
 |(with_reducible refine CU (iz (l:=out) (by omega) name _ _) ?_)
 | (with_reducible refine az hQ ?_;exact aR))
   refine cD 1 1 ?_ ?_ (aY.ind (ι:=List Ex×Nat×List aA×Nat) (fun i=>kids.drop i.2.1=i.1∧Ex.fR i.2.2.1 i.1=R∧i.2.2.1.length+Ex.aM i.1≤1000000000∧i.2.2.2=i.2.2.1.length) (fun i=>i.1.length)
    (fun i=> [(1, .slice (.tok 0) 1 (i.2.2.1.map encStr)),(2, .ptr 0 0),(23, .slice .shared 4 (kids.map bA)),(24, .int .i64 (kids.length:Int)),(25, .int .i64 (i.2.1:Int))]) (fun i=>⟨[bA ⟨op,m,name,kids⟩],[some i.2.2.2]⟩) ?_ (kids,0,(out++ [name]),(out.length+1)) ⟨rfl,hG,by simp;omega,by simp⟩)
   ·(simp only[go_sem,hF,hP,hZ,gA,zah,zaf,zaj,zai,zal,zaE,encStr];try exact bd)
   ·(simp only[go_sem,hF,hP,hZ,gA,zah,zaf,zaj,zai,zal,zaE,encStr];try exact bd)
   rintro⟨rest,k,bV,n'⟩ ⟨h1,h2,h3,h4⟩ IH
   dsimp only at h1 h2 h3 h4
   subst h4
   cases rest with
   |nil=>
    have hF:=drop_nil h1
    simp only[Ex.fR]at h2
    subst h2
    repeat' (first
 |simp only[go_sem,hF,hP,hZ,gA]
 | (with_reducible refine az hQ ?_;exact aR))
   |cons y rest=>
    obtain⟨hP,g2,hF,g4⟩:=drop_cons h1
    have bH:k<4611686018427387904:=by omega
    simp only[Ex.fR]at h2
    simp only[Ex.aM]at h3
    have hy:=fun {s:St} {t:Nat} (ht:s.aw[t]? = some (some bV.length))=>hk y (zac hP) bV (by omega) ht
    have hl:=kY bV y
    repeat' (first
 |simp only[go_sem,hF,hP,hZ,gA]
 |(with_reducible refine CU (hy (by with_unfolding_all rfl)) ?_)
 | (with_reducible refine az hQ ?_;exact aR))
    refine cD 1 1 ?_ ?_ (IH (rest,k+1,_,_) ⟨g2,h2,by dsimp only;omega,rfl⟩ (zaa _))
    ·(simp only[go_sem,hF,hP,hZ,gA,aC bH];try exact bd)
    ·(simp only[go_sem,hF,hP,hZ,gA,aC bH];try exact bd)
 ·simp only [b1,zbi,zab,if_false]at hG
  repeat' (first
 |simp only[go_sem,hF,hP,hZ,gA,b1]
 | (with_reducible refine az hQ ?_;exact aR))
  refine cr 1 1 (aY.ind (ι:=List Ex×Nat×List aA×Nat) (fun i=>kids.drop i.2.1=i.1∧Ex.fR i.2.2.1 i.1=R∧i.2.2.1.length+Ex.aM i.1≤1000000000∧i.2.2.2=i.2.2.1.length) (fun i=>i.1.length)
   (fun i=> [(1, .slice (.tok 0) 1 (i.2.2.1.map encStr)),(2, .ptr 0 0),(23, .slice .shared 4 (kids.map bA)),(24, .int .i64 (kids.length:Int)),(25, .int .i64 (i.2.1:Int))]) (fun i=>⟨[bA ⟨op,m,name,kids⟩],[some i.2.2.2]⟩) ?_ (kids,0,out,out.length) ⟨rfl,hG,by simp;omega,by simp⟩)
  rintro⟨rest,k,bV,n'⟩ ⟨h1,h2,h3,h4⟩ IH
  dsimp only at h1 h2 h3 h4
  subst h4
  cases rest with
  |nil=>
   have hF:=drop_nil h1
   simp only[Ex.fR]at h2
   subst h2
   repeat' (first
 |simp only[go_sem,hF,hP,hZ,gA]
 | (with_reducible refine az hQ ?_;exact aR))
  |cons y rest=>
   obtain⟨hP,g2,hF,g4⟩:=drop_cons h1
   have bH:k<4611686018427387904:=by omega
   simp only[Ex.fR]at h2
   simp only[Ex.aM]at h3
   have hy:=fun {s:St} {t:Nat} (ht:s.aw[t]? = some (some bV.length))=>hk y (zac hP) bV (by omega) ht
   have hl:=kY bV y
   repeat' (first
 |simp only[go_sem,hF,hP,hZ,gA]
 |(with_reducible refine CU (hy (by with_unfolding_all rfl)) ?_)
 | (with_reducible refine az hQ ?_;exact aR))
   refine cD 1 1 ?_ ?_ (IH (rest,k+1,_,_) ⟨g2,h2,by dsimp only;omega,rfl⟩ (zaa _))
   ·(simp only[go_sem,hF,hP,hZ,gA,aC bH];try exact bd)
   ·(simp only[go_sem,hF,hP,hZ,gA,aC bH];try exact bd)
theorem SF : ∀ N,Pa N:=by
 intro N
 induction N with
 |zero=>rintro⟨op,m,name,kids⟩ h;simp only[Ex.size]at h;omega
 |succ N ih=>
  rintro⟨op,m,name,kids⟩ h out ho s t ht
  exact(YO ih h ho).Lb (pre:= [_]) (post:= []) (by simp only[D.bg,D.ok,fK];rfl) rfl (dd out) (dd _) ht
abbrev Jw (N:Nat):Prop:=∀ (x:Ex),x.size≤N→∀ out:List aA,out.length+x.size≤1000000000→∀ {s:St} {t:Nat},s.aw[t]? = some (some out.length)→
 ay Tryz.prog 175 [.agg (bA x), .slice (.tok t) 1 (out.map encStr)] s (.slice (.tok t) 1 ((x.gG out).map encStr)) ⟨s.av,s.aw.set t (some (x.gG out).length)⟩
theorem V8 {N:Nat} (ih:Jw N) {op m:Int} {name:aA} {kids:List Ex} (h:Ex.size ⟨op,m,name,kids⟩≤N+1) {out:List aA} (ho:out.length+Ex.size ⟨op,m,name,kids⟩≤1000000000) :
 ay Tryz.prog 175 [.agg (bA ⟨op,m,name,kids⟩), .slice (.tok 0) 1 (out.map encStr)] ⟨[],[some out.length]⟩ (.slice (.tok 0) 1 ((Ex.gG out ⟨op,m,name,kids⟩).map encStr)) ⟨[],[some (Ex.gG out ⟨op,m,name,kids⟩).length]⟩:=by
 obtain⟨R,hG⟩ : ∃ R,Ex.gG out ⟨op,m,name,kids⟩=R:=⟨_,rfl⟩
 rw[hG]
 simp only[Ex.gG]at hG
 simp only[Ex.size]at h ho
 have hlen:kids.length<1000000000:=by have:=Ex.cd kids;omega
 have hk : ∀ y∈kids,∀ out:List aA,out.length+y.size≤1000000000→∀ {s:St} {t:Nat},s.aw[t]? = some (some out.length)→
  ay Tryz.prog 175 [.agg (bA y), .slice (.tok t) 1 (out.map encStr)] s (.slice (.tok t) 1 ((y.gG out).map encStr)) ⟨s.av,s.aw.set t (some (y.gG out).length)⟩:=fun y hy out ho=>
  ih y (by have:=Ex.bC hy;omega) out ho
 have ra:=fun {s:St} {t:Nat} (ht:s.aw[t]? = some (some out.length))=>SE (out:=out) (by omega) name ht
 refine ay.go rH.h rfl fun B Q hB hQ=>?_
 have⟨hF,hP,hZ,gA⟩:=bD
 have hZ:(out.length+1)*17≤aT:=by unfold aT;omega
 rcases zad (op==2)with b1|b1
 ·rcases zad (dg out name)with b2 | b2
  ·simp only [b1,b2,zax,Bool.and_false,zab,if_false]at hG
   simp only[kI,b2,if_true]at ra
   repeat' (first
 |simp only[go_sem,hF,hP,hZ,gA,b1,b2]
 |(with_reducible refine CU (ra (by with_unfolding_all rfl)) ?_)
 | (with_reducible refine az hQ ?_;exact aR))
   refine cr 1 1 (aY.ind (ι:=List Ex×Nat×List aA×Nat) (fun i=>kids.drop i.2.1=i.1∧Ex.fR i.2.2.1 i.1=R∧i.2.2.1.length+Ex.aM i.1≤1000000000∧i.2.2.2=i.2.2.1.length) (fun i=>i.1.length)
    (fun i=> [(1, .slice (.tok 0) 1 (i.2.2.1.map encStr)),(2, .ptr 0 0),(15, .int .i64 (kids.length:Int)),(16, .int .i64 (i.2.1:Int))]) (fun i=>⟨[bA ⟨op,m,name,kids⟩],[some i.2.2.2]⟩) ?_ (kids,0,out,out.length) ⟨rfl,hG,by simp;omega,by simp⟩)
   rintro⟨rest,k,bV,n'⟩ ⟨h1,h2,h3,h4⟩ IH
   dsimp only at h1 h2 h3 h4
   subst h4
   cases rest with
   |nil=>
    have hF:=drop_nil h1
    simp only[Ex.fR]at h2
    subst h2
    repeat' (first
 |simp only[go_sem,hF,hP,hZ,gA]
 | (with_reducible refine az hQ ?_;exact aR))
   |cons y rest=>
    obtain⟨hP,g2,hF,g4⟩:=drop_cons h1
    have bH:k<4611686018427387904:=by omega
    simp only[Ex.fR]at h2
    simp only[Ex.aM]at h3
    have hy:=fun {s:St} {t:Nat} (ht:s.aw[t]? = some (some bV.length))=>hk y (zac hP) bV (by omega) ht
    have hl:=kY bV y
    repeat' (first
 |simp only[go_sem,hF,hP,hZ,gA]
 |(with_reducible refine CU (hy (by with_unfolding_all rfl)) ?_)
 | (with_reducible refine az hQ ?_;exact aR))
    refine cD 1 1 ?_ ?_ (IH (rest,k+1,_,_) ⟨g2,h2,by dsimp only;omega,rfl⟩ (zaa _))
    ·(simp only[go_sem,hF,hP,hZ,gA,aC bH];try exact bd)
    ·(simp only[go_sem,hF,hP,hZ,gA,aC bH];try exact bd)
  ·simp only [b1,b2,zaB,zbu,if_true]at hG
   simp only[kI,b2,zab,if_false,zai,zal,zaE]at ra
   repeat' (first
 |simp only[go_sem,hF,hP,hZ,gA,b1,b2]
 |(with_reducible refine CU (ra (by with_unfolding_all rfl)) ?_)
 | (with_reducible refine az hQ ?_;exact aR))
   refine cD 1 1 ?_ ?_ (aY.ind (ι:=List Ex×Nat×List aA×Nat) (fun i=>kids.drop i.2.1=i.1∧Ex.fR i.2.2.1 i.1=R∧i.2.2.1.length+Ex.aM i.1≤1000000000∧i.2.2.2=i.2.2.1.length) (fun i=>i.1.length)
    (fun i=> [(1, .slice (.tok 0) 1 (i.2.2.1.map encStr)),(2, .ptr 0 0),(15, .int .i64 (kids.length:Int)),(16, .int .i64 (i.2.1:Int))]) (fun i=>⟨[bA ⟨op,m,name,kids⟩],[some i.2.2.2]⟩) ?_ (kids,0,(out++ [name]),(out.length+1)) ⟨rfl,hG,by simp;omega,by simp⟩)
   ·(simp only[go_sem,hF,hP,hZ,gA,zah,zaf,zaj,zai,zal,zaE,encStr];try exact bd)
   ·(simp only[go_sem,hF,hP,hZ,gA,zah,zaf,zaj,zai,zal,zaE,encStr];try exact bd)
   rintro⟨rest,k,bV,n'⟩ ⟨h1,h2,h3,h4⟩ IH
   dsimp only at h1 h2 h3 h4
   subst h4
   cases rest with
   |nil=>
    have hF:=drop_nil h1
    simp only[Ex.fR]at h2
    subst h2
    repeat' (first
 |simp only[go_sem,hF,hP,hZ,gA]
 | (with_reducible refine az hQ ?_;exact aR))
   |cons y rest=>
    obtain⟨hP,g2,hF,g4⟩:=drop_cons h1
    have bH:k<4611686018427387904:=by omega
    simp only[Ex.fR]at h2
    simp only[Ex.aM]at h3
    have hy:=fun {s:St} {t:Nat} (ht:s.aw[t]? = some (some bV.length))=>hk y (zac hP) bV (by omega) ht
    have hl:=kY bV y
    repeat' (first
 |simp only[go_sem,hF,hP,hZ,gA]
 |(with_reducible refine CU (hy (by with_unfolding_all rfl)) ?_)
 | (with_reducible refine az hQ ?_;exact aR))
    refine cD 1 1 ?_ ?_ (IH (rest,k+1,_,_) ⟨g2,h2,by dsimp only;omega,rfl⟩ (zaa _))
    ·(simp only[go_sem,hF,hP,hZ,gA,aC bH];try exact bd)
    ·(simp only[go_sem,hF,hP,hZ,gA,aC bH];try exact bd)
 ·simp only [b1,zbi,zab,if_false]at hG
  repeat' (first
 |simp only[go_sem,hF,hP,hZ,gA,b1]
 | (with_reducible refine az hQ ?_;exact aR))
  refine cr 1 1 (aY.ind (ι:=List Ex×Nat×List aA×Nat) (fun i=>kids.drop i.2.1=i.1∧Ex.fR i.2.2.1 i.1=R∧i.2.2.1.length+Ex.aM i.1≤1000000000∧i.2.2.2=i.2.2.1.length) (fun i=>i.1.length)
   (fun i=> [(1, .slice (.tok 0) 1 (i.2.2.1.map encStr)),(2, .ptr 0 0),(15, .int .i64 (kids.length:Int)),(16, .int .i64 (i.2.1:Int))]) (fun i=>⟨[bA ⟨op,m,name,kids⟩],[some i.2.2.2]⟩) ?_ (kids,0,out,out.length) ⟨rfl,hG,by simp;omega,by simp⟩)
  rintro⟨rest,k,bV,n'⟩ ⟨h1,h2,h3,h4⟩ IH
  dsimp only at h1 h2 h3 h4
  subst h4
  cases rest with
  |nil=>
   have hF:=drop_nil h1
   simp only[Ex.fR]at h2
   subst h2
   repeat' (first
 |simp only[go_sem,hF,hP,hZ,gA]
 | (with_reducible refine az hQ ?_;exact aR))
  |cons y rest=>
   obtain⟨hP,g2,hF,g4⟩:=drop_cons h1
   have bH:k<4611686018427387904:=by omega
   simp only[Ex.fR]at h2
   simp only[Ex.aM]at h3
   have hy:=fun {s:St} {t:Nat} (ht:s.aw[t]? = some (some bV.length))=>hk y (zac hP) bV (by omega) ht
   have hl:=kY bV y
   repeat' (first
 |simp only[go_sem,hF,hP,hZ,gA]
 |(with_reducible refine CU (hy (by with_unfolding_all rfl)) ?_)
 | (with_reducible refine az hQ ?_;exact aR))
   refine cD 1 1 ?_ ?_ (IH (rest,k+1,_,_) ⟨g2,h2,by dsimp only;omega,rfl⟩ (zaa _))
   ·(simp only[go_sem,hF,hP,hZ,gA,aC bH];try exact bd)
   ·(simp only[go_sem,hF,hP,hZ,gA,aC bH];try exact bd)
theorem Pb : ∀ N,Jw N:=by
 intro N
 induction N with
 |zero=>rintro⟨op,m,name,kids⟩ h;simp only[Ex.size]at h;omega
 |succ N ih=>
  rintro⟨op,m,name,kids⟩ h out ho s t ht
  exact(V8 ih h ho).Lb (pre:= [_]) (post:= []) (by simp only[D.bg,D.ok,fK];rfl) rfl (dd out) (dd _) ht
theorem iU {size bytes:Nat} {rows:List (List D)} (h:rows≠ []) (hl:rows.length*(bytes+1)≤aT) {z:Nat} {g:Tag} (o:List (List D)) (T:List (Option Nat)) :
 gV size bytes (.slice .full z []) (.slice g size rows) ⟨o,T⟩=some (.slice (.tok T.length) size rows,⟨o,T++ [some rows.length]⟩):=by
 cases rows with
 |nil=>exact absurd rfl h
 |cons x r=>simp only[zal]at hl;simp[gV,hl]
theorem iV {size bytes z z':Nat} {g:Tag} (o:List (List D)) (T:List (Option Nat)) :
 gV size bytes (.slice .full z []) (.slice g z' []) ⟨o,T⟩=some (.slice .full z [],⟨o,T⟩):=by simp[gV,aT]
theorem fk {l:List aA} (hl:l.length≤10000000) (s:St):ay Tryz.prog 144 [.slice .shared 1 (l.map encStr)] s (.slice .shared 1 (l.map encStr)) s:=by
 refine ay.pure ?_ (by simp[D.bg,D.ok,dd,Tag.ok]) (by rw[D.ok,dd];rfl) s
 unfold S0
 cases l with
 |nil=>
  simp only[zaj]
  have ha:=fun o T=>iV (size:=1) (bytes:=16) (z:=0) (z':=1) (g:= .shared) o T
  refine ay.go vD.h rfl fun B Q hB hQ=>?_
  have⟨hF,hP,hZ,gA⟩:=bD
  repeat' (first
 |simp only[go_sem,hF,hP,hZ,gA,ha]
 |(with_reducible first|refine bj fun hc=>?_|refine bk fun hc=>?_|refine bl (fun hc=>?_) fun hc=>?_)<;>(try simp only[hc,bs,↓reduceIte]at h)<;>try simp only[hc]
 |(with_reducible refine az hQ ?_;simp only[bt,bx,bY,bZ,go_sem,hF,hP,hZ,gA,ha];try exact cB))
 |cons x l=>
  have ha:=fun o T=>iU (size:=1) (bytes:=16) (rows:=(x::l).map encStr) (by simp) (by simp only[zat];unfold aT;omega) (z:=0) (g:= .shared) o T
  have hf:=GQ 0 0 (x::l)
  generalize (x::l).map encStr=R at *
  refine ay.go vD.h rfl fun B Q hB hQ=>?_
  have⟨hF,hP,hZ,gA⟩:=bD
  repeat' (first
 |simp only[go_sem,hF,hP,hZ,gA,ha,hf]
 |(with_reducible first|refine bj fun hc=>?_|refine bk fun hc=>?_|refine bl (fun hc=>?_) fun hc=>?_)<;>(try simp only[hc,bs,↓reduceIte]at h)<;>try simp only[hc]
 |(with_reducible refine az hQ ?_;simp only[bt,bx,bY,bZ,go_sem,hF,hP,hZ,gA,ha,hf];try exact cB))
theorem Mx : ∀ n,n<1073741824→∀ x:Ex,x.size≤n→ay Tryz.prog 176 [.agg (bA x)] S0 (.agg (bA x)) S0:=by
 intro n
 induction n with
 |zero=>rintro _ ⟨op,m,name,kids⟩ h;simp only[Ex.size]at h;omega
 |succ n OP=>
 rintro hn ⟨op,m,name,kids⟩ hx
 have hk : ∀ y∈kids,∀ s,ay Tryz.prog 176 [.agg (bA y)] s (.agg (bA y)) s:=fun y hy s=>
  (OP (by omega) y (by simp only[Ex.size]at hx;have:=Ex.bC hy;omega)).pure (by simp[D.bg,D.ok,fK]) (by simp[D.ok,fK]) s
 have hlen:kids.length<1073741824:=by simp only[Ex.size]at hx;have:=Ex.cd kids;omega
 unfold S0
 refine ay.go zH.h rfl fun B Q hB hQ=>?_
 have⟨hF,hP,hZ,gA⟩:=bD
 repeat' (first
 |simp only[go_sem,hF,hP,hZ,gA]
 |(with_reducible refine az hQ ?_;exact aR))
 refine aY.qk 2 3 4 rfl rfl ?_
 simp only[go_sem,hF,hP,hZ,gA]
 refine cr 3 1 (aY.ind (ι:=List Ex×Nat×List Ex) (fun i=>kids.drop i.2.1=i.1∧i.2.1=i.2.2.length∧i.2.2++i.1=kids) (fun i=>i.1.length)
  (fun i=> [(1, .ptr 0 0),(2, .ptr 1 0),(3, .ptr 2 0),(14, .int .i64 (kids.length:Int)),(15, .int .i64 (i.2.1:Int))])
  (fun i=>⟨[bA ⟨op,m,name,kids⟩,bA lN,[.int .i64 op, .int .i64 m, .str name, .slice (.tok 0) 4 (i.2.2.map bA)]],[some i.2.1]⟩) ?_ (kids,0,[]) ⟨rfl,rfl,rfl⟩)
 rintro⟨rest,k,acc⟩ ⟨h1,h2,h3⟩ IH
 dsimp only at h1 h2 h3
 subst h2
 cases rest with
 |nil=>
  have hF:=drop_nil h1
  simp only[zaA]at h3
  subst h3
  repeat' (first
 |simp only[go_sem,hF,hP,hZ,gA]
 |(with_reducible refine az hQ ?_;exact aR))
 |cons y rest=>
  obtain⟨hP,g2,hF,g4⟩:=drop_cons h1
  have de:(acc.length+1)*57≤aT:=by simp only[aT];omega
  have hy:=hk y (zac hP)
  have w1:IntKind.wrap .i64 ((acc.length:Int)+1)=((acc.length+1:Nat):Int):=by rw[cT]<;>omega
  repeat' (first
 |simp only[go_sem,hF,hP,hZ,gA,de,w1]
 |(with_reducible refine CU (hy _) ?_)
 |(with_reducible refine az hQ ?_;exact aR))
  refine cr 3 1 (IH (rest,acc.length+1,acc++ [y]) ⟨g2,by simp,by rw[← h3];simp⟩ (zaa _))
theorem BR {x:Ex} (h:x.size<1073741824) (s:St):ay Tryz.prog 176 [.agg (bA x)] s (.agg (bA x)) s:=
 (Mx x.size h x (zag _)).pure (by simp[D.bg,D.ok,fK]) (by simp[D.ok,fK]) s
def Sm.bare (v:Sm):Sm:= {v with aV:= [],aN:= []}
theorem o7 {v:Sm} (hv:v.labels.length+v.x.size+Ar.aM v.args<10000000) (s:St):ay Tryz.prog 146 [.agg (aH v)] s (.agg (aH v.bare)) s:=by
 refine ay.pure ?_ (by simp[D.bg,D.ok,il]) (by simp[D.ok,il]) s
 obtain⟨id,kind,labels,name,proc,x,has,args,aV,aN⟩:=v
 dsimp only at hv
 have rS:=Ar.cd args
 have hx:=fun s=>BR (x:=x) (by omega) s
 simp only[fO]at hx
 have hL:=fun s=>fk (l:=labels) (by omega) s
 unfold Sm.bare
 unfold S0
 refine ay.go AJ.h rfl fun B Q hB hQ=>?_
 have⟨hF,hP,hZ,gA⟩:=bD
 repeat' (first
 |simp only[go_sem,hF,hP,hZ,gA]
 |(with_reducible refine CU (hL _) ?_)
 |(with_reducible refine CU (hx _) ?_)
 |(with_reducible refine az hQ ?_;exact aR))
 refine aY.qk 2 10 6 rfl rfl ?_
 simp only[go_sem,hF,hP,hZ,gA]
 refine cr 3 1 (aY.ind (ι:=List Ar×Nat×List Ar) (fun i=>args.drop i.2.1=i.1∧i.2.1=i.2.2.length∧i.2.2++i.1=args) (fun i=>i.1.length)
  (fun i=> [(1, .ptr 0 0),(2, .ptr 1 0),(3, .ptr 2 0),(24, .slice .shared 6 (args.map dz)),(25, .int .i64 (args.length:Int)),(26, .int .i64 (i.2.1:Int))])
  (fun i=>⟨[aH ⟨id,kind,labels,name,proc,x,has,args,aV,aN⟩,aH DU,[.int .i64 id, .int .i64 kind, .slice .shared 1 (labels.map encStr), .str name, .str proc, .int .i64 x.op, .int .i64 x.n, .str x.name, .slice .shared 4 (x.kids.map bA), .bool has, .slice (.tok 0) 6 (i.2.2.map dz), .slice .full 0 [], .slice .full 0 []]],[some i.2.1]⟩) ?_ (args,0,[]) ⟨rfl,rfl,rfl⟩)
 rintro⟨wI,ka,sV⟩ ⟨j1,j2,j3⟩ YP
 dsimp only at j1 j2 j3
 subst j2
 cases wI with
 |nil=>
  have hF:=drop_nil j1
  simp only[zaA]at j3
  subst j3
  repeat' (first
 |simp only[go_sem,hF,hP,hZ,gA,bU,zaj]
 |(with_reducible refine az hQ ?_;exact aR))
 |cons c wI=>
  obtain⟨hP,g2,hF,g4⟩:=drop_cons j1
  have ha:c.x.size<1073741824:=by have:=Ar.bC (zac hP);omega
  have x7:sV.length<4611686018427387904:=by omega
  have Hg:(sV.length+1)*81≤aT:=by simp only[aT];omega
  have tX:=fun s=>BR ha s
  simp only[fO]at tX
  obtain⟨SG,My,ax⟩:=c
  repeat' (first
 |simp only[go_sem,hF,hP,hZ,gA,Hg]
 |(with_reducible refine CU (tX _) ?_)
 |(with_reducible refine az hQ ?_;exact aR))
  refine cD 3 1 ?_ ?_ (YP (wI,sV.length+1,sV++ [⟨SG,My,ax⟩]) ⟨g2,by simp,by rw[← j3];simp⟩ (zaa _))
  ·(simp only[go_sem,hF,hP,hZ,gA,aC x7];try exact bd)
  ·(simp only[go_sem,hF,hP,hZ,gA,aC x7];try exact bd)
mutual
def Sm.cw (g:Sm→Sm):Sm→Sm
 |⟨id,kind,labels,name,proc,x,has,args,aV,aN⟩=> {g ⟨id,kind,labels,name,proc,x,has,args,aV,aN⟩with aV:=Sm.dK g aV,aN:=Sm.dK g aN}
def Sm.dK (g:Sm→Sm):List Sm→List Sm
 | []=> []
 |s::l=>s.cw g::Sm.dK g l
end
def It.cw (g:Sm→Sm) (i:It):It:= {i with s:=i.s.cw g}
def Pc.cw (g:Sm→Sm) (f:Pc):Pc:= {f with body:=Sm.dK g f.body}
def Pg.cw (g:Sm→Sm) (p:Pg):Pg:= {p with procs:=p.procs.map (Pc.cw g)}
theorem zn (g:Sm→Sm) (s:Sm):s.cw g = {g s with aV:=Sm.dK g s.aV,aN:=Sm.dK g s.aN}:=by cases s;rfl
def bL (t:Sm) (v:Sm):Sm:=if v.id==t.id then t else v
abbrev Sm.aic (t:Sm) (l:List Sm):List Sm:=Sm.dK (bL t) l
abbrev Pg.put (p:Pg) (t:Sm):Pg:=p.cw (bL t)
def Sm.oA (v:Sm):Nat:=v.labels.length+v.x.size+Ar.aM v.args
abbrev Uz (t:Sm) (N:Nat):Prop:=∀ l:List Sm,Sm.aM l<N→∀ s:St,ay Tryz.prog 145 [.slice .shared 13 (l.map aH), .agg (aH t)] s (.slice .shared 13 ((Sm.dK (bL t) l).map aH)) s
theorem SH (t:Sm) (ht:t.oA<10000000) {N:Nat} (hN:N<10000000) (ih:Uz t N) (l:List Sm) (hl:Sm.aM l<N+1) :
 ay Tryz.prog 145 [.slice .shared 13 (l.map aH), .agg (aH t)] S0 (.slice .shared 13 ((Sm.dK (bL t) l).map aH)) S0:=by
 have hlen:l.length<10000001:=by have:=Sm.cd l;omega
 have BS:=fun s=>o7 (v:=t) ht s
 have UA:aH t.bare=_:=bU t.bare
 simp only[UA,Sm.bare,zaj]at BS
 generalize hR:Sm.dK (bL t) l=R
 unfold S0
 refine ay.go nj.h rfl fun B Q hB hQ=>?_
 have⟨hF,hP,hZ,gA⟩:=bD
 repeat' (first
 |simp only[go_sem,hF,hP,hZ,gA]
 |(with_reducible refine az hQ ?_;exact aR))
 refine aY.ko 5 13 rfl ?_
 simp only[go_sem,hF,hP,hZ,gA]
 refine cr 1 1 (aY.ind (ι:=List Sm×Nat×List Sm) (fun i=>l.drop i.2.1=i.1∧i.2.1=i.2.2.length∧i.2.2++Sm.dK (bL t) i.1=R) (fun i=>i.1.length)
  (fun i=> [(3, .ptr 0 0),(5, .slice (.tok 0) 13 (i.2.2.map aH)),(9, .slice .shared 13 (l.map aH)),(10, .int .i64 (l.length:Int)),(11, .int .i64 (i.2.1:Int))])
  (fun i=>⟨[aH t],[some i.2.1]⟩) ?_ (l,0,[]) ⟨rfl,rfl,hR⟩)
 rintro⟨rest,k,acc⟩ ⟨h1,h2,h3⟩ IH
 dsimp only at h1 h2 h3
 subst h2
 cases rest with
 |nil=>
  have hF:=drop_nil h1
  simp only[Sm.dK,zaA]at h3
  subst h3
  repeat' (first
 |simp only[go_sem,hF,hP,hZ,gA]
 |(with_reducible refine az hQ ?_;exact aR))
 | cons y rest=>
  obtain⟨hP,g2,hF,g4⟩:=drop_cons h1
  have hk:acc.length<4611686018427387904:=by omega
  have cV:y.size≤N:=by have:=Sm.bC (zac hP);omega
  obtain⟨id,kind,labels,name,proc,x,has,args,aV,aN⟩:=y
  simp only[Sm.size]at cV
  have de:(acc.length+1)*209≤aT:=by simp only[aT];omega
  have rX:=fun s=>o7 (v:=⟨id,kind,labels,name,proc,x,has,args,aV,aN⟩) (by dsimp only;omega) s
  simp only[Sm.bare,bU,zaj]at rX
  have c1:=ih aV (by omega)
  have c2:=ih aN (by omega)
  simp only[Sm.dK]at h3
  obtain⟨Y,hY⟩ : ∃ Y,Sm.cw (bL t) ⟨id,kind,labels,name,proc,x,has,args,aV,aN⟩=Y:=⟨_,rfl⟩
  rw[hY]at h3
  rw[zn]at hY
  unfold bL at hY
  obtain⟨T,hT⟩ : ∃ T,Sm.dK (bL t) aV=T:=⟨_,rfl⟩
  obtain⟨E,hE⟩ : ∃ E,Sm.dK (bL t) aN=E:=⟨_,rfl⟩
  unfold bL at hT hE
  simp only[hT,hE]at hY
  unfold bL at c1 c2
  rw[hT]at c1
  rw[hE]at c2
  rcases zad (id==t.id)with b1|b1
  ·rw [if_pos b1]at hY
   subst hY
   repeat' (first
 |simp only[go_sem,hF,hP,hZ,gA,de,b1]
 |(with_reducible refine CU (rX _) ?_)
 |(with_reducible refine CU (BS _) ?_)
 |(with_reducible refine CU (c1 _) ?_)
 |(with_reducible refine CU (c2 _) ?_)
 | (with_reducible refine az hQ ?_;exact aR))
   refine cD 1 1 ?_ ?_ (IH (rest,acc.length+1,acc++ [{t with aV:=T,aN:=E}]) ⟨g2,by simp,by rw[← h3];simp⟩ (zaa _))
   ·(simp only[go_sem,hF,hP,hZ,gA,aC hk,bU];try exact bd)
   ·(simp only[go_sem,hF,hP,hZ,gA,aC hk,bU];try exact bd)
  ·rw [if_neg (by simp [b1])]at hY
   subst hY
   repeat' (first
 |simp only[go_sem,hF,hP,hZ,gA,de,b1]
 |(with_reducible refine CU (rX _) ?_)
 |(with_reducible refine CU (BS _) ?_)
 |(with_reducible refine CU (c1 _) ?_)
 |(with_reducible refine CU (c2 _) ?_)
 | (with_reducible refine az hQ ?_;exact aR))
   refine cD 1 1 ?_ ?_ (IH (rest,acc.length+1,acc++ [⟨id,kind,labels,name,proc,x,has,args,T,E⟩]) ⟨g2,by simp,by rw[← h3];simp⟩ (zaa _))
   ·(simp only[go_sem,hF,hP,hZ,gA,aC hk];try exact bd)
   ·(simp only[go_sem,hF,hP,hZ,gA,aC hk];try exact bd)
theorem V9 (t:Sm) (ht:t.oA<10000000) : ∀ N,N<10000000→Uz t N:=by
 intro N
 induction N with
 |zero=>intro _ l hl;exact absurd hl (zaG _)
 |succ N ih=>
  intro hN l hl s
  exact(SH t ht (by omega) (ih (by omega)) l hl).pure (by simp[D.bg,D.ok,Tag.ok,gR,il]) (by simp[D.bg,D.ok,Tag.ok,gR]) s
theorem me {t:Sm} (ht:t.oA<10000000) {l:List Sm} (h:Sm.aM l<9000000) (s:St):ay Tryz.prog 145 [.slice .shared 13 (l.map aH), .agg (aH t)] s (.slice .shared 13 ((Sm.dK (bL t) l).map aH)) s:=
 V9 t ht 9999999 (by omega) l (by omega) s
def mf (os ts:List Nat) (tm:Tm):Tm→Prop
 | []=>True
 |(k,d)::r=>tm.get k=d.bw os ts∧d.ok os.length ts.length=true∧mf os ts tm r
theorem mf.get {os ts:List Nat} {tm:Tm} : ∀ {bB:Tm},mf os ts tm bB→∀ k,bB.get k = .junk∨(tm.get k=(bB.get k).bw os ts∧(bB.get k).ok os.length ts.length=true)
 | [],_,k=> .inl rfl
 |(q,d)::r,⟨h1,h2,h3⟩,k=>by
  simp only[Tm.get]
  split
  ·rename_i e;subst e;exact .inr ⟨h1,h2⟩
  ·exact h3.get k
section
variable {P:Program} {B:ey} {nt:Nat}
theorem Holds.iu {tm:Tm} {s:St} {act:Act} {w:World} (os:List Nat) (cU:List (List D)) (bB:Tm) (oU:os.Nodup) (je : ∀ o∈os,o<s.av.length) (hn:B.s.av.length≤os.length)
 (hold : ∀ i,i<B.s.av.length→os[i]? = some i) (dq : ∀ (i o:Nat),os[i]? = some o→B.s.av.length≤i→B.s.av.length≤o) (ho:cU.length=os.length)
 (jJ : ∀ (i o:Nat) (ds:List D),os[i]? = some o→cU[i]? = some ds→s.av[o]? = some (D.ct os (List.range s.aw.length) ds)∧D.bg os.length s.aw.length ds=true)
 (BT:mf os (List.range s.aw.length) tm bB) (h:Holds B nt tm s act w):Holds B nt bB ⟨cU,s.aw⟩ act w:=by
 obtain⟨M,e,r,hr,h1,h2⟩:=h
 have uZ:(List.range s.aw.length).length=s.aw.length:=List.length_range
 have rg : ∀ (i t:Nat),(List.range s.aw.length)[i]? = some t→i=t:=fun i t h=>by
  rw[zae]at h
  obtain⟨h3,h4⟩:=h
  simpa using h4
 have r0:Rel (fa M os (List.range s.aw.length)) ⟨cU,s.aw⟩ w:=r.sub oU List.nodup_range je ho (fun i o ds e1 e2=>by rw[uZ];exact jJ i o ds e1 e2) uZ.symm (fun i t h=>by rw[rg i t h])
 have loc : ∀ (i:Nat) o,os[i]? = some o→(fa M os (List.range s.aw.length)).loc i=M.loc o:=fun i o h=>by simp only[fa,qh h]
 have be : ∀ t,t<s.aw.length→(fa M os (List.range s.aw.length)).be t=M.be t:=fun t h=>by
  have:(List.range s.aw.length)[t]? = some t:=List.getElem?_range h
  simp only[fa,qh this]
 refine⟨fa M os (List.range s.aw.length),⟨⟨e.le.G,by rw[ho];exact hn,fun o h=>?_,e.le.t,fun t n' h e'=>?_⟩,e.kept,fun o h3 h4=>?_,fun t b c z hl hb=>?_,e.n6,e.size,e.os,e.tape,e.output⟩,r0,fun k=>?_,h1,h2⟩
 ·rw[loc o o (hold o h)];exact e.le.loc o h
 ·obtain⟨n,g1,g2,g3⟩:=e.le.tk t n' h e'
  exact⟨n,g1,g2,fun eq=>by rw[be t (Nat.lt_of_lt_of_le h e.le.t)];exact g3 eq⟩
 ·simp only at h4
  rw[ho]at h4
  obtain⟨q,hq⟩ : ∃ q,os[o]? = some q:=⟨_,zak h4⟩
  have ld:(fa M os (List.range s.aw.length)).mu o=M.mu q:=congrArg Prod.fst (loc o q hq)
  rw[ld]at h3 ⊢
  refine e.n5 q ?_ (je q (zac hq))
  by_cases h5:B.s.av.length≤o
  ·exact .inl (dq o q hq h5)
  ·have:=hold o (by omega)
   rw[hq]at this
   cases this
   rcases h3 with h3|h3
   ·exact(h5 h3).elim
   ·exact .inr h3
 ·obtain⟨n,mF⟩:=hl
  have hF:=(zae.1 mF).1
  rw[be t hF]at hb
  exact e.mR t b c z ⟨n,mF⟩ hb
 ·rcases BT.get k with h3 | ⟨h3,h4⟩
  ·rw[h3];exact .junk _
  ·exact RD.zh (M:=M) (M0:=fa M os (List.range s.aw.length)) (s:=s) (s0:=⟨cU,s.aw⟩) rfl loc ho (fun i t h=>by
    have:=rg i t h;subst this;exact be i (by have:=(zae.1 h).1;rwa [uZ]at this)) (fun i t h=>by rw[rg i t h]) uZ.symm (h3 ▸ hr k) _ rfl h4
theorem aY.iu {a:AC} {Q:Exit→Tm→St→Prop} {tm:Tm} {s:St} (os:List Nat) (cU:List (List D)) (bB:Tm) (oU:os.Nodup) (je : ∀ o∈os,o<s.av.length) (hn:B.s.av.length≤os.length)
 (hold : ∀ i,i<B.s.av.length→os[i]? = some i) (dq : ∀ (i o:Nat),os[i]? = some o→B.s.av.length≤i→B.s.av.length≤o) (ho:cU.length=os.length)
 (jJ : ∀ (i o:Nat) (ds:List D),os[i]? = some o→cU[i]? = some ds→s.av[o]? = some (D.ct os (List.range s.aw.length) ds)∧D.bg os.length s.aw.length ds=true)
 (BT:mf os (List.range s.aw.length) tm bB) (h:aY P B nt a Q bB ⟨cU,s.aw⟩):aY P B nt a Q tm s:=
 fun c hc act w hh=>h c hc act w (hh.iu os cU bB oU je hn hold dq ho jJ BT)
theorem Sem.iu {a:AC} {Q:Exit→Tm→St→Prop} {tm:Tm} {s:St} (os:List Nat) (cU:List (List D)) (bB:Tm) (oU:os.Nodup) (je : ∀ o∈os,o<s.av.length) (hn:B.s.av.length≤os.length)
 (hold : ∀ i,i<B.s.av.length→os[i]? = some i) (dq : ∀ (i o:Nat),os[i]? = some o→B.s.av.length≤i→B.s.av.length≤o) (ho:cU.length=os.length)
 (jJ : ∀ (i o:Nat) (ds:List D),os[i]? = some o→cU[i]? = some ds→s.av[o]? = some (D.ct os (List.range s.aw.length) ds)∧D.bg os.length s.aw.length ds=true)
 (BT:mf os (List.range s.aw.length) tm bB) (h:Sem P B nt a Q bB ⟨cU,s.aw⟩):Sem P B nt a Q tm s:=
 fun c hc act w hh=>h c hc act w (hh.iu os cU bB oU je hn hold dq ho jJ BT)
mutual
def D.ek (o g:Nat) (rows:List (List D)):D→D
 | .bX z o' g' len=>if o'=o∧g'=g∧len=rows.length then .slice .shared z rows else .bX z o' g' len
 | .dr row off=> .dr (D.gi o g rows row) off
 | .slice t z rs=> .slice t z (D.mE o g rows rs)
 | .agg cs=> .agg (D.gi o g rows cs)
 | .tuple ds=> .tuple (D.gi o g rows ds)
 | .fL f cs=> .fL f (D.gi o g rows cs)
 | .ptr o off=> .ptr o off
 | .junk=> .junk
 | .int k x=> .int k x
 | .bool b=> .bool b
 | .str l=> .str l
 | .er=> .er
 | .val v=> .val v
 | .eC T o=> .eC T o
 | .fA o=> .fA o
 | .ew o g off=> .ew o g off
 | .dj z=> .dj z
def D.gi (o g:Nat) (rows:List (List D)):List D→List D
 | []=> []
 |d::r=>D.ek o g rows d::D.gi o g rows r
def D.mE (o g:Nat) (rows:List (List D)):List (List D)→List (List D)
 | []=> []
 |d::r=>D.gi o g rows d::D.mE o g rows r
end
theorem ly (o g:Nat) (rows:List (List D)) : ∀ l,D.gi o g rows l=l.map (D.ek o g rows)
 | []=>by simp[D.gi]
 |d::r=>by simp[D.gi,ly o g rows r]
theorem Jx (o g:Nat) (rows:List (List D)) : ∀ l,D.mE o g rows l=l.map (D.gi o g rows)
 | []=>by simp[D.mE]
 |d::r=>by simp[D.mE,Jx o g rows r]
theorem RD.ek {M:Map} {s:St} {o g:Nat} {rows:List (List D)} {b cap z:Nat} {A:Nat→Option (Nat×Nat)} (hm:M.ob o = .arr z A) (ha:A g=some (b,cap))
 (hs : ∀ row∈rows,row.length=z) (h1 : ∀ (i:Nat) (row:List D) (j:Nat) (d:D),rows[i]? = some row→row[j]? = some d→∃ u,M.G b (0+(i*z+j))=some u)
 (h2 : ∀ (i:Nat) (row:List D) (j:Nat) (d:D) (u:Value),rows[i]? = some row→row[j]? = some d→M.G b (0+(i*z+j))=some u→RD M s d u)
 {d:D} {v:Value} (h:RD M s d v):RD M s (d.ek o g rows) v:=by
 induction h with
 | bX z' o' g' len b' oI A' ho xe vf hl=>
  simp only[D.ek]
  split
  ·rename_i hc
   obtain⟨rfl,rfl,rfl⟩:=hc
   rw[hm]at xe
   cases xe
   rw[ha]at vf
   cases vf
   exact .slice .shared z rows b 0 cap hl hs h1 h2 trivial
  ·exact .bX z' o' g' len b' oI A' ho xe vf hl
 |ew z' o' g' off b' oI A' ho xe vf=>simp only[D.ek];exact .ew z' o' g' off b' oI A' ho xe vf
 |dj z a=>simp only[D.ek];exact .dj z a
 |junk v=>simp only[D.ek];exact .junk v
 |int k x=>simp only[D.ek];exact .int k x
 |bool b=>simp only[D.ek];exact .bool b
 |str l=>simp only[D.ek];exact .str l
 |er=>simp only[D.ek];exact .er
 |val v hv=>simp only[D.ek];exact .val v hv
 |eC T o v h ht hv=>simp only[D.ek];exact .eC T o v h ht hv
 |fA o h hm=>simp only[D.ek];exact .fA o h hm
 |ptr o off h hm=>simp only[D.ek];exact .ptr o off h hm
 |fL f ds vs hl _ ih=>
  simp only[D.ek,ly]
  refine .fL f _ vs (by simpa using hl) (fun i d v e1 e2=>?_)
  simp only[zap,zaq]at e1
  obtain⟨d',e1,rfl⟩:=e1
  exact ih i d' v e1 e2
 | dr row off b k h1 h2 ih=>
  simp only[D.ek,ly]
  refine .dr _ off b k (fun i d e=>?_) (fun i d u e eu=>?_)
  ·simp only [zap,zaq]at e
   obtain⟨d',e,rfl⟩:=e
   exact h1 i d' e
  ·simp only [zap,zaq]at e
   obtain⟨d',e,rfl⟩:=e
   exact ih i d' u e eu
 |ig t z cap hc ht=>simp only[D.ek,D.mE];exact .ig _ z cap hc ht
 |kR z a cap=>simp only[D.ek,D.mE];exact .kR z a cap
 | slice t z rs b k cap hl hs h1 h2 ht ih=>
  simp only[D.ek,Jx]
  have hlen:(rs.map (D.gi o g rows)).length=rs.length:=by simp
  have key:=RD.slice (M:=M) (s:=s) t z (rs.map (D.gi o g rows)) b k cap (by rw[hlen];exact hl) (fun row hr=>by
   obtain⟨ij,h',rfl⟩:=zaH.1 hr
   rw[ly,zat];exact hs ij h')
   (fun i row j d e1 e2=>by
    simp only[zap,zaq]at e1
    obtain⟨ij,e1,rfl⟩:=e1
    rw[ly]at e2
    simp only[zap,zaq]at e2
    obtain⟨d',e2,rfl⟩:=e2
    exact h1 i ij j d' e1 e2)
   (fun i row j d u e1 e2 eu=>by
    simp only[zap,zaq]at e1
    obtain⟨ij,e1,rfl⟩:=e1
    rw[ly]at e2
    simp only[zap,zaq]at e2
    obtain⟨d',e2,rfl⟩:=e2
    exact ih i ij j d' u e1 e2 eu)
   (by rw[hlen];exact ht)
  rw[hlen]at key
  exact key
 |agg cells vs hl h1 _ ih=>
  simp only[D.ek,ly]
  refine .agg _ vs (by simpa using hl) h1 (fun i d v e1 e2=>?_)
  simp only[zap,zaq]at e1
  obtain⟨d',e1,rfl⟩:=e1
  exact ih i d' v e1 e2
 |tuple ds vs hl _ ih=>
  simp only[D.ek,ly]
  refine .tuple _ vs (by simpa using hl) (fun i d v e1 e2=>?_)
  simp only[zap,zaq]at e1
  obtain⟨d',e1,rfl⟩:=e1
  exact ih i d' v e1 e2
def kJ (o g:Nat) (rows:List (List D)) (n m:Nat) (ds:List D):List D:=D.eI n m (D.gi o g rows ds)
def Aa (o g:Nat) (rows:List (List D)) (m:Nat) (tm:Tm):Tm→Prop
 | []=>True
 |(k,d)::r=>Wk (((tm.get k).ek o g rows).fg o m) d∧Aa o g rows m tm r
theorem Aa.get {o g m:Nat} {rows:List (List D)} {tm:Tm} : ∀ {bB:Tm},Aa o g rows m tm bB→∀ t,Wk (((tm.get t).ek o g rows).fg o m) (bB.get t)
 | [],_,t=>Wk.junk _
 |(k,d)::r,h,t=>by
  simp only[Tm.get]
  split
  ·rename_i hk;subst hk;exact h.1
  ·exact Aa.get h.2 t
theorem Holds.yz {tm:Tm} {s:St} {act:Act} {w:World} (o g z:Nat) (rows:List (List D)) (bB:Tm) (cU:List (List D)) (hn:B.s.av.length≤o) (dN:s.av[o]? = some (.int .i64 (g:Int)::rows.flatten)) (hz : ∃ k l,tm.get k = .bX z o g l∨∃ (q:Nat) (ds:List D),s.av[q]? = some ds∧ds[k]? = some (.bX z o g l))
 (hs : ∀ row∈rows,row.length=z) (ht:Aa o g rows s.aw.length tm bB) (jJ:fT ((s.av.take o).map (kJ o g rows o s.aw.length)) cU)
 (h:Holds B nt tm s act w):Holds B nt bB ⟨cU,s.aw⟩ act w:=by
 obtain⟨M,e,r,hr,h1,h2⟩:=h
 have wB:o<s.av.length:=(zae.1 dN).1
 obtain⟨A,hm⟩ : ∃ A,M.ob o = .arr z A:=by
  obtain⟨k,l,hz|⟨q,ds,hq,hz⟩⟩:=hz
  ·have:=hr k
   rw[hz]at this
   obtain⟨_,_,A,_,_,hm,_⟩:=this.sr
   exact⟨A,hm⟩
  ·obtain⟨vs,T,_,cV,_,gZ⟩:=r.obj q ds hq
   have hF:=(zae.1 hz).1
   obtain⟨_,_,A,_,_,hm,_⟩:=(gZ k _ _ hz (za9 (by omega))).sr
   exact⟨A,hm⟩
 have ha:lP s o g=some rows.flatten:=by unfold lP;rw[dN];simp
 obtain⟨us,T,cap,hh,va,zO,cV,hle,fJ,gZ⟩:=r.F0 hm ha
 obtain⟨ib,_⟩:=sE hs
 have Yp : ∀ q,M.G (M.mu o) q=none:=r.iK o wB
 have qK:B.w.heap.size≤M.mu o:=e.n5 o (.inl hn) wB
 let M':Map:= {M with G:=fun b q=>if b=M.mu o then us[q]? else M.G b q}
 have lf : ∀ b,b≠M.mu o→∀ q,M'.G b q=M.G b q:=fun b hb q=>if_neg hb
 have le:Le M s M' s:=⟨fun b q v hq=>by
  by_cases hb:b=M.mu o
  ·subst hb;rw[Yp]at hq;cases hq
  ·rw[lf b hb];exact hq,zag _,fun _ _=> .refl _,zag _,fun t n' _ e=>⟨n',e,zag _,fun _=>rfl⟩⟩
 -- the rows are among the cells
 have ph : ∀ (i:Nat) (row:List D) (j:Nat) (d:D),rows[i]? = some row→row[j]? = some d→rows.flatten[i*z+j]? = some d:=by
  have gen : ∀ (rows:List (List D)),(∀ row∈rows,row.length=z)→∀ (i:Nat) (row:List D) (j:Nat) (d:D),rows[i]? = some row→row[j]? = some d→rows.flatten[i*z+j]? = some d:=by
   intro rows
   induction rows with
   |nil=>intro _ i row j d e1;simp at e1
   | cons a rows ih=>
    intro hs i row j d e1 e2
    have rS:=hs a (zaD ..)
    rw[zbt]
    cases i with
    |zero=>
     simp at e1;subst e1
     rw[Nat.zero_mul,za6,zao (zae.1 e2).1];exact e2
    |succ i=>
     rw[zau (by rw[zba];omega),rS,show(i+1)*z+j - z=i*z+j by rw[zba];omega]
     exact ih (fun q hq=>hs q (zav _ hq)) i row j d (by simpa using e1) e2
  exact gen rows hs
 have g1 : ∀ (i:Nat) (row:List D) (j:Nat) (d:D),rows[i]? = some row→row[j]? = some d→∃ u,M'.G (M.mu o) (0+(i*z+j))=some u:=fun i row j d e1 e2=>by
  have hF:=(zae.1 (ph i row j d e1 e2)).1
  refine⟨us[i*z+j]'(by omega), ?_⟩
  show(if M.mu o=M.mu o then us[0+(i*z+j)]? else _)=_
  rw[if_pos rfl,za6]
  exact za9 _
 have g2 : ∀ (i:Nat) (row:List D) (j:Nat) (d:D) (u:Value),rows[i]? = some row→row[j]? = some d→M'.G (M.mu o) (0+(i*z+j))=some u→RD M' s d u:=fun i row j d u e1 e2 eu=>by
  have BD:(if M.mu o=M.mu o then us[0+(i*z+j)]? else M.G (M.mu o) (0+(i*z+j)))=some u:=eu
  rw[if_pos rfl,za6]at BD
  exact(gZ _ d u (ph i row j d e1 e2) BD).mono le
 have conv : ∀ {d:D} {v:Value},RD M s d v→RD M' (s.cut o s.aw.length) ((d.ek o g rows).fg o s.aw.length) v:=fun hd=>((hd.mono le).ek (M:=M') hm va hs g1 g2).fg o s.aw.length
 have rc:=r.cut o s.aw.length
 have ec:=e.cut hn e.le.t
 have hF : ∀ q,q<(s.cut o s.aw.length).av.length→q<s.av.length∧q≠o:=fun q h=>by rw[ju]at h;omega
 have Jy:(s.cut o s.aw.length).aw=s.aw:=by simp[St.cut]
 have hlen:cU.length=min o s.av.length:=by rw[← jJ.len];simp
 have OH:Le M (s.cut o s.aw.length) M' (s.cut o s.aw.length):=⟨le.G,zag _,fun _ _=> .refl _,zag _,fun t n' _ e=>⟨n',e,zag _,fun _=>rfl⟩⟩
 have YQ:Le M' (s.cut o s.aw.length) M' ⟨cU,s.aw⟩:=⟨fun _ _ _ h=>h,by rw[ju];simp only;omega,fun _ _=> .refl _,by simp[St.cut],fun t n' _ e=>⟨n',by rw[Jy];exact e,zag _,fun _=>rfl⟩⟩
 refine⟨M',⟨(ec.le.trans OH).trans YQ,ec.kept,fun q h3 h4=>?_,fun t b c z hl hb=>?_,fun b q dL=>?_,ec.size,ec.os,ec.tape,ec.output⟩,⟨fun b q v hq=>?_,fun q ds hq=>?_,fun q hq oG=>?_,fun q q' hq ki=>?_,fun t n' DP=>?_,fun t b c z q hl hb hq=>?_,fun t t' b c z c' z' hl lg=>?_⟩,fun k=>?_,h1,h2⟩
 ·exact ec.n5 q h3 (by rw[ju];simp only[hlen]at h4;exact h4)
 ·exact ec.mR t b c z (by obtain⟨n,hn⟩:=hl;exact⟨n,by rw[Jy];exact hn⟩) hb
 ·by_cases hb:b=M.mu o
  ·subst hb;exact .inl qK
  ·rw[lf b hb]at dL;exact ec.n6 b q dL
 ·have ki:(if b=M.mu o then us[q]? else M.G b q)=some v:=hq
  by_cases hb:b=M.mu o
  ·rw [if_pos hb]at ki
   rw[hb,gY hh]
   exact⟨ki,fJ v (zbp ki)⟩
  ·rw [if_neg hb]at ki
   exact r.comm b q v ki
 ·have zQ:=(zae.1 hq).1
  have qZ:q<o:=by simp only[hlen]at zQ;omega
  have hqs:q<s.av.length:=by omega
  obtain⟨Gh,YR⟩ : ∃ Gh,s.av[q]? = some Gh:=⟨_,zak hqs⟩
  obtain⟨vs,T',h3,h4,h5,h6⟩:=r.obj q Gh YR
  obtain⟨r1,sU,hw⟩:=jJ.get hq
  have aez:r1=kJ o g rows o s.aw.length Gh:=by
   rw[zap,za5 qZ,YR]at sU
   simpa using sU.symm
  subst aez
  refine⟨vs,T',h3,by rw[← hw.len];simp[kJ,jF,ly,h4],h5,fun i d v e1 e2=>?_⟩
  obtain⟨d1,Hh,hwd⟩:=hw.get e1
  simp only[kJ,jF,ly,zap,zaq]at Hh
  obtain⟨d2,⟨d3,hd3,rfl⟩,rfl⟩:=Hh
  exact(hwd _ _ _ (conv (h6 i d3 v hd3 e2))).mono YQ
 ·have zQ:q<o:=by simp only [hlen]at hq;omega
  show M'.G (M.mu q) oG=none
  rw[lf _ (fun e=>by have:=r.inj q o (by omega) wB e;omega)]
  exact r.iK q (by omega) oG
 ·simp only [hlen]at hq ki
  exact r.inj q q' (by omega) (by omega)
 ·rcases r.tok t n' DP with h3 | ⟨b,cap,z,eR,T',h3,h4,h5,h6,h7⟩
  ·exact .inl h3
  ·refine .inr ⟨b,cap,z,eR,T',h3,h4,h5,h6,fun oG wq=> ?_,h7.2⟩
   rw[lf _ (fun e=>r.dY t b cap z o ⟨n',DP⟩ h3 wB e.symm)]
   exact h7.1 oG wq
 ·simp only [hlen]at hq
  exact r.dY t b c z q hl hb (by omega)
 ·exact r.fB t t' b c z c' z' hl lg
 ·exact(ht.get k _ _ _ (conv (hr k))).mono YQ
theorem aY.yz {a:AC} {Q:Exit→Tm→St→Prop} {tm:Tm} {s:St} (o g z:Nat) (rows:List (List D)) (bB:Tm) (cU:List (List D)) (hn:B.s.av.length≤o) (dN:s.av[o]? = some (.int .i64 (g:Int)::rows.flatten)) (hz : ∃ k l,tm.get k = .bX z o g l∨∃ (q:Nat) (ds:List D),s.av[q]? = some ds∧ds[k]? = some (.bX z o g l))
 (hs : ∀ row∈rows,row.length=z) (ht:Aa o g rows s.aw.length tm bB) (jJ:fT ((s.av.take o).map (kJ o g rows o s.aw.length)) cU)
 (h:aY P B nt a Q bB ⟨cU,s.aw⟩):aY P B nt a Q tm s:=fun c hc act w hh=>h c hc act w (hh.yz o g z rows bB cU hn dN hz hs ht jJ)
theorem Sem.yz {a:AC} {Q:Exit→Tm→St→Prop} {tm:Tm} {s:St} (o g z:Nat) (rows:List (List D)) (bB:Tm) (cU:List (List D)) (hn:B.s.av.length≤o) (dN:s.av[o]? = some (.int .i64 (g:Int)::rows.flatten)) (hz : ∃ k l,tm.get k = .bX z o g l∨∃ (q:Nat) (ds:List D),s.av[q]? = some ds∧ds[k]? = some (.bX z o g l))
 (hs : ∀ row∈rows,row.length=z) (ht:Aa o g rows s.aw.length tm bB) (jJ:fT ((s.av.take o).map (kJ o g rows o s.aw.length)) cU)
 (h:Sem P B nt a Q bB ⟨cU,s.aw⟩):Sem P B nt a Q tm s:=fun c hc act w hh=>h c hc act w (hh.yz o g z rows bB cU hn dN hz hs ht jJ)
end
end Go.Abs
namespace Go.Abs
section
variable (s:St) (o g off len k z size bytes:Nat) (kk:IntKind)
theorem abJ:lP s o g=match s.av[o]? with|some (.int .i64 n::cells)=>if n=(g:Int)then some cells else none|_=>none:=nd rfl
theorem YS (agg:Bool):v7 (.ew o g off) agg size s=match lP s o g with|some cells=>(match part cells off agg size with|some d=>some (d,s)|none=>none)|none=>none:=nd rfl
theorem Wa (r:List D):xR (.ew o g off) (some r) size s=match lP s o g with
 |some cells=>if r.length=size∧off+size≤cells.length then some (.tuple [],⟨s.av.set o (.int .i64 g::eH cells off r),s.aw⟩)else none
 |none=>none:=nd rfl
theorem abK:J7 (.ew o g off)=some (.ew o g off):=nd rfl
theorem Wb:A6 (.ew o g k) off=some (.ew o g (k+off)):=nd rfl
theorem Wc:oe (.bX z o g len) (.int kk (k:Int)) size=if k<len then(if z=size then some (.ew o g (k*z))else none)else none:=by
 simp only[oe]
 by_cases h1:k<len<;>by_cases h2:z=size<;>simp[h1,h2]
theorem abL:CK (.bX z o g len)=some (.int .i64 len):=nd rfl
theorem YT:CK (.dj z)=some (.int .i64 0):=nd rfl
theorem mq {s:St} {o g len z bytes:Nat} {t:Tag} {cells r:List D} (hs:s.av[o]? = some (.int .i64 (g:Int)::cells)) (hl:cells.length=len*z) (hm:(len+1)*(bytes+1)≤aT) :
 xS z bytes (.bX z o g len) (.slice t z [r]) s=some (.bX z o (g+1) (len+1),⟨s.av.set o (.int .i64 ((g+1:Nat):Int)::(cells++r)),s.aw⟩):=by
 have ha:lP s o g=some cells:=by unfold lP;rw[hs];simp
 simp only[xS,ha,List.length_singleton,hm,hl,or_true,and_self,if_true,zag,zbt,List.flatten_nil,zaA]
 rw[List.take_of_length_le (by omega)]
theorem sW {z bytes:Nat} (t:Tag) (r:List D) (s:St) (hm:bytes+1≤aT):xS z bytes (.dj z) (.slice t z [r]) s=some (.bX z s.av.length 0 1,⟨s.av++ [.int .i64 ((0:Nat):Int)::r],s.aw⟩):=by
 simp[xS,hm]
theorem abM (n m:Nat):D.fg n m (.bX z o g len)=if o<n then .bX z o g len else .junk:=nd (by simp only[D.fg])
theorem abN (n m:Nat):D.fg n m (.ew o g off)=if o<n then .ew o g off else .junk:=nd (by simp only[D.fg])
theorem abO (n m:Nat):D.fg n m (.dj z) = .dj z:=nd (by simp only[D.fg])
theorem YU:(D.bX z o g len).row=some [.bX z o g len]:=nd rfl
theorem YV:(D.ew o g off).row=some [.ew o g off]:=nd rfl
theorem YW:(D.dj z).row=some [.dj z]:=nd rfl
end
attribute [go_sem] abJ YS Wa abK Wb Wc abL YT abM abN abO YU YV YW
theorem Wk.dj (z z':Nat):Wk (.slice .full z []) (.dj z'):=fun M s v h=>by
 cases h with
 |ig _ _ cap hc ht=>subst hc;exact .dj z' none
 |slice _ _ _ b k cap hl hs h1 h2 ht=>
  have:cap=0:=ht
  subst this
  exact .dj z' _
instance (z z':Nat):Ok (Wk (.slice .full z []) (.dj z')):=⟨Wk.dj z z'⟩
instance {a a' b b':List D} [Ok (gw a a')] [Ok (gw b b')] : Ok (gw (a++b) (a'++b')):=⟨gw.append Ok.out Ok.out⟩
theorem abP (n m:Nat) (a b:List D):D.eI n m (a++b)=D.eI n m a++D.eI n m b:=nd (by simp only[jF,zah])
attribute [go_sem] abP
theorem pM {α:Type} (f:α→List D) (n:Nat) (h : ∀ a,(f a).length=n) : ∀ l:List α,((l.map f).flatten).length=l.length*n
 | []=>by simp
 |a::l=>by simp[h a,pM f n h l,zba,Nat.add_comm]
theorem Mz {α:Type} (f:α→List D) (n:Nat) (h : ∀ a,(f a).length=n) (a b:List α) (x y:α) (k:Nat) (r:List D) (hy:f y=eH (f x) k r) (hk:k+r.length≤n) :
 eH (((a++x::b).map f).flatten) (a.length*n+k) r=((a++y::b).map f).flatten:=by
 have rS:=pM f n h a
 have hx:=h x
 unfold eH
 simp only[zah,zaf,List.flatten_append,zbt,hy]
 unfold eH
 have e1:((a.map f).flatten++(f x++(b.map f).flatten)).take (a.length*n+k)=(a.map f).flatten++(f x).take k:=by
  rw[List.take_append,rS,List.take_of_length_le (by omega),show a.length*n+k - a.length*n=k by omega,List.take_append_of_le_length (by omega)]
 have e2:((a.map f).flatten++(f x++(b.map f).flatten)).drop (a.length*n+k+r.length)=(f x).drop (k+r.length)++(b.map f).flatten:=by
  rw[List.drop_append,rS,List.drop_eq_nil_of_le (by omega),show a.length*n+k+r.length - a.length*n=k+r.length by omega,List.drop_append_of_le_length (by omega)]
  simp
 rw[e1,e2]
 simp only[zaC]
def kq (os:List Nat) (m:Nat) (av:List (List D)):List Nat→List (List D)→Prop
 | [],[]=>True
 |o::l,ds::r=>av[o]? = some (D.ct os (List.range m) ds)∧D.bg os.length m ds=true∧kq os m av l r
 |_,_=>False
theorem kq.get {os:List Nat} {m:Nat} {av:List (List D)} : ∀ {l:List Nat} {r:List (List D)},kq os m av l r→r.length=l.length∧∀ (i o:Nat) (ds:List D),l[i]? = some o→r[i]? = some ds→av[o]? = some (D.ct os (List.range m) ds)∧D.bg os.length m ds=true
 | [],[],_=>⟨rfl,fun i o ds h=>by simp at h⟩
 |o::l,ds::r,⟨h1,h2,h3⟩=>by
  obtain⟨g1,g2⟩:=h3.get
  refine⟨by simp[g1],fun i o' lM e1 e2=>?_⟩
  cases i with
  |zero=>simp at e1 e2;subst e1 e2;exact⟨h1,h2⟩
  |succ i=>exact g2 i o' lM (by simpa using e1) (by simpa using e2)
 | [],_::_,h=>h.elim
 |_::_,[],h=>h.elim
section
variable {P:Program} {B:ey} {nt:Nat} {a:AC} {Q:Exit→Tm→St→Prop} {tm:Tm} {s:St}
theorem aY.oN (hB:B.s = ⟨[],[]⟩) (os:List Nat) (cU:List (List D)) (bB:Tm) (oU:os.Nodup) (je : ∀ o∈os,o<s.av.length) (jJ:kq os s.aw.length s.av os cU) (BT:mf os (List.range s.aw.length) tm bB)
 (h:aY P B nt a Q bB ⟨cU,s.aw⟩):aY P B nt a Q tm s:=
 aY.iu os cU bB oU je (by rw[hB];exact zar _) (fun i h=>by rw[hB]at h;exact absurd h (zaG _)) (fun i o _ _=>by rw[hB];exact zar _) jJ.get.1 jJ.get.2 BT h
theorem Sem.oN (hB:B.s = ⟨[],[]⟩) (os:List Nat) (cU:List (List D)) (bB:Tm) (oU:os.Nodup) (je : ∀ o∈os,o<s.av.length) (jJ:kq os s.aw.length s.av os cU) (BT:mf os (List.range s.aw.length) tm bB)
 (h:Sem P B nt a Q bB ⟨cU,s.aw⟩):Sem P B nt a Q tm s:=
 Sem.iu os cU bB oU je (by rw[hB];exact zar _) (fun i h=>by rw[hB]at h;exact absurd h (zaG _)) (fun i o _ _=>by rw[hB];exact zar _) jJ.get.1 jJ.get.2 BT h
end
section
variable (os ts:List Nat) (n m:Nat)
theorem abQ (o off:Nat):D.bw os ts (.ptr o off)=match os[o]? with|some o'=> .ptr o' off|none=> .junk:=nd (by simp only[D.bw]<;>rfl)
theorem abR (z o g len:Nat):D.bw os ts (.bX z o g len)=match os[o]? with|some o'=> .bX z o' g len|none=> .junk:=nd (by simp only[D.bw]<;>rfl)
theorem Wd (g:Tag) (z:Nat) (rows:List (List D)):D.bw os ts (.slice g z rows) = .slice (g.bw ts) z (D.kb os ts rows):=nd (by simp only[D.bw])
theorem abS (l:List D):D.bw os ts (.agg l) = .agg (D.ct os ts l):=nd (by simp only[D.bw])
theorem YX:D.bw os ts .junk = .junk:=nd (by simp only[D.bw])
theorem abT (k:IntKind) (x:Int):D.bw os ts (.int k x) = .int k x:=nd (by simp only[D.bw])
theorem YY (b:Bool):D.bw os ts (.bool b) = .bool b:=nd (by simp only[D.bw])
theorem abU (l:List UInt8):D.bw os ts (.str l) = .str l:=nd (by simp only[D.bw])
theorem YZ:D.bw os ts .er = .er:=nd (by simp only[D.bw])
theorem Y0 (z:Nat):D.bw os ts (.dj z) = .dj z:=nd (by simp only[D.bw])
theorem Wf:D.ct os ts [] = []:=nd (by simp only[D.ct])
theorem Wg (d:D) (l:List D):D.ct os ts (d::l)=D.bw os ts d::D.ct os ts l:=nd (by simp only[D.ct])
theorem SI:Tag.bw ts .shared = .shared:=nd rfl
theorem Y1:Tag.bw ts .full = .full:=nd rfl
theorem Wh (o off:Nat):D.ok n m (.ptr o off)=decide (o<n):=nd (by simp only[D.ok])
theorem Wi (z o g len:Nat):D.ok n m (.bX z o g len)=decide (o<n):=nd (by simp only[D.ok])
theorem Pe (g:Tag) (z:Nat) (rows:List (List D)):D.ok n m (.slice g z rows)=(g.ok m && D.fu n m rows):=nd (by simp only[D.ok])
theorem Wj (l:List D):D.ok n m (.agg l)=D.bg n m l:=nd (by simp only[D.ok])
theorem SJ:D.ok n m .junk=true:=nd (by simp only[D.ok])
theorem Wl (k:IntKind) (x:Int):D.ok n m (.int k x)=true:=nd (by simp only[D.ok])
theorem SK (b:Bool):D.ok n m (.bool b)=true:=nd (by simp only[D.ok])
theorem Wm (l:List UInt8):D.ok n m (.str l)=true:=nd (by simp only[D.ok])
theorem SL:D.ok n m .er=true:=nd (by simp only[D.ok])
theorem SM (z:Nat):D.ok n m (.dj z)=true:=nd (by simp only[D.ok])
theorem Y2:D.bg n m [] = true:=nd (by simp only[D.bg])
theorem Y3 (d:D) (l:List D):D.bg n m (d::l)=(D.ok n m d && D.bg n m l):=nd (by simp only[D.bg])
theorem MA:Tag.ok m .shared=true:=nd rfl
theorem SN:Tag.ok m .full=true:=nd rfl
theorem Wn (os:List Nat) (m:Nat) (av:List (List D)):kq os m av [] [] = True:=nd rfl
theorem Wo (os:List Nat) (m:Nat) (av:List (List D)) (o:Nat) (l:List Nat) (ds:List D) (r:List (List D)):kq os m av (o::l) (ds::r)=(av[o]? = some (D.ct os (List.range m) ds)∧D.bg os.length m ds=true∧kq os m av l r):=nd rfl
theorem Y4 (tm:Tm):mf os ts tm [] = True:=nd rfl
theorem Y5 (tm:Tm) (k:Nat) (d:D) (r:Tm):mf os ts tm ((k,d)::r)=(tm.get k=d.bw os ts∧d.ok os.length ts.length=true∧mf os ts tm r):=nd rfl
theorem BU (rows:List (List D)) (h:D.fu 0 0 rows=true):D.kb os ts rows=rows:=ic os ts rows h
theorem yA (row:List D) (h:D.bg 0 0 row=true):D.ct os ts row=row:=dV os ts row h
theorem Fy (rows:List (List D)) (h:D.fu 0 0 rows=true):D.fu n m rows=true:=kV (zar n) (zar m) rows h
theorem BV (row:List D) (h:D.bg 0 0 row=true):D.bg n m row=true:=gp (zar n) (zar m) row h
theorem mr (p:Pg):D.ct os ts (bf p)=bf p:=yA _ _ _ (fm p)
theorem nN (p:Sm):D.ct os ts (aH p)=aH p:=yA _ _ _ (il p)
theorem iW (l:List Pc):D.kb os ts (l.map bn)=l.map bn:=BU _ _ _ (sf l)
theorem Hi (l:List Sm):D.kb os ts (l.map aH)=l.map aH:=BU _ _ _ (gR l)
theorem dQ (l:List aA):D.kb os ts (l.map encStr)=l.map encStr:=BU _ _ _ (dd l)
theorem nO (p:Pc):D.ct os ts (bn p)=bn p:=yA _ _ _ (ql p)
theorem pN (p:Pc):D.bg n m (bn p)=true:=BV _ _ _ (ql p)
theorem oo (p:Pg):D.bg n m (bf p)=true:=BV _ _ _ (fm p)
theorem pO (p:Sm):D.bg n m (aH p)=true:=BV _ _ _ (il p)
theorem jY (l:List Pc):D.fu n m (l.map bn)=true:=Fy _ _ _ (sf l)
theorem Jz (l:List Sm):D.fu n m (l.map aH)=true:=Fy _ _ _ (gR l)
theorem fh (l:List aA):D.fu n m (l.map encStr)=true:=Fy _ _ _ (dd l)
theorem zo : ∀ l:List Pc,D.bg 0 0 ((l.map bn).flatten)=true:=fun l=>by
 have h:=sf l
 rw[sJ,zaO]at h
 rw[pz,zaO]
 intro d hd
 obtain⟨r,hr,hd⟩:=zbo.1 hd
 have:=h r hr
 rw[pz,zaO]at this
 exact this d hd
theorem lX (l:List Pc):D.ct os ts ((l.map bn).flatten)=(l.map bn).flatten:=yA _ _ _ (zo l)
theorem nP (l:List Pc):D.bg n m ((l.map bn).flatten)=true:=BV _ _ _ (zo l)
theorem JA (l:List Pc):D.eI n m ((l.map bn).flatten)=(l.map bn).flatten:=fU _ _ _ (zo l)
end
attribute [go_sem] nO pN abQ abR Wd abS YX abT YY abU YZ Y0 Wf Wg SI Y1 Wh Wi Pe Wj SJ Wl SK Wm SL SM Y2 Y3 MA SN Wn Wo Y4 Y5 mr nN iW Hi dQ oo pO jY Jz fh lX nP JA
mutual
theorem Y6 (o g:Nat) (rows:List (List D)) : ∀ d,D.ok 0 0 d=true→D.ek o g rows d=d
 | .junk,_=>by simp[D.ek]
 | .int k n,_=>by simp[D.ek]
 | .bool b,_=>by simp[D.ek]
 | .str l,_=>by simp[D.ek]
 | .er,_=>by simp[D.ek]
 | .val v,_=>by simp[D.ek]
 | .dj z,_=>by simp[D.ek]
 | .eC T o,h=>by simp[D.ok]at h
 | .fA o,h=>by simp[D.ok]at h
 | .bX z o g len,h=>by simp[D.ok]at h
 | .ew o g off,h=>by simp[D.ok]at h
 | .ptr o f,h=>by simp[D.ok]at h
 | .fL f cs,h=>by
  simp only[D.ok]at h
  simp only[D.ek,mw o g rows cs h]
 | .dr r f,h=>by
  simp only[D.ok]at h
  simp only[D.ek,mw o g rows r h]
 | .slice t z rs,h=>by
  simp only[D.ok,zam]at h
  simp only[D.ek,nQ o g rows rs h.2]
 | .agg cs,h=>by
  simp only[D.ok]at h
  simp only[D.ek,mw o g rows cs h]
 | .tuple cs,h=>by
  simp only[D.ok]at h
  simp only[D.ek,mw o g rows cs h]
theorem mw (o g:Nat) (rows:List (List D)) : ∀ l,D.bg 0 0 l=true→D.gi o g rows l=l
 | [],_=>by simp[D.gi]
 |d::r,h=>by
  simp only[D.bg,zam]at h
  simp only[D.gi,Y6 o g rows d h.1,mw o g rows r h.2]
theorem nQ (o g:Nat) (rows:List (List D)) : ∀ l,D.fu 0 0 l=true→D.mE o g rows l=l
 | [],_=>by simp[D.mE]
 |d::r,h=>by
  simp only[D.fu,zam]at h
  simp only[D.mE,mw o g rows d h.1,nQ o g rows r h.2]
end
section
variable (o g:Nat) (rows:List (List D)) (n m:Nat)
theorem abV (q off:Nat):D.ek o g rows (.ptr q off) = .ptr q off:=nd (by simp only[D.ek])
theorem Y7 (q h off:Nat):D.ek o g rows (.ew q h off) = .ew q h off:=nd (by simp only[D.ek])
theorem abW (z o' g' len:Nat):D.ek o g rows (.bX z o' g' len)=if o'=o∧g'=g∧len=rows.length then .slice .shared z rows else .bX z o' g' len:=nd (by simp only[D.ek])
theorem Wp (t:Tag) (z:Nat) (rs:List (List D)):D.ek o g rows (.slice t z rs) = .slice t z (D.mE o g rows rs):=nd (by simp only[D.ek])
theorem abX (l:List D):D.ek o g rows (.agg l) = .agg (D.gi o g rows l):=nd (by simp only[D.ek])
theorem Y8:D.ek o g rows .junk = .junk:=nd (by simp only[D.ek])
theorem abY (k:IntKind) (x:Int):D.ek o g rows (.int k x) = .int k x:=nd (by simp only[D.ek])
theorem Y9 (b:Bool):D.ek o g rows (.bool b) = .bool b:=nd (by simp only[D.ek])
theorem abZ (l:List UInt8):D.ek o g rows (.str l) = .str l:=nd (by simp only[D.ek])
theorem Wq:D.gi o g rows [] = []:=nd (by simp only[D.gi])
theorem Wr (d:D) (l:List D):D.gi o g rows (d::l)=D.ek o g rows d::D.gi o g rows l:=nd (by simp only[D.gi])
theorem aeA (p:Pg):D.gi o g rows (bf p)=bf p:=mw _ _ _ _ (fm p)
theorem ab0 (l:List Pc):D.mE o g rows (l.map bn)=l.map bn:=nQ _ _ _ _ (sf l)
theorem ab1 (l:List Sm):D.mE o g rows (l.map aH)=l.map aH:=nQ _ _ _ _ (gR l)
theorem Za (l:List aA):D.mE o g rows (l.map encStr)=l.map encStr:=nQ _ _ _ _ (dd l)
theorem ab2 (ds:List D):kJ o g rows n m ds=D.eI n m (D.gi o g rows ds):=nd rfl
theorem Zb (tm:Tm):Aa o g rows m tm [] = True:=nd rfl
theorem Zc (tm:Tm) (k:Nat) (d:D) (r:Tm):Aa o g rows m tm ((k,d)::r)=(Wk (((tm.get k).ek o g rows).fg o m) d∧Aa o g rows m tm r):=nd rfl
end
attribute [go_sem] abV Y7 abW Wp abX Y8 abY Y9 abZ Wq Wr aeA ab0 ab1 Za ab2 Zb Zc
theorem ay.iu {P:Program} {f:FuncId} {args:List D} {d d':D} {av cU:List (List D)} (os:List Nat) (h:ay P f args S0 d ⟨av,[]⟩) (oU:os.Nodup) (je : ∀ o∈os,o<av.length) (ho:cU.length=os.length)
 (jJ : ∀ (i o:Nat) (ds:List D),os[i]? = some o→cU[i]? = some ds→av[o]? = some (D.ct os [] ds)∧D.bg os.length 0 ds=true) (hd:d'.bw os [] = d) (zT:d'.ok os.length 0=true):ay P f args S0 d' ⟨cU,[]⟩:=by
 intro M0 w0 fi r0 iM R3 ha
 refine(h M0 w0 fi r0 iM R3 ha).mono ?_
 rintro en w ⟨M,d1,v,s',rfl,⟨rfl,rfl⟩,e,r,hv⟩
 have r1:Rel (fa M os []) ⟨cU,[]⟩ w:=r.sub oU zbq je ho jJ rfl (fun i t h=>by simp at h)
 have loc : ∀ (i:Nat) o,os[i]? = some o→(fa M os []).loc i=M.loc o:=fun i o h=>by simp only[fa,qh h]
 refine⟨fa M os [],d',v,_,rfl,⟨rfl,rfl⟩,⟨⟨e.le.G,zar _,fun o h=>absurd h (zaG _),zar _,fun t n' h=>absurd h (zaG _)⟩,fun b hb _ _=>e.kept b hb (fun o h=>absurd h (zaG _)) (fun t c z ⟨n,hn⟩=>by simp[S0]at hn),fun o h3 h4=>?_,
  fun t b c z ⟨n,hn⟩=>by simp at hn,e.n6,e.size,e.os,e.tape,e.output⟩,r1, ?_⟩
 ·simp only at h4
  rw[ho]at h4
  obtain⟨q,hq⟩ : ∃ q,os[o]? = some q:=⟨_,zak h4⟩
  rw[show(fa M os []).mu o=M.mu q from congrArg Prod.fst (loc o q hq)]
  exact e.n5 q (.inl (zar _)) (je q (zac hq))
 ·exact RD.zh (M:=M) (M0:=fa M os []) (s:=⟨av,[]⟩) (s0:=⟨cU,[]⟩) rfl loc ho (fun i t h=>by simp at h) (fun i t h=>by simp at h) rfl hv _ hd zT
theorem ay.BW {P:Program} {f:FuncId} {args row:List D} {d:D} (h:ay P f args S0 d ⟨[row],[]⟩) (ha:D.bg 0 0 args=true) (hr:D.bg 0 0 row=true) (s:St):ay P f args s (d.bw [s.av.length] []) ⟨s.av++ [row],s.aw⟩:=by
 refine dt.frame [] [] h zbq zbq (by simp) (by simp) rfl (by simp) rfl (by simp) (by rw[dV _ _ _ ha]) ha ?_
 rintro _ _ ⟨rfl,rfl⟩
 refine⟨by simp[D.back,gM], ?_⟩
 simp[St.back,iS,gM,dV _ _ _ hr]
end Go.Abs
namespace Go.Abs
set_option maxRecDepth 8000
open Go.Proofs
theorem nr (l:List Pc):((l.map bn).flatten).length=l.length*5:=pM bn 5 (fun f=>rfl) l
def ei:List D:= [.junk, .junk, .junk, .junk, .junk]
abbrev iN (procs:List Pc) (k:Int):Tm:= [(3, .ptr 1 0),(4, .ptr 2 0),(5, .ptr 3 0),(14, .slice .shared 5 (procs.map bn)),(15, .int .i64 (procs.length:Int)),(16, .int .i64 k)]
abbrev fI (l:List Pc):List D:= .int .i64 ((l.length - 1:Nat):Int)::(l.map bn).flatten
theorem ab3 {globals:List aA} {procs:List Pc} (hp:(⟨globals,procs⟩:Pg).size<1000000) (h0:procs≠ []) {t:Sm} (ht:t.oA<10000000) {R:List Pc} (hR:procs.map (Pc.cw (bL t))=R) :
 ay Tryz.prog 85 [.agg (bf ⟨globals,procs⟩), .agg (aH t)] S0 (.agg [.slice .shared 1 (globals.map encStr), .bX 5 4 (R.length - 1) R.length])
  ⟨[bf ⟨globals,procs⟩,aH t,[.junk, .junk],[.junk, .junk],fI R],[]⟩:=by
 simp only[Pg.size]at hp
 have hlen:procs.length<1000000:=by have:=Pc.cd procs;omega
 have hG:=fun s=>fk (l:=globals) (by omega) s
 unfold S0
 refine ay.DX 5 0 (zar _) (zar _) ni.h rfl fun B Q hB hQ=>?_
 have⟨hF,hP,hZ,gA⟩:=bD
 obtain⟨y0,wK,tU⟩ : ∃ y r,procs.drop 0=y::r:=by
  cases procs with
  |nil=>exact absurd rfl h0
  |cons y r=>exact⟨y,r,rfl⟩
 obtain⟨iy,g20,SO,g40⟩:=drop_cons tU
 have nu:decide ((0:Int)<(procs.length:Int))=true:=by simpa using SO
 have Zd:Pc.cw (bL t) y0::wK.map (Pc.cw (bL t))=R:=by
  have:procs=y0::wK:=by simpa using tU
  rw[← hR,this];rfl
 have de:(1:Nat)*113≤aT:=by simp only[aT];omega
 have cY:=fun(tg:Tag) (r:List D) (s:St)=>sW (z:=5) (bytes:=112) tg r s (by simp only[aT];omega)
 -- the rounds behind the first one
 have loop:aY Tryz.prog B 47 rV (dF 0 (eK (eo Tryz.prog B 47 rW Q) Q)) (iN procs ((1:Nat):Int)) ⟨[bf ⟨globals,procs⟩,aH t,[.junk, .junk],[.slice .shared 1 (globals.map encStr), .bX 5 4 0 1],fI [Pc.cw (bL t) y0]],[]⟩:=by
  refine aY.ind (ι:=List Pc×Nat×List Pc) (fun i=>procs.drop i.2.1=i.1∧i.2.1=i.2.2.length∧0<i.2.2.length∧i.2.2++i.1.map (Pc.cw (bL t))=R) (fun i=>i.1.length)
   (fun i=>iN procs (i.2.1:Int)) (fun i=>⟨[bf ⟨globals,procs⟩,aH t,[.junk, .junk],[.slice .shared 1 (globals.map encStr), .bX 5 4 (i.2.2.length - 1) i.2.2.length],fI i.2.2],[]⟩) ?_ (wK,1,[Pc.cw (bL t) y0]) ⟨g20,rfl,zaS,Zd⟩
  rintro⟨rest,k,acc⟩ ⟨h1,h2,h3,h4⟩ IH
  dsimp only at h1 h2 h3 h4
  subst h2
  have rS:acc.length≤procs.length:=by
   have:=congrArg List.length h4
   rw[← hR]at this
   simp at this;omega
  cases rest with
  |nil=>
   have hF:=drop_nil h1
   simp only[zaj,zaA]at h4
   subst h4
   repeat' (first
 |simp only[go_sem,hF,hP,hZ,gA]
 | (with_reducible refine az hQ ?_;exact aR))
  | cons y rest=>
   obtain⟨hP,g2,hF,g4⟩:=drop_cons h1
   have cV:=Pc.bC (zac hP)
   obtain⟨name,params,vars,body,fin⟩:=y
   simp only[Pc.size]at cV
   have hk:acc.length<4611686018427387904:=by omega
   have c1:=fun s=>fk (l:=vars) (by omega) s
   have c2:=fun s=>fk (l:=fin) (by omega) s
   have c3:=fun s=>me ht (l:=body) (by omega) s
   have e2:Pc.cw (bL t) ⟨name,params,vars,body,fin⟩ = ⟨name,params,vars,Sm.dK (bL t) body,fin⟩:=rfl
   have gv:=fun(tg:Tag) (r a b c d e f:List D) (T:List (Option Nat))=>mq (s:=⟨[a,b,c,d,fI acc,e,f],T⟩) (o:=4) (g:=acc.length - 1) (len:=acc.length) (z:=5) (bytes:=112) (t:=tg) (r:=r) rfl (nr acc) (by unfold aT;omega)
   have e3:acc.length - 1+1=acc.length:=by omega
   have e6 : ∀ f:Pc,fI (acc++ [f]) = .int .i64 (acc.length:Int)::((acc.map bn).flatten++bn f):=fun f=>by simp
   have e7 : ∀ f:Pc,(acc++ [f]).length=acc.length+1:=fun f=>by simp
   cases params with
   |nil=>
    have ha:=fun o T=>iV (size:=2) (bytes:=24) (z:=0) (z':=2) (g:= .shared) o T
    repeat' (first
 |simp only[go_sem,hF,hP,hZ,gA,ha,gv,e3]
 |(with_reducible refine CU (c1 _) ?_)
 |(with_reducible refine CU (c2 _) ?_)
 |(with_reducible refine CU (c3 _) ?_)
 | (with_reducible refine az hQ ?_;exact aR))
    refine cD 5 0 ?_ ?_ (IH (rest,acc.length+1,acc++ [Pc.cw (bL t) ⟨name,[],vars,body,fin⟩]) ⟨g2,by simp,by simp,by rw[← h4];simp⟩ (zaa _))
    ·(simp only[go_sem,hF,hP,hZ,gA,aC hk,e2,e3,e6,e7,zaz];try exact bd)
    ·(simp only[go_sem,hF,hP,hZ,gA,aC hk,e2,e3,e6,e7,zaz];try exact bd)
   |cons q params=>
    have ha:=fun o T=>iU (size:=2) (bytes:=24) (rows:=(q::params).map df) (by simp) (by simp only[zat];unfold aT;omega) (z:=0) (g:= .shared) o T
    generalize q::params=ps at *
    repeat' (first
 |simp only[go_sem,hF,hP,hZ,gA,ha,gv,e3]
 |(with_reducible refine CU (c1 _) ?_)
 |(with_reducible refine CU (c2 _) ?_)
 |(with_reducible refine CU (c3 _) ?_)
 | (with_reducible refine az hQ ?_;exact aR))
    refine cD 5 0 ?_ ?_ (IH (rest,acc.length+1,acc++ [Pc.cw (bL t) ⟨name,ps,vars,body,fin⟩]) ⟨g2,by simp,by simp,by rw[← h4];simp⟩ (zaa _))
    ·(simp only[go_sem,hF,hP,hZ,gA,aC hk,e2,e3,e6,e7,zaz];try exact bd)
    ·(simp only[go_sem,hF,hP,hZ,gA,aC hk,e2,e3,e6,e7,zaz];try exact bd)
 repeat' (first
 |simp only[go_sem,hF,hP,hZ,gA]
 |(with_reducible refine CU (hG _) ?_)
 |(with_reducible refine az hQ ?_;exact aR))
 refine cr 4 0 (aY.kF (tm:=iN procs 0) (s:=⟨[bf ⟨globals,procs⟩,aH t,[.junk, .junk],[.slice .shared 1 (globals.map encStr), .dj 5]],[]⟩) ?_)
 have cV:=Pc.bC (zac iy)
 obtain⟨name,params,vars,body,fin⟩:=y0
 simp only[Pc.size]at cV
 have c1:=fun s=>fk (l:=vars) (by omega) s
 have c2:=fun s=>fk (l:=fin) (by omega) s
 have c3:=fun s=>me ht (l:=body) (by omega) s
 have e2:Pc.cw (bL t) ⟨name,params,vars,body,fin⟩ = ⟨name,params,vars,Sm.dK (bL t) body,fin⟩:=rfl
 have w1:IntKind.wrap .i64 ((0:Int)+1)=((1:Nat):Int):=rfl
 have iu:=aY.oN (P:=Tryz.prog) (a:=rV) (Q:=dF 0 (eK (eo Tryz.prog B 47 rW Q) Q)) (nt:=47) (tm:=iN procs ((1:Nat):Int)) (s:=⟨[bf ⟨globals,procs⟩,aH t,[.junk, .junk],[.slice .shared 1 (globals.map encStr), .bX 5 6 0 1],ei,ei,fI [Pc.cw (bL t) ⟨name,params,vars,body,fin⟩]],[]⟩)
  hB [0,1,2,3,6] _ _ (by decide) (by simp) (by simp[kq,D.ct,D.bw,D.bg,D.ok,Tag.bw,Tag.ok,mr,nN,nO,pN,dQ,oo,pO,fh,lX,nP]) (by simp[mf,Tm.get,D.bw,D.ok,Tag.bw,Tag.ok,iW,jY]) loop
 have e4:fI [⟨name,params,vars,Sm.dK (bL t) body,fin⟩] = [.int .i64 0, .str name, .slice .shared 2 (params.map df), .slice .shared 1 (vars.map encStr), .slice .shared 13 ((Sm.dK (bL t) body).map aH), .slice .shared 1 (fin.map encStr)]:=rfl
 cases params with
 |nil=>
  have ha:=fun o T=>iV (size:=2) (bytes:=24) (z:=0) (z':=2) (g:= .shared) o T
  repeat' (first
 |simp only[go_sem,hF,hP,hZ,gA,iy,nu,de,ha,cY]
 |(with_reducible refine CU (c1 _) ?_)
 |(with_reducible refine CU (c2 _) ?_)
 |(with_reducible refine CU (c3 _) ?_)
 |(with_reducible refine az hQ ?_;exact aR))
  refine cD 7 0 ?_ ?_ (iu)
  ·(simp only[go_sem,hF,hP,hZ,gA,w1,e2,e4,ei];try exact bd)
  ·(simp only[go_sem,hF,hP,hZ,gA,w1,e2,e4,ei];try exact bd)
 |cons q params=>
  have ha:=fun o T=>iU (size:=2) (bytes:=24) (rows:=(q::params).map df) (by simp) (by simp only[zat];unfold aT;omega) (z:=0) (g:= .shared) o T
  generalize q::params=ps at *
  repeat' (first
 |simp only[go_sem,hF,hP,hZ,gA,iy,nu,de,ha,cY]
 |(with_reducible refine CU (c1 _) ?_)
 |(with_reducible refine CU (c2 _) ?_)
 |(with_reducible refine CU (c3 _) ?_)
 |(with_reducible refine az hQ ?_;exact aR))
  refine cD 7 0 ?_ ?_ (iu)
  ·(simp only[go_sem,hF,hP,hZ,gA,w1,e2,e4,ei];try exact bd)
  ·(simp only[go_sem,hF,hP,hZ,gA,w1,e2,e4,ei];try exact bd)
set_option maxHeartbeats 4000000
open Go.Proofs
abbrev UB:AC:= .sub [1,1,0,1,0,0] nj.body
abbrev Pf:AC:= .sub [1,1,1] nj.body
theorem JB (v:Sm):(aH v).length=13:=by cases v;rfl
theorem Ph (l:List Sm):((l.map aH).flatten).length=l.length*13:=pM aH 13 JB l
theorem Fz : ∀ l:List Sm,D.bg 0 0 ((l.map aH).flatten)=true:=fun l=>by
 have h:=gR l
 rw[sJ,zaO]at h
 rw[pz,zaO]
 intro d hd
 obtain⟨r,hr,hd⟩:=zbo.1 hd
 have:=h r hr
 rw[pz,zaO]at this
 exact this d hd
theorem jw (os ts:List Nat) (l:List Sm):D.ct os ts ((l.map aH).flatten)=(l.map aH).flatten:=yA _ _ _ (Fz l)
theorem my (n m:Nat) (l:List Sm):D.bg n m ((l.map aH).flatten)=true:=BV _ _ _ (Fz l)
theorem Ws (n m:Nat) (l:List Sm):D.eI n m ((l.map aH).flatten)=(l.map aH).flatten:=fU _ _ _ (Fz l)
attribute [go_sem] jw my Ws
abbrev jq (l:List Sm):List D:= .int .i64 ((l.length - 1:Nat):Int)::(l.map aH).flatten
def vL:List D:= [.junk, .junk, .junk, .junk, .junk, .junk, .junk, .junk, .junk, .junk, .junk, .junk, .junk]
abbrev UC (l:List Sm) (n:Nat) (k:Int):Tm:= [(3, .ptr 0 0),(5, .bX 13 1 (n - 1) n),(9, .slice .shared 13 (l.map aH)),(10, .int .i64 (l.length:Int)),(11, .int .i64 k)]
theorem ab4 {t:Sm} (ht:t.oA<10000000) {l:List Sm} (hl:Sm.aM l<9000000) (h0:l≠ []) {R:List Sm} (hR:Sm.dK (bL t) l=R) :
 ay Tryz.prog 145 [.slice .shared 13 (l.map aH), .agg (aH t)] S0 (.bX 13 1 (R.length - 1) R.length) ⟨[aH t,jq R],[]⟩:=by
 have hlen:l.length<10000001:=by have:=Sm.cd l;omega
 have BS:=fun s=>o7 (v:=t) ht s
 have UA:aH t.bare=_:=bU t.bare
 simp only[UA,Sm.bare,zaj]at BS
 unfold S0
 refine ay.DX 2 0 (zar _) (zar _) nj.h rfl fun B Q hB hQ=>?_
 have⟨hF,hP,hZ,gA⟩:=bD
 obtain⟨y0,wK,tU⟩ : ∃ y r,l.drop 0=y::r:=by
  cases l with
  |nil=>exact absurd rfl h0
  |cons y r=>exact⟨y,r,rfl⟩
 obtain⟨iy,g20,SO,g40⟩:=drop_cons tU
 have nu:decide ((0:Int)<(l.length:Int))=true:=by simpa using SO
 have Zd:Sm.cw (bL t) y0::Sm.dK (bL t) wK=R:=by
  have:l=y0::wK:=by simpa using tU
  rw[← hR,this];rfl
 have BX:(1:Nat)*209≤aT:=by simp only[aT];omega
 have cY:=fun(tg:Tag) (r:List D) (s:St)=>sW (z:=13) (bytes:=208) tg r s (by simp only[aT];omega)
 have loop:aY Tryz.prog B 40 UB (dF 0 (eK (eo Tryz.prog B 40 Pf Q) Q)) (UC l 1 ((1:Nat):Int)) ⟨[aH t,jq [Sm.cw (bL t) y0]],[]⟩:=by
  refine aY.ind (ι:=List Sm×Nat×List Sm) (fun i=>l.drop i.2.1=i.1∧i.2.1=i.2.2.length∧0<i.2.2.length∧i.2.2++Sm.dK (bL t) i.1=R) (fun i=>i.1.length)
   (fun i=>UC l i.2.2.length (i.2.1:Int)) (fun i=>⟨[aH t,jq i.2.2],[]⟩) ?_ (wK,1,[Sm.cw (bL t) y0]) ⟨g20,rfl,zaS,Zd⟩
  rintro⟨rest,k,acc⟩ ⟨h1,h2,h3,h4⟩ IH
  dsimp only at h1 h2 h3 h4
  subst h2
  cases rest with
  |nil=>
   have hF:=drop_nil h1
   simp only[Sm.dK,zaA]at h4
   subst h4
   repeat' (first
 |simp only[go_sem,hF,hP,hZ,gA]
 |(with_reducible first|refine bj fun hc=>?_|refine bk fun hc=>?_|refine bl (fun hc=>?_) fun hc=>?_)<;>(try simp only[hc,bs,↓reduceIte]at h)<;>try simp only[hc]
 |((with_reducible refine az hQ ?_);exact dv)
 | (cases h;done))
  | cons y rest=>
   obtain⟨hP,g2,hF,g4⟩:=drop_cons h1
   have hk:acc.length<4611686018427387904:=by omega
   have cV:y.size≤Sm.aM l:=by have:=Sm.bC (zac hP);omega
   obtain⟨id,kind,labels,name,proc,x,has,args,aV,aN⟩:=y
   simp only[Sm.size]at cV
   have rX:=fun s=>o7 (v:=⟨id,kind,labels,name,proc,x,has,args,aV,aN⟩) (by dsimp only;omega) s
   simp only[Sm.bare,bU,zaj]at rX
   have c1:=fun s=>me ht (l:=aV) (by omega) s
   have c2:=fun s=>me ht (l:=aN) (by omega) s
   simp only[Sm.dK]at h4
   obtain⟨Y,hY⟩ : ∃ Y,Sm.cw (bL t) ⟨id,kind,labels,name,proc,x,has,args,aV,aN⟩=Y:=⟨_,rfl⟩
   rw[hY]at h4
   rw[zn]at hY
   unfold bL at hY
   obtain⟨T,hT⟩ : ∃ T,Sm.dK (bL t) aV=T:=⟨_,rfl⟩
   obtain⟨E,hE⟩ : ∃ E,Sm.dK (bL t) aN=E:=⟨_,rfl⟩
   unfold bL at hT hE
   simp only[hT,hE]at hY
   unfold bL at c1 c2
   rw[hT]at c1
   rw[hE]at c2
   have gv:=fun(tg:Tag) (r a b c:List D) (T:List (Option Nat))=>mq (s:=⟨[a,jq acc,b,c],T⟩) (o:=1) (g:=acc.length - 1) (len:=acc.length) (z:=13) (bytes:=208) (t:=tg) (r:=r) rfl (Ph acc) (by unfold aT;omega)
   have e3:acc.length - 1+1=acc.length:=by omega
   have e6 : ∀ f:Sm,jq (acc++ [f]) = .int .i64 (acc.length:Int)::((acc.map aH).flatten++aH f):=fun f=>by simp
   have e7 : ∀ f:Sm,(acc++ [f]).length=acc.length+1:=fun f=>by simp
   rcases zad (id==t.id)with b1|b1
   ·rw [if_pos b1]at hY
    subst hY
    repeat' (first
 |simp only[go_sem,hF,hP,hZ,gA,gv,e3,b1]
 |(with_reducible refine CU (rX _) ?_)
 |(with_reducible refine CU (BS _) ?_)
 |(with_reducible refine CU (c1 _) ?_)
 |(with_reducible refine CU (c2 _) ?_)
 |(with_reducible first|refine bj fun hc=>?_|refine bk fun hc=>?_|refine bl (fun hc=>?_) fun hc=>?_)<;>(try simp only[hc,bs,↓reduceIte]at h)<;>try simp only[hc]
 |((with_reducible refine az hQ ?_);(try cases h);simp only[bt,bx,bY,bZ,go_sem,hF,hP,hZ,gA,gv,e3,b1];try exact cB)
 | (cases h;done))
    refine cD 2 0 ?_ ?_ (IH (rest,acc.length+1,acc++ [{t with aV:=T,aN:=E}]) ⟨g2,by simp,by simp,by rw[← h4];simp⟩ (zaa _))
    ·(simp only[go_sem,hF,hP,hZ,gA,aC hk,bU,e3,e6,e7,zaz];try exact bd)
    ·(simp only[go_sem,hF,hP,hZ,gA,aC hk,bU,e3,e6,e7,zaz];try exact bd)
   ·rw [if_neg (by simp [b1])]at hY
    subst hY
    repeat' (first
 |simp only[go_sem,hF,hP,hZ,gA,gv,e3,b1]
 |(with_reducible refine CU (rX _) ?_)
 |(with_reducible refine CU (BS _) ?_)
 |(with_reducible refine CU (c1 _) ?_)
 |(with_reducible refine CU (c2 _) ?_)
 |(with_reducible first|refine bj fun hc=>?_|refine bk fun hc=>?_|refine bl (fun hc=>?_) fun hc=>?_)<;>(try simp only[hc,bs,↓reduceIte]at h)<;>try simp only[hc]
 |((with_reducible refine az hQ ?_);(try cases h);simp only[bt,bx,bY,bZ,go_sem,hF,hP,hZ,gA,gv,e3,b1];try exact cB)
 | (cases h;done))
    refine cD 2 0 ?_ ?_ (IH (rest,acc.length+1,acc++ [⟨id,kind,labels,name,proc,x,has,args,T,E⟩]) ⟨g2,by simp,by simp,by rw[← h4];simp⟩ (zaa _))
    ·(simp only[go_sem,hF,hP,hZ,gA,aC hk,e3,e6,e7,zaz];try exact bd)
    ·(simp only[go_sem,hF,hP,hZ,gA,aC hk,e3,e6,e7,zaz];try exact bd)
 repeat' (first
 |simp only[go_sem,hF,hP,hZ,gA]
 |(with_reducible first|refine bj fun hc=>?_|refine bk fun hc=>?_|refine bl (fun hc=>?_) fun hc=>?_)<;>(try simp only[hc,bs,↓reduceIte]at h)<;>try simp only[hc]
 |((with_reducible refine az hQ ?_);exact dv)
 |(cases h;done))
 refine cr 1 0 (aY.kF (tm:= [(3, .ptr 0 0),(5, .dj 13),(9, .slice .shared 13 (l.map aH)),(10, .int .i64 (l.length:Int)),(11, .int .i64 0)]) (s:=⟨[aH t],[]⟩) ?_)
 have cV:y0.size≤Sm.aM l:=by have:=Sm.bC (zac iy);omega
 obtain⟨Y,hY⟩ : ∃ Y,Sm.cw (bL t) y0=Y:=⟨_,rfl⟩
 rw[hY]at loop
 obtain⟨id,kind,labels,name,proc,x,has,args,aV,aN⟩:=y0
 simp only[Sm.size]at cV
 have rX:=fun s=>o7 (v:=⟨id,kind,labels,name,proc,x,has,args,aV,aN⟩) (by dsimp only;omega) s
 simp only[Sm.bare,bU,zaj]at rX
 have c1:=fun s=>me ht (l:=aV) (by omega) s
 have c2:=fun s=>me ht (l:=aN) (by omega) s
 rw[zn]at hY
 unfold bL at hY
 obtain⟨T,hT⟩ : ∃ T,Sm.dK (bL t) aV=T:=⟨_,rfl⟩
 obtain⟨E,hE⟩ : ∃ E,Sm.dK (bL t) aN=E:=⟨_,rfl⟩
 unfold bL at hT hE
 simp only[hT,hE]at hY
 unfold bL at c1 c2
 rw[hT]at c1
 rw[hE]at c2
 have w1:IntKind.wrap .i64 ((0:Int)+1)=((1:Nat):Int):=rfl
 have iu:=aY.oN (P:=Tryz.prog) (a:=UB) (Q:=dF 0 (eK (eo Tryz.prog B 40 Pf Q) Q)) (nt:=40) (tm:= [(3, .ptr 0 0),(5, .bX 13 3 0 1),(9, .slice .shared 13 (l.map aH)),(10, .int .i64 (l.length:Int)),(11, .int .i64 ((1:Nat):Int))]) (s:=⟨[aH t,vL,vL,jq [Y]],[]⟩)
  hB [0,3] _ _ (by decide) (by simp) (by simp[kq,D.ct,D.bw,D.bg,D.ok,Tag.bw,Tag.ok,nN,pO]) (by simp[mf,Tm.get,D.bw,D.ok,Tag.bw,Tag.ok,Hi,Jz]) loop
 have e4:jq [Y] = .int .i64 0::aH Y:=by simp
 rcases zad (id==t.id)with b1|b1
 ·rw [if_pos b1]at hY
  subst hY
  repeat' (first
 |simp only[go_sem,hF,hP,hZ,gA,iy,nu,BX,cY,b1]
 |(with_reducible refine CU (rX _) ?_)
 |(with_reducible refine CU (BS _) ?_)
 |(with_reducible refine CU (c1 _) ?_)
 |(with_reducible refine CU (c2 _) ?_)
 |(with_reducible first|refine bj fun hc=>?_|refine bk fun hc=>?_|refine bl (fun hc=>?_) fun hc=>?_)<;>(try simp only[hc,bs,↓reduceIte]at h)<;>try simp only[hc]
 |((with_reducible refine az hQ ?_);(try cases h);simp only[bt,bx,bY,bZ,go_sem,hF,hP,hZ,gA,iy,nu,BX,cY,b1];try exact cB)
 |(cases h;done))
  refine cD 4 0 ?_ ?_ (iu)
  ·(simp only[go_sem,hF,hP,hZ,gA,w1,bU,e4,vL];try exact bd)
  ·(simp only[go_sem,hF,hP,hZ,gA,w1,bU,e4,vL];try exact bd)
 ·rw [if_neg (by simp [b1])]at hY
  subst hY
  repeat' (first
 |simp only[go_sem,hF,hP,hZ,gA,iy,nu,BX,cY,b1]
 |(with_reducible refine CU (rX _) ?_)
 |(with_reducible refine CU (BS _) ?_)
 |(with_reducible refine CU (c1 _) ?_)
 |(with_reducible refine CU (c2 _) ?_)
 |(with_reducible first|refine bj fun hc=>?_|refine bk fun hc=>?_|refine bl (fun hc=>?_) fun hc=>?_)<;>(try simp only[hc,bs,↓reduceIte]at h)<;>try simp only[hc]
 |((with_reducible refine az hQ ?_);(try cases h);simp only[bt,bx,bY,bZ,go_sem,hF,hP,hZ,gA,iy,nu,BX,cY,b1];try exact cB)
 |(cases h;done))
  refine cD 4 0 ?_ ?_ (iu)
  ·(simp only[go_sem,hF,hP,hZ,gA,w1,bU,e4,vL];try exact bd)
  ·(simp only[go_sem,hF,hP,hZ,gA,w1,bU,e4,vL];try exact bd)
theorem ab5 {t:Sm} (ht:t.oA<10000000) {l:List Sm} (hl:Sm.aM l<9000000) (h0:l≠ []) (st:St) :
 ay Tryz.prog 145 [.slice .shared 13 (l.map aH), .agg (aH t)] st (.bX 13 st.av.length (l.length - 1) l.length) ⟨st.av++ [jq (Sm.dK (bL t) l)],st.aw⟩:=by
 have h1:=ab4 ht hl h0 (R:=Sm.dK (bL t) l) rfl
 have Ze:(Sm.dK (bL t) l).length=l.length:=by
  have : ∀ l:List Sm,(Sm.dK (bL t) l).length=l.length:=fun l=>by
   induction l with
   |nil=>rfl
   |cons v l ih=>simp only[Sm.dK,zal,ih]
  exact this l
 generalize Sm.dK (bL t) l=R at *
 have h2:=ay.iu (d':= .bX 13 0 (R.length - 1) R.length) (cU:= [jq R]) [1] h1 (by decide) (by simp) rfl (fun i o ds e1 e2=>by
  cases i with
  |zero=>
   simp only[zaK,Option.some.injEq]at e1 e2
   subst e1 e2
   exact⟨by simp[D.ct,D.bw,jw],by simp[D.bg,D.ok,my]⟩
  |succ i=>simp at e1) (by simp[D.bw,D.ct,Tag.bw]) (by simp[D.ok,D.bg,Tag.ok])
 have h3:=h2.BW (by simp[D.bg,D.ok,Tag.ok,gR,il]) (by simp[D.bg,D.ok,Fz]) st
 simpa[D.bw,D.ct,Tag.bw,Ze]using h3
theorem D8 (g:Sm→Sm) : ∀ l:List Sm,(Sm.dK g l).length=l.length
 | []=>rfl
 |v::l=>by simp only[Sm.dK,zal,D8 g l]
theorem ab6 (t:Sm) (st:St):ay Tryz.prog 145 [.slice .shared 13 [], .agg (aH t)] st (.dj 13) st:=by
 refine ay.pure ?_ (by simp[D.bg,D.ok,Tag.ok,il,D.fu]) rfl st
 unfold S0
 have e0:decide ((0:Int)<0)=false:=rfl
 refine ay.go nj.h rfl fun B Q hB hQ=>?_
 have⟨hF,hP,hZ,gA⟩:=bD
 repeat' (first
 |simp only[go_sem,hF,hP,hZ,gA]
 |(with_reducible first|refine bj fun hc=>?_|refine bk fun hc=>?_|refine bl (fun hc=>?_) fun hc=>?_)<;>(try simp only[hc,bs,↓reduceIte]at h)<;>try simp only[hc]
 |((with_reducible refine az hQ ?_);exact dv)
 |(cases h;done))
 refine aY.kF ?_
 repeat' (first
 |simp only[go_sem,hF,hP,hZ,gA,e0]
 |(with_reducible first|refine bj fun hc=>?_|refine bk fun hc=>?_|refine bl (fun hc=>?_) fun hc=>?_)<;>(try simp only[hc,bs,↓reduceIte]at h)<;>try simp only[hc]
 |((with_reducible refine az hQ ?_);(try cases h);simp only[bt,bx,bY,bZ,go_sem,hF,hP,hZ,gA,e0];try exact cB)
 |(cases h;done))
end Go.Abs
