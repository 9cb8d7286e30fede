/-
  What is proved here: part 5 of the road to the claim (Frz, MirLex, MirMay, Prs, Lex1, Lex2, RefLex1, Prs2, Ref1, Ref2, Ref3, RefMay1, RefMay2, Flat1, Flat2, Flat3, Sl1, MirFlat2, Sl2, TMay1, TMay2, RefMay3, RefMay4, TMay3, TMay4, MayFine, MayEq, Nm1, Nm2).
  No conditions.
-/
import Derived.Test.YtiopamakecmpkaaGreatCxT4

set_option linter.unusedSimpArgs false
set_option linter.unusedVariables false
namespace Go.Abs
theorem aC.zp {P:Program} {f:Nat} {args:List D} {s0 s:St} {o off n m:Nat} {row:List D} (h:aC P f args s0 (.ptr o off) s) (ho:s.aw[o]? = some row) (hn:s0.aw.length≤n) (hno:n≤o) (hm:s0.aE.length≤m) :
 aC P f args s0 (.dJ (D.ic n m row) off) (s.cut n m):=by
 intro M0 w0 fJ r0 kp ahF ha
 refine(h M0 w0 fJ r0 kp ahF ha).mono ?_
 rintro en w ⟨M,d,v0,s',rfl,⟨rfl,rfl⟩,e,r,hv⟩
 have wR:=hv.zE
 have sZ:v0 = .pointer (some ⟨M.mu o,off,none⟩):=hv.rE.1
 have O0:o<s'.aw.length:=(zai.1 ho).1
 obtain⟨vs,T,hh,dz,⟨fF,_⟩,j8⟩:=r.obj o row ho
 replace hh:w.heap[M.mu o]? = some (.cells vs T (0,0)):=hh.cells wR
 let M':Map:= {M with G:=fun b q=>if b=M.mu o then vs[q]? else M.G b q}
 have hGo : ∀ q,M.G (M.mu o) q=none:=r.jY o O0
 have le:Le M s' M' s':=⟨fun b q v hq=>by
  show(if b=M.mu o then vs[q]? else M.G b q)=some v
  by_cases hb:b=M.mu o
  ·subst hb;rw[hGo]at hq;cases hq
  ·rw[if_neg hb];exact hq,zaj _,fun _ _=> .refl _,zaj _,fun t n' _ e=>⟨n',e,zaj _,fun _=>rfl⟩⟩
 have hC : ∀ q,q<(s'.cut n m).aw.length→q<s'.aw.length∧q≠o:=fun q h=>by rw[nw]at h;omega
 have r9:w0.heap.size≤M.mu o:=e.uc o (.inl (by omega)) O0
 have ec:=e.cut hn hm
 have lec:Le M (s'.cut n m) M' (s'.cut n m):=⟨le.G,zaj _,fun _ _=> .refl _,zaj _,fun t n' _ e=>⟨n',e,zaj _,fun _=>rfl⟩⟩
 have rc:=r.cut n m
 have sk : ∀ b,b≠M.mu o→∀ q,M'.G b q=M.G b q:=fun b hb q=>if_neg hb
 refine⟨M',_,v0,_,rfl,⟨rfl,rfl⟩,⟨ec.le.trans lec,ec.kept,ec.uc,ec.qA,fun b q eF=>?_,ec.size,ec.os,ec.tape,ec.output⟩,⟨fun b q v hq=>?_,fun q ds hq=>?_,fun q hq wg=>?_,rc.inj,fun t n' mB=>?_,rc.eP,rc.fM⟩, ?_⟩
 ·by_cases hb:b=M.mu o
  ·subst hb;exact .inl r9
  ·rw[sk b hb]at eF;exact ec.sT b q eF
 ·have pj:(if b=M.mu o then vs[q]? else M.G b q)=some v:=hq
  by_cases hb:b=M.mu o
  ·rw [if_pos hb]at pj
   rw[hb,ju hh]
   exact⟨pj,fF v (zbC pj)⟩
  ·rw [if_neg hb]at pj
   exact r.comm b q v pj
 ·obtain⟨fe,T',h3,h4,h5,h6⟩:=rc.obj q ds hq
  exact⟨fe,T',h3,h4,h5,fun i d v e1 e2=>(h6 i d v e1 e2).mono lec⟩
 ·obtain⟨h3,h4⟩:=hC q hq
  show M'.G (M.mu q) wg=none
  rw[sk _ (fun e=>h4 (r.inj q o h3 O0 e))]
  exact r.jY q h3 wg
 ·rcases rc.tok t n' mB with h3 | ⟨b,cap,z,fe,T',h3,h4,h5,h6,h7⟩
  ·exact .inl h3
  ·refine .inr ⟨b,cap,z,fe,T',h3,h4,h5,h6,fun wg Cc=> ?_,h7.2⟩
   rw[sk _ (fun e=>r.eP t b cap z o (ux ⟨n',mB⟩) h3 O0 e.symm)]
   exact h7.1 wg Cc
 ·rw [sZ]
  have:=RD.dJ (M:=M') (s:=s'.cut n m) (D.ic n m row) off (M.mu o) 0 (fun i d e1=>?_) (fun i d u e1 eu=>?_)
  ·simpa using this
  ·rw [nM,zat,zaz]at e1
   obtain⟨d0,e1,rfl⟩:=e1
   have hi:=(zai.1 e1).1
   refine⟨vs[i]'(by omega), ?_⟩
   show(if M.mu o=M.mu o then vs[0+i]? else _)=_
   rw[if_pos rfl,za3]
   exact zbq _
  ·rw [nM,zat,zaz]at e1
   obtain⟨d0,e1,rfl⟩:=e1
   have LF:(if M.mu o=M.mu o then vs[0+i]? else M.G (M.mu o) (0+i))=some u:=eu
   rw[if_pos rfl,za3]at LF
   exact((j8 i d0 u e1 LF).fg n m).mono lec
theorem aC.goK {P:Program} {f:FuncId} {res:List (Nat×Option (Bool×Nat))} {body:AC} {args:List D} {s:St} {d:D} {s':St} {nt:Nat} (n m:Nat) (hn:s.aw.length≤n) (hm:s.aE.length≤m) (h0:Has P f nt res body) (hl:Nat.ble args.length nt=true)
 (h : ∀ (B:eQ) (Q:Exit→Tm→St→Prop),B.s=s→gZ n m res d s'=Q→fZ P B nt body Q (ny 0 args) s):aC P f args s d s':=by
 obtain⟨fn,hf,hc⟩:=h0
 refine dG.XQ (dG.intro (Q:=fun d1 s1=>Wk d1 d∧iE s1.aw s'.aw∧s1.aE=s'.aE) hf hc (za8 hl) fun B hB=>(iz (h B _ hB rfl)).mono fun e tm s1 hr=>?_) fun d1 s1 ⟨h1,h2,h3⟩=>⟨d,s',h1,h2,h3,rfl,rfl⟩
 subst hB
 cases e with
 |normal=>obtain⟨l,h1,h2,h3,h4⟩:=hr;exact⟨l,h1,_,_,hn,hm,h2,h3,h4⟩
 |ret=>obtain⟨l,h1,h2,h3,h4⟩:=hr;exact⟨l,h1,_,_,hn,hm,h2,h3,h4⟩
 |exit id=>exact hr.elim
 |goto l=>exact hr.elim
 |panic ch=>exact hr.elim
 |outgrown=>exact hr.elim
def lG (c:UInt8):Bool:=decide ((c.toNat:Int)≥97) && decide ((c.toNat:Int)≤122)
def iH (c:UInt8):Bool:=decide ((c.toNat:Int)≥48) && decide ((c.toNat:Int)≤57)
def qm (c:UInt8):Bool:=(c.toNat:Int)==32 ||(c.toNat:Int)==9 ||(c.toNat:Int)==10 ||(c.toNat:Int)==13
def fu:aB→Nat
 | []=>0
 |c::r=>if lG c ||iH c then fu r+1 else 0
def iY:aB→Nat
 | []=>0
 |c::r=>if iH c then iY r+1 else 0
def gF:aB→Nat
 | []=>0
 |c::r=>if(c.toNat:Int) != 10 then gF r+1 else 0
def isWord (s:aB):Bool:=
 s == [103,108,111,98,97,108] ||s == [112,114,111,99] ||s == [118,97,114] ||s == [114,101,102] ||s == [105,102] ||s == [101,108,115,101] ||s == [119,104,105,108,101] ||s == [98,114,101,97,107] ||s == [99,111,110,116,105,110,117,101] ||s == [114,101,116,117,114,110] ||s == [103,111,116,111] ||s == [114,101,97,100] ||s == [112,114,105,110,116]
def O1 (s:aB):Bool:=s == [61,61] ||s == [33,61] ||s == [60,61] ||s == [62,61] ||s == [38,38] ||s == [124,124]
def A8 (c:UInt8):Bool:=
 (c.toNat:Int)==40 ||(c.toNat:Int)==41 ||(c.toNat:Int)==123 ||(c.toNat:Int)==125 ||(c.toNat:Int)==44 ||(c.toNat:Int)==59 ||(c.toNat:Int)==58 ||(c.toNat:Int)==61 ||
 (c.toNat:Int)==33 ||(c.toNat:Int)==60 ||(c.toNat:Int)==62 ||(c.toNat:Int)==43 ||(c.toNat:Int)==45 ||(c.toNat:Int)==42 ||(c.toNat:Int)==47 ||(c.toNat:Int)==37
def kv:aB→Nat
 | []=>0
 | [c]=>if A8 c then 1 else 0
 |c::d::_=>if O1 [c,d]then 2 else if A8 c then 1 else 0
def oc:Int→aB→Option Int
 |n,[]=>some n
 |n,c::r=>if n > (9223372036854775807 - ((c.toNat:Int) - 48)) / 10 then none else oc (n*10+((c.toNat:Int) - 48)) r
def fV (pos:Nat):aB→bN ⊕ Int
 | []=> .inr 2
 | c::r=>
  if lG c then
   let s:=(c::r).take (fu (c::r))
   if s.length > 8 then .inr 4 else .inl ⟨if isWord s then 3 else 1,s,0,pos⟩
  else if iH c then
   let s:=(c::r).take (iY (c::r))
   if s.length > 1∧(c.toNat:Int)=48 then .inr 2 else
   match oc 0 s with
   |some n=> .inl ⟨2,s,n,pos⟩
   |none=> .inr 4
  else
   if kv (c::r)=0 then .inr 2 else .inl ⟨4,(c::r).take (kv (c::r)),0,pos⟩
def fR:Nat→Nat→aB→List bN→List bN×Int×Int
 | 0,_,_,_=>([],0,0)
 |_+1,pos,[],out=>(out++ [⟨0,[],0,pos⟩],0,0)
 | n+1,pos,c::r,out=>
  if qm c then fR n (pos+1) r out
  else if(c.toNat:Int)==35 then fR n (pos+gF (c::r)) ((c::r).drop (gF (c::r))) out
  else match fV pos (c::r)with
   | .inr e=>([],e,pos)
   | .inl t=>if out.length=2000 then([],4,pos)else fR n (pos+t.text.length) ((c::r).drop t.text.length) (out++ [t])
def eX (text:aB):List bN×Int×Int:=if text.length > 100000 then([],4,0)else fR (text.length+1) 0 text []
def qR:aB→Bool
 | []=>true
 |c::r=>if !(lG c) && !(iH c)then false else qR r
def isName:aB→Bool
 | []=>false
 |c::r=>if decide (((r.length+1:Nat):Int) > 8) || !(lG c)then false else if qR r then !(isWord (c::r))else false
def jH (op:Int):Int:=if op==1 ||op==2 then 0 else if op==3 ||op==4 then 1 else if decide (op≥5) && decide (op≤17)then 2 else -1
mutual
def Ex.form:Ex→Bool
 |⟨op,n,name,kids⟩=>
  if jH op != (kids.length:Int) ||(op != 1 && n != 0) ||decide (n<0) || !((op==2) == !(name == [])) ||(!(name == []) && !(isName name))then false else Ex.lW kids
def Ex.lW:List Ex→Bool
 | []=>true
 |x::l=>if !(Ex.form x)then false else Ex.lW l
end
mutual
def Ex.texts:Ex→Prop
 |⟨_,_,name,kids⟩=>name.length<4611686018427387904∧Ex.xD kids
def Ex.xD:List Ex→Prop
 | []=>True
 |x::l=>x.texts∧Ex.xD l
end
theorem Ex.DF {x:Ex} : ∀ {l:List Ex},Ex.xD l→x∈l→x.texts
 |y::l,h,m=>by
  rcases zaw.1 m with rfl|m
  ·exact h.1
  ·exact Ex.DF h.2 m
theorem Ex.FV {op n:Int} {name:aB} {kids:List Ex} (h:Ex.texts ⟨op,n,name,kids⟩) {y:Ex} (m:y∈kids):y.texts:=Ex.DF h.2 m
def Ex.may (x:Ex):Bool:=decide (((min x.depth 21:Nat):Int)≤20) && x.form
def Ex.none (x:Ex):Bool:=x.op==0 && x.n==0 && x.name == [] && (x.kids.length:Int)==0
def cr:List aB→Bool
 | []=>true
 |s::l=>if !(isName s)then false else cr l
def Ar.may (a:Ar):Bool:=if a.ref then isName a.name && a.x.none else a.name == [] && a.x.may
def Ar.cJ:List Ar→Bool
 | []=>true
 |a::l=>if !(a.may)then false else Ar.cJ l
def Sm.mg (s:Sm):Bool:=s.kind==1 ||s.kind==3 ||s.kind==5 ||s.kind==6 ||(s.kind==9 && s.has)
def Sm.hasName (s:Sm):Bool:=s.kind==1 ||s.kind==2 ||s.kind==10
def Sm.iI (s:Sm):Bool:=s.kind==4
def Sm.one (s:Sm):Bool:=
 if decide (s.kind<1) ||decide (s.kind > 10) || !(cr s.labels) ||(s.mg && !(s.x.may)) ||(!(s.mg) && !(s.x.none)) ||(s.has && s.kind != 9)then false
 else if(s.hasName && !(isName s.name)) ||(!(s.hasName) && !(s.name == []) && !(s.iI && isName s.name))then false
 else if !(s.iI == !(s.proc == [])) ||(s.iI && !(isName s.proc)) ||(!(s.iI) && decide ((s.args.length:Int) > 0))then false
 else if !(Ar.cJ s.args)then false
 else((s.bb.length:Int)==0 ||s.kind==5 ||s.kind==6) && ((s.aR.length:Int)==0 ||s.kind==5)
structure It where
 s:Sm
 deep:Int
 bF:Int
 aR:Bool
mutual
def ff (deep bF:Int) (aR:Bool) (out:List It):Sm→List It
 |⟨id,kind,labels,name,proc,x,has,args,bb,e⟩=>
  if decide (deep≤12)then cW (deep+1) id true (cW (deep+1) id false (out++ [⟨⟨id,kind,labels,name,proc,x,has,args,bb,e⟩,deep,bF,aR⟩]) bb) e
  else out++ [⟨⟨id,kind,labels,name,proc,x,has,args,bb,e⟩,deep,bF,aR⟩]
def cW (deep bF:Int) (aR:Bool) (out:List It):List Sm→List It
 | []=>out
 |s::l=>if decide ((out.length:Int)≤200)then cW deep bF aR (ff deep bF aR out s) l else out
end
def Pc.flat (f:Pc):List It:=cW 1 0 false [] f.body
def allM (out:List It):List Pc→List It
 | []=>out
 |f::l=>if decide (((out++f.flat).length:Int) > 200)then out++f.flat else allM (out++f.flat) l
def Pg.all (p:Pg):List It:=allM [] p.procs
def Pm.cJ:List Pm→Bool
 | []=>true
 |a::l=>if !(isName a.name)then false else Pm.cJ l
def Pc.kz:List Pc→Bool
 | []=>true
 |f::l=>
  if !(isName f.name) ||decide ((f.params.length:Int) > 8) ||decide ((f.vars.length:Int) > 16) || !(cr f.vars) || !(cr f.fin)then false
  else if !(Pm.cJ f.params)then false else Pc.kz l
def It.cJ (n:Nat):List It→Bool
 | []=>true
 |i::l=>if i.s.id != ((n+1:Nat):Int) ||decide (i.deep > 12) || !(i.s.one)then false else It.cJ (n+1) l
def Pg.may (p:Pg):Bool:=
 if decide ((p.globals.length:Int) > 16) ||decide ((p.procs.length:Int) > 16) || !(cr p.globals)then false
 else if !(Pc.kz p.procs)then false
 else if decide ((p.all.length:Int) > 200)then false else It.cJ 0 p.all
set_option maxRecDepth 8000
open Go.Proofs
@[go_sem] def cw (r:Rd):List D:= [.slice .shared 4 (r.l.map dt), .int .i64 r.i, .int .i64 r.code, .int .i64 r.gE, .int .i64 r.n]
theorem fv (r:Rd):D.bP 0 0 (cw r)=true:=by simp[cw,D.bP,D.ok,Tag.ok,xh]
theorem rK {r:Rd} {t:bN} (h:r.fA=some t):r.i<4611686018427387904:=(fh h).1
theorem is_lt {r:Rd} {s:aB} {t:Bool} (h:r.is s=some t):r.i<4611686018427387904:=by
 obtain⟨t,h1,h⟩:=zab.1 h
 exact rK h1
-- good
theorem abX (l:List bN) (i c f n:Int):aC Tryz.prog 133 [.ptr 0 0] ⟨[[.slice .shared 4 (l.map dt), .int .i64 i, .int .i64 c, .int .i64 f, .int .i64 n]],[]⟩ (.bool (c==0)) ⟨[[.slice .shared 4 (l.map dt), .int .i64 i, .int .i64 c, .int .i64 f, .int .i64 n]],[]⟩:=by
 refine aC.go xy.h rfl fun B Q hB hQ=>?_
 have⟨hC,hE,hF,hS⟩:=bt
 repeat' (first
 |simp only[go_sem,hC,hE,hF,hS,mO]
 |(with_reducible refine ay hQ ?_;exact aK))
theorem kF {l:List bN} {i c f n:Int} {s:St} {o:Nat} (ho:s.aw[o]? = some [.slice .shared 4 (l.map dt), .int .i64 i, .int .i64 c, .int .i64 f, .int .i64 n]):aC Tryz.prog 133 [.ptr o 0] s (.bool (c==0)) ⟨s.aw.set o [.slice .shared 4 (l.map dt), .int .i64 i, .int .i64 c, .int .i64 f, .int .i64 n],s.aE⟩:=
 have hk:D.bP 0 0 [.slice .shared 4 (l.map dt), .int .i64 i, .int .i64 c, .int .i64 f, .int .i64 n] = true:=by simp[D.bP,D.ok,Tag.ok,xh]
 aC.fy (abX l i c f n) rfl hk hk rfl ho
theorem abY {r:Rd} {t:bN} (h:r.fA=some t):aC Tryz.prog 137 [.ptr 0 0] ⟨[cw r],[]⟩ (.agg (dt t)) ⟨[cw r],[]⟩:=by
 obtain⟨h2,h,_,_⟩:=fh h
 refine aC.go xA.h rfl fun B Q hB hQ=>?_
 have⟨hC,hE,hF,hS⟩:=bt
 repeat' (first
 |simp only[go_sem,hC,hE,hF,hS,mO,h]
 |(with_reducible refine ay hQ ?_;exact aK))
theorem oK {r:Rd} {t:bN} (h:r.fA=some t) {s:St} {o:Nat} (ho:s.aw[o]? = some (cw r)):aC Tryz.prog 137 [.ptr o 0] s (.agg (dt t)) ⟨s.aw.set o (cw r),s.aE⟩:=
 (abY h).fy rfl (fv r) (fv r) (Dh t) ho
theorem ahG {r:Rd} {text:aB} {b:Bool} (h:r.is text=some b):aC Tryz.prog 134 [.ptr 0 0, .str text] ⟨[cw r],[]⟩ (.bool b) ⟨[cw r],[]⟩:=by
 unfold Rd.is at h
 refine aC.go zj.h rfl fun B Q hB hQ=>?_
 have⟨hC,hE,hF,hS⟩:=bt
 repeat' (first
 |simp only[go_sem,hC,hE,hF,hS,mO]
 |(rw[zab]at h;obtain⟨_,h1,h⟩:=h;first|(with_reducible refine CU (oK h1 (by with_unfolding_all rfl)) ?_))
 |(with_reducible first|refine aX fun hc=>?_|refine aY fun hc=>?_|refine aZ (fun hc=>?_) fun hc=>?_)<;>(try simp only[hc,bs,↓reduceIte]at h)<;>try simp only[hc]
 |((with_reducible refine ay hQ ?_);(try cases h);simp only[bp,bq,bS,bT,go_sem,hC,hE,hF,hS,mO];try exact cp))
theorem z7 {r:Rd} {text:aB} {b:Bool} (h:r.is text=some b) {s:St} {o:Nat} (ho:s.aw[o]? = some (cw r)):aC Tryz.prog 134 [.ptr o 0, .str text] s (.bool b) ⟨s.aw.set o (cw r),s.aE⟩:=
 (ahG h).fy rfl (fv r) (fv r) rfl ho
theorem aeY {r r':Rd} {c:Int} (h:r.bad c=some r'):aC Tryz.prog 135 [.ptr 0 0, .int .i64 c] ⟨[cw r],[]⟩ (.tuple []) ⟨[cw r'],[]⟩:=by
 unfold Rd.bad at h
 refine aC.go yl.h rfl fun B Q hB hQ=>?_
 have⟨hC,hE,hF,hS⟩:=bt
 repeat' (first
 |simp only[go_sem,hC,hE,hF,hS,mO]
 |(rw[zab]at h;obtain⟨_,h1,h⟩:=h;first|(with_reducible refine CU (oK h1 (by with_unfolding_all rfl)) ?_))
 |(with_reducible refine CU (kF (by with_unfolding_all rfl)) ?_)
 |(with_reducible first|refine aX fun hc=>?_|refine aY fun hc=>?_|refine aZ (fun hc=>?_) fun hc=>?_)<;>(try simp only[hc,bs,↓reduceIte]at h)<;>try simp only[hc]
 |((with_reducible refine ay hQ ?_);(try cases h);simp only[bp,bq,bS,bT,go_sem,hC,hE,hF,hS,mO];try exact cp))
theorem DG {r r':Rd} {c:Int} (h:r.bad c=some r') {s:St} {o:Nat} (ho:s.aw[o]? = some (cw r)):aC Tryz.prog 135 [.ptr o 0, .int .i64 c] s (.tuple []) ⟨s.aw.set o (cw r'),s.aE⟩:=
 (aeY h).fy rfl (fv r) (fv r') rfl ho
theorem abZ {r:Rd} {text:aB} {p:Bool×Rd} (h:r.take text=some p):aC Tryz.prog 131 [.ptr 0 0, .str text] ⟨[cw r],[]⟩ (.bool p.1) ⟨[cw p.2],[]⟩:=by
 unfold Rd.take at h
 refine aC.go xx.h rfl fun B Q hB hQ=>?_
 have⟨hC,hE,hF,hS⟩:=bt
 repeat' (first
 |simp only[go_sem,hC,hE,hF,hS,mO]
 |(rw[zab]at h;obtain⟨_,h1,h⟩:=h;first|(with_reducible refine CU (z7 h1 (by with_unfolding_all rfl)) ?_;have hC:=is_lt h1))
 |(with_reducible refine CU (kF (by with_unfolding_all rfl)) ?_)
 |(with_reducible first|refine aX fun hc=>?_|refine aY fun hc=>?_|refine aZ (fun hc=>?_) fun hc=>?_)<;>(try simp only[hc,bs,↓reduceIte]at h)<;>try simp only[hc]
 |((with_reducible refine ay hQ ?_);(try cases h);simp only[bp,bq,bS,bT,go_sem,hC,hE,hF,hS,mO];try exact cp))
theorem sH {r:Rd} {text:aB} {p:Bool×Rd} (h:r.take text=some p) {s:St} {o:Nat} (ho:s.aw[o]? = some (cw r)):aC Tryz.prog 131 [.ptr o 0, .str text] s (.bool p.1) ⟨s.aw.set o (cw p.2),s.aE⟩:=
 (abZ h).fy rfl (fv r) (fv p.2) rfl ho
theorem ab0 {r r':Rd} {text:aB} (h:r.want text=some r'):aC Tryz.prog 171 [.ptr 0 0, .str text] ⟨[cw r],[]⟩ (.tuple []) ⟨[cw r'],[]⟩:=by
 unfold Rd.want at h
 refine aC.go xp.h rfl fun B Q hB hQ=>?_
 have⟨hC,hE,hF,hS⟩:=bt
 repeat' (first
 |simp only[go_sem,hC,hE,hF,hS,mO]
 |(rw[zab]at h;obtain⟨_,h1,h⟩:=h;first|(with_reducible refine CU (sH h1 (by with_unfolding_all rfl)) ?_))
 |(with_reducible refine CU (DG h (by with_unfolding_all rfl)) ?_)
 |(with_reducible first|refine aX fun hc=>?_|refine aY fun hc=>?_|refine aZ (fun hc=>?_) fun hc=>?_)<;>(try simp only[hc,bs,↓reduceIte]at h)<;>try simp only[hc]
 |((with_reducible refine ay hQ ?_);(try cases h);simp only[bp,bq,bS,bT,go_sem,hC,hE,hF,hS,mO];try exact cp))
theorem pN {r r':Rd} {text:aB} (h:r.want text=some r') {s:St} {o:Nat} (ho:s.aw[o]? = some (cw r)):aC Tryz.prog 171 [.ptr o 0, .str text] s (.tuple []) ⟨s.aw.set o (cw r'),s.aE⟩:=
 (ab0 h).fy rfl (fv r) (fv r') rfl ho
theorem ab1 {r:Rd} {room:Bool} {p:aB×Rd} (h:r.name room=some p):aC Tryz.prog 170 [.ptr 0 0, .bool room] ⟨[cw r],[]⟩ (.str p.1) ⟨[cw p.2],[]⟩:=by
 unfold Rd.name at h
 refine aC.go xo.h rfl fun B Q hB hQ=>?_
 have⟨hC,hE,hF,hS⟩:=bt
 repeat' (first
 |simp only[go_sem,hC,hE,hF,hS,mO]
 |(rw[zab]at h;obtain⟨_,h1,h⟩:=h;first|(with_reducible refine CU (oK h1 (by with_unfolding_all rfl)) ?_;have hC:=rK h1)|(with_reducible refine CU (DG h1 (by with_unfolding_all rfl)) ?_))
 |(with_reducible refine CU (kF (by with_unfolding_all rfl)) ?_)
 |(with_reducible first|refine aX fun hc=>?_|refine aY fun hc=>?_|refine aZ (fun hc=>?_) fun hc=>?_)<;>(try simp only[hc,bs,↓reduceIte]at h)<;>try simp only[hc]
 |((with_reducible refine ay hQ ?_);(try cases h);simp only[bp,bq,bS,bT,go_sem,hC,hE,hF,hS,mO];try exact cp))
theorem xE {r:Rd} {room:Bool} {p:aB×Rd} (h:r.name room=some p) {s:St} {o:Nat} (ho:s.aw[o]? = some (cw r)):aC Tryz.prog 170 [.ptr o 0, .bool room] s (.str p.1) ⟨s.aw.set o (cw p.2),s.aE⟩:=
 (ab1 h).fy rfl (fv r) (fv p.2) rfl ho
set_option maxRecDepth 8000
open Go.Proofs
theorem il (c:UInt8) (s:St):aC Tryz.prog 76 [.int .u8 (c.toNat:Int)] s (.bool (lG c)) s:=by
 refine aC.pure ?_ rfl rfl s
 generalize h:lG c=b
 unfold lG at h
 unfold S0
 refine aC.go EJ.h rfl fun B Q hB hQ=>?_
 have⟨hC,hE,hF,hS⟩:=bt
 repeat' (first
 |simp only[go_sem,hC,hE,hF,hS]
 |(with_reducible first|refine aX fun hc=>?_|refine aY fun hc=>?_|refine aZ (fun hc=>?_) fun hc=>?_)<;>(try simp only[hc,bs,↓reduceIte]at h)<;>try simp only[hc]
 |((with_reducible refine ay hQ ?_);exact cS))
theorem jN (c:UInt8) (s:St):aC Tryz.prog 128 [.int .u8 (c.toNat:Int)] s (.bool (iH c)) s:=by
 refine aC.pure ?_ rfl rfl s
 generalize h:iH c=b
 unfold iH at h
 unfold S0
 refine aC.go Hi.h rfl fun B Q hB hQ=>?_
 have⟨hC,hE,hF,hS⟩:=bt
 repeat' (first
 |simp only[go_sem,hC,hE,hF,hS]
 |(with_reducible first|refine aX fun hc=>?_|refine aY fun hc=>?_|refine aZ (fun hc=>?_) fun hc=>?_)<;>(try simp only[hc,bs,↓reduceIte]at h)<;>try simp only[hc]
 |((with_reducible refine ay hQ ?_);exact cS))
theorem uC (t:aB) (s:St):aC Tryz.prog 78 [.str t] s (.bool (isWord t)) s:=by
 refine aC.pure ?_ rfl rfl s
 generalize h:isWord t=b
 unfold isWord at h
 unfold S0
 refine aC.go IU.h rfl fun B Q hB hQ=>?_
 have⟨hC,hE,hF,hS⟩:=bt
 repeat' (first
 |simp only[go_sem,hC,hE,hF,hS]
 |(with_reducible first|refine aX fun hc=>?_|refine aY fun hc=>?_|refine aZ (fun hc=>?_) fun hc=>?_)<;>(try simp only[hc,bs,↓reduceIte]at h)<;>try simp only[hc]
 |((with_reducible refine ay hQ ?_);exact cS))
theorem X9 {text:aB} {pos:Nat} (hl:text.length<4611686018427387904) (s:St):aC Tryz.prog 77 [.str text, .int .i64 (pos:Int)] s (.int .i64 ((pos+fu (text.drop pos):Nat):Int)) s:=by
 refine aC.pure ?_ rfl rfl s
 unfold S0
 refine aC.go KY.h rfl fun B Q hB hQ=>?_
 have⟨hC,hE,hF,hS⟩:=bt
 repeat' (first
 |simp only[go_sem,hC,hE,hF,hS]
 |(with_reducible refine ay hQ ?_;exact aK))
 refine b8 0 0 (aV.ind (ι:=aB×Nat) (fun i=>text.drop i.2=i.1∧i.2+fu i.1=pos+fu (text.drop pos)) (fun i=>i.1.length)
  (fun i=> [(0, .str text),(1, .int .i64 (i.2:Int))]) (fun i=>⟨[],[]⟩) ?_ (text.drop pos,pos) ⟨rfl,rfl⟩)
 rintro⟨rest,k⟩ ⟨h1,h2⟩ IH
 dsimp only at h1 h2
 cases rest with
 |nil=>
  have hC:=drop_nil h1
  simp only[fu,zaP]at h2
  rw[← h2]at hQ
  repeat' (first
 |simp only[go_sem,hC,hE,hF,hS]
 |(with_reducible refine ay hQ ?_;exact aK))
 | cons c rest=>
  obtain⟨hE,g2,hC,g4⟩:=drop_cons h1
  have hF:k<4611686018427387904:=by omega
  cases hb:(lG c ||iH c)
  ·simp only [fu,hb,zaa, ↓reduceIte,zaP]at h2
   rw[← h2]at hQ
   simp only[zby]at hb
   repeat' (first
 |simp only[go_sem,hC,hE,hF,hS,hb.1,hb.2]
 |(with_reducible refine CU (il _ _) ?_)
 |(with_reducible refine CU (jN _ _) ?_)
 | (with_reducible refine ay hQ ?_;exact aK))
  ·simp only [fu,hb, ↓reduceIte]at h2
   cases xb:lG c
   ·rw [xb,zbd]at hb
    repeat' (first
 |simp only[go_sem,hC,hE,hF,hS,hb,xb]
 |(with_reducible refine CU (il _ _) ?_)
 |(with_reducible refine CU (jN _ _) ?_)
 | (with_reducible refine ay hQ ?_;exact aK))
    refine b8 0 0 (IH (rest,k+1) ⟨g2,by dsimp only;omega⟩ (zac _))
   ·repeat' (first
 |simp only[go_sem,hC,hE,hF,hS,xb]
 |(with_reducible refine CU (il _ _) ?_)
 |(with_reducible refine CU (jN _ _) ?_)
 | (with_reducible refine ay hQ ?_;exact aK))
    refine b8 0 0 (IH (rest,k+1) ⟨g2,by dsimp only;omega⟩ (zac _))
theorem ym (text:aB) (a b:Nat):(text.take (a+b)).drop a=(text.drop a).take b:=by rw[List.drop_take];congr 1;omega
set_option maxRecDepth 20000 in
theorem ab2 {text : aB} {pos : Nat} {c : UInt8} {r : aB} (hd : text.drop pos = c :: r) (hl : text.length < 4611686018427387904) (s : St) :
   aC Tryz.prog 129 [.str text, .int .i64 (pos : Int)] s (.int .i64 ((kv (c :: r) : Nat) : Int)) s := by
 refine aC.pure ?_ rfl rfl s
 obtain ⟨hE, g2, g3, g4⟩ := drop_cons hd
 have hF : pos < 4611686018427387904 := by omega
 have hS : 0 < 1 := zas
 generalize h : kv (c :: r) = k
 unfold S0
 cases r with
 | nil =>
   have hC : decide (((pos + 1 : Nat) : Int) < (text.length : Int)) = false := drop_nil g2
   simp only[kv, A8]at h
   refine aC.go z6.h rfl fun B Q hB hQ =>?_
   repeat' (first
 |simp only[go_sem, hC, hE, hF, hS]
 |(with_reducible first|refine aX fun hc =>?_|refine aY fun hc =>?_|refine aZ (fun hc =>?_) fun hc =>?_)<;>(try simp only[hc, bs,↓reduceIte]at h)<;>try simp only[hc]
 |(with_reducible refine ay hQ ?_; exact cS)
 |(cases h; done))
 | cons d r =>
   obtain ⟨_, _, hC, _⟩ := drop_cons g2
   have e1 : (text.take (pos + 2)).drop pos = [c, d] := by rw[ym, hd]; rfl
   have e2 : (0 : Int) ≤ (pos : Int) ∧ (pos : Int) ≤ ((pos + 2 : Nat) : Int) ∧ ((pos + 2 : Nat) : Int) ≤ (text.length : Int) := by omega
   simp only[kv, A8, O1]at h
   refine aC.go z6.h rfl fun B Q hB hQ =>?_
   repeat' (first
 |simp only[go_sem, hC, hE, hF, hS, e1, e2]
 |(with_reducible first|refine aX fun hc =>?_|refine aY fun hc =>?_|refine aZ (fun hc =>?_) fun hc =>?_)<;>(try simp only[hc, bs,↓reduceIte]at h)<;>try simp only[hc]
 |(with_reducible refine ay hQ ?_; (try cases h); simp only[bp, bq, bS, bT, go_sem, hC, hE, hF, hS, e1, e2]; try exact cp)
 |(cases h; done))
theorem oL {c:UInt8} (h:iH c=true):48≤(c.toNat:Int)∧(c.toNat:Int)≤57:=by
 simp only[iH,zaq,decide_eq_true_eq]at h
 omega
def oM (s:aB):Int×Bool:=match oc 0 s with|some n=>(n,true)|none=>(0,false)
theorem VA {text:aB} (hd : ∀ c∈text,iH c=true) (hl:text.length<4611686018427387904) (s:St) :
 aC Tryz.prog 130 [.str text] s (.tuple [.int .i64 (oM text).1, .bool (oM text).2]) s:=by
 refine aC.pure ?_ rfl rfl s
 generalize hw:oM text=p
 unfold S0
 refine aC.go EY.h rfl fun B Q hB hQ=>?_
 have⟨hC,hE,hF,hS⟩:=bt
 repeat' (first
 |simp only[go_sem,hC,hE,hF,hS]
 |(with_reducible first|refine aX fun hc=>?_|refine aY fun hc=>?_|refine aZ (fun hc=>?_) fun hc=>?_)<;>(try simp only[hc,bs,↓reduceIte]at h)<;>try simp only[hc]
 |((with_reducible refine ay hQ ?_);exact cS)
 |(cases h;done))
 refine b8 0 0 (aV.ind (ι:=aB×Nat×Int) (fun i=>text.drop i.2.1=i.1∧0≤i.2.2∧i.2.2≤9223372036854775807∧(match oc i.2.2 i.1 with|some n=>(n,true)|none=>(0,false))=p) (fun i=>i.1.length)
  (fun i=> [(0, .str text),(4, .int .i64 i.2.2),(5, .int .i64 (i.2.1:Int))]) (fun i=>⟨[],[]⟩) ?_ (text,0,0) ⟨rfl,za9 0,by dsimp only;omega,hw⟩)
 rintro⟨rest,k,n⟩ ⟨h1,h2,h3,h⟩ IH
 dsimp only at h1 h2 h3 h
 cases rest with
 |nil=>
  have hC:=drop_nil h1
  simp only[oc]at h
  repeat' (first
 |simp only[go_sem,hC,hE,hF,hS]
 |(with_reducible first|refine aX fun hc=>?_|refine aY fun hc=>?_|refine aZ (fun hc=>?_) fun hc=>?_)<;>(try simp only[hc,bs,↓reduceIte]at h)<;>try simp only[hc]
 |((with_reducible refine ay hQ ?_);exact cS)
 |(cases h;done))
 | cons c rest=>
  obtain⟨hE,g2,hC,g4⟩:=drop_cons h1
  have hF:k<4611686018427387904:=by omega
  have hc:=oL (hd c (zae hE))
  have w1:IntKind.wrap .u8 ((c.toNat:Int) - 48)=(c.toNat:Int) - 48:=by rw[IntKind.wrap_u8];omega
  have w2:IntKind.wrap .i64 ((c.toNat:Int) - 48)=(c.toNat:Int) - 48:=cL (by omega) (by omega)
  have w3:IntKind.wrap .i64 (9223372036854775807 - ((c.toNat:Int) - 48))=9223372036854775807 - ((c.toNat:Int) - 48):=cL (by omega) (by omega)
  have w4:IntKind.wrap .i64 ((9223372036854775807 - ((c.toNat:Int) - 48)).tdiv 10)=(9223372036854775807 - ((c.toNat:Int) - 48)) / 10:=by
   rw[Int.tdiv_eq_ediv_of_nonneg (by omega)];exact cL (by omega) (by omega)
  have t10:((10:Int)=0)=False:=by simp
  simp only[oc]at h
  by_cases hn:n > (9223372036854775807 - ((c.toNat:Int) - 48)) / 10
  ·have oz:decide (n > (9223372036854775807 - ((c.toNat:Int) - 48)) / 10)=true:=by simpa using hn
   rw[if_pos hn]at h
   repeat' (first
 |simp only[go_sem,hC,hE,hF,hS,w1,w2,w3,w4,t10,oz]
 |(with_reducible first|refine aX fun hc=>?_|refine aY fun hc=>?_|refine aZ (fun hc=>?_) fun hc=>?_)<;>(try simp only[hc,bs,↓reduceIte]at h)<;>try simp only[hc]
 |((with_reducible refine ay hQ ?_);(try cases h);simp only[bp,bq,bS,bT,go_sem,hC,hE,hF,hS,w1,w2,w3,w4,t10,oz];try exact cp)
 | (cases h;done))
  ·have oz:decide (n > (9223372036854775807 - ((c.toNat:Int) - 48)) / 10)=false:=by simpa using hn
   rw[if_neg hn]at h
   have w5:IntKind.wrap .i64 (n*10)=n*10:=cL (by omega) (by omega)
   have w6:IntKind.wrap .i64 (n*10+((c.toNat:Int) - 48))=n*10+((c.toNat:Int) - 48):=cL (by omega) (by omega)
   repeat' (first
 |simp only[go_sem,hC,hE,hF,hS,w1,w2,w3,w4,t10,oz,w5,w6]
 |(with_reducible first|refine aX fun hc=>?_|refine aY fun hc=>?_|refine aZ (fun hc=>?_) fun hc=>?_)<;>(try simp only[hc,bs,↓reduceIte]at h)<;>try simp only[hc]
 |((with_reducible refine ay hQ ?_);(try cases h);simp only[bp,bq,bS,bT,go_sem,hC,hE,hF,hS,w1,w2,w3,w4,t10,oz,w5,w6];try exact cp)
 | (cases h;done))
   refine b8 0 0 (IH (rest,k+1,n*10+((c.toNat:Int) - 48)) ⟨g2,by dsimp only;omega,by dsimp only;omega,h⟩ (zac _))
set_option maxRecDepth 8000
open Go.Proofs
theorem VB {c:UInt8} {r:aB} (h:lG c=true):0<fu (c::r):=by simp[fu,h]
theorem yo : ∀ s:aB,fu s≤s.length
 | []=>zaj _
 |c::r=>by simp only[fu];split<;>simp only[zal]<;>have:=yo r<;>omega
theorem yp : ∀ s:aB,iY s≤s.length
 | []=>zaj _
 |c::r=>by simp only[iY];split<;>simp only[zal]<;>have:=yp r<;>omega
theorem Aa : ∀ s:aB,gF s≤s.length
 | []=>zaj _
 |c::r=>by simp only[gF];split<;>simp only[zal]<;>have:=Aa r<;>omega
theorem Ab : ∀ s:aB,kv s≤s.length
 | []=>zaj _
 | [c]=>by simp only[kv];split<;>simp
 |c::d::r=>by simp only[kv];(repeat' split)<;>simp
theorem Co : ∀ (s:aB),∀ c∈s.take (iY s),iH c=true
 | [],c,h=>by simp[iY]at h
 | d::r,c,h=>by
  simp only[iY]at h
  split at h
  ·rw [zbp]at h
   rcases zaw.1 h with rfl|h
   ·assumption
   ·exact Co r c h
  ·simp at h
def iJ (f:Int×Int):List D:= [.int .i64 f.1, .int .i64 f.2]
def od (text:aB) (out:List bN) (pos:Nat):Tm:= [(0, .str text),(3, .ptr 0 0),(4, .slice (.tok 0) 4 (out.map dt)),(5, .ptr 1 0),(6, .int .i64 (pos:Int))]
def o8 (out:List bN):St:=⟨[[.int .i64 0, .int .i64 0],[.junk, .junk, .junk, .junk]],[some out.length]⟩
theorem FW {c:UInt8} {r:aB} (h:((c.toNat:Int)==35)=true):0<gF (c::r):=by
 have:((c.toNat:Int) != 10)=true:=by simp only[beq_iff_eq]at h;simp[h]
 simp[gF,this]
def sa (text:aB) (B:eQ) (Q:Exit→Tm→St→Prop) (p:List bN×Int×Int) (N:Nat):Prop:=
 ∀ (n pos:Nat) (rest:aB) (out:List bN),text.drop pos=rest→fR n pos rest out=p→rest.length<n→out.length≤2000→pos≤text.length→n<N→
  n4 Tryz.prog B 152 vx (.seq .skip BL) Q (od text out pos) (o8 out)
theorem sa.to {text:aB} {B:eQ} {Q:Exit→Tm→St→Prop} {p:List bN×Int×Int} {N:Nat} (hB:B.s=S0) (IH:sa text B Q p N) {n pos:Nat} {rest:aB} {out:List bN} {tm:Tm} {s:St}
 (h1:text.drop pos=rest) (h:fR n pos rest out=p) (h2:rest.length<n) (h3:out.length≤2000) (h4:pos≤text.length) (h5:n<N)
 (ht:tx tm 2 1 (od text out pos)) (ho:iE (s.cut 2 1).aw (o8 out).aw) (hk:(s.cut 2 1).aE=(o8 out).aE) :
 jV Tryz.prog B 152 vx Q (.goto 0) tm s:=by
 refine UK (l:=0) (r:= .seq .skip BL) rfl (n4.re _ _ 2 1 (by rw[hB];exact mD rfl) (by rw[hB];exact mD rfl) ht ho ?_)
 have:=IH n pos rest out h1 h h2 h3 h4 h5
 rw[hk]
 exact this
attribute [go_sem] od o8 iJ
theorem lex_nil {text:aB} (hl:text.length≤100000) {B:eQ} {Q:Exit→Tm→St→Prop} {p:List bN×Int×Int} (hB:B.s=S0)
 (hQ:gZ 0 0 [(2,none),(3,some (true,2))] (.tuple [.slice .shared 4 (p.1.map dt), .agg (iJ p.2)]) ⟨[],[]⟩=Q)
 {n pos:Nat} {out:List bN} (ho:out.length≤2000) (hp:pos≤text.length) (IH:sa text B Q p (n+1))
 (h1:text.drop pos = []) (h:fR (n+1) pos [] out=p):fZ Tryz.prog B 152 BL (jV Tryz.prog B 152 vx Q) (od text out pos) (o8 out):=by
 have⟨hC,hE,hF,hS⟩:=bt
 have eN:(out.length+1)*41≤bh:=by simp only[bh];omega
 have dN:decide ((pos:Int)≥(text.length:Int))=true:=by have:=zaX.1 h1;simp;omega
 have:pos=text.length:=by have:=zaX.1 h1;omega
 subst this
 simp only[fR]at h
 repeat' (first
 |simp only[go_sem,hC,hE,hF,hS,dN,eN]
 |(with_reducible first|refine aX fun hc=>?_|refine aY fun hc=>?_|refine aZ (fun hc=>?_) fun hc=>?_)<;>(try simp only[hc,bs,↓reduceIte]at h)<;>try simp only[hc]
 |((with_reducible refine ay hQ ?_);(try cases h);simp only[bp,bq,bS,bT,go_sem,hC,hE,hF,hS,dN,eN];try exact cp))
theorem RH {text:aB} (hl:text.length≤100000) {B:eQ} {Q:Exit→Tm→St→Prop} {p:List bN×Int×Int} (hB:B.s=S0)
 (hQ:gZ 0 0 [(2,none),(3,some (true,2))] (.tuple [.slice .shared 4 (p.1.map dt), .agg (iJ p.2)]) ⟨[],[]⟩=Q)
 {n pos:Nat} {out:List bN} (ho:out.length≤2000) (hp:pos≤text.length) (IH:sa text B Q p (n+1))
 {c:UInt8} {r:aB} (h1:text.drop pos=c::r) (hb:qm c=true) (hn:(c::r).length<n+1) (h:fR (n+1) pos (c::r) out=p) :
 fZ Tryz.prog B 152 BL (jV Tryz.prog B 152 vx Q) (od text out pos) (o8 out):=by
 have hF:0<1:=zas
 have hS:0<1:=zas
 obtain⟨hE,g2,g3,g4⟩:=drop_cons h1
 have hC:pos<4611686018427387904:=by omega
 have dN:decide ((pos:Int)≥(text.length:Int))=false:=by simp;omega
 simp only[fR,hb,↓reduceIte]at h
 have oz:r.length<n:=by simp only[zal]at hn;omega
 have e : ∀ x y:Int,(x==y)=false→(x==y)=true→False:=fun x y a b=>by rw[a]at b;cases b
 simp only[qm]at hb
 repeat' (first
 |simp only[go_sem,hC,hE,hF,hS,dN]
 |(refine IH.to hB g2 h oz ho g4 (zac _) ?_ ?_ ?_<;>((try simp only[go_sem,hC,hE,hF,hS]);repeat' (first|exact Ok.out|with_reducible refine eJ ?_ ?_|omega|(simp;done)));done)
 |(with_reducible first|refine aX fun hc=>?_|refine aY fun hc=>?_|refine aZ (fun hc=>?_) fun hc=>?_)<;>(try simp only[hc,bs,↓reduceIte]at h)<;>try simp only[hc]
 |(with_reducible refine ay hQ ?_;simp only[bp,bq,bS,bT,go_sem,hC,hE,hF,hS];repeat' (first|exact Ok.out|with_reducible refine eJ ?_ ?_|(simp;done))))
 all_goals (exfalso;simp_all;done)
theorem O2 {text:aB} (hl:text.length≤100000) {B:eQ} {Q:Exit→Tm→St→Prop} {p:List bN×Int×Int} (hB:B.s=S0)
 (hQ:gZ 0 0 [(2,none),(3,some (true,2))] (.tuple [.slice .shared 4 (p.1.map dt), .agg (iJ p.2)]) ⟨[],[]⟩=Q)
 {n pos:Nat} {out:List bN} (ho:out.length≤2000) (hp:pos≤text.length) (IH:sa text B Q p (n+1))
 {c:UInt8} {r:aB} (h1:text.drop pos=c::r) (hb:qm c=false) (hc:((c.toNat:Int)==35)=true) (hn:(c::r).length<n+1) (h:fR (n+1) pos (c::r) out=p) :
 fZ Tryz.prog B 152 BL (jV Tryz.prog B 152 vx Q) (od text out pos) (o8 out):=by
 have hF:0<1:=zas
 have hS:0<1:=zas
 have aeZ:=(drop_cons h1).1
 have hE:=aeZ
 have g4:=(drop_cons h1).2.2.2
 have hC:pos<4611686018427387904:=by omega
 have dN:decide ((pos:Int)≥(text.length:Int))=false:=by simp;omega
 simp only[fR,hb,zaa,↓reduceIte,hc]at h
 simp only[qm,zby]at hb
 have hk:=FW (r:=r) hc
 have bm:=Aa (c::r)
 have eS:(c::r).length=text.length - pos:=by rw[← h1,zaI]
 generalize hL:gF (c::r)=L at h hk bm
 repeat' (first
 |simp only[go_sem,hC,hE,hF,hS,dN,hb.1.1.1,hb.1.1.2,hb.1.2,hb.2,hc]
 |(with_reducible refine ct (l:=1) (by with_unfolding_all rfl) ?_)
 |(with_reducible refine ay hQ ?_;exact aK))
 refine b8 2 1 (aV.ind (ι:=aB×Nat) (fun i=>text.drop i.2=i.1∧i.2+gF i.1=pos+L) (fun i=>i.1.length)
  (fun i=>od text out i.2) (fun i=>o8 out) ?_ (c::r,pos) ⟨h1,by dsimp only;omega⟩)
 rintro⟨rest,k⟩ ⟨j1,j2⟩ DH
 dsimp only at j1 j2
 have fin:text.drop (pos+L)=(c::r).drop L:=by rw[← h1,zbG]
 have hlen:((c::r).drop L).length<n:=by rw[zaI];omega
 cases rest with
 |nil=>
  have dN:=drop_nil j1
  simp only[gF,zaP]at j2
  subst j2
  repeat' (first
 |simp only[go_sem,hC,hE,hF,hS,dN]
 |(refine IH.to hB fin h hlen ho (by omega) (zac _) ?_ ?_ ?_<;>((try simp only[go_sem,hC,hE,hF,hS]);repeat' (first|exact Ok.out|with_reducible refine eJ ?_ ?_|omega|(simp;done)));done)
 |(with_reducible refine ay hQ ?_;exact aK))
 | cons d rest=>
  obtain⟨hE,g2,dN,g5⟩:=drop_cons j1
  have hC:k<4611686018427387904:=by omega
  cases hd:((d.toNat:Int) != 10)
  ·simp only [gF,hd,zaa, ↓reduceIte,zaP]at j2
   subst j2
   repeat' (first
 |simp only[go_sem,hC,hE,hF,hS,dN,hd]
 |(refine IH.to hB fin h hlen ho (by omega) (zac _) ?_ ?_ ?_<;>((try simp only[go_sem,hC,hE,hF,hS]);repeat' (first|exact Ok.out|with_reducible refine eJ ?_ ?_|omega|(simp;done)));done)
 | (with_reducible refine ay hQ ?_;exact aK))
  ·simp only [gF,hd, ↓reduceIte]at j2
   repeat' (first
 |simp only[go_sem,hC,hE,hF,hS,dN,hd]
 | (with_reducible refine ay hQ ?_;exact aK))
   refine b8 2 1 (DH (rest,k+1) ⟨g2,by dsimp only;omega⟩ (zac _))
theorem VC {text:aB} (hl:text.length≤100000) {B:eQ} {Q:Exit→Tm→St→Prop} {p:List bN×Int×Int} (hB:B.s=S0)
 (hQ:gZ 0 0 [(2,none),(3,some (true,2))] (.tuple [.slice .shared 4 (p.1.map dt), .agg (iJ p.2)]) ⟨[],[]⟩=Q)
 {n pos:Nat} {out:List bN} (ho:out.length≤2000) (hp:pos≤text.length) (IH:sa text B Q p (n+1))
 {c:UInt8} {r:aB} (h1:text.drop pos=c::r) (hb:qm c=false) (hc:((c.toNat:Int)==35)=false) (hL:lG c=false) (hD:iH c=false) (hn:(c::r).length<n+1) (h:fR (n+1) pos (c::r) out=p) :
 fZ Tryz.prog B 152 BL (jV Tryz.prog B 152 vx Q) (od text out pos) (o8 out):=by
 have hF:0<1:=zas
 have hS:0<1:=zas
 have hE:=(drop_cons h1).1
 have g4:=(drop_cons h1).2.2.2
 have hC:pos<4611686018427387904:=by omega
 have dN:decide ((pos:Int)≥(text.length:Int))=false:=by simp;omega
 have eN:(out.length+1)*41≤bh:=by simp only[bh];omega
 have Hv:=fun s=>ab2 h1 (by omega) s
 have bm:=Ab (c::r)
 have eS:(c::r).length=text.length - pos:=by rw[← h1,zaI]
 simp only[fR,hb,zaa,↓reduceIte,hc,fV,hL,hD]at h
 simp only[qm,zby]at hb
 generalize hK:kv (c::r)=k at h Hv bm
 have e1:IntKind.wrap .i64 ((pos:Int)+(k:Int))=((pos+k:Nat):Int):=by rw[cL]<;>omega
 have e2:(0:Int)≤(pos:Int)∧(pos:Int)≤((pos+k:Nat):Int)∧((pos+k:Nat):Int)≤(text.length:Int):=by omega
 have e3:(text.take (pos+k)).drop pos=(c::r).take k:=by rw[ym,h1]
 by_cases hz:k=0
 ·have kh:decide (((pos+k:Nat):Int) > (pos:Int))=false:=by simp;omega
  simp only[hz,↓reduceIte]at h
  repeat' (first
 |simp only[go_sem,hC,hE,hF,hS,dN,hb.1.1.1,hb.1.1.2,hb.1.2,hb.2,hc,hL,hD,e1,e2,e3,kh]
 |(with_reducible refine CU (il _ _) ?_)
 |(with_reducible refine CU (jN _ _) ?_)
 |(with_reducible refine CU (Hv _) ?_)
 |(with_reducible refine ct (l:=4) (by with_unfolding_all rfl) ?_)
 |(with_reducible refine ct (l:=5) (by with_unfolding_all rfl) ?_)
 |(with_reducible first|refine aX fun hc=>?_|refine aY fun hc=>?_|refine aZ (fun hc=>?_) fun hc=>?_)<;>(try simp only[hc,bs,↓reduceIte]at h)<;>try simp only[hc]
 |((with_reducible refine ay hQ ?_);(try cases h);simp only[bp,bq,bS,bT,go_sem,hC,hE,hF,hS,dN,hb.1.1.1,hb.1.1.2,hb.1.2,hb.2,hc,hL,hD,e1,e2,e3,kh];try exact cp))
 ·have kh:decide (((pos+k:Nat):Int) > (pos:Int))=true:=by simp;omega
  have hlen:((c::r).take k).length=k:=by rw[zaL];omega
  have fin:text.drop (pos+k)=(c::r).drop k:=by rw[← h1,zbG]
  have qS:((c::r).drop k).length<n:=by rw[zaI];omega
  simp only[hz,↓reduceIte,hlen]at h
  by_cases po:out.length=2000
  ·have jj:((out.length:Int)==2000)=true:=by simp [po]
   simp only[po,↓reduceIte]at h
   repeat' (first
 |simp only[go_sem,hC,hE,hF,hS,dN,hb.1.1.1,hb.1.1.2,hb.1.2,hb.2,hc,hL,hD,e1,e2,e3,kh,jj]
 |(with_reducible refine CU (il _ _) ?_)
 |(with_reducible refine CU (jN _ _) ?_)
 |(with_reducible refine CU (Hv _) ?_)
 |(with_reducible refine ct (l:=4) (by with_unfolding_all rfl) ?_)
 |(with_reducible refine ct (l:=5) (by with_unfolding_all rfl) ?_)
 |(with_reducible first|refine aX fun hc=>?_|refine aY fun hc=>?_|refine aZ (fun hc=>?_) fun hc=>?_)<;>(try simp only[hc,bs,↓reduceIte]at h)<;>try simp only[hc]
 | ((with_reducible refine ay hQ ?_);(try cases h);simp only [bp,bq,bS,bT,go_sem,hC,hE,hF,hS,dN,hb.1.1.1,hb.1.1.2,hb.1.2,hb.2,hc,hL,hD,e1,e2,e3,kh,jj];try exact cp))
  ·have jj:((out.length:Int)==2000)=false:=by simp;omega
   have y6 : ∀ t:bN,(out++ [t]).length≤2000:=by intro t;simp;omega
   simp only[po,↓reduceIte]at h
   repeat' (first
 |simp only[go_sem,hC,hE,hF,hS,dN,hb.1.1.1,hb.1.1.2,hb.1.2,hb.2,hc,hL,hD,e1,e2,e3,kh,jj,eN]
 |(with_reducible refine CU (il _ _) ?_)
 |(with_reducible refine CU (jN _ _) ?_)
 |(with_reducible refine CU (Hv _) ?_)
 |(with_reducible refine ct (l:=4) (by with_unfolding_all rfl) ?_)
 |(with_reducible refine ct (l:=5) (by with_unfolding_all rfl) ?_)
 |(refine IH.to hB fin h qS (y6 _) (by omega) (zac _) ?_ ?_ ?_<;>((try simp only[go_sem,hC,hE,hF,hS]);repeat' (first|exact Ok.out|with_reducible refine eJ ?_ ?_|omega|(simp;done)));done)
 |(with_reducible refine ay hQ ?_;exact aK))
theorem VD {text:aB} (hl:text.length≤100000) {B:eQ} {Q:Exit→Tm→St→Prop} {p:List bN×Int×Int} (hB:B.s=S0)
 (hQ:gZ 0 0 [(2,none),(3,some (true,2))] (.tuple [.slice .shared 4 (p.1.map dt), .agg (iJ p.2)]) ⟨[],[]⟩=Q)
 {n pos:Nat} {out:List bN} (ho:out.length≤2000) (hp:pos≤text.length) (IH:sa text B Q p (n+1))
 {c:UInt8} {r:aB} (h1:text.drop pos=c::r) (hb:qm c=false) (hc:((c.toNat:Int)==35)=false) (hL:lG c=true) (hn:(c::r).length<n+1) (h:fR (n+1) pos (c::r) out=p) :
 fZ Tryz.prog B 152 BL (jV Tryz.prog B 152 vx Q) (od text out pos) (o8 out):=by
 have hF:0<1:=zas
 have hS:0<1:=zas
 have hE:=(drop_cons h1).1
 have g4:=(drop_cons h1).2.2.2
 have hC:pos<4611686018427387904:=by omega
 have dN:decide ((pos:Int)≥(text.length:Int))=false:=by simp;omega
 have eN:(out.length+1)*41≤bh:=by simp only[bh];omega
 have c7:=fun s=>X9 (text:=text) (pos:=pos) (by omega) s
 rw[h1]at c7
 have bm:=yo (c::r)
 have fj:=VB (r:=r) hL
 have eS:(c::r).length=text.length - pos:=by rw[← h1,zaI]
 simp only[fR,hb,zaa,↓reduceIte,hc,fV,hL]at h
 simp only[qm,zby]at hb
 generalize hK:fu (c::r)=k at h c7 bm fj
 have hlen:((c::r).take k).length=k:=by rw[zaL];omega
 simp only[hlen]at h
 have e1:IntKind.wrap .i64 (((pos+k:Nat):Int) - (pos:Int))=(k:Int):=by rw[cL]<;>omega
 have e2:(0:Int)≤(pos:Int)∧(pos:Int)≤((pos+k:Nat):Int)∧((pos+k:Nat):Int)≤(text.length:Int):=by omega
 have e3:(text.take (pos+k)).drop pos=(c::r).take k:=by rw[ym,h1]
 by_cases hz:k > 8
 ·have kh:decide ((k:Int) > 8)=true:=by simp;omega
  simp only[hz,↓reduceIte]at h
  cases hw:isWord ((c::r).take k)
  ·repeat' (first
 |simp only[go_sem,hC,hE,hF,hS,dN,hb.1.1.1,hb.1.1.2,hb.1.2,hb.2,hc,hL,e1,e2,e3,kh,hw]
 |(with_reducible refine CU (il _ _) ?_)
 |(with_reducible refine CU (c7 _) ?_)
 |(with_reducible refine CU (uC _ _) ?_)
 |(with_reducible refine ct (l:=2) (by with_unfolding_all rfl) ?_)
 |(with_reducible refine ct (l:=4) (by with_unfolding_all rfl) ?_)
 |(with_reducible refine ct (l:=5) (by with_unfolding_all rfl) ?_)
 |(with_reducible first|refine aX fun hc=>?_|refine aY fun hc=>?_|refine aZ (fun hc=>?_) fun hc=>?_)<;>(try simp only[hc,bs,↓reduceIte]at h)<;>try simp only[hc]
 |((with_reducible refine ay hQ ?_);(try cases h);simp only[bp,bq,bS,bT,go_sem,hC,hE,hF,hS,dN,hb.1.1.1,hb.1.1.2,hb.1.2,hb.2,hc,hL,e1,e2,e3,kh,hw];try exact cp))
  ·repeat' (first
 |simp only[go_sem,hC,hE,hF,hS,dN,hb.1.1.1,hb.1.1.2,hb.1.2,hb.2,hc,hL,e1,e2,e3,kh,hw]
 |(with_reducible refine CU (il _ _) ?_)
 |(with_reducible refine CU (c7 _) ?_)
 |(with_reducible refine CU (uC _ _) ?_)
 |(with_reducible refine ct (l:=2) (by with_unfolding_all rfl) ?_)
 |(with_reducible refine ct (l:=4) (by with_unfolding_all rfl) ?_)
 |(with_reducible refine ct (l:=5) (by with_unfolding_all rfl) ?_)
 |(with_reducible first|refine aX fun hc=>?_|refine aY fun hc=>?_|refine aZ (fun hc=>?_) fun hc=>?_)<;>(try simp only[hc,bs,↓reduceIte]at h)<;>try simp only[hc]
 |((with_reducible refine ay hQ ?_);(try cases h);simp only[bp,bq,bS,bT,go_sem,hC,hE,hF,hS,dN,hb.1.1.1,hb.1.1.2,hb.1.2,hb.2,hc,hL,e1,e2,e3,kh,hw];try exact cp))
 ·have kh:decide ((k:Int) > 8)=false:=by simp;omega
  have fin:text.drop (pos+k)=(c::r).drop k:=by rw[← h1,zbG]
  have qS:((c::r).drop k).length<n:=by rw[zaI];omega
  simp only[hz,↓reduceIte,hlen]at h
  by_cases po:out.length=2000
  ·have jj:((out.length:Int)==2000)=true:=by simp [po]
   simp only[po,↓reduceIte]at h
   cases hw:isWord ((c::r).take k)
   ·repeat' (first
 |simp only[go_sem,hC,hE,hF,hS,dN,hb.1.1.1,hb.1.1.2,hb.1.2,hb.2,hc,hL,e1,e2,e3,kh,jj,hw]
 |(with_reducible refine CU (il _ _) ?_)
 |(with_reducible refine CU (c7 _) ?_)
 |(with_reducible refine CU (uC _ _) ?_)
 |(with_reducible refine ct (l:=2) (by with_unfolding_all rfl) ?_)
 |(with_reducible refine ct (l:=4) (by with_unfolding_all rfl) ?_)
 |(with_reducible refine ct (l:=5) (by with_unfolding_all rfl) ?_)
 |(with_reducible first|refine aX fun hc=>?_|refine aY fun hc=>?_|refine aZ (fun hc=>?_) fun hc=>?_)<;>(try simp only[hc,bs,↓reduceIte]at h)<;>try simp only[hc]
 | ((with_reducible refine ay hQ ?_);(try cases h);simp only [bp,bq,bS,bT,go_sem,hC,hE,hF,hS,dN,hb.1.1.1,hb.1.1.2,hb.1.2,hb.2,hc,hL,e1,e2,e3,kh,jj,hw];try exact cp))
   ·repeat' (first
 |simp only[go_sem,hC,hE,hF,hS,dN,hb.1.1.1,hb.1.1.2,hb.1.2,hb.2,hc,hL,e1,e2,e3,kh,jj,hw]
 |(with_reducible refine CU (il _ _) ?_)
 |(with_reducible refine CU (c7 _) ?_)
 |(with_reducible refine CU (uC _ _) ?_)
 |(with_reducible refine ct (l:=2) (by with_unfolding_all rfl) ?_)
 |(with_reducible refine ct (l:=4) (by with_unfolding_all rfl) ?_)
 |(with_reducible refine ct (l:=5) (by with_unfolding_all rfl) ?_)
 |(with_reducible first|refine aX fun hc=>?_|refine aY fun hc=>?_|refine aZ (fun hc=>?_) fun hc=>?_)<;>(try simp only[hc,bs,↓reduceIte]at h)<;>try simp only[hc]
 | ((with_reducible refine ay hQ ?_);(try cases h);simp only [bp,bq,bS,bT,go_sem,hC,hE,hF,hS,dN,hb.1.1.1,hb.1.1.2,hb.1.2,hb.2,hc,hL,e1,e2,e3,kh,jj,hw];try exact cp))
  ·have jj:((out.length:Int)==2000)=false:=by simp;omega
   have y6 : ∀ t:bN,(out++ [t]).length≤2000:=by intro t;simp;omega
   simp only[po,↓reduceIte]at h
   cases hw:isWord ((c::r).take k)
   ·simp only [hw,zaa, ↓reduceIte]at h
    repeat' (first
 |simp only[go_sem,hC,hE,hF,hS,dN,hb.1.1.1,hb.1.1.2,hb.1.2,hb.2,hc,hL,e1,e2,e3,kh,jj,eN,hw]
 |(with_reducible refine CU (il _ _) ?_)
 |(with_reducible refine CU (c7 _) ?_)
 |(with_reducible refine CU (uC _ _) ?_)
 |(with_reducible refine ct (l:=2) (by with_unfolding_all rfl) ?_)
 |(with_reducible refine ct (l:=4) (by with_unfolding_all rfl) ?_)
 |(with_reducible refine ct (l:=5) (by with_unfolding_all rfl) ?_)
 |(refine IH.to hB fin h qS (y6 _) (by omega) (zac _) ?_ ?_ ?_<;>((try simp only[go_sem,hC,hE,hF,hS]);repeat' (first|exact Ok.out|with_reducible refine eJ ?_ ?_|omega|(simp;done)));done)
 |(with_reducible first|refine aX fun hc=>?_|refine aY fun hc=>?_|refine aZ (fun hc=>?_) fun hc=>?_)<;>(try simp only[hc,bs,↓reduceIte]at h)<;>try simp only[hc]
 | ((with_reducible refine ay hQ ?_);(try cases h);simp only [bp,bq,bS,bT,go_sem,hC,hE,hF,hS,dN,hb.1.1.1,hb.1.1.2,hb.1.2,hb.2,hc,hL,e1,e2,e3,kh,jj,eN,hw];try exact cp))
   ·simp only [hw, ↓reduceIte]at h
    repeat' (first
 |simp only[go_sem,hC,hE,hF,hS,dN,hb.1.1.1,hb.1.1.2,hb.1.2,hb.2,hc,hL,e1,e2,e3,kh,jj,eN,hw]
 |(with_reducible refine CU (il _ _) ?_)
 |(with_reducible refine CU (c7 _) ?_)
 |(with_reducible refine CU (uC _ _) ?_)
 |(with_reducible refine ct (l:=2) (by with_unfolding_all rfl) ?_)
 |(with_reducible refine ct (l:=4) (by with_unfolding_all rfl) ?_)
 |(with_reducible refine ct (l:=5) (by with_unfolding_all rfl) ?_)
 |(refine IH.to hB fin h qS (y6 _) (by omega) (zac _) ?_ ?_ ?_<;>((try simp only[go_sem,hC,hE,hF,hS]);repeat' (first|exact Ok.out|with_reducible refine eJ ?_ ?_|omega|(simp;done)));done)
 |(with_reducible refine ay hQ ?_;exact aK))
end Go.Abs
namespace Go.Abs
set_option maxRecDepth 8000
open Go.Proofs
theorem gT (c:UInt8) (s:St):aC Tryz.prog 177 [.int .u8 (c.toNat:Int)] s (.bool (lG c)) s:=by
 refine aC.pure ?_ rfl rfl s
 generalize h:lG c=b
 unfold lG at h
 unfold S0
 refine aC.go ER.h rfl fun B Q hB hQ=>?_
 have⟨hC,hE,hF,hS⟩:=bt
 repeat' (first
 |simp only[go_sem,hC,hE,hF,hS]
 |(with_reducible first|refine aX fun hc=>?_|refine aY fun hc=>?_|refine aZ (fun hc=>?_) fun hc=>?_)<;>(try simp only[hc,bs,↓reduceIte]at h)<;>try simp only[hc]
 |((with_reducible refine ay hQ ?_);exact cS))
theorem iZ (c:UInt8) (s:St):aC Tryz.prog 178 [.int .u8 (c.toNat:Int)] s (.bool (iH c)) s:=by
 refine aC.pure ?_ rfl rfl s
 generalize h:iH c=b
 unfold iH at h
 unfold S0
 refine aC.go ES.h rfl fun B Q hB hQ=>?_
 have⟨hC,hE,hF,hS⟩:=bt
 repeat' (first
 |simp only[go_sem,hC,hE,hF,hS]
 |(with_reducible first|refine aX fun hc=>?_|refine aY fun hc=>?_|refine aZ (fun hc=>?_) fun hc=>?_)<;>(try simp only[hc,bs,↓reduceIte]at h)<;>try simp only[hc]
 |((with_reducible refine ay hQ ?_);exact cS))
theorem uD (c:UInt8) (s:St):aC Tryz.prog 153 [.int .u8 (c.toNat:Int)] s (.bool (qm c)) s:=by
 refine aC.pure ?_ rfl rfl s
 generalize h:qm c=b
 unfold qm at h
 unfold S0
 refine aC.go E0.h rfl fun B Q hB hQ=>?_
 have⟨hC,hE,hF,hS⟩:=bt
 repeat' (first
 |simp only[go_sem,hC,hE,hF,hS]
 |(with_reducible first|refine aX fun hc=>?_|refine aY fun hc=>?_|refine aZ (fun hc=>?_) fun hc=>?_)<;>(try simp only[hc,bs,↓reduceIte]at h)<;>try simp only[hc]
 |((with_reducible refine ay hQ ?_);exact cS)
 |(cases h;done))
theorem Zl (s:St):aC Tryz.prog 209 [] s (.slice .shared 1 [[.str [103,108,111,98,97,108]],[.str [112,114,111,99]],[.str [118,97,114]],[.str [114,101,102]],[.str [105,102]],[.str [101,108,115,101]],[.str [119,104,105,108,101]],[.str [98,114,101,97,107]],[.str [99,111,110,116,105,110,117,101]],[.str [114,101,116,117,114,110]],[.str [103,111,116,111]],[.str [114,101,97,100]],[.str [112,114,105,110,116]]]) s:=by
 refine aC.pure ?_ rfl rfl s
 unfold S0
 refine aC.go ET.h rfl fun B Q hB hQ=>?_
 have⟨hC,hE,hF,hS⟩:=bt
 repeat' (first
 |simp only[go_sem,hC,hE,hF,hS]
 |(with_reducible refine ay hQ ?_;exact aK))
def A9 (s:aB):Bool:=
 [103,108,111,98,97,108] == s || [112,114,111,99] == s || [118,97,114] == s || [114,101,102] == s || [105,102] == s || [101,108,115,101] == s || [119,104,105,108,101] == s || [98,114,101,97,107] == s || [99,111,110,116,105,110,117,101] == s || [114,101,116,117,114,110] == s || [103,111,116,111] == s || [114,101,97,100] == s || [112,114,105,110,116] == s
theorem O3 (s:aB):A9 s=isWord s:=by
 have e : ∀ a:aB,(a==s)=(s==a):=fun a=>BEq.comm
 simp only[A9,isWord,e]
theorem Ba (text:aB) (s:St):aC Tryz.prog 179 [.str text] s (.bool (isWord text)) s:=by
 refine aC.pure ?_ rfl rfl s
 rw[← O3]
 generalize h:A9 text=p
 unfold A9 at h
 unfold S0
 refine aC.go Hd.h rfl fun B Q hB hQ=>?_
 have⟨hC,hE,hF,hS⟩:=bt
 repeat' (first
 |simp only[go_sem,hC,hE,hF,hS,za7,cL,Int.reduceAdd,Int.reduceLT,Int.reduceNeg,decide_true,decide_false,Int.reduceToNat]
 |(with_reducible refine CU (Zl _) ?_)
 |(with_reducible refine aV.gO ?_)
 |(with_reducible first|refine aX fun hc=>?_|refine aY fun hc=>?_|refine aZ (fun hc=>?_) fun hc=>?_)<;>(try simp only[hc,bs,↓reduceIte]at h)<;>try simp only[hc]
 |((with_reducible refine ay hQ ?_);(try cases h);simp only[bp,bq,bS,bT,go_sem,hC,hE,hF,hS,za7,cL,Int.reduceAdd,Int.reduceLT,Int.reduceNeg,decide_true,decide_false,Int.reduceToNat];try exact cp))
theorem RI {text:aB} (hl:text.length<4611686018427387904) (s:St):aC Tryz.prog 186 [.str text, .bool true] s (.int .i64 ((fu text:Nat):Int)) s:=by
 refine aC.pure ?_ rfl rfl s
 unfold S0
 refine aC.go yZ.h rfl fun B Q hB hQ=>?_
 have⟨hC,hE,hF,hS⟩:=bt
 repeat' (first
 |simp only[go_sem,hC,hE,hF,hS]
 |(with_reducible first|refine aX fun hc=>?_|refine aY fun hc=>?_|refine aZ (fun hc=>?_) fun hc=>?_)<;>(try simp only[hc,bs,↓reduceIte]at h)<;>try simp only[hc]
 |((with_reducible refine ay hQ ?_);exact cS)
 |(cases h;done))
 refine b8 0 0 (aV.ind (ι:=aB×Nat) (fun i=>text.drop i.2=i.1∧i.2+fu i.1=fu text) (fun i=>i.1.length)
  (fun i=> [(0, .str text),(1, .bool true),(5, .int .i64 (i.2:Int))]) (fun i=>⟨[],[]⟩) ?_ (text,0) ⟨rfl,za3 _⟩)
 rintro⟨rest,k⟩ ⟨h1,h2⟩ IH
 dsimp only at h1 h2
 cases rest with
 |nil=>
  have hC:=drop_nil h1
  simp only[fu,zaP]at h2
  rw[← h2]at hQ
  repeat' (first
 |simp only[go_sem,hC,hE,hF,hS]
 |(with_reducible first|refine aX fun hc=>?_|refine aY fun hc=>?_|refine aZ (fun hc=>?_) fun hc=>?_)<;>(try simp only[hc,bs,↓reduceIte]at h)<;>try simp only[hc]
 |((with_reducible refine ay hQ ?_);exact cS)
 |(cases h;done))
 | cons c rest=>
  obtain⟨hE,g2,hC,g4⟩:=drop_cons h1
  have hF:k<4611686018427387904:=by omega
  cases hb:(lG c ||iH c)
  ·simp only [fu,hb,zaa, ↓reduceIte,zaP]at h2
   rw[← h2]at hQ
   simp only[zby]at hb
   repeat' (first
 |simp only[go_sem,hC,hE,hF,hS,hb.1,hb.2]
 |(with_reducible refine CU (gT _ _) ?_)
 |(with_reducible refine CU (iZ _ _) ?_)
 |(with_reducible first|refine aX fun hc=>?_|refine aY fun hc=>?_|refine aZ (fun hc=>?_) fun hc=>?_)<;>(try simp only[hc,bs,↓reduceIte]at h)<;>try simp only[hc]
 |((with_reducible refine ay hQ ?_);(try cases h);simp only[bp,bq,bS,bT,go_sem,hC,hE,hF,hS,hb.1,hb.2];try exact cp)
 | (cases h;done))
  ·simp only [fu,hb, ↓reduceIte]at h2
   cases xb:iH c
   ·rw [xb,zbI]at hb
    repeat' (first
 |simp only[go_sem,hC,hE,hF,hS,hb,xb]
 |(with_reducible refine CU (gT _ _) ?_)
 |(with_reducible refine CU (iZ _ _) ?_)
 |(with_reducible first|refine aX fun hc=>?_|refine aY fun hc=>?_|refine aZ (fun hc=>?_) fun hc=>?_)<;>(try simp only[hc,bs,↓reduceIte]at h)<;>try simp only[hc]
 |((with_reducible refine ay hQ ?_);(try cases h);simp only[bp,bq,bS,bT,go_sem,hC,hE,hF,hS,hb,xb];try exact cp)
 | (cases h;done))
    refine b8 0 0 (IH (rest,k+1) ⟨g2,by dsimp only;omega⟩ (zac _))
   ·repeat' (first
 |simp only[go_sem,hC,hE,hF,hS,xb]
 |(with_reducible refine CU (gT _ _) ?_)
 |(with_reducible refine CU (iZ _ _) ?_)
 |(with_reducible first|refine aX fun hc=>?_|refine aY fun hc=>?_|refine aZ (fun hc=>?_) fun hc=>?_)<;>(try simp only[hc,bs,↓reduceIte]at h)<;>try simp only[hc]
 |((with_reducible refine ay hQ ?_);(try cases h);simp only[bp,bq,bS,bT,go_sem,hC,hE,hF,hS,xb];try exact cp)
 | (cases h;done))
    refine b8 0 0 (IH (rest,k+1) ⟨g2,by dsimp only;omega⟩ (zac _))
theorem O4 {text:aB} (hl:text.length<4611686018427387904) (s:St):aC Tryz.prog 186 [.str text, .bool false] s (.int .i64 ((iY text:Nat):Int)) s:=by
 refine aC.pure ?_ rfl rfl s
 unfold S0
 refine aC.go yZ.h rfl fun B Q hB hQ=>?_
 have⟨hC,hE,hF,hS⟩:=bt
 repeat' (first
 |simp only[go_sem,hC,hE,hF,hS]
 |(with_reducible first|refine aX fun hc=>?_|refine aY fun hc=>?_|refine aZ (fun hc=>?_) fun hc=>?_)<;>(try simp only[hc,bs,↓reduceIte]at h)<;>try simp only[hc]
 |((with_reducible refine ay hQ ?_);exact cS)
 |(cases h;done))
 refine b8 0 0 (aV.ind (ι:=aB×Nat) (fun i=>text.drop i.2=i.1∧i.2+iY i.1=iY text) (fun i=>i.1.length)
  (fun i=> [(0, .str text),(1, .bool false),(5, .int .i64 (i.2:Int))]) (fun i=>⟨[],[]⟩) ?_ (text,0) ⟨rfl,za3 _⟩)
 rintro⟨rest,k⟩ ⟨h1,h2⟩ IH
 dsimp only at h1 h2
 cases rest with
 |nil=>
  have hC:=drop_nil h1
  simp only[iY,zaP]at h2
  rw[← h2]at hQ
  repeat' (first
 |simp only[go_sem,hC,hE,hF,hS]
 |(with_reducible first|refine aX fun hc=>?_|refine aY fun hc=>?_|refine aZ (fun hc=>?_) fun hc=>?_)<;>(try simp only[hc,bs,↓reduceIte]at h)<;>try simp only[hc]
 |((with_reducible refine ay hQ ?_);exact cS)
 |(cases h;done))
 | cons c rest=>
  obtain⟨hE,g2,hC,g4⟩:=drop_cons h1
  have hF:k<4611686018427387904:=by omega
  cases hb:iH c
  ·simp only [iY,hb,zaa, ↓reduceIte,zaP]at h2
   rw[← h2]at hQ
   repeat' (first
 |simp only[go_sem,hC,hE,hF,hS,hb]
 |(with_reducible refine CU (iZ _ _) ?_)
 |(with_reducible first|refine aX fun hc=>?_|refine aY fun hc=>?_|refine aZ (fun hc=>?_) fun hc=>?_)<;>(try simp only[hc,bs,↓reduceIte]at h)<;>try simp only[hc]
 |((with_reducible refine ay hQ ?_);(try cases h);simp only[bp,bq,bS,bT,go_sem,hC,hE,hF,hS,hb];try exact cp)
 | (cases h;done))
  ·simp only [iY,hb, ↓reduceIte]at h2
   repeat' (first
 |simp only[go_sem,hC,hE,hF,hS,hb]
 |(with_reducible refine CU (iZ _ _) ?_)
 |(with_reducible first|refine aX fun hc=>?_|refine aY fun hc=>?_|refine aZ (fun hc=>?_) fun hc=>?_)<;>(try simp only[hc,bs,↓reduceIte]at h)<;>try simp only[hc]
 |((with_reducible refine ay hQ ?_);(try cases h);simp only[bp,bq,bS,bT,go_sem,hC,hE,hF,hS,hb];try exact cp)
 | (cases h;done))
   refine b8 0 0 (IH (rest,k+1) ⟨g2,by dsimp only;omega⟩ (zac _))
set_option maxRecDepth 20000 in
theorem Zm {c : UInt8} {r : aB} (s : St) : aC Tryz.prog 188 [.str (c :: r)] s (.int .i64 ((kv (c :: r) : Nat) : Int)) s := by
 refine aC.pure ?_ rfl rfl s
 generalize h : kv (c :: r) = k
 unfold S0
 cases r with
 | nil =>
   have e : decide (((1 : Nat) : Int) ≥ 2) = false := rfl
   have e' : decide ((1 : Int) ≥ 2) = false := rfl
   simp only[kv, A8]at h
   refine aC.go y0.h rfl fun B Q hB hQ =>?_
   have ⟨hC, hE, hF, hS⟩ := bt
   repeat' (first
 |simp only[go_sem, hC, hE, hF, hS, ne_eq, not_false_eq_true, e, e', za7, cL, Int.reduceAdd, Int.reduceLT, Int.reduceNeg, decide_true, decide_false, Int.reduceToNat]
 |(with_reducible refine aV.gO ?_)
 |(with_reducible first|refine aX fun hc =>?_|refine aY fun hc =>?_|refine aZ (fun hc =>?_) fun hc =>?_)<;>(try simp only[hc, bs,↓reduceIte]at h)<;>try simp only[hc]
 |(with_reducible refine ay hQ ?_; (try cases h); simp only[bp, bq, bS, bT, go_sem, hC, hE, hF, hS, ne_eq, not_false_eq_true, e, e', za7, cL, Int.reduceAdd, Int.reduceLT, Int.reduceNeg, decide_true, decide_false, Int.reduceToNat]; try exact cp)
 |(cases h; done))
 | cons d r =>
   have e : decide (((r.length + 1 + 1 : Nat) : Int) ≥ 2) = true := by simp; omega
   have e2 : (2 : Int) ≤ ((r.length + 1 + 1 : Nat) : Int) := by omega
   simp only[kv, A8, O1]at h
   refine aC.go y0.h rfl fun B Q hB hQ =>?_
   have ⟨hC, hE, hF, hS⟩ := bt
   repeat' (first
 |simp only[go_sem, hC, hE, hF, hS, ne_eq, not_false_eq_true, e, e2, za7, cL, Int.reduceAdd, Int.reduceLT, Int.reduceNeg, decide_true, decide_false, Int.reduceToNat]
 |(with_reducible refine aV.gO ?_)
 |(with_reducible first|refine aX fun hc =>?_|refine aY fun hc =>?_|refine aZ (fun hc =>?_) fun hc =>?_)<;>(try simp only[hc, bs,↓reduceIte]at h)<;>try simp only[hc]
 |(with_reducible refine ay hQ ?_; (try cases h); simp only[bp, bq, bS, bT, go_sem, hC, hE, hF, hS, ne_eq, not_false_eq_true, e, e2, za7, cL, Int.reduceAdd, Int.reduceLT, Int.reduceNeg, decide_true, decide_false, Int.reduceToNat]; try exact cp)
 |(cases h; done))
theorem ahH {t:bN} {p:Int×Int} (h:fz t=p):aC Tryz.prog 245 [.agg (dt t)] S0 (.tuple [.int .i64 p.1, .int .i64 p.2]) S0:=by
 unfold fz at h
 unfold S0
 refine aC.go I0.h rfl fun B Q hB hQ=>?_
 have⟨hC,hE,hF,hS⟩:=bt
 repeat' (first
 |simp only[go_sem,hC,hE,hF,hS]
 |(with_reducible first|refine aX fun hc=>?_|refine aY fun hc=>?_|refine aZ (fun hc=>?_) fun hc=>?_)<;>(try simp only[hc,bs,↓reduceIte]at h)<;>try simp only[hc]
 |((with_reducible refine ay hQ ?_);exact cS))
theorem Zn : ∀ n,n<4611686018427387904→∀ x:Ex,x.size≤n→aC Tryz.prog 243 [.agg (bI x)] S0 (.int .i64 (x.depth:Int)) S0:=by
 intro n
 induction n with
 |zero=>rintro _ ⟨op,m,name,kids⟩ h;simp only[Ex.size]at h;omega
 |succ n ihn=>
 rintro hn ⟨op,m,name,kids⟩ hx
 have hk : ∀ y∈kids,aC Tryz.prog 243 [.agg (bI y)] S0 (.int .i64 (y.depth:Int)) S0:=fun y hy=>ihn (by omega) y (by simp only[Ex.size]at hx;have:=Ex.bX hy;omega)
 have hlen:kids.length<4611686018427387904:=by simp only[Ex.size]at hx;have:=Ex.cG kids;omega
 have NB:Ex.gD kids<4611686018427387904:=by have:=Ex.OZ _ _ hx;simp only[Ex.depth]at this;omega
 unfold S0
 refine aC.go Dz.h rfl fun B Q hB hQ=>?_
 have⟨hC,hE,hF,hS⟩:=bt
 repeat' (first
 |simp only[go_sem,hC,hE,hF,hS]
 |(with_reducible first|refine aX fun hc=>?_|refine aY fun hc=>?_|refine aZ (fun hc=>?_) fun hc=>?_)<;>(try simp only[hc,bs,↓reduceIte]at h)<;>try simp only[hc]
 |(with_reducible refine ay hQ ?_;exact aK))
 refine b8 0 0 (aV.ind (ι:=List Ex×Nat×Nat) (fun i=>kids.drop i.2.1=i.1∧max i.2.2 (Ex.gD i.1)=Ex.gD kids) (fun i=>i.1.length)
  (fun i=> [(3, .int .i64 (i.2.2:Int)),(7, .slice .shared 4 (kids.map bI)),(8, .int .i64 (kids.length:Int)),(9, .int .i64 (i.2.1:Int))]) (fun _=>S0) ?_ (kids,0,0) ⟨rfl,by simp⟩)
 rintro⟨rest,k,acc⟩ ⟨h1,h2⟩ IH
 unfold S0
 cases rest with
 |nil=>
  have hC:=drop_nil h1
  simp only[Ex.gD,Nat.max_zero]at h2
  subst h2
  repeat' (first
 |simp only[go_sem,hC,hE,hF,hS,az NB,Ex.depth]
 |(with_reducible first|refine aX fun hc=>?_|refine aY fun hc=>?_|refine aZ (fun hc=>?_) fun hc=>?_)<;>(try simp only[hc,bs,↓reduceIte]at h)<;>try simp only[hc]
 |(with_reducible refine ay hQ ?_;simp only[bp,bq,bS,bT,go_sem,hC,hE,hF,hS,az NB,Ex.depth];try exact cp))
 |cons y rest=>
  obtain⟨g1,g2,hC,g4⟩:=drop_cons h1
  simp only[Ex.gD]at h2
  have hy:=fun s=>(hk y (zae g1)).pure (by simp[D.bP,D.ok,fK]) rfl s
  dsimp only at g1 g2 hC g4 h2
  repeat' (first
 |simp only[go_sem,hC,hE,hF,hS,g1]
 |(with_reducible refine CU (hy _) ?_)
 |(with_reducible refine ay hQ ?_;exact aK))
  refine b9 0 0 ?_ ?_ (IH (rest,k+1,max acc y.depth) ⟨g2,by dsimp only;omega⟩ (by simp))
  ·(simp only[go_sem,hC,hE,hF,hS,mx,az (show k<4611686018427387904 by omega)];try exact aT)
  ·(simp only[go_sem,hC,hE,hF,hS,mx,az (show k<4611686018427387904 by omega)];try exact aT)
theorem Zo {x:Ex} {d:Int} (h:xi x=some d) (s:St):aC Tryz.prog 243 [.agg (bI x)] s (.int .i64 d) s:=by
 unfold xi at h
 split at h
 ·cases h;exact(Zn x.size ‹_› x (zaj _)).pure (by simp[D.bP,D.ok,fK]) rfl s
 ·cases h
theorem ahI (t:bN) (s:St):aC Tryz.prog 245 [.agg (dt t)] s (.tuple [.int .i64 (fz t).1, .int .i64 (fz t).2]) s:=(ahH rfl).pure rfl rfl s
theorem Ya {c:Prop} [Decidable c] {α:Type} {P:α→Prop} {a b:α} (ha:P a) (hb:P b):P (if c then a else b):=by
 by_cases h:c
 ·rw[if_pos h];exact ha
 ·rw[if_neg h];exact hb
def OpR (p:Int×Int):Prop:=0≤p.2∧p.2≤6
theorem VE (t:bN):OpR (fz t):=by
 unfold fz
 repeat' with_reducible refine Ya (P:=OpR) ?_ ?_
 all_goals exact⟨by decide,by decide⟩
theorem E3 (t:bN):IntKind.wrap .i64 ((fz t).2+1)=(fz t).2+1:=by
 have:0≤(fz t).2∧(fz t).2≤6:=VE t
 rw[cL]<;>omega
abbrev Hw (m:Nat):Prop:=∀ {r:Rd} {p:Ex×Rd},Rd.one m r=some p→∀ {s:St} {o:Nat},s.aw[o]? = some (cw r)→aC Tryz.prog 244 [.ptr o 0] s (.agg (bI p.1)) ⟨s.aw.set o (cw p.2),s.aE⟩
abbrev Hx (m:Nat):Prop:=∀ {k:Int} {r:Rd} {p:Ex×Rd},Rd.two m k r=some p→∀ {s:St} {o:Nat},s.aw[o]? = some (cw r)→aC Tryz.prog 242 [.ptr o 0, .int .i64 k] s (.agg (bI p.1)) ⟨s.aw.set o (cw p.2),s.aE⟩
theorem VF {m:Nat} (DI:Hw m) (DJ:Hx m):Hw (m+1):=by
 intro r p h s o ho
 refine aC.fy ?_ rfl (fv r) (fv p.2) (by simp[D.ok,fK]) ho
 unfold Rd.one at h
 refine aC.go yk.h rfl fun B Q hB hQ=>?_
 have⟨hC,hE,hF,hS⟩:=bt
 repeat' (first
 |simp only[go_sem,hC,hE,hF,hS]
 |(rw[zab]at h;obtain⟨_,h1,h⟩:=h;first|(with_reducible refine CU (oK h1 (by with_unfolding_all rfl)) ?_;have hC:=rK h1)|(with_reducible refine CU (sH h1 (by with_unfolding_all rfl)) ?_)|(with_reducible refine CU (DJ h1 (by with_unfolding_all rfl)) ?_)|(with_reducible refine CU (pN h1 (by with_unfolding_all rfl)) ?_)|(with_reducible refine CU (DI h1 (by with_unfolding_all rfl)) ?_)|(with_reducible refine CU (DG h1 (by with_unfolding_all rfl)) ?_))
 |(with_reducible refine CU (kF (by with_unfolding_all rfl)) ?_)
 |(with_reducible first|refine aX fun hc=>?_|refine aY fun hc=>?_|refine aZ (fun hc=>?_) fun hc=>?_)<;>(try simp only[hc,bs,↓reduceIte]at h)<;>try simp only[hc]
 |((with_reducible refine ay hQ ?_);exact cS))
theorem VG {m:Nat} (DI:Hw m) (DJ : ∀ j<m,Hx j):Hx (m+1):=by
 intro k r p h s o ho
 refine aC.fy ?_ rfl (fv r) (fv p.2) (by simp[D.ok,fK]) ho
 unfold Rd.two at h
 refine aC.go yj.h rfl fun B Q hB hQ=>?_
 have⟨hC,hE,hF,hS⟩:=bt
 repeat' (first
 |simp only[go_sem,hC,hE,hF,hS]
 |(rw[zab]at h;obtain⟨_,h1,h⟩:=h;first|(with_reducible refine CU (DI h1 (by with_unfolding_all rfl)) ?_))
 |(with_reducible refine ay hQ ?_;exact aK))
 refine b8 3 0 (aV.ind (ι:=Nat×Ex×Rd) (fun i=>Rd.jf i.1 k i.2.1 i.2.2=some p∧i.1≤m) (fun i=>i.1)
  (fun i=> [(0, .ptr 0 0),(1, .int .i64 k),(4, .ptr 1 0),(5, .ptr 2 0)]) (fun i=>⟨[cw i.2.2,bI iG,bI i.2.1],[]⟩) ?_ (m,_,_) ⟨h,zaj _⟩)
 rintro⟨n,x,r⟩ ⟨h,hn⟩ IH
 cases n with
 |zero=>simp only[Rd.jf]at h;cases h
 |succ n=>
  have ae0:=@DJ n (by omega)
  simp only[Rd.jf]at h
  repeat' (first
 |simp only[go_sem,hC,hE,hF,hS,E3]
 |(rw[zab]at h;obtain⟨_,h1,h⟩:=h;first|(with_reducible refine CU (oK h1 (by with_unfolding_all rfl)) ?_;have hC:=rK h1)|(with_reducible refine CU (ae0 h1 (by with_unfolding_all rfl)) ?_))
 |(with_reducible refine CU (kF (by with_unfolding_all rfl)) ?_)
 |(with_reducible refine CU (ahI _ _) ?_)
 |(with_reducible first|refine aX fun hc=>?_|refine aY fun hc=>?_|refine aZ (fun hc=>?_) fun hc=>?_)<;>(try simp only[hc,bs,↓reduceIte]at h)<;>try simp only[hc]
 |((with_reducible refine ay hQ ?_);(try cases h);simp only[bp,bq,bS,bT,go_sem,hC,hE,hF,hS,E3];try exact cp))
  refine b8 3 0 (IH (n,_,_) ⟨h,by dsimp only at hn ⊢;omega⟩ (zac _))
theorem Zp : ∀ n,∀ m<n,Hw m∧Hx m:=by
 intro n
 induction n with
 |zero=>intro m h;exact absurd h (zaM _)
 | succ n ih=>
  intro m h
  cases m with
  |zero=>
   refine⟨?_, ?_⟩
   ·intro r p h;simp only[Rd.one]at h;cases h
   ·intro k r p h;simp only[Rd.two]at h;cases h
  |succ m=>
   have hm:=ih m (by omega)
   exact⟨VF hm.1 hm.2,VG hm.1 fun j hj=>(ih j (by omega)).2⟩
theorem DJ {m:Nat} {k:Int} {r:Rd} {p:Ex×Rd} (h:Rd.two m k r=some p) {s:St} {o:Nat} (ho:s.aw[o]? = some (cw r)) :
 aC Tryz.prog 242 [.ptr o 0, .int .i64 k] s (.agg (bI p.1)) ⟨s.aw.set o (cw p.2),s.aE⟩:=(Zp (m+1) m (zac _)).2 h ho
theorem Bb {n:Nat} {r:Rd} {p:Ex×Rd} (h:Rd.whole n r=some p) {s:St} {o:Nat} (ho:s.aw[o]? = some (cw r)) :
 aC Tryz.prog 240 [.ptr o 0] s (.agg (bI p.1)) ⟨s.aw.set o (cw p.2),s.aE⟩:=by
 refine aC.fy ?_ rfl (fv r) (fv p.2) (by simp[D.ok,fK]) ho
 unfold Rd.whole at h
 refine aC.go wB.h rfl fun B Q hB hQ=>?_
 have⟨hC,hE,hF,hS⟩:=bt
 repeat' (first
 |simp only[go_sem,hC,hE,hF,hS]
 |(rw[zab]at h;obtain⟨_,h1,h⟩:=h;first|(with_reducible refine CU (oK h1 (by with_unfolding_all rfl)) ?_)|(with_reducible refine CU (Zo h1 _) ?_)|(with_reducible refine CU (DJ h1 (by with_unfolding_all rfl)) ?_))
 |(with_reducible refine CU (kF (by with_unfolding_all rfl)) ?_)
 |(with_reducible first|refine aX fun hc=>?_|refine aY fun hc=>?_|refine aZ (fun hc=>?_) fun hc=>?_)<;>(try simp only[hc,bs,↓reduceIte]at h)<;>try simp only[hc]
 |((with_reducible refine ay hQ ?_);exact cS))
@[go_sem] def bC (z:D) (r:Rd):List D:= [.slice .shared 4 (r.l.map dt), .int .i64 r.i, .int .i64 r.code, .int .i64 r.gE,z]
class Cell (z:D):Prop where
 ok:D.ok 0 0 z=true
 fg : ∀ n m,D.fg n m z=z
instance (n:Int):Cell (.int .i64 n):=⟨rfl,fun _ _=>rfl⟩
instance:Cell .junk:=⟨rfl,fun _ _=>rfl⟩
theorem Zq (z:D) [h:Cell z] (n m:Nat):D.fg n m z=z:=h.fg n m
attribute [go_sem] Zq
theorem gI (z:D) [h:Cell z] (r:Rd):D.bP 0 0 (bC z r)=true:=by simp[bC,D.bP,D.ok,Tag.ok,xh,h.ok]
theorem ae1 (l:List bN) (i c f:Int) (z:D) [hz:Cell z] : aC Tryz.prog 110 [.ptr 0 0] ⟨[[.slice .shared 4 (l.map dt), .int .i64 i, .int .i64 c, .int .i64 f,z]],[]⟩ (.bool (c==0)) ⟨[[.slice .shared 4 (l.map dt), .int .i64 i, .int .i64 c, .int .i64 f,z]],[]⟩:=by
 refine aC.go Ha.h rfl fun B Q hB hQ=>?_
 have⟨hC,hE,hF,hS⟩:=bt
 repeat' (first
 |simp only[go_sem,hC,hE,hF,hS]
 |(with_reducible refine ay hQ ?_;exact aK))
theorem dm {l:List bN} {i c f:Int} {z:D} [hz:Cell z] {s:St} {o:Nat} (ho:s.aw[o]? = some [.slice .shared 4 (l.map dt), .int .i64 i, .int .i64 c, .int .i64 f,z]):aC Tryz.prog 110 [.ptr o 0] s (.bool (c==0)) ⟨s.aw.set o [.slice .shared 4 (l.map dt), .int .i64 i, .int .i64 c, .int .i64 f,z],s.aE⟩:=
 have hk:D.bP 0 0 [.slice .shared 4 (l.map dt), .int .i64 i, .int .i64 c, .int .i64 f,z] = true:=by simp[D.bP,D.ok,Tag.ok,xh,hz.ok]
 aC.fy (ae1 l i c f z) rfl hk hk rfl ho
theorem nU {z:D} [Cell z] {r r':Rd} {c:Int} (h:r.bad c=some r') {s:St} {o:Nat} (ho:s.aw[o]? = some (bC z r)):aC Tryz.prog 112 [.ptr o 0, .int .i64 c] s (.tuple []) ⟨s.aw.set o (bC z r'),s.aE⟩:=by
 refine aC.fy ?_ rfl (gI z r) (gI z r') rfl ho
 unfold Rd.bad at h
 refine aC.go Du.h rfl fun B Q hB hQ=>?_
 have⟨hC,hE,hF,hS⟩:=bt
 repeat' (first
 |simp only[go_sem,hC,hE,hF,hS]
 |(rw[zab]at h;obtain⟨_,h1,h⟩:=h;first|(obtain⟨hC,hE,y7,y8⟩:=fh h1;simp only[go_sem,hE,hC,hE,hF,hS]))
 |(with_reducible refine CU (dm (by with_unfolding_all rfl)) ?_)
 |(with_reducible first|refine aX fun hc=>?_|refine aY fun hc=>?_|refine aZ (fun hc=>?_) fun hc=>?_)<;>(try simp only[hc,bs,↓reduceIte]at h)<;>try simp only[hc]
 |((with_reducible refine ay hQ ?_);exact cS))
def Rd.uE (text:aB) (r:Rd):Option Bool:=if r.good then r.is text else some false
theorem kN {z:D} [Cell z] {r:Rd} {text:aB} {b:Bool} (h:r.uE text=some b) {s:St} {o:Nat} (ho:s.aw[o]? = some (bC z r)):aC Tryz.prog 111 [.ptr o 0, .str text] s (.bool b) ⟨s.aw.set o (bC z r),s.aE⟩:=by
 refine aC.fy ?_ rfl (gI z r) (gI z r) rfl ho
 unfold Rd.uE Rd.is at h
 refine aC.go Hb.h rfl fun B Q hB hQ=>?_
 have⟨hC,hE,hF,hS⟩:=bt
 cases hg:r.good
 ·simp only [hg,zaa, ↓reduceIte]at h
  repeat' (first
 |simp only[go_sem,hC,hE,hF,hS]
 |(with_reducible refine CU (dm (by with_unfolding_all rfl)) ?_)
 |(with_reducible first|refine aX fun hc=>?_|refine aY fun hc=>?_|refine aZ (fun hc=>?_) fun hc=>?_)<;>(try simp only[hc,bs,↓reduceIte]at h)<;>try simp only[hc]
 |((with_reducible refine ay hQ ?_);exact cS))
 ·simp only [hg, ↓reduceIte]at h
  rw[zab]at h
  obtain⟨t,h1,h⟩:=h
  obtain⟨hC,hE,y7,y8⟩:=fh h1
  have e:decide (t.kind≥3)=(t.kind==3 ||t.kind==4):=by
   have:t.kind=0∨t.kind=1∨t.kind=2∨t.kind=3∨t.kind=4:=by omega
   rcases this with h|h|h|h|h<;>rw[h]<;>rfl
  cases hk:(t.kind==3 ||t.kind==4)
  ·simp only [hk,zaO]at h
   rw[hk]at e
   repeat' (first
 |simp only[go_sem,hC,hE,hF,hS,e]
 |(with_reducible refine CU (dm (by with_unfolding_all rfl)) ?_)
 |(with_reducible first|refine aX fun hc=>?_|refine aY fun hc=>?_|refine aZ (fun hc=>?_) fun hc=>?_)<;>(try simp only[hc,bs,↓reduceIte]at h)<;>try simp only[hc]
 | ((with_reducible refine ay hQ ?_);(try cases h);simp only [bp,bq,bS,bT,go_sem,hC,hE,hF,hS,e];try exact cp))
  ·simp only [hk,zbc]at h
   rw[hk]at e
   repeat' (first
 |simp only[go_sem,hC,hE,hF,hS,e]
 |(with_reducible refine CU (dm (by with_unfolding_all rfl)) ?_)
 |(with_reducible first|refine aX fun hc=>?_|refine aY fun hc=>?_|refine aZ (fun hc=>?_) fun hc=>?_)<;>(try simp only[hc,bs,↓reduceIte]at h)<;>try simp only[hc]
 |((with_reducible refine ay hQ ?_);(try cases h);simp only[bp,bq,bS,bT,go_sem,hC,hE,hF,hS,e];try exact cp))
theorem gN {z:D} [Cell z] {r:Rd} {text:aB} {p:Bool×Rd} (h:r.take text=some p) {s:St} {o:Nat} (ho:s.aw[o]? = some (bC z r)):aC Tryz.prog 108 [.ptr o 0, .str text] s (.bool p.1) ⟨s.aw.set o (bC z p.2),s.aE⟩:=by
 refine aC.fy ?_ rfl (gI z r) (gI z p.2) rfl ho
 have h':((r.uE text).bind fun b=>if !b then some (false,r)else some (true,{r with i:=r.i+1}))=some p:=by
  unfold Rd.take at h
  unfold Rd.uE
  cases hg:r.good
  ·simpa[hg]using h
  ·simpa[hg]using h
 have yU : ∀ b,r.uE text=some b→b=true→r.i<4611686018427387904:=by
  intro b hb ld
  unfold Rd.uE at hb
  split at hb
  ·exact is_lt hb
  ·cases hb;cases ld
 rw[zab]at h'
 obtain⟨b,h1,h⟩:=h'
 have y9:=fun {s:St} {o:Nat} (ho:s.aw[o]? = some (bC z r))=>kN h1 ho
 refine aC.go Ds.h rfl fun B Q hB hQ=>?_
 have⟨hC,hE,hF,hS⟩:=bt
 cases b
 ·repeat' (first
 |simp only[go_sem,hC,hE,hF,hS]
 |(with_reducible refine CU (y9 (by with_unfolding_all rfl)) ?_)
 |(with_reducible first|refine aX fun hc=>?_|refine aY fun hc=>?_|refine aZ (fun hc=>?_) fun hc=>?_)<;>(try simp only[hc,bs,↓reduceIte]at h)<;>try simp only[hc]
 |((with_reducible refine ay hQ ?_);exact cS))
 ·have hC:=yU true h1 rfl
  repeat' (first
 |simp only[go_sem,hC,hE,hF,hS]
 |(with_reducible refine CU (y9 (by with_unfolding_all rfl)) ?_)
 |(with_reducible first|refine aX fun hc=>?_|refine aY fun hc=>?_|refine aZ (fun hc=>?_) fun hc=>?_)<;>(try simp only[hc,bs,↓reduceIte]at h)<;>try simp only[hc]
 |((with_reducible refine ay hQ ?_);exact cS))
theorem fY {z:D} [Cell z] {r r':Rd} {text:aB} (h:r.want text=some r') {s:St} {o:Nat} (ho:s.aw[o]? = some (bC z r)):aC Tryz.prog 113 [.ptr o 0, .str text] s (.tuple []) ⟨s.aw.set o (bC z r'),s.aE⟩:=by
 refine aC.fy ?_ rfl (gI z r) (gI z r') rfl ho
 unfold Rd.want at h
 refine aC.go Dv.h rfl fun B Q hB hQ=>?_
 have⟨hC,hE,hF,hS⟩:=bt
 cases hg:r.good
 ·have h2:r'=r:=by
   unfold Rd.take at h
   simp only[hg,zao,↓reduceIte,zam,Rd.bad,zaa]at h
   exact(Option.some.inj h).symm
  subst h2
  repeat' (first
 |simp only[go_sem,hC,hE,hF,hS]
 |(with_reducible refine CU (dm (by with_unfolding_all rfl)) ?_)
 |(with_reducible first|refine aX fun hc=>?_|refine aY fun hc=>?_|refine aZ (fun hc=>?_) fun hc=>?_)<;>(try simp only[hc,bs,↓reduceIte]at h)<;>try simp only[hc]
 |(with_reducible refine ay hQ ?_;exact aK))
 ·repeat' (first
 |simp only[go_sem,hC,hE,hF,hS]
 |(rw[zab]at h;obtain⟨_,h1,h⟩:=h;first|(with_reducible refine CU (gN h1 (by with_unfolding_all rfl)) ?_))
 |(with_reducible refine CU (nU h (by with_unfolding_all rfl)) ?_)
 |(with_reducible refine CU (dm (by with_unfolding_all rfl)) ?_)
 |(with_reducible first|refine aX fun hc=>?_|refine aY fun hc=>?_|refine aZ (fun hc=>?_) fun hc=>?_)<;>(try simp only[hc,bs,↓reduceIte]at h)<;>try simp only[hc]
 |((with_reducible refine ay hQ ?_);exact cS))
end Go.Abs
namespace Go.Abs
set_option maxRecDepth 8000
open Go.Proofs
def lX (s:aB):Int×Int:=
 if [42] == s then(6,5)else if [47] == s then(6,6)else if [37] == s then(6,7)else if [43] == s then(5,8)else if [45] == s then(5,9)
 else if [60] == s then(4,10)else if [60,61] == s then(4,11)else if [62] == s then(4,12)else if [62,61] == s then(4,13)
 else if [61,61] == s then(3,14)else if [33,61] == s then(3,15)else if [38,38] == s then(2,16)else if [124,124] == s then(1,17)else(0,0)
theorem LG (text:aB) (s:St):aC Tryz.prog 233 [.str text] s (.tuple [.int .i64 (lX text).1, .int .i64 (lX text).2]) s:=by
 refine aC.pure ?_ rfl rfl s
 generalize h:lX text=p
 unfold lX at h
 unfold S0
 refine aC.go EW.h rfl fun B Q hB hQ=>?_
 have⟨hC,hE,hF,hS⟩:=bt
 repeat' (first
 |simp only[go_sem,hC,hE,hF,hS,za7,cL,Int.reduceAdd,Int.reduceLT,Int.reduceNeg,decide_true,decide_false,Int.reduceToNat]
 |(with_reducible refine aV.gO ?_)
 |(with_reducible first|refine aX fun hc=>?_|refine aY fun hc=>?_|refine aZ (fun hc=>?_) fun hc=>?_)<;>(try simp only[hc,bs,↓reduceIte]at h)<;>try simp only[hc]
 |((with_reducible refine ay hQ ?_);(try cases h);simp only[bp,bq,bS,bT,go_sem,hC,hE,hF,hS,za7,cL,Int.reduceAdd,Int.reduceLT,Int.reduceNeg,decide_true,decide_false,Int.reduceToNat];try exact cp))
theorem I1 (t:bN) (hk:t.kind=4):fz t=((lX t.text).2,(lX t.text).1):=by
 obtain⟨kind,text,n,pos⟩:=t
 dsimp only at hk
 subst hk
 simp only[fz]
 by_cases h1:text = [42]
 ·subst h1;rfl
 by_cases h2:text = [47]
 ·subst h2;rfl
 by_cases h3:text = [37]
 ·subst h3;rfl
 by_cases h4:text = [43]
 ·subst h4;rfl
 by_cases h5:text = [45]
 ·subst h5;rfl
 by_cases h6:text = [60]
 ·subst h6;rfl
 by_cases h7:text = [60,61]
 ·subst h7;rfl
 by_cases h8:text = [62]
 ·subst h8;rfl
 by_cases h9:text = [62,61]
 ·subst h9;rfl
 by_cases h10:text = [61,61]
 ·subst h10;rfl
 by_cases h11:text = [33,61]
 ·subst h11;rfl
 by_cases sI:text = [38,38]
 ·subst sI;rfl
 by_cases RJ:text = [124,124]
 ·subst RJ;rfl
 have e : ∀ c:aB,¬ text=c→(text==c)=false:=fun c h=>by simpa using h
 have e' : ∀ c:aB,¬ text=c→(c==text)=false:=fun c h=>by simpa using fun h'=>h h'.symm
 simp only[lX,e _ h1,e _ h2,e _ h3,e _ h4,e _ h5,e _ h6,e _ h7,e _ h8,e _ h9,e _ h10,e _ h11,e _ sI,e _ RJ,e' _ h1,e' _ h2,e' _ h3,e' _ h4,e' _ h5,e' _ h6,e' _ h7,e' _ h8,e' _ h9,e' _ h10,e' _ h11,e' _ sI,e' _ RJ,
  zaa,↓reduceIte]
 rfl
theorem VH (t:bN) (hk : ¬ t.kind=4):fz t=(0,0):=by
 have:(t.kind != 4)=true:=by simpa using hk
 simp[fz,this]
abbrev xF (m:Nat):Prop:=∀ {z:D} [Cell z] {r:Rd} {p:Ex×Rd},Rd.one m r=some p→∀ {s:St} {o:Nat},s.aw[o]? = some (bC z r)→aC Tryz.prog 235 [.ptr o 0] s (.agg (bI p.1)) ⟨s.aw.set o (bC z p.2),s.aE⟩
abbrev xG (m:Nat):Prop:=∀ {z:D} [Cell z] {k:Int} {x:Ex} {r:Rd} {p:Ex×Rd},Rd.jf m k x r=some p→∀ {s:St} {o:Nat},s.aw[o]? = some (bC z r)→aC Tryz.prog 234 [.ptr o 0, .agg (bI x), .int .i64 k] s (.agg (bI p.1)) ⟨s.aw.set o (bC z p.2),s.aE⟩
theorem O5 {m:Nat} (Bc : ∀ j≤m,xF j) (I2 : ∀ j≤m,xG j):xF (m+1):=by
 intro z _ r p h s o ho
 refine aC.fy ?_ rfl (gI z r) (gI z p.2) (by simp[D.ok,fK]) ho
 unfold Rd.one at h
 have Zr:=@Bc m (zaj _)
 cases m with
 |zero=>
  simp only[Rd.two,Rd.one,Option.bind_none]at h
  refine aC.go uB.h rfl fun B Q hB hQ=>?_
  have⟨hC,hE,hF,hS⟩:=bt
  repeat' (first
 |simp only[go_sem,hC,hE,hF,hS]
 |(rw[zab]at h;obtain⟨_,h1,h⟩:=h;first|(obtain⟨hC,hE,y7,y8⟩:=fh h1;simp only[go_sem,hE,hC,hE,hF,hS])|(with_reducible refine CU (gN h1 (by with_unfolding_all rfl)) ?_)|(with_reducible refine CU (nU h1 (by with_unfolding_all rfl)) ?_))
 |(with_reducible refine CU (dm (by with_unfolding_all rfl)) ?_)
 |(with_reducible first|refine aX fun hc=>?_|refine aY fun hc=>?_|refine aZ (fun hc=>?_) fun hc=>?_)<;>(try simp only[hc,bs,↓reduceIte]at h)<;>try simp only[hc]
 |((with_reducible refine ay hQ ?_);exact cS)
 |(cases h;done))
 |succ m=>
  have ab8:=@I2 m (by omega)
  have Zs:=@Bc m (by omega)
  simp only[Rd.two]at h
  refine aC.go uB.h rfl fun B Q hB hQ=>?_
  have⟨hC,hE,hF,hS⟩:=bt
  repeat' (first
 |simp only[go_sem,hC,hE,hF,hS]
 |(rw[zab]at h;obtain⟨_,h1,h⟩:=h;first|(obtain⟨hC,hE,y7,y8⟩:=fh h1;simp only[go_sem,hE,hC,hE,hF,hS])|(with_reducible refine CU (gN h1 (by with_unfolding_all rfl)) ?_)|(with_reducible refine CU (fY h1 (by with_unfolding_all rfl)) ?_)|(with_reducible refine CU (Zr h1 (by with_unfolding_all rfl)) ?_)|(with_reducible refine CU (Zs h1 (by with_unfolding_all rfl)) ?_)|(with_reducible refine CU (ab8 h1 (by with_unfolding_all rfl)) ?_)|(with_reducible refine CU (nU h1 (by with_unfolding_all rfl)) ?_))
 |(with_reducible refine CU (dm (by with_unfolding_all rfl)) ?_)
 |(with_reducible first|refine aX fun hc=>?_|refine aY fun hc=>?_|refine aZ (fun hc=>?_) fun hc=>?_)<;>(try simp only[hc,bs,↓reduceIte]at h)<;>try simp only[hc]
 |((with_reducible refine ay hQ ?_);exact cS))
theorem tO (s:aB):IntKind.wrap .i64 ((lX s).1+1)=(lX s).1+1:=by
 have h:=E3 ⟨4,s,0,0⟩
 rw[I1 _ rfl]at h
 exact h
def BZ (p:Int×Int):Prop:=(p.2==0)=(p.1==0)
theorem O6 (s:aB):((lX s).2==0)=((lX s).1==0):=by
 show BZ (lX s)
 unfold lX
 repeat' with_reducible refine Ya (P:=BZ) ?_ ?_
 all_goals rfl
theorem RK {m:Nat} (Bc : ∀ j<m,xF j) (I2 : ∀ j<m,xG j):xG m:=by
 intro z _ k x r p h s o ho
 refine aC.fy ?_ (by simp[D.bP,D.ok,fK]) (gI z r) (gI z p.2) (by simp[D.ok,fK]) ho
 refine aC.go Dy.h rfl fun B Q hB hQ=>?_
 have⟨hC,hE,hF,hS⟩:=bt
 repeat' (first
 |simp only[go_sem,hC,hE,hF,hS]
 |(with_reducible first|refine aX fun hc=>?_|refine aY fun hc=>?_|refine aZ (fun hc=>?_) fun hc=>?_)<;>(try simp only[hc,bs,↓reduceIte]at h)<;>try simp only[hc]
 |((with_reducible refine ay hQ ?_);exact cS))
 refine b8 3 0 (aV.ind (ι:=Nat×Ex×Rd) (fun i=>Rd.jf i.1 k i.2.1 i.2.2=some p∧i.1≤m) (fun i=>i.1)
  (fun i=> [(0, .ptr 0 0),(2, .int .i64 k),(4, .ptr 1 0),(6, .ptr 2 0)]) (fun i=>⟨[bC z i.2.2,bI i.2.1,bI iG],[]⟩) ?_ (m,_,_) ⟨h,zaj _⟩)
 rintro⟨n,x,r⟩ ⟨h,hn⟩ IH
 dsimp only at hn
 cases n with
 |zero=>simp only[Rd.jf]at h;cases h
 | succ n=>
  simp only[Rd.jf]at h
  cases hg:r.good
  ·simp only [hg,zaa, ↓reduceIte]at h
   repeat' (first
 |simp only[go_sem,hC,hE,hF,hS]
 |(with_reducible refine CU (dm (by with_unfolding_all rfl)) ?_)
 |(with_reducible first|refine aX fun hc=>?_|refine aY fun hc=>?_|refine aZ (fun hc=>?_) fun hc=>?_)<;>(try simp only[hc,bs,↓reduceIte]at h)<;>try simp only[hc]
 |((with_reducible refine ay hQ ?_);exact cS)
 | (cases h;done))
  ·simp only [hg, ↓reduceIte]at h
   rw[zab]at h
   obtain⟨t,h1,h⟩:=h
   obtain⟨hC,hE,y7,y8⟩:=fh h1
   by_cases hk:t.kind=4
   ·have mw:(t.kind==4)=true:=by simp [hk]
    rw[I1 t hk]at h
    dsimp only at h
    rw[O6]at h
    cases n with
    |zero=>
     simp only[Rd.two,Option.bind_none]at h
     repeat' (first
 |simp only[go_sem,hC,hE,hF,hS,mw,tO]
 |(with_reducible refine CU (dm (by with_unfolding_all rfl)) ?_)
 |(with_reducible refine CU (LG _ _) ?_)
 |(with_reducible first|refine aX fun hc=>?_|refine aY fun hc=>?_|refine aZ (fun hc=>?_) fun hc=>?_)<;>(try simp only[hc,bs,↓reduceIte]at h)<;>try simp only[hc]
 |((with_reducible refine ay hQ ?_);(try cases h);simp only[bp,bq,bS,bT,go_sem,hC,hE,hF,hS,mw,tO];try exact cp)
 | (cases h;done))
    |succ n=>
     have Zt:=@Bc n (by omega)
     have ab9:=@I2 n (by omega)
     simp only[Rd.two]at h
     repeat' (first
 |simp only[go_sem,hC,hE,hF,hS,mw,tO]
 |(rw[zab]at h;obtain⟨_,h1,h⟩:=h;first|(with_reducible refine CU (Zt h1 (by with_unfolding_all rfl)) ?_)|(with_reducible refine CU (ab9 h1 (by with_unfolding_all rfl)) ?_))
 |(with_reducible refine CU (dm (by with_unfolding_all rfl)) ?_)
 |(with_reducible refine CU (LG _ _) ?_)
 |(with_reducible first|refine aX fun hc=>?_|refine aY fun hc=>?_|refine aZ (fun hc=>?_) fun hc=>?_)<;>(try simp only[hc,bs,↓reduceIte]at h)<;>try simp only[hc]
 | ((with_reducible refine ay hQ ?_);(try cases h);simp only [bp,bq,bS,bT,go_sem,hC,hE,hF,hS,mw,tO];try exact cp))
     refine b8 3 0 (IH (n+1,_,_) ⟨h,by dsimp only;omega⟩ (zac _))
   ·have mw:(t.kind==4)=false:=by simp [hk]
    have e:(decide ((0:Int)<k) ||(0:Int)==0)=true:=by simp
    simp only[VH t hk,e,↓reduceIte]at h
    repeat' (first
 |simp only[go_sem,hC,hE,hF,hS,mw]
 |(with_reducible refine CU (dm (by with_unfolding_all rfl)) ?_)
 |(with_reducible first|refine aX fun hc=>?_|refine aY fun hc=>?_|refine aZ (fun hc=>?_) fun hc=>?_)<;>(try simp only[hc,bs,↓reduceIte]at h)<;>try simp only[hc]
 |((with_reducible refine ay hQ ?_);(try cases h);simp only[bp,bq,bS,bT,go_sem,hC,hE,hF,hS,mw];try exact cp))
theorem DK : ∀ n,∀ m<n,xF m∧xG m:=by
 intro n
 induction n with
 |zero=>intro m h;exact absurd h (zaM _)
 |succ n ih=>
  intro m h
  have hr:xG m:=RK (fun j hj=>(ih j (by omega)).1) (fun j hj=>(ih j (by omega)).2)
  refine⟨?_,hr⟩
  cases m with
  |zero=>intro z _ r p h;simp only[Rd.one]at h;cases h
  |succ m=>exact O5 (fun j hj=>(ih j (by omega)).1) (fun j hj=>(ih j (by omega)).2)
theorem VI {m:Nat} : xF m:=(DK (m+1) m (zac _)).1
theorem Zu {m:Nat} : xG m:=(DK (m+1) m (zac _)).2
theorem RL : ∀ (dk:Nat),dk<1000000→∀ x:Ex,x.size<4611686018427387904→∀ s:St,aC Tryz.prog 206 [.agg (bI x), .int .i64 (dk:Int)] s (.int .i64 ((min x.depth (dk+1):Nat):Int)) s:=by
 intro dk
 induction dk with
 |zero=>
  rintro _ ⟨op,m,name,kids⟩ hx s
  refine aC.pure ?_ (by simp[D.bP,D.ok,fK]) rfl s
  have hz:((0:Int)==0)=true:=rfl
  have e:min (Ex.depth ⟨op,m,name,kids⟩) (0+1)=1:=by simp only[Ex.depth];omega
  rw[e]
  unfold S0
  refine aC.go y1.h rfl fun B Q hB hQ=>?_
  have⟨hC,hE,hF,hS⟩:=bt
  repeat' (first
 |simp only[go_sem,hC,hE,hF,hS,hz]
 |(with_reducible refine ay hQ ?_;exact aK))
 | succ dk ih=>
  rintro akW ⟨op,m,name,kids⟩ hx s
  refine aC.pure ?_ (by simp[D.bP,D.ok,fK]) rfl s
  have hlen:kids.length<4611686018427387904:=by simp only[Ex.size]at hx;have:=Ex.cG kids;omega
  have hk : ∀ y∈kids,∀ s,aC Tryz.prog 206 [.agg (bI y), .int .i64 (dk:Int)] s (.int .i64 ((min y.depth (dk+1):Nat):Int)) s:=fun y hy s=>
   ih (by omega) y (by simp only[Ex.size]at hx;have:=Ex.bX hy;omega) s
  have hz:(((dk+1:Nat):Int)==0)=false:=by simp;omega
  have w1:IntKind.wrap .i64 (((dk+1:Nat):Int) - 1)=(dk:Int):=by rw[cL]<;>omega
  unfold S0
  refine aC.go y1.h rfl fun B Q hB hQ=>?_
  have⟨hC,hE,hF,hS⟩:=bt
  repeat' (first
 |simp only[go_sem,hC,hE,hF,hS,hz]
 | (with_reducible refine ay hQ ?_;exact aK))
  refine b8 1 0 (aV.ind (ι:=List Ex×Nat×Nat) (fun i=>kids.drop i.2.1=i.1∧i.2.2≤dk+1∧min (max i.2.2 (Ex.gD i.1)) (dk+1)=min (Ex.gD kids) (dk+1)) (fun i=>i.1.length)
   (fun i=> [(1, .int .i64 ((dk+1:Nat):Int)),(2, .ptr 0 0),(5, .int .i64 (i.2.2:Int)),(6, .int .i64 (i.2.1:Int))]) (fun i=>⟨[bI ⟨op,m,name,kids⟩],[]⟩) ?_ (kids,0,0) ⟨rfl,zau _,by simp⟩)
  rintro⟨rest,k,d⟩ ⟨h1,h2,h3⟩ IH
  dsimp only at h1 h2 h3
  have hd:min (Ex.depth ⟨op,m,name,kids⟩) (dk+1+1)=min (Ex.gD kids) (dk+1)+1:=by simp only[Ex.depth];omega
  rw[hd, ← h3]at hQ
  have w2:IntKind.wrap .i64 ((d:Int)+1)=((d+1:Nat):Int):=by rw[cL]<;>omega
  by_cases aln:d<dk+1
  ·have c2:decide ((d:Int)<((dk+1:Nat):Int))=true:=by simp;omega
   cases rest with
   |nil=>
    have hC:=drop_nil h1
    simp only[Ex.gD,Nat.max_zero]at hQ
    have e:min d (dk+1)=d:=by omega
    rw[e]at hQ
    repeat' (first
 |simp only[go_sem,hC,hE,hF,hS,c2,w2]
 | (with_reducible refine ay hQ ?_;exact aK))
   | cons y rest=>
    obtain⟨hE,g2,hC,g4⟩:=drop_cons h1
    have hy:=hk y (zae hE)
    simp only[Ex.gD]at h3
    have bm:k<4611686018427387904:=by omega
    by_cases kh:min y.depth (dk+1) > d
    ·have c3:decide (((min y.depth (dk+1):Nat):Int) > (d:Int))=true:=by simp only [decide_eq_true_eq];omega
     repeat' (first
 |simp only[go_sem,hC,hE,hF,hS,c2,w1,c3]
 |(with_reducible refine CU (hy _) ?_)
 | (with_reducible refine ay hQ ?_;exact aK))
     refine b9 1 0 ?_ ?_ (IH (rest,k+1,min y.depth (dk+1)) ⟨g2,by dsimp only;omega,by dsimp only;omega⟩ (zac _))
     ·(simp only[go_sem,hC,hE,hF,hS,az bm];try exact aT)
     ·(simp only[go_sem,hC,hE,hF,hS,az bm];try exact aT)
    ·have c3:decide (((min y.depth (dk+1):Nat):Int) > (d:Int))=false:=by simp only [decide_eq_false_iff_not];omega
     repeat' (first
 |simp only[go_sem,hC,hE,hF,hS,c2,w1,c3]
 |(with_reducible refine CU (hy _) ?_)
 | (with_reducible refine ay hQ ?_;exact aK))
     refine b9 1 0 ?_ ?_ (IH (rest,k+1,d) ⟨g2,h2,by dsimp only;omega⟩ (zac _))
     ·(simp only[go_sem,hC,hE,hF,hS,az bm];try exact aT)
     ·(simp only[go_sem,hC,hE,hF,hS,az bm];try exact aT)
  ·have c2:decide ((d:Int)<((dk+1:Nat):Int))=false:=by simp;omega
   have e:min (max d (Ex.gD rest)) (dk+1)=d:=by omega
   rw[e]at hQ
   cases rest with
   |nil=>
    have hC:=drop_nil h1
    repeat' (first
 |simp only[go_sem,hC,hE,hF,hS,c2,w2]
 | (with_reducible refine ay hQ ?_;exact aK))
   |cons y rest=>
    obtain⟨hE,g2,hC,g4⟩:=drop_cons h1
    repeat' (first
 |simp only[go_sem,hC,hE,hF,hS,c2,w2]
 |(with_reducible refine ay hQ ?_;exact aK))
theorem nV {z:D} [Cell z] {n:Nat} {r:Rd} {p:Ex×Rd} (h:Rd.whole n r=some p) {s:St} {o:Nat} (ho:s.aw[o]? = some (bC z r)) :
 aC Tryz.prog 217 [.ptr o 0] s (.agg (bI p.1)) ⟨s.aw.set o (bC z p.2),s.aE⟩:=by
 refine aC.fy ?_ rfl (gI z r) (gI z p.2) (by simp[D.ok,fK]) ho
 unfold Rd.whole at h
 rw[zab]at h
 obtain⟨t,h1,h⟩:=h
 obtain⟨vB,jR,y7,y8⟩:=fh h1
 cases n with
 |zero=>simp[Rd.two]at h
 |succ n=>
 cases n with
 |zero=>simp[Rd.two,Rd.one]at h
 |succ n=>
 simp only[Rd.two]at h
 cases hg:r.good
 ·have h2:Rd.one (n+1) r=some (iG,r):=by simp only [Rd.one,h1,zam,hg,zao, ↓reduceIte]
  have h3 : ∀ k,Rd.jf (n+1) k iG r=some (iG,r):=by intro k;simp only[Rd.jf,hg,zaa,↓reduceIte]
  simp only[h2,h3,zam,hg,zaa,↓reduceIte]at h
  refine aC.go vz.h rfl fun B Q hB hQ=>?_
  have⟨hC,hE,hF,hS⟩:=bt
  repeat' (first
 |simp only[go_sem,hC,hE,hF,hS]
 |(with_reducible refine CU (dm (by with_unfolding_all rfl)) ?_)
 |(with_reducible first|refine aX fun hc=>?_|refine aY fun hc=>?_|refine aZ (fun hc=>?_) fun hc=>?_)<;>(try simp only[hc,bs,↓reduceIte]at h)<;>try simp only[hc]
 |((with_reducible refine ay hQ ?_);exact cS)
 |(cases h;done))
 ·rw [zaY]at h
  rw[zab]at h
  obtain⟨a,ha,h⟩:=h
  rw[zab]at h
  obtain⟨b,hb,h⟩:=h
  have fa:=fun {s:St} {o:Nat} (ho:s.aw[o]? = some (bC z r))=>VI ha ho
  have fb:=fun {s:St} {o:Nat} (ho:s.aw[o]? = some (bC z a.2))=>Zu hb ho
  refine aC.go vz.h rfl fun B Q hB hQ=>?_
  have⟨hC,hE,hF,hS⟩:=bt
  cases ji:b.2.good
  ·simp only [ji,zaa, ↓reduceIte]at h
   repeat' (first
 |simp only[go_sem,hC,hE,hF,hS,jR]
 |(with_reducible refine CU (dm (by with_unfolding_all rfl)) ?_)
 |(with_reducible refine CU (fa (by with_unfolding_all rfl)) ?_)
 |(with_reducible refine CU (fb (by with_unfolding_all rfl)) ?_)
 |(with_reducible first|refine aX fun hc=>?_|refine aY fun hc=>?_|refine aZ (fun hc=>?_) fun hc=>?_)<;>(try simp only[hc,bs,↓reduceIte]at h)<;>try simp only[hc]
 |((with_reducible refine ay hQ ?_);(try cases h);simp only[bp,bq,bS,bT,go_sem,hC,hE,hF,hS,jR];try exact cp)
 | (cases h;done))
  ·simp only [ji, ↓reduceIte]at h
   rw[zab]at h
   obtain⟨d,hd,h⟩:=h
   unfold xi at hd
   split at hd
   ·rename_i dz
    cases hd
    have yq:=fun s=>RL 20 (by decide) b.1 dz s
    have c20:(((20:Nat):Int))=20:=rfl
    rw[c20]at yq
    by_cases hx:b.1.depth > 20
    ·have c1:decide ((b.1.depth:Int) > 20)=true:=by simp;omega
     have c2:decide (((min b.1.depth (20+1):Nat):Int) > 20)=true:=by simp only[decide_eq_true_eq];omega
     simp only[c1,↓reduceIte]at h
     repeat' (first
 |simp only[go_sem,hC,hE,hF,hS,c2,jR]
 |(with_reducible refine CU (dm (by with_unfolding_all rfl)) ?_)
 |(with_reducible refine CU (fa (by with_unfolding_all rfl)) ?_)
 |(with_reducible refine CU (fb (by with_unfolding_all rfl)) ?_)
 |(with_reducible refine CU (yq _) ?_)
 |(with_reducible first|refine aX fun hc=>?_|refine aY fun hc=>?_|refine aZ (fun hc=>?_) fun hc=>?_)<;>(try simp only[hc,bs,↓reduceIte]at h)<;>try simp only[hc]
 |((with_reducible refine ay hQ ?_);(try cases h);simp only[bp,bq,bS,bT,go_sem,hC,hE,hF,hS,c2,jR];try exact cp)
 | (cases h;done))
    ·have c1:decide ((b.1.depth:Int) > 20)=false:=by simp;omega
     have c2:decide (((min b.1.depth (20+1):Nat):Int) > 20)=false:=by simp only[decide_eq_false_iff_not];omega
     simp only[c1,zaa,↓reduceIte]at h
     repeat' (first
 |simp only[go_sem,hC,hE,hF,hS,c2,jR]
 |(with_reducible refine CU (dm (by with_unfolding_all rfl)) ?_)
 |(with_reducible refine CU (fa (by with_unfolding_all rfl)) ?_)
 |(with_reducible refine CU (fb (by with_unfolding_all rfl)) ?_)
 |(with_reducible refine CU (yq _) ?_)
 |(with_reducible first|refine aX fun hc=>?_|refine aY fun hc=>?_|refine aZ (fun hc=>?_) fun hc=>?_)<;>(try simp only[hc,bs,↓reduceIte]at h)<;>try simp only[hc]
 |((with_reducible refine ay hQ ?_);(try cases h);simp only[bp,bq,bS,bT,go_sem,hC,hE,hF,hS,c2,jR];try exact cp)
 | (cases h;done))
   ·cases hd
theorem VJ : ∀ N,N<4611686018427387904→∀ x y:Ex,x.size≤N→∀ s:St,aC Tryz.prog 157 [.agg (bI x), .agg (bI y)] s (.bool (Ex.beq x y)) s:=by
 intro N
 induction N with
 |zero=>rintro _ ⟨op,m,name,kids⟩ y h;simp only[Ex.size]at h;omega
 |succ N ih=>
 rintro hN ⟨op,m,name,kids⟩ ⟨X8,m',pW,tN⟩ hx s
 refine aC.pure ?_ (by simp[D.bP,D.ok,fK]) rfl s
 have hk : ∀ a∈kids,∀ b s,aC Tryz.prog 157 [.agg (bI a), .agg (bI b)] s (.bool (Ex.beq a b)) s:=fun a ha b s=>
  ih (by omega) a b (by simp only[Ex.size]at hx;have:=Ex.bX ha;omega) s
 have hlen:kids.length<4611686018427387904:=by simp only[Ex.size]at hx;have:=Ex.cG kids;omega
 generalize h:Ex.beq ⟨op,m,name,kids⟩ ⟨X8,m',pW,tN⟩=p
 simp only[Ex.beq]at h
 unfold S0
 refine aC.go DB.h rfl fun B Q hB hQ=>?_
 have⟨hC,hE,hF,hS⟩:=bt
 repeat' (first
 |simp only[go_sem,hC,hE,hF,hS]
 |(with_reducible first|refine aX fun hc=>?_|refine aY fun hc=>?_|refine aZ (fun hc=>?_) fun hc=>?_)<;>(try simp only[hc,bs,↓reduceIte]at h)<;>try simp only[hc]
 |((with_reducible refine ay hQ ?_);exact cS)
 |(cases h;done))
 rename_i hl4
 have Yb:kids.length=tN.length:=by
  have:((kids.length:Int) != (tN.length:Int))=false:=by assumption
  simp only[bne_eq_false_iff_eq]at this
  omega
 refine b8 2 0 (aV.ind (ι:=List Ex×List Ex×Nat) (fun i=>kids.drop i.2.2=i.1∧tN.drop i.2.2=i.2.1∧Ex.fB i.1 i.2.1=p) (fun i=>i.1.length)
  (fun i=> [(2, .ptr 0 0),(3, .ptr 1 0),(36, .int .i64 (kids.length:Int)),(37, .int .i64 (i.2.2:Int))]) (fun i=>⟨[bI ⟨op,m,name,kids⟩,bI ⟨X8,m',pW,tN⟩],[]⟩) ?_ (kids,tN,0) ⟨rfl,rfl,h⟩)
 rintro⟨r1,r2,k⟩ ⟨h1,h2,h⟩ IH
 dsimp only at h1 h2 h
 cases r1 with
 |nil=>
  have hC:=drop_nil h1
  simp only[Ex.fB]at h
  repeat' (first
 |simp only[go_sem,hC,hE,hF,hS]
 |(with_reducible first|refine aX fun hc=>?_|refine aY fun hc=>?_|refine aZ (fun hc=>?_) fun hc=>?_)<;>(try simp only[hc,bs,↓reduceIte]at h)<;>try simp only[hc]
 |((with_reducible refine ay hQ ?_);exact cS)
 |(cases h;done))
 | cons a r1=>
  obtain⟨hE,g2,hC,g4⟩:=drop_cons h1
  cases r2 with
  |nil=>have:=zaX.1 h2;omega
  |cons b r2=>
   obtain⟨lj,b2,_,_⟩:=drop_cons h2
   have bm:k<4611686018427387904:=by omega
   have sJ:=hk a (zae hE)
   simp only[Ex.fB]at h
   repeat' (first
 |simp only[go_sem,hC,hE,hF,hS,lj]
 |(with_reducible refine CU (sJ _ _) ?_)
 |(with_reducible first|refine aX fun hc=>?_|refine aY fun hc=>?_|refine aZ (fun hc=>?_) fun hc=>?_)<;>(try simp only[hc,bs,↓reduceIte]at h)<;>try simp only[hc]
 |((with_reducible refine ay hQ ?_);(try cases h);simp only[bp,bq,bS,bT,go_sem,hC,hE,hF,hS,lj];try exact cp)
 | (cases h;done))
   refine b9 2 0 ?_ ?_ (IH (r1,r2,k+1) ⟨g2,b2,h⟩ (zac _))
   ·(simp only[go_sem,hC,hE,hF,hS,az bm];try exact aT)
   ·(simp only[go_sem,hC,hE,hF,hS,az bm];try exact aT)
theorem I3 {x y:Ex} (hx:x.size<4611686018427387904) (s:St):aC Tryz.prog 157 [.agg (bI x), .agg (bI y)] s (.bool (Ex.beq x y)) s:=VJ _ hx x y (zaj _) s
theorem rL (text:aB) (hl:text.length<4611686018427387904) (s:St):aC Tryz.prog 149 [.str text] s (.bool (isName text)) s:=by
 refine aC.pure ?_ rfl rfl s
 unfold S0
 cases text with
 |nil=>
  have e:(([] : aB) == [])=true:=rfl
  refine aC.go y5.h rfl fun B Q hB hQ=>?_
  have⟨hC,hE,hF,hS⟩:=bt
  repeat' (first
 |simp only[go_sem,hC,hE,hF,hS,e,isName]
 |(with_reducible first|refine aX fun hc=>?_|refine aY fun hc=>?_|refine aZ (fun hc=>?_) fun hc=>?_)<;>(try simp only[hc,bs,↓reduceIte]at h)<;>try simp only[hc]
 |(with_reducible refine ay hQ ?_;simp only[bp,bq,bS,bT,go_sem,hC,hE,hF,hS,e,isName];try exact cp))
 |cons c r=>
  have e:((c::r) == [])=false:=rfl
  generalize h:isName (c::r)=p
  simp only[isName]at h
  refine aC.go y5.h rfl fun B Q hB hQ=>?_
  have⟨hC,hE,hF,hS⟩:=bt
  repeat' (first
 |simp only[go_sem,hC,hE,hF,hS,e]
 |(with_reducible refine CU (gT _ _) ?_)
 |(with_reducible first|refine aX fun hc=>?_|refine aY fun hc=>?_|refine aZ (fun hc=>?_) fun hc=>?_)<;>(try simp only[hc,bs,↓reduceIte]at h)<;>try simp only[hc]
 | ((with_reducible refine ay hQ ?_);(try cases h);simp only [bp,bq,bS,bT,go_sem,hC,hE,hF,hS,e];try exact cp))
  refine b8 0 0 (aV.ind (ι:=aB×Nat) (fun i=>(c::r).drop i.2=i.1∧(if qR i.1 then !(isWord (c::r))else false)=p) (fun i=>i.1.length)
   (fun i=> [(0, .str (c::r)),(3, .int .i64 (i.2:Int))]) (fun i=>⟨[],[]⟩) ?_ (r,1) ⟨rfl,h⟩)
  rintro⟨rest,k⟩ ⟨h1,h⟩ IH
  dsimp only at h1 h
  cases rest with
  |nil=>
   have hC:=drop_nil h1
   simp only[zal]at hC
   simp only[qR,↓reduceIte]at h
   repeat' (first
 |simp only[go_sem,hC,hE,hF,hS]
 |(with_reducible refine CU (Ba _ _) ?_)
 |(with_reducible first|refine aX fun hc=>?_|refine aY fun hc=>?_|refine aZ (fun hc=>?_) fun hc=>?_)<;>(try simp only[hc,bs,↓reduceIte]at h)<;>try simp only[hc]
 | ((with_reducible refine ay hQ ?_);exact cS))
  |cons d rest=>
   obtain⟨hE,g2,hC,g4⟩:=drop_cons h1
   simp only[zal]at hC
   have hF:k<4611686018427387904:=by omega
   simp only[qR]at h
   repeat' (first
 |simp only[go_sem,hC,hE,hF,hS]
 |(with_reducible refine CU (gT _ _) ?_)
 |(with_reducible refine CU (iZ _ _) ?_)
 |(with_reducible first|refine aX fun hc=>?_|refine aY fun hc=>?_|refine aZ (fun hc=>?_) fun hc=>?_)<;>(try simp only[hc,bs,↓reduceIte]at h)<;>try simp only[hc]
 |((with_reducible refine ay hQ ?_);(try cases h);simp only[bp,bq,bS,bT,go_sem,hC,hE,hF,hS];repeat' (first|exact Ok.out|with_reducible refine eJ ?_ ?_|(simp;done)))
 | (cases h;done))
   all_goals
    refine b8 0 0 (IH (rest,k+1) ⟨g2,h⟩ (zac _))
theorem Zv (op:Int) (s:St):aC Tryz.prog 210 [.int .i64 op] s (.int .i64 (jH op)) s:=by
 refine aC.pure ?_ rfl rfl s
 unfold S0
 generalize h:jH op=p
 unfold jH at h
 refine aC.go EU.h rfl fun B Q hB hQ=>?_
 have⟨hC,hE,hF,hS⟩:=bt
 repeat' (first
 |simp only[go_sem,hC,hE,hF,hS]
 |(with_reducible first|refine aX fun hc=>?_|refine aY fun hc=>?_|refine aZ (fun hc=>?_) fun hc=>?_)<;>(try simp only[hc,bs,↓reduceIte]at h)<;>try simp only[hc]
 |((with_reducible refine ay hQ ?_);exact cS))
theorem yr {l:List aB} (hl:l.length<4611686018427387904) (hs : ∀ t∈l,t.length<4611686018427387904) (s:St):aC Tryz.prog 148 [.slice .shared 1 (l.map encStr)] s (.bool (cr l)) s:=by
 refine aC.pure ?_ (by simp[D.bP,D.ok,da,Tag.ok]) rfl s
 unfold S0
 generalize h:cr l=p
 refine aC.go EZ.h rfl fun B Q hB hQ=>?_
 have⟨hC,hE,hF,hS⟩:=bt
 repeat' (first
 |simp only[go_sem,hC,hE,hF,hS]
 |(with_reducible first|refine aX fun hc=>?_|refine aY fun hc=>?_|refine aZ (fun hc=>?_) fun hc=>?_)<;>(try simp only[hc,bs,↓reduceIte]at h)<;>try simp only[hc]
 |((with_reducible refine ay hQ ?_);exact cS))
 refine b8 0 0 (aV.ind (ι:=List aB×Nat) (fun i=>l.drop i.2=i.1∧cr i.1=p) (fun i=>i.1.length)
  (fun i=> [(5, .slice .shared 1 (l.map encStr)),(6, .int .i64 (l.length:Int)),(7, .int .i64 (i.2:Int))]) (fun i=>⟨[],[]⟩) ?_ (l,0) ⟨rfl,h⟩)
 rintro⟨rest,k⟩ ⟨h1,h⟩ IH
 dsimp only at h1 h
 cases rest with
 |nil=>
  have hC:=drop_nil h1
  simp only[cr]at h
  repeat' (first
 |simp only[go_sem,hC,hE,hF,hS]
 |(with_reducible first|refine aX fun hc=>?_|refine aY fun hc=>?_|refine aZ (fun hc=>?_) fun hc=>?_)<;>(try simp only[hc,bs,↓reduceIte]at h)<;>try simp only[hc]
 |((with_reducible refine ay hQ ?_);exact cS))
 |cons t rest=>
  obtain⟨hE,g2,hC,g4⟩:=drop_cons h1
  have hF:k<4611686018427387904:=by omega
  have hn:=rL t (hs t (zae hE))
  simp only[cr]at h
  repeat' (first
 |simp only[go_sem,hC,hE,hF,hS]
 |(with_reducible refine CU (hn _) ?_)
 |(with_reducible first|refine aX fun hc=>?_|refine aY fun hc=>?_|refine aZ (fun hc=>?_) fun hc=>?_)<;>(try simp only[hc,bs,↓reduceIte]at h)<;>try simp only[hc]
 |((with_reducible refine ay hQ ?_);exact cS))
  refine b8 0 0 (IH (rest,k+1) ⟨g2,h⟩ (zac _))
theorem acb : ∀ (n:Nat) (x:Ex),x.size≤n→x.size<4611686018427387904→x.texts→∀ s:St,aC Tryz.prog 207 [.agg (bI x)] s (.bool x.form) s:=by
 intro n
 induction n with
 |zero=>rintro⟨op,m,name,kids⟩ h;simp only[Ex.size]at h;omega
 | succ n ih=>
  rintro⟨op,m,name,kids⟩ h hx ht s
  refine aC.pure ?_ (by simp[D.bP,D.ok,fK]) rfl s
  have hlen:kids.length<4611686018427387904:=by simp only[Ex.size]at hx;have:=Ex.cG kids;omega
  have hk : ∀ y∈kids,∀ s,aC Tryz.prog 207 [.agg (bI y)] s (.bool y.form) s:=fun y hy s=>
   ih y (by simp only[Ex.size]at h;have:=Ex.bX hy;omega) (by simp only[Ex.size]at hx;have:=Ex.bX hy;omega) (Ex.FV ht hy) s
  have hn:=rL name ht.1
  unfold S0
  generalize h:Ex.form ⟨op,m,name,kids⟩=p
  simp only[Ex.form]at h
  refine aC.go Hg.h rfl fun B Q hB hQ=>?_
  have⟨hC,hE,hF,hS⟩:=bt
  repeat' (first
 |simp only[go_sem,hC,hE,hF,hS]
 |(with_reducible refine CU (Zv _ _) ?_)
 |(with_reducible refine CU (hn _) ?_)
 |(with_reducible first|refine aX fun hc=>?_|refine aY fun hc=>?_|refine aZ (fun hc=>?_) fun hc=>?_)<;>(try simp only[hc,bs,↓reduceIte]at h)<;>try simp only[hc]
 | ((with_reducible refine ay hQ ?_);(try cases h);simp only [bp,bq,bS,bT,go_sem,hC,hE,hF,hS];repeat' (first | exact Ok.out | with_reducible refine eJ ?_ ?_ | (simp;done))))
  all_goals
   refine b8 1 0 (aV.ind (ι:=List Ex×Nat) (fun i=>kids.drop i.2=i.1∧Ex.lW i.1=p) (fun i=>i.1.length)
    (fun i=> [(1, .ptr 0 0),(48, .int .i64 (kids.length:Int)),(49, .int .i64 (i.2:Int))]) (fun i=>⟨[bI ⟨op,m,name,kids⟩],[]⟩) ?_ (kids,0) ⟨rfl,h⟩)
   rintro⟨rest,k⟩ ⟨h1,h⟩ IH
   dsimp only at h1 h
   cases rest with
   |nil=>
    have hC:=drop_nil h1
    simp only[Ex.lW]at h
    repeat' (first
 |simp only[go_sem,hC,hE,hF,hS]
 |(with_reducible first|refine aX fun hc=>?_|refine aY fun hc=>?_|refine aZ (fun hc=>?_) fun hc=>?_)<;>(try simp only[hc,bs,↓reduceIte]at h)<;>try simp only[hc]
 |((with_reducible refine ay hQ ?_);exact cS)
 | (cases h;done))
   |cons y rest=>
    obtain⟨hE,g2,hC,g4⟩:=drop_cons h1
    have hy:=hk y (zae hE)
    have hF:k<4611686018427387904:=by omega
    simp only[Ex.lW]at h
    repeat' (first
 |simp only[go_sem,hC,hE,hF,hS]
 |(with_reducible refine CU (hy _) ?_)
 |(with_reducible first|refine aX fun hc=>?_|refine aY fun hc=>?_|refine aZ (fun hc=>?_) fun hc=>?_)<;>(try simp only[hc,bs,↓reduceIte]at h)<;>try simp only[hc]
 | ((with_reducible refine ay hQ ?_);exact cS))
    refine b8 1 0 (IH (rest,k+1) ⟨g2,h⟩ (zac _))
theorem Ac {x:Ex} (hx:x.size<4611686018427387904) (ht:x.texts) (s:St):aC Tryz.prog 174 [.agg (bI x)] s (.bool x.may) s:=by
 refine aC.pure ?_ (by simp[D.bP,D.ok,fK]) rfl s
 have hd:=fun s=>RL 20 (by decide) x hx s
 have c20:((20:Nat):Int)=20:=rfl
 rw[c20]at hd
 have hf:=acb _ x (zaj _) hx ht
 unfold S0
 generalize h:Ex.may x=p
 unfold Ex.may at h
 refine aC.go Ck.h rfl fun B Q hB hQ=>?_
 have⟨hC,hE,hF,hS⟩:=bt
 repeat' (first
 |simp only[go_sem,hC,hE,hF,hS]
 |(with_reducible refine CU (hd _) ?_)
 |(with_reducible refine CU (hf _) ?_)
 |(with_reducible first|refine aX fun hc=>?_|refine aY fun hc=>?_|refine aZ (fun hc=>?_) fun hc=>?_)<;>(try simp only[hc,bs,↓reduceIte]at h)<;>try simp only[hc]
 |((with_reducible refine ay hQ ?_);exact cS))
theorem RM (x:Ex) (s:St):aC Tryz.prog 180 [.agg (bI x)] s (.bool x.none) s:=by
 refine aC.pure ?_ (by simp[D.bP,D.ok,fK]) rfl s
 unfold S0
 generalize h:Ex.none x=p
 unfold Ex.none at h
 refine aC.go He.h rfl fun B Q hB hQ=>?_
 have⟨hC,hE,hF,hS⟩:=bt
 repeat' (first
 |simp only[go_sem,hC,hE,hF,hS]
 |(with_reducible first|refine aX fun hc=>?_|refine aY fun hc=>?_|refine aZ (fun hc=>?_) fun hc=>?_)<;>(try simp only[hc,bs,↓reduceIte]at h)<;>try simp only[hc]
 |((with_reducible refine ay hQ ?_);exact cS))
theorem ae2 {a:Ar} (hx:a.x.size<4611686018427387904) (ht:a.x.texts) (hn:a.name.length<4611686018427387904) (s:St):aC Tryz.prog 181 [.agg (dM a)] s (.bool a.may) s:=by
 refine aC.pure ?_ (by simp[D.bP,D.ok,IM]) rfl s
 have hm:=Ac hx ht
 have h1:=rL a.name hn
 unfold S0
 generalize h:Ar.may a=p
 simp only[Ar.may]at h
 refine aC.go IZ.h rfl fun B Q hB hQ=>?_
 have⟨hC,hE,hF,hS⟩:=bt
 repeat' (first
 |simp only[go_sem,hC,hE,hF,hS]
 |(with_reducible refine CU (hm _) ?_)
 |(with_reducible refine CU (h1 _) ?_)
 |(with_reducible refine CU (RM _ _) ?_)
 |(with_reducible first|refine aX fun hc=>?_|refine aY fun hc=>?_|refine aZ (fun hc=>?_) fun hc=>?_)<;>(try simp only[hc,bs,↓reduceIte]at h)<;>try simp only[hc]
 |((with_reducible refine ay hQ ?_);exact cS))
structure Sm.jy (s:Sm):Prop where
 LH : ∀ t∈s.labels,t.length<4611686018427387904
 acd:s.labels.length<4611686018427387904
 name:s.name.length<4611686018427387904
 proc:s.proc.length<4611686018427387904
 x:s.x.size<4611686018427387904
 xt:s.x.texts
 ace:s.args.length<4611686018427387904
 arg : ∀ a∈s.args,a.x.size<4611686018427387904∧a.x.texts∧a.name.length<4611686018427387904
section
variable {v:Sm} {B:eQ} {Q:Exit→Tm→St→Prop} {p:Bool}
theorem ae3 (hf:v.jy) (hB:B.s = ⟨[],[]⟩) (hQ:gZ 0 0 [(2,none)] (.bool p) ⟨[],[]⟩=Q)
 (h:(if !(Ar.cJ v.args)then false else((v.bb.length:Int)==0 ||v.kind==5 ||v.kind==6) && ((v.aR.length:Int)==0 ||v.kind==5))=p) :
 Sem Tryz.prog B 178 Q0Q Q [(1, .ptr 0 0)] ⟨[bn v],[]⟩:=by
 have akX:=hf.ace
 have VK:=fun a ha s=>ae2 (hf.arg a ha).1 (hf.arg a ha).2.1 (hf.arg a ha).2.2 s
 have⟨hC,hE,hF,hS⟩:=bt
 refine iz ?_
 repeat' (first
 |simp only[go_sem,hC,hE,hF,hS]
 |(with_reducible refine ay hQ ?_;exact aK))
 refine b8 1 0 (aV.ind (ι:=List Ar×Nat) (fun i=>v.args.drop i.2=i.1∧(if !(Ar.cJ i.1)then false else((v.bb.length:Int)==0 ||v.kind==5 ||v.kind==6) && ((v.aR.length:Int)==0 ||v.kind==5))=p) (fun i=>i.1.length)
  (fun i=> [(1, .ptr 0 0),(143, .slice .shared 6 (v.args.map dM)),(144, .int .i64 (v.args.length:Int)),(145, .int .i64 (i.2:Int))]) (fun i=>⟨[bn v],[]⟩) ?_ (v.args,0) ⟨rfl,h⟩)
 rintro⟨rest,k⟩ ⟨h1,h⟩ IH
 dsimp only at h1 h
 cases rest with
 |nil=>
  have hC:=drop_nil h1
  simp only[Ar.cJ,zan,zaa,↓reduceIte]at h
  repeat' (first
 |simp only[go_sem,hC,hE,hF,hS]
 |(with_reducible first|refine aX fun hc=>?_|refine aY fun hc=>?_|refine aZ (fun hc=>?_) fun hc=>?_)<;>(try simp only[hc,bs,↓reduceIte]at h)<;>try simp only[hc]
 | ((with_reducible refine ay hQ ?_);(try cases h);simp only [bp,bq,bS,bT,go_sem,hC,hE,hF,hS];repeat' (first | exact Ok.out | with_reducible refine eJ ?_ ?_ | (simp;done))))
  all_goals
   simp only[*]
   exact Ok.out
 |cons a rest=>
  obtain⟨hE,g2,hC,g4⟩:=drop_cons h1
  have ha:=VK a (zae hE)
  have hF:k<4611686018427387904:=by omega
  simp only[Ar.cJ]at h
  repeat' (first
 |simp only[go_sem,hC,hE,hF,hS]
 |(with_reducible refine CU (ha _) ?_)
 |(with_reducible first|refine aX fun hc=>?_|refine aY fun hc=>?_|refine aZ (fun hc=>?_) fun hc=>?_)<;>(try simp only[hc,bs,↓reduceIte]at h)<;>try simp only[hc]
 |((with_reducible refine ay hQ ?_);exact cS))
  refine b8 1 0 (IH (rest,k+1) ⟨g2,h⟩ (zac _))
theorem ae4 {cl:Bool} (hf:v.jy) (hB:B.s = ⟨[],[]⟩) (hQ:gZ 0 0 [(2,none)] (.bool p) ⟨[],[]⟩=Q)
 (h:(if !(cl == !(v.proc == [])) || (cl && !(isName v.proc)) || (!cl && decide ((v.args.length:Int) > 0))then false
  else if !(Ar.cJ v.args)then false else((v.bb.length:Int)==0 ||v.kind==5 ||v.kind==6) && ((v.aR.length:Int)==0 ||v.kind==5))=p) :
 Sem Tryz.prog B 178 Q0P Q [(1, .ptr 0 0),(5, .bool cl)] ⟨[bn v],[]⟩:=by
 have O7:=rL v.proc hf.proc
 have⟨hC,hE,hF,hS⟩:=bt
 refine Sem.kM ?_
 repeat' (first
 |simp only[go_sem,hC,hE,hF,hS]
 |(with_reducible refine CU (O7 _) ?_)
 |(with_reducible first|refine aX fun hc=>?_|refine aY fun hc=>?_|refine aZ (fun hc=>?_) fun hc=>?_)<;>(try simp only[hc,bs,↓reduceIte]at h)<;>try simp only[hc]
 |((with_reducible refine ay hQ ?_);(try cases h);simp only[bp,bq,bS,bT,go_sem,hC,hE,hF,hS];repeat' (first|exact Ok.out|with_reducible refine eJ ?_ ?_|(simp;done))))
 all_goals
  refine Sem.re _ _ 1 0 (by rw[hB];exact mD rfl) (by rw[hB];exact mD rfl) ?_ ?_ (ae3 hf hB hQ h)
  ·(simp only[go_sem,hC,hE,hF,hS];repeat' (first|exact Ok.out|with_reducible refine eJ ?_ ?_))
  ·(simp only[go_sem,hC,hE,hF,hS];repeat' (first|exact Ok.out|with_reducible refine eJ ?_ ?_))
theorem ae5 {hn cl:Bool} (hf:v.jy) (hB:B.s = ⟨[],[]⟩) (hQ:gZ 0 0 [(2,none)] (.bool p) ⟨[],[]⟩=Q)
 (h:(if(hn && !(isName v.name)) || (!hn && !(v.name == []) && !(cl && isName v.name))then false
  else if !(cl == !(v.proc == [])) ||(cl && !(isName v.proc)) ||(!cl && decide ((v.args.length:Int) > 0))then false
  else if !(Ar.cJ v.args)then false else((v.bb.length:Int)==0 ||v.kind==5 ||v.kind==6) && ((v.aR.length:Int)==0 ||v.kind==5))=p) :
 Sem Tryz.prog B 178 Q0O Q [(1, .ptr 0 0),(4, .bool hn),(5, .bool cl)] ⟨[bn v],[]⟩:=by
 have MT:=rL v.name hf.name
 have⟨hC,hE,hF,hS⟩:=bt
 have k:=@ae4 v B Q p cl hf hB hQ
 cases cl
 all_goals
  refine Sem.kM ?_
  repeat' (first
 |simp only[go_sem,hC,hE,hF,hS]
 |(with_reducible refine CU (MT _) ?_)
 |(with_reducible first|refine aX fun hc=>?_|refine aY fun hc=>?_|refine aZ (fun hc=>?_) fun hc=>?_)<;>(try simp only[hc,bs,↓reduceIte]at h)<;>try simp only[hc]
 |((with_reducible refine ay hQ ?_);(try cases h);simp only[bp,bq,bS,bT,go_sem,hC,hE,hF,hS];repeat' (first|exact Ok.out|with_reducible refine eJ ?_ ?_|(simp;done))))
 all_goals
  refine Sem.re _ _ 1 0 (by rw[hB];exact mD rfl) (by rw[hB];exact mD rfl) ?_ ?_ (k (by simpa only[bs,↓reduceIte]using h))
  ·(simp only[go_sem,hC,hE,hF,hS];repeat' (first|exact Ok.out|with_reducible refine eJ ?_ ?_))
  ·(simp only[go_sem,hC,hE,hF,hS];repeat' (first|exact Ok.out|with_reducible refine eJ ?_ ?_))
theorem ae6 {hx hn cl:Bool} (hf:v.jy) (hB:B.s = ⟨[],[]⟩) (hQ:gZ 0 0 [(2,none)] (.bool p) ⟨[],[]⟩=Q)
 (h:(if decide (v.kind<1) || decide (v.kind > 10) || !(cr v.labels) || (hx && !(v.x.may)) || (!hx && !(v.x.none)) || (v.has && v.kind != 9)then false
  else if(hn && !(isName v.name)) ||(!hn && !(v.name == []) && !(cl && isName v.name))then false
  else if !(cl == !(v.proc == [])) ||(cl && !(isName v.proc)) ||(!cl && decide ((v.args.length:Int) > 0))then false
  else if !(Ar.cJ v.args)then false else((v.bb.length:Int)==0 ||v.kind==5 ||v.kind==6) && ((v.aR.length:Int)==0 ||v.kind==5))=p) :
 Sem Tryz.prog B 178 Q0N Q [(1, .ptr 0 0),(3, .bool hx),(4, .bool hn),(5, .bool cl)] ⟨[bn v],[]⟩:=by
 have lk:=fun s=>yr hf.acd hf.LH s
 have hm:=Ac hf.x hf.xt
 have⟨hC,hE,hF,hS⟩:=bt
 refine Sem.kM ?_
 repeat' (first
 |simp only[go_sem,hC,hE,hF,hS]
 |(with_reducible refine CU (lk _) ?_)
 |(with_reducible refine CU (hm _) ?_)
 |(with_reducible refine CU (RM _ _) ?_)
 |(with_reducible first|refine aX fun hc=>?_|refine aY fun hc=>?_|refine aZ (fun hc=>?_) fun hc=>?_)<;>(try simp only[hc,bs,↓reduceIte]at h)<;>try simp only[hc]
 |((with_reducible refine ay hQ ?_);(try cases h);simp only[bp,bq,bS,bT,go_sem,hC,hE,hF,hS];repeat' (first|exact Ok.out|with_reducible refine eJ ?_ ?_|(simp;done))))
 all_goals
  refine Sem.re _ _ 1 0 (by rw[hB];exact mD rfl) (by rw[hB];exact mD rfl) ?_ ?_ (ae5 hf hB hQ h)
  ·(simp only[go_sem,hC,hE,hF,hS];repeat' (first|exact Ok.out|with_reducible refine eJ ?_ ?_))
  ·(simp only[go_sem,hC,hE,hF,hS];repeat' (first|exact Ok.out|with_reducible refine eJ ?_ ?_))
theorem ae7 {hx hn:Bool} (hf:v.jy) (hB:B.s = ⟨[],[]⟩) (hQ:gZ 0 0 [(2,none)] (.bool p) ⟨[],[]⟩=Q) (ex:v.mg=hx) (en:v.hasName=hn) (h:v.one=p) :
 Sem Tryz.prog B 178 Q0M Q [(1, .ptr 0 0),(3, .bool hx),(4, .bool hn)] ⟨[bn v],[]⟩:=by
 unfold Sm.one at h
 rw[ex,en]at h
 have⟨hC,hE,hF,hS⟩:=bt
 refine Sem.kM ?_
 repeat' (first
 |simp only[go_sem,hC,hE,hF,hS]
 |(with_reducible refine ay hQ ?_;exact aK))
 refine Sem.re _ _ 1 0 (by rw[hB];exact mD rfl) (by rw[hB];exact mD rfl) ?_ ?_ (ae6 hf hB hQ h)
 ·(simp only[go_sem,hC,hE,hF,hS,Sm.iI];repeat' (first|exact Ok.out|with_reducible refine eJ ?_ ?_))
 ·(simp only[go_sem,hC,hE,hF,hS,Sm.iI];repeat' (first|exact Ok.out|with_reducible refine eJ ?_ ?_))
theorem ae8 {hx:Bool} (hf:v.jy) (hB:B.s = ⟨[],[]⟩) (hQ:gZ 0 0 [(2,none)] (.bool p) ⟨[],[]⟩=Q) (ex:v.mg=hx) (hp:v.one=p) :
 Sem Tryz.prog B 178 Q0L Q [(1, .ptr 0 0),(3, .bool hx)] ⟨[bn v],[]⟩:=by
 generalize h:v.hasName=hn
 have hn:=h
 unfold Sm.hasName at h
 have⟨hC,hE,hF,hS⟩:=bt
 refine Sem.kM ?_
 repeat' (first
 |simp only[go_sem,hC,hE,hF,hS]
 |(with_reducible first|refine aX fun hc=>?_|refine aY fun hc=>?_|refine aZ (fun hc=>?_) fun hc=>?_)<;>(try simp only[hc,bs,↓reduceIte]at h)<;>try simp only[hc]
 |(with_reducible refine ay hQ ?_;simp only[bp,bq,bS,bT,go_sem,hC,hE,hF,hS];repeat' (first|exact Ok.out|with_reducible refine eJ ?_ ?_|(simp;done))))
 all_goals
  refine Sem.re _ _ 1 0 (by rw[hB];exact mD rfl) (by rw[hB];exact mD rfl) ?_ ?_ (ae7 hf hB hQ ex hn hp)
  ·(simp only[go_sem,hC,hE,hF,hS,h];repeat' (first|exact Ok.out|with_reducible refine eJ ?_ ?_))
  ·(simp only[go_sem,hC,hE,hF,hS,h];repeat' (first|exact Ok.out|with_reducible refine eJ ?_ ?_))
theorem ae9 (hf:v.jy) (hB:B.s = ⟨[],[]⟩) (hQ:gZ 0 0 [(2,none)] (.bool p) ⟨[],[]⟩=Q) (hp:v.one=p) :
 Sem Tryz.prog B 178 Q0K Q [(1, .ptr 0 0)] ⟨[bn v],[]⟩:=by
 generalize h:v.mg=hx
 have ex:=h
 unfold Sm.mg at h
 have⟨hC,hE,hF,hS⟩:=bt
 refine Sem.kM ?_
 repeat' (first
 |simp only[go_sem,hC,hE,hF,hS]
 |(with_reducible first|refine aX fun hc=>?_|refine aY fun hc=>?_|refine aZ (fun hc=>?_) fun hc=>?_)<;>(try simp only[hc,bs,↓reduceIte]at h)<;>try simp only[hc]
 |(with_reducible refine ay hQ ?_;simp only[bp,bq,bS,bT,go_sem,hC,hE,hF,hS];repeat' (first|exact Ok.out|with_reducible refine eJ ?_ ?_|(simp;done))))
 all_goals
  refine Sem.re _ _ 1 0 (by rw[hB];exact mD rfl) (by rw[hB];exact mD rfl) ?_ ?_ (ae8 hf hB hQ ex hp)
  ·(simp only[go_sem,hC,hE,hF,hS,h];repeat' (first|exact Ok.out|with_reducible refine eJ ?_ ?_))
  ·(simp only[go_sem,hC,hE,hF,hS,h];repeat' (first|exact Ok.out|with_reducible refine eJ ?_ ?_))
end
theorem aC.goS {P:Program} {f:FuncId} {nt:Nat} {res:List (Nat×Option (Bool×Nat))} {body:AC} {args:List D} {s:St} {d:D} {s':St} (h0:Has P f nt res body) (hl:Nat.ble args.length nt=true)
 (h : ∀ (B:eQ) (Q:Exit→Tm→St→Prop),B.s=s→gZ s.aw.length s.aE.length res d s'=Q→Sem P B nt body Q (ny 0 args) s):aC P f args s d s':=by
 obtain⟨fn,hf,hc⟩:=h0
 exact aC.intro ⟨fn,hf,hc⟩ (za8 hl) fun B hB=>h B _ hB rfl
theorem DI {v:Sm} (hf:v.jy) (s:St):aC Tryz.prog 150 [.agg (bn v)] s (.bool v.one) s:=by
 refine aC.pure ?_ (by simp[D.bP,D.ok,ke]) rfl s
 unfold S0
 refine aC.goS kf.h rfl fun B Q hB hQ=>?_
 have⟨hC,hE,hF,hS⟩:=bt
 refine Sem.kM ?_
 repeat' (first
 |simp only[go_sem,hC,hE,hF,hS]
 |(with_reducible refine ay hQ ?_;exact aK))
 refine Sem.re _ _ 1 0 (by rw[hB];exact mD rfl) (by rw[hB];exact mD rfl) ?_ ?_ (ae9 hf hB hQ rfl)
 ·(simp only[go_sem,hC,hE,hF,hS];repeat' (first|exact Ok.out|with_reducible refine eJ ?_ ?_))
 ·(simp only[go_sem,hC,hE,hF,hS];repeat' (first|exact Ok.out|with_reducible refine eJ ?_ ?_))
end Go.Abs
namespace Go.Abs
set_option maxRecDepth 8000
open Go.Proofs
def eO (i:Im):List D:= [.int .i64 i.s.id, .int .i64 i.s.kind, .slice .shared 1 (i.s.labels.map encStr), .str i.s.name, .str i.s.proc,
 .int .i64 i.s.x.op, .int .i64 i.s.x.n, .str i.s.x.name, .slice .shared 4 (i.s.x.kids.map bI), .bool i.s.has, .slice .shared 6 (i.s.args.map dM), .slice .shared 13 (i.s.bb.map bn), .slice .shared 13 (i.s.aR.map bn), .int .i64 i.proc, .int .i64 i.up, .int .i64 i.next, .int .i64 i.loop]
def lY (n:Int):List D:= [.int .i64 n]
theorem O8 (i:Im):D.bP 0 0 (eO i)=true:=by simp[eO,D.bP,D.ok,Tag.ok,da,X6,Di,lz]
theorem Hy (l:List Im):D.jw 0 0 (l.map eO)=true:=gM O8 l
theorem Yc (n m:Nat) (l:List Im):D.ko n m (l.map eO)=l.map eO:=mN O8 n m l
theorem afa (n m:Nat) (i:Im):D.ic n m (eO i)=eO i:=iF n m _ (O8 i)
theorem afb (x:Im):(eO x).length=17:=nd rfl
theorem Zw (x:Im):List.take 17 (eO x)=eO x:=nd rfl
theorem acf (x:Im):List.drop 17 (eO x) = []:=nd rfl
theorem acg (x:Im):List.take 13 (eO x)=bn x.s:=by simp only[eO,cD];rfl
theorem VL (x:Im):(eO x)[0]? = some (.int .i64 x.s.id):=nd rfl
theorem VM (x:Im):(eO x)[1]? = some (.int .i64 x.s.kind):=nd rfl
theorem VN (x:Im):(eO x)[4]? = some (.str x.s.proc):=nd rfl
theorem RN (x:Im):(eO x)[13]? = some (.int .i64 x.proc):=nd rfl
theorem RO (x:Im):(eO x)[14]? = some (.int .i64 x.up):=nd rfl
theorem RP (x:Im):(eO x)[15]? = some (.int .i64 x.next):=nd rfl
theorem RQ (x:Im):(eO x)[16]? = some (.int .i64 x.loop):=nd rfl
theorem O9 (s:Sm) (a b c d:Int):eO ⟨s,a,b,c,d⟩ = [.int .i64 s.id, .int .i64 s.kind, .slice .shared 1 (s.labels.map encStr), .str s.name, .str s.proc,
 .int .i64 s.x.op, .int .i64 s.x.n, .str s.x.name, .slice .shared 4 (s.x.kids.map bI), .bool s.has, .slice .shared 6 (s.args.map dM), .slice .shared 13 (s.bb.map bn), .slice .shared 13 (s.aR.map bn), .int .i64 a, .int .i64 b, .int .i64 c, .int .i64 d]:=nd rfl
theorem Yd (n:Int):D.bP 0 0 (lY n)=true:=rfl
theorem Ad (l:List Int):D.jw 0 0 (l.map lY)=true:=gM Yd l
theorem RR (n m:Nat) (l:List Int):D.ko n m (l.map lY)=l.map lY:=mN Yd n m l
attribute [go_sem] Yc afa afb Zw acf acg VL VM VN RN RO RP RQ RR lY
theorem ach : ∀ n,n<1000000000→∀ v:Sm,v.size≤n→aC Tryz.prog 161 [.agg (bn v)] S0 (.int .i64 (v.fk:Int)) S0:=by
 intro n
 induction n with
 |zero=>intro _ v h;obtain⟨_,_,_,_,_,_,_,_,_,_⟩:=v;simp only[Sm.size]at h;omega
 |succ n ih=>
 intro hn v hv
 have dz:Sm.aQ v.bb≤n∧Sm.aQ v.aR≤n∧v.fk=1+Sm.dE v.bb+Sm.dE v.aR:=by
  obtain⟨_,_,_,_,_,_,_,_,_,_⟩:=v
  simp only[Sm.size]at hv;exact⟨by dsimp only;omega,by dsimp only;omega,rfl⟩
 obtain⟨h1,h2,h3⟩:=dz
 have c1:=kT v.bb
 have c2:=kT v.aR
 have l1:=Sm.cG v.bb
 have l2:=Sm.cG v.aR
 have hk : ∀ y,y∈v.bb∨y∈v.aR→∀ s,aC Tryz.prog 161 [.agg (bn y)] s (.int .i64 (y.fk:Int)) s:=fun y hy s=>
  (ih (by omega) y (by rcases hy with hy|hy<;>(have:=Sm.bX hy;omega))).pure (by simp only[D.bP,D.ok,ke];rfl) rfl s
 rw[h3]
 unfold S0
 refine aC.go Hj.h rfl fun B Q hB hQ=>?_
 have⟨hC,hE,hF,hS⟩:=bt
 repeat' (first
 |simp only[go_sem,hC,hE,hF,hS]
 |(with_reducible refine ay hQ ?_;exact aK))
 refine b8 1 0 (aV.ind (ι:=List Sm×Nat×Nat) (fun i=>v.bb.drop i.2.1=i.1∧i.2.2+Sm.dE i.1=1+Sm.dE v.bb) (fun i=>i.1.length)
  (fun i=> [(1, .ptr 0 0),(3, .int .i64 (i.2.2:Int)),(9, .slice .shared 13 (v.bb.map bn)),(10, .int .i64 (v.bb.length:Int)),(11, .int .i64 (i.2.1:Int))]) (fun i=>⟨[bn v],[]⟩) ?_ (v.bb,0,1) ⟨rfl,rfl⟩)
 rintro⟨rest,k,c⟩ ⟨g1,g2⟩ IH
 dsimp only at g1 g2
 cases rest with
 |cons y rest=>
  obtain⟨hE,g3,hC,g4⟩:=drop_cons g1
  have hy:=hk y (.inl (zae hE))
  simp only[Sm.dE]at g2
  have hcy:=Cg y
  have C0:=Sm.bX (zae hE)
  have w1:IntKind.wrap .i64 ((k:Int)+1)=((k+1:Nat):Int):=by rw[cL]<;>omega
  have w2:IntKind.wrap .i64 ((c:Int)+(y.fk:Int))=((c+y.fk:Nat):Int):=by rw[cL]<;>omega
  repeat' (first
 |simp only[go_sem,hC,hE,hF,hS,w1,w2]
 |(with_reducible refine CU (hy _) ?_)
 |(with_reducible refine ay hQ ?_;exact aK))
  refine b8 1 0 (IH (rest,k+1,c+y.fk) ⟨g3,by dsimp only;omega⟩ (zac _))
 |nil=>
  have hC:=drop_nil g1
  simp only[Sm.dE,zaP]at g2
  subst g2
  repeat' (first
 |simp only[go_sem,hC,hE,hF,hS]
 | (with_reducible refine ay hQ ?_;exact aK))
  refine b8 1 0 (aV.ind (ι:=List Sm×Nat×Nat) (fun i=>v.aR.drop i.2.1=i.1∧i.2.2+Sm.dE i.1=1+Sm.dE v.bb+Sm.dE v.aR) (fun i=>i.1.length)
   (fun i=> [(1, .ptr 0 0),(3, .int .i64 (i.2.2:Int)),(21, .slice .shared 13 (v.aR.map bn)),(22, .int .i64 (v.aR.length:Int)),(23, .int .i64 (i.2.1:Int))]) (fun i=>⟨[bn v],[]⟩) ?_ (v.aR,0,1+Sm.dE v.bb) ⟨rfl,rfl⟩)
  rintro⟨rest,k,c⟩ ⟨g1,g2⟩ IH
  dsimp only at g1 g2
  cases rest with
  |cons y rest=>
   obtain⟨hE,g3,hC,g4⟩:=drop_cons g1
   have hy:=hk y (.inr (zae hE))
   simp only[Sm.dE]at g2
   have hcy:=Cg y
   have C0:=Sm.bX (zae hE)
   have w1:IntKind.wrap .i64 ((k:Int)+1)=((k+1:Nat):Int):=by rw[cL]<;>omega
   have w2:IntKind.wrap .i64 ((c:Int)+(y.fk:Int))=((c+y.fk:Nat):Int):=by rw[cL]<;>omega
   repeat' (first
 |simp only[go_sem,hC,hE,hF,hS,w1,w2]
 |(with_reducible refine CU (hy _) ?_)
 | (with_reducible refine ay hQ ?_;exact aK))
   refine b8 1 0 (IH (rest,k+1,c+y.fk) ⟨g3,by dsimp only;omega⟩ (zac _))
  |nil=>
   have hC:=drop_nil g1
   simp only[Sm.dE,zaP]at g2
   subst g2
   repeat' (first
 |simp only[go_sem,hC,hE,hF,hS]
 |(with_reducible refine ay hQ ?_;exact aK))
theorem aci {v:Sm} (h:v.size<1000000000) (s:St):aC Tryz.prog 161 [.agg (bn v)] s (.int .i64 (v.fk:Int)) s:=
 (ach v.size h v (zaj _)).pure (by simp only[D.bP,D.ok,ke];rfl) rfl s
end Go.Abs
namespace Go.Abs
set_option maxRecDepth 8000
open Go.Proofs
abbrev iP (g ps:D) (L:List Im) (lo hi:List Int):List D:= [g,ps, .slice (.tok 0) 17 (L.map eO), .slice (.tok 1) 1 (lo.map lY), .slice (.tok 2) 1 (hi.map lY)]
abbrev VO (proc up next loop:Int):List D:= [.int .i64 0, .int .i64 0, .slice .full 0 [], .str [], .str [], .int .i64 0, .int .i64 0, .str [], .slice .full 0 [], .bool false, .slice .full 0 [], .slice .full 0 [], .slice .full 0 [], .int .i64 proc, .int .i64 up, .int .i64 next, .int .i64 loop]
theorem aC.afc {P:Program} {f:Nat} {args:List D} {g ps:D} {L L':List Im} {lo hi FE ib:List Int} {a b c a' b' c':Option Nat}
 (h:aC P f (.ptr 0 0::args) ⟨[iP g ps L lo hi],[a,b,c]⟩ (.tuple []) ⟨[iP g ps L' FE ib],[a',b',c']⟩)
 (ha:D.bP 0 0 args=true) (hg:D.ok 0 0 g=true) (hp:D.ok 0 0 ps=true)
 {s:St} {o:Nat} (ho:s.aw[o]? = some (iP g ps L lo hi)) (ht:s.aE = [a,b,c]):aC P f (.ptr o 0::args) s (.tuple []) ⟨s.aw.set o (iP g ps L' FE ib),[a',b',c']⟩:=by
 have hr : ∀ (L:List Im) (lo hi:List Int),D.gf [o] [0,1,2] (iP g ps L lo hi)=iP g ps L lo hi:=fun L lo hi=>by
  simp[D.gf,D.dv,Tag.dv,rH _ _ _ hg,rH _ _ _ hp,jx _ _ _ (Hy L),jx _ _ _ (Ad lo),jx _ _ _ (Ad hi)]
 have hk : ∀ (L:List Im) (lo hi:List Int),D.bP 1 3 (iP g ps L lo hi)=true:=fun L lo hi=>by
  simp[D.bP,D.ok,Tag.ok,EA (zau 1) (zau 3) _ hg,EA (zau 1) (zau 3) _ hp,nz (zau 1) (zau 3) _ (Hy L),nz (zau 1) (zau 3) _ (Ad lo),nz (zau 1) (zau 3) _ (Ad hi)]
 refine dG.frame [o] [0,1,2] h (by simp) (by decide) (by simpa using (zai.1 ho).1) (by rw[ht];simp) rfl (fun i o' ds e1 e2=>?_) rfl (fun i t' e1=>?_)
  (by simp[D.gf,D.dv,fc _ _ _ ha])
  (by simp[D.bP,D.ok,ik (zau 1) (zau 3) _ ha]) ?_
 ·cases i with
  |zero=>simp only[zbe,Option.some.injEq]at e1 e2;subst e1;subst e2;exact⟨by rw[hr];exact ho,hk L lo hi⟩
  |succ i=>simp at e1
 ·rw [ht]
  match i,e1 with
  | 0,e1=>simp at e1;subst e1;rfl
  | 1,e1=>simp at e1;subst e1;rfl
  | 2,e1=>simp at e1;subst e1;rfl
  |i+3,e1=>simp at e1
 ·rintro _ _ ⟨rfl,rfl⟩
  refine⟨by simp[D.back,D.dv,D.gf], ?_⟩
  have:=hr L' FE ib
  simp[St.back,kA,kr,this,ht]
abbrev Ye (N:Nat):Prop:=∀ (l:List Sm) (proc up next loop:Int) (out:List Im) (g ps:D) (lo hi:List Int) (b c:Option Nat),Sm.aQ l<N→out.length+Sm.dE l<1000000000→D.ok 0 0 g=true→D.ok 0 0 ps=true→
 ∀ {s:St} {o:Nat},s.aw[o]? = some (iP g ps out lo hi)→s.aE = [some out.length,b,c]→
 aC Tryz.prog 117 [.ptr o 0, .slice .shared 13 (l.map bn), .agg (VO proc up next loop)] s (.tuple []) ⟨s.aw.set o (iP g ps (Im.rows proc up next loop out l) lo hi),[some (Im.rows proc up next loop out l).length,b,c]⟩
theorem afd {N:Nat} (ih:Ye N) {l:List Sm} {proc up next loop:Int} {out:List Im} {g ps:D} {lo hi:List Int} {b c:Option Nat} (hs:Sm.aQ l<N+1) (hc:out.length+Sm.dE l<1000000000) (hg:D.ok 0 0 g=true) (hp:D.ok 0 0 ps=true) (hN:N<1000000000) :
 aC Tryz.prog 117 [.ptr 0 0, .slice .shared 13 (l.map bn), .agg (VO proc up next loop)] ⟨[iP g ps out lo hi],[some out.length,b,c]⟩ (.tuple []) ⟨[iP g ps (Im.rows proc up next loop out l) lo hi],[some (Im.rows proc up next loop out l).length,b,c]⟩:=by
 obtain⟨R,hR⟩ : ∃ R,R=Im.rows proc up next loop out l:=⟨_,rfl⟩
 have hlR:R.length=out.length+Sm.dE l:=by rw[hR,gi]
 rw[← hR]
 have k1 : ∀ n m,D.fg n m g=g:=fun n m=>OV n m _ hg
 have k2 : ∀ n m,D.fg n m ps=ps:=fun n m=>OV n m _ hp
 refine aC.go zZ.h rfl fun B Q hB hQ=>?_
 have⟨hC,hE,hF,hS⟩:=bt
 repeat' (first
 |simp only[go_sem,hC,hE,hF,hS,k1,k2]
 |(with_reducible first|refine aX fun hc=>?_|refine aY fun hc=>?_|refine aZ (fun hc=>?_) fun hc=>?_)<;>(try simp only[hc,bs,↓reduceIte]at h)<;>try simp only[hc]
 |(with_reducible refine ay hQ ?_;simp only[bp,bq,bS,bT,go_sem,hC,hE,hF,hS,k1,k2];try exact cp))
 refine b9 2 3 ?_ ?_ (aV.ind (ι:=List Sm×Nat×List Im) (fun i=>l.drop i.2.1=i.1∧Im.rows proc up next loop i.2.2 i.1=R∧i.2.2.length+Sm.dE i.1=out.length+Sm.dE l) (fun i=>i.1.length)
  (fun i=> [(0, .ptr 0 0),(1, .slice .shared 13 (l.map bn)),(5, .ptr 1 0),(11, .slice .shared 13 (l.map bn)),(12, .int .i64 (l.length:Int)),(13, .int .i64 (i.2.1:Int))]) (fun i=>⟨[iP g ps i.2.2 lo hi,VO proc up next loop],[some i.2.2.length,b,c]⟩) ?_ (l,0,out) ⟨rfl,hR.symm,rfl⟩)
 ·(simp only[go_sem,hC,hE,hF,hS,k1,k2];try exact aT)
 ·(simp only[go_sem,hC,hE,hF,hS,k1,k2];try exact aT)
 rintro⟨rest,k,bK⟩ ⟨h1,h2,h3⟩ IH
 dsimp only at h1 h2 h3
 have hlen:l.length<1000000000:=by have:=Sm.cG l;omega
 cases rest with
 |nil=>
  have hC:=drop_nil h1
  simp only[Im.rows]at h2
  subst h2
  repeat' (first
 |simp only[go_sem,hC,hE,hF,hS,k1,k2]
 |(with_reducible first|refine aX fun hc=>?_|refine aY fun hc=>?_|refine aZ (fun hc=>?_) fun hc=>?_)<;>(try simp only[hc,bs,↓reduceIte]at h)<;>try simp only[hc]
 |(with_reducible refine ay hQ ?_;simp only[bp,bq,bS,bT,go_sem,hC,hE,hF,hS,k1,k2];try exact cp))
 | cons v rest=>
  obtain⟨hE,g2,hC,g4⟩:=drop_cons h1
  have bm:k<4611686018427387904:=by omega
  have hv:=Sm.bX (zae hE)
  have oB:Sm.aQ v.bb<N∧Sm.aQ v.aR<N∧v.fk=1+Sm.dE v.bb+Sm.dE v.aR:=by
   obtain⟨_,_,_,_,_,_,_,_,_,_⟩:=v
   simp only[Sm.size]at hv
   exact⟨by dsimp only;omega,by dsimp only;omega,rfl⟩
  obtain⟨C4,H7,hv3⟩:=oB
  simp only[Sm.dE]at h3
  simp only[Im.rows,Im.abV]at h2
  have hF:(bK.length+1)*241≤bh:=by unfold bh;omega
  have LI:IntKind.wrap .i64 ((bK.length:Int)+1)=(bK.length:Int)+1:=cL (by omega) (by omega)
  have py:IntKind.wrap .i64 ((k:Int)+1)=((k+1:Nat):Int):=by rw[cL]<;>omega
  have LJ:IntKind.wrap .i64 ((bK.length:Int)+1+(v.fk:Int))=(bK.length:Int)+1+(v.fk:Int):=cL (by omega) (by omega)
  have dz:=fun s=>aci (v:=v) (by omega) s
  simp only[cD]at dz
  have HW:rest.length=l.length - (k+1):=by rw[← g2,zaI]
  by_cases akY:k+1<l.length
  ·have d1:decide (((k+1:Nat):Int)<(l.length:Int))=true:=by simp;omega
   have e1:(rest.length=0)=False:=by simp;intro h;rw[h]at HW;simp at HW;omega
   by_cases RS:v.kind=6
   ·have d2:(v.kind==6)=true:=by simp [RS]
    simp only[e1,d2,↓reduceIte,zaa]at h2
    have f1:=fun {s:St} {o:Nat}=>@ih v.bb proc ((bK.length:Int)+1) ((bK.length:Int)+1) ((bK.length:Int)+1) (bK++ [⟨v,proc,up,((bK.length:Int)+1+(v.fk:Int)),loop⟩]) g ps lo hi b c C4 (by simp;omega) hg hp s o
    have f2:=fun {s:St} {o:Nat}=>@ih v.aR proc ((bK.length:Int)+1) ((bK.length:Int)+1) ((bK.length:Int)+1) _ g ps lo hi b c H7 (by rw[gi proc ((bK.length:Int)+1) ((bK.length:Int)+1) ((bK.length:Int)+1) (bK++ [⟨v,proc,up,((bK.length:Int)+1+(v.fk:Int)),loop⟩]) v.bb];simp;omega) hg hp s o
    have hl:(Im.rows proc ((bK.length:Int)+1) ((bK.length:Int)+1) ((bK.length:Int)+1) (Im.rows proc ((bK.length:Int)+1) ((bK.length:Int)+1) ((bK.length:Int)+1) (bK++ [⟨v,proc,up,((bK.length:Int)+1+(v.fk:Int)),loop⟩]) v.bb) v.aR).length=bK.length+v.fk:=by rw[gi,gi];simp;omega
    simp only[iP,zag,zaf,zah,O9,zak,zal,zax]at f1
    repeat' (first
 |simp only[go_sem,hC,hE,hF,hS,k1,k2,LI,py,LJ,d1,d2,cD]
 |(with_reducible refine CU (dz _) ?_)
 |(with_reducible refine CU (f1 (by with_unfolding_all rfl) (by with_unfolding_all rfl)) ?_)
 |(with_reducible refine CU (f2 (by with_unfolding_all rfl) (by with_unfolding_all rfl)) ?_)
 | (with_reducible refine ay hQ ?_;exact aK))
    refine b9 2 3 ?_ ?_ (IH (rest,k+1,_) ⟨g2,h2,by dsimp only;rw[hl];omega⟩ (zac _))
    ·(simp only[go_sem,hC,hE,hF,hS,py,k1,k2];try exact aT)
    ·(simp only[go_sem,hC,hE,hF,hS,py,k1,k2];try exact aT)
   ·have d2:(v.kind==6)=false:=by simp [RS]
    simp only[e1,d2,↓reduceIte,zaa]at h2
    have f1:=fun {s:St} {o:Nat}=>@ih v.bb proc ((bK.length:Int)+1) ((bK.length:Int)+1+(v.fk:Int)) loop (bK++ [⟨v,proc,up,((bK.length:Int)+1+(v.fk:Int)),loop⟩]) g ps lo hi b c C4 (by simp;omega) hg hp s o
    have f2:=fun {s:St} {o:Nat}=>@ih v.aR proc ((bK.length:Int)+1) ((bK.length:Int)+1+(v.fk:Int)) loop _ g ps lo hi b c H7 (by rw[gi proc ((bK.length:Int)+1) ((bK.length:Int)+1+(v.fk:Int)) loop (bK++ [⟨v,proc,up,((bK.length:Int)+1+(v.fk:Int)),loop⟩]) v.bb];simp;omega) hg hp s o
    have hl:(Im.rows proc ((bK.length:Int)+1) ((bK.length:Int)+1+(v.fk:Int)) loop (Im.rows proc ((bK.length:Int)+1) ((bK.length:Int)+1+(v.fk:Int)) loop (bK++ [⟨v,proc,up,((bK.length:Int)+1+(v.fk:Int)),loop⟩]) v.bb) v.aR).length=bK.length+v.fk:=by rw[gi,gi];simp;omega
    simp only[iP,zag,zaf,zah,O9,zak,zal,zax]at f1
    repeat' (first
 |simp only[go_sem,hC,hE,hF,hS,k1,k2,LI,py,LJ,d1,d2,cD]
 |(with_reducible refine CU (dz _) ?_)
 |(with_reducible refine CU (f1 (by with_unfolding_all rfl) (by with_unfolding_all rfl)) ?_)
 |(with_reducible refine CU (f2 (by with_unfolding_all rfl) (by with_unfolding_all rfl)) ?_)
 | (with_reducible refine ay hQ ?_;exact aK))
    refine b9 2 3 ?_ ?_ (IH (rest,k+1,_) ⟨g2,h2,by dsimp only;rw[hl];omega⟩ (zac _))
    ·(simp only[go_sem,hC,hE,hF,hS,py,k1,k2];try exact aT)
    ·(simp only[go_sem,hC,hE,hF,hS,py,k1,k2];try exact aT)
  ·have d1:decide (((k+1:Nat):Int)<(l.length:Int))=false:=by simp;omega
   have e1:(rest.length=0)=True:=by simp only[eq_iff_iff,iff_true];omega
   by_cases RS:v.kind=6
   ·have d2:(v.kind==6)=true:=by simp [RS]
    simp only[e1,d2,↓reduceIte,zaa]at h2
    have f1:=fun {s:St} {o:Nat}=>@ih v.bb proc ((bK.length:Int)+1) ((bK.length:Int)+1) ((bK.length:Int)+1) (bK++ [⟨v,proc,up,next,loop⟩]) g ps lo hi b c C4 (by simp;omega) hg hp s o
    have f2:=fun {s:St} {o:Nat}=>@ih v.aR proc ((bK.length:Int)+1) ((bK.length:Int)+1) ((bK.length:Int)+1) _ g ps lo hi b c H7 (by rw[gi proc ((bK.length:Int)+1) ((bK.length:Int)+1) ((bK.length:Int)+1) (bK++ [⟨v,proc,up,next,loop⟩]) v.bb];simp;omega) hg hp s o
    have hl:(Im.rows proc ((bK.length:Int)+1) ((bK.length:Int)+1) ((bK.length:Int)+1) (Im.rows proc ((bK.length:Int)+1) ((bK.length:Int)+1) ((bK.length:Int)+1) (bK++ [⟨v,proc,up,next,loop⟩]) v.bb) v.aR).length=bK.length+v.fk:=by rw[gi,gi];simp;omega
    simp only[iP,zag,zaf,zah,O9,zak,zal,zax]at f1
    repeat' (first
 |simp only[go_sem,hC,hE,hF,hS,k1,k2,LI,py,LJ,d1,d2,cD]
 |(with_reducible refine CU (dz _) ?_)
 |(with_reducible refine CU (f1 (by with_unfolding_all rfl) (by with_unfolding_all rfl)) ?_)
 |(with_reducible refine CU (f2 (by with_unfolding_all rfl) (by with_unfolding_all rfl)) ?_)
 | (with_reducible refine ay hQ ?_;exact aK))
    refine b9 2 3 ?_ ?_ (IH (rest,k+1,_) ⟨g2,h2,by dsimp only;rw[hl];omega⟩ (zac _))
    ·(simp only[go_sem,hC,hE,hF,hS,py,k1,k2];try exact aT)
    ·(simp only[go_sem,hC,hE,hF,hS,py,k1,k2];try exact aT)
   ·have d2:(v.kind==6)=false:=by simp [RS]
    simp only[e1,d2,↓reduceIte,zaa]at h2
    have f1:=fun {s:St} {o:Nat}=>@ih v.bb proc ((bK.length:Int)+1) next loop (bK++ [⟨v,proc,up,next,loop⟩]) g ps lo hi b c C4 (by simp;omega) hg hp s o
    have f2:=fun {s:St} {o:Nat}=>@ih v.aR proc ((bK.length:Int)+1) next loop _ g ps lo hi b c H7 (by rw[gi proc ((bK.length:Int)+1) next loop (bK++ [⟨v,proc,up,next,loop⟩]) v.bb];simp;omega) hg hp s o
    have hl:(Im.rows proc ((bK.length:Int)+1) next loop (Im.rows proc ((bK.length:Int)+1) next loop (bK++ [⟨v,proc,up,next,loop⟩]) v.bb) v.aR).length=bK.length+v.fk:=by rw[gi,gi];simp;omega
    simp only[iP,zag,zaf,zah,O9,zak,zal,zax]at f1
    repeat' (first
 |simp only[go_sem,hC,hE,hF,hS,k1,k2,LI,py,LJ,d1,d2,cD]
 |(with_reducible refine CU (dz _) ?_)
 |(with_reducible refine CU (f1 (by with_unfolding_all rfl) (by with_unfolding_all rfl)) ?_)
 |(with_reducible refine CU (f2 (by with_unfolding_all rfl) (by with_unfolding_all rfl)) ?_)
 | (with_reducible refine ay hQ ?_;exact aK))
    refine b9 2 3 ?_ ?_ (IH (rest,k+1,_) ⟨g2,h2,by dsimp only;rw[hl];omega⟩ (zac _))
    ·(simp only[go_sem,hC,hE,hF,hS,py,k1,k2];try exact aT)
    ·(simp only[go_sem,hC,hE,hF,hS,py,k1,k2];try exact aT)
theorem Zx : ∀ N,N<1000000000→Ye N:=by
 intro N
 induction N with
 |zero=>exact fun _ l proc up next loop out g ps lo hi b c h=>absurd h (zaM _)
 |succ N ih=>
  intro h l proc up next loop out g ps lo hi b c hs hc hg hp s o ho ht
  exact(afd (ih (by omega)) hs hc hg hp (by omega)).afc (by simp[D.bP,D.ok,Tag.ok,lz,D.jw]) hg hp ho ht
def iA (p:Pg):List D:= [.slice .shared 1 (p.globals.map encStr), .slice .shared 5 (p.procs.map cf), .slice .shared 17 (p.eY.L.map eO), .slice .shared 1 (p.eY.lo.map lY), .slice .shared 1 (p.eY.hi.map lY)]
theorem rM (p:Pg):iA p = [.slice .shared 1 (p.globals.map encStr), .slice .shared 5 (p.procs.map cf), .slice .shared 17 (p.eY.L.map eO), .slice .shared 1 (p.eY.lo.map lY), .slice .shared 1 (p.eY.hi.map lY)]:=nd rfl
theorem yu (p:Pg):D.bP 0 0 (iA p)=true:=by simp[iA,D.bP,D.ok,Tag.ok,da,Hu,Hy,Ad]
theorem RT (p:Pg):bQ p = [.slice .shared 1 (p.globals.map encStr), .slice .shared 5 (p.procs.map cf)]:=nd rfl
theorem afe {p:Pg} (hs:Pc.aQ p.procs<1000000000):aC Tryz.prog 60 [.agg (bQ p)] S0 (.ptr 1 0) ⟨[bQ p,iP (.slice .shared 1 (p.globals.map encStr)) (.slice .shared 5 (p.procs.map cf)) p.eY.L p.eY.lo p.eY.hi],[some p.eY.L.length,some p.eY.lo.length,some p.eY.hi.length]⟩:=by
 have hlen:p.procs.length<1000000000:=by have:=Pc.cG p.procs;omega
 obtain⟨R,hR⟩ : ∃ R,R=p.eY:=⟨_,rfl⟩
 have LK:=hR
 unfold Pg.eY at LK
 unfold S0
 rw[RT, ← hR]
 refine aC.goK 2 3 (zau _) (zau _) IT.h rfl fun B Q hB hQ=>?_
 have⟨hC,hE,hF,hS⟩:=bt
 repeat' (first
 |simp only[go_sem,hC,hE,hF,hS,RT]
 |(with_reducible refine ay hQ ?_;exact aK))
 refine aV.qa 1 2 17 rfl rfl ?_
 simp only[go_sem,hC,hE,hF,hS]
 refine aV.qa 1 3 1 rfl rfl ?_
 simp only[go_sem,hC,hE,hF,hS]
 refine aV.qa 1 4 1 rfl rfl ?_
 simp only[go_sem,hC,hE,hF,hS]
 refine b9 2 3 ?_ ?_ (aV.ind (ι:=List Pc×Nat×Sh×Nat×Nat) (fun i=>p.procs.drop i.2.1=i.1∧Sh.go i.2.1 i.2.2.1 i.1=R∧i.2.2.1.L.length+Pc.aQ i.1≤Pc.aQ p.procs∧i.2.2.1.lo.length=i.2.1∧i.2.2.1.hi.length=i.2.1∧i.2.2.2.1=i.2.2.1.lo.length∧i.2.2.2.2=i.2.2.1.hi.length) (fun i=>i.1.length)
  (fun i=> [(1, .ptr 0 0),(3, .ptr 1 0),(10, .slice .shared 5 (p.procs.map cf)),(11, .int .i64 (p.procs.length:Int)),(12, .int .i64 (i.2.1:Int))]) (fun i=>⟨[[.slice .shared 1 (p.globals.map encStr), .slice .shared 5 (p.procs.map cf)],iP (.slice .shared 1 (p.globals.map encStr)) (.slice .shared 5 (p.procs.map cf)) i.2.2.1.L i.2.2.1.lo i.2.2.1.hi],[some i.2.2.1.L.length,some i.2.2.2.1,some i.2.2.2.2]⟩) ?_ (p.procs,0,⟨[],[],[]⟩,0,0) ⟨rfl,LK.symm,by simp,rfl,rfl,rfl,rfl⟩)
 ·(simp only[go_sem,hC,hE,hF,hS,iP];try exact aT)
 ·(simp only[go_sem,hC,hE,hF,hS,iP];try exact aT)
 rintro⟨rest,k,h,n1,n2⟩ ⟨h1,h2,h3,h4,h5,h6,h7⟩ IH
 dsimp only at h1 h2 h3 h4 h5 h6 h7
 subst h6 h7
 cases rest with
 |nil=>
  have hC:=drop_nil h1
  simp only[Sh.go]at h2
  rw[← h2]at hQ
  repeat' (first
 |simp only[go_sem,hC,hE,hF,hS,iP]
 |(with_reducible refine ay hQ ?_;exact aK))
 |cons f rest=>
  obtain⟨hE,g2,hC,g4⟩:=drop_cons h1
  have bm:k<4611686018427387904:=by omega
  simp only[Pc.aQ,Pc.size]at h3
  simp only[Sh.go]at h2
  have c1:=kT f.body
  have hF:(h.lo.length+1)*9≤bh:=by unfold bh;omega
  have ahM:(h.hi.length+1)*9≤bh:=by unfold bh;omega
  have LI:IntKind.wrap .i64 ((h.L.length:Int)+1)=(h.L.length:Int)+1:=cL (by omega) (by omega)
  have hl:(Im.rows (k:Int) 0 (-1) 0 h.L f.body).length=h.L.length+Sm.dE f.body:=gi ..
  have py:IntKind.wrap .i64 (((Im.rows (k:Int) 0 (-1) 0 h.L f.body).length:Int)+1)=((Im.rows (k:Int) 0 (-1) 0 h.L f.body).length:Int)+1:=cL (by omega) (by omega)
  have hr:=fun {s:St} {o:Nat}=>@Zx (Sm.aQ f.body+1) (by omega) f.body (k:Int) 0 (-1) 0 h.L (.slice .shared 1 (p.globals.map encStr)) (.slice .shared 5 (p.procs.map cf)) (h.lo++ [(h.L.length:Int)+1]) h.hi (some (h.lo.length+1)) (some h.hi.length) (zac _) (by omega) (by simp[D.ok,Tag.ok,da]) (by simp[D.ok,Tag.ok,Hu]) s o
  simp only[iP,zag,zaf,zah,lY]at hr
  repeat' (first
 |simp only[go_sem,hC,hE,hF,hS,LI,py,ahM,iP]
 |(with_reducible refine CU (hr (by with_unfolding_all rfl) (by with_unfolding_all rfl)) ?_)
 |(with_reducible refine ay hQ ?_;exact aK))
  refine b9 2 3 ?_ ?_ (IH (rest,k+1,⟨Im.rows (k:Int) 0 (-1) 0 h.L f.body,h.lo++ [(h.L.length:Int)+1],h.hi++ [((Im.rows (k:Int) 0 (-1) 0 h.L f.body).length:Int)+1]⟩,_,_) ⟨g2,h2,by dsimp only;rw[hl];omega,by simp[h4],by simp[h5],by simp,by simp⟩ (zac _))
  ·(simp only[go_sem,hC,hE,hF,hS,iP,az bm,zag,zaf,zah,lY];try exact aT)
  ·(simp only[go_sem,hC,hE,hF,hS,iP,az bm,zag,zaf,zah,lY];try exact aT)
theorem DL {p:Pg} (hs:Pc.aQ p.procs<1000000000) (s:St):aC Tryz.prog 60 [.agg (bQ p)] s (.dJ (iA p) 0) s:=by
 refine aC.pure ?_ (by simp only[D.bP,D.ok,fH];rfl) (by simp only[D.ok,yu]) s
 have h:=(afe hs).zp (n:=0) (m:=0) rfl (zaj _) (zau _) (zaj _)
 simpa[D.ic,D.fg,Tag.fg,RG,X7,Yc,RR,St.cut,iA,S0]using h
def n5 (x:aB) (k:Int):List aB→Int
 | []=> -1
 |s::l=>if x==s then k else n5 x (k+1) l
def dq (l:List aB) (x:aB):Bool:=decide (n5 x 0 l≥0)
def mh {α:Type} (b:α→Bool) (k:Int):List α→Int
 | []=> -1
 |s::l=>if b s then k else mh b (k+1) l
theorem LL (x:aB) : ∀ (l:List aB) (k:Int),0≤k→(n5 x k l≥0↔x∈l)
 | [],k,h=>by simp[n5]
 | s::l,k,h=>by
  by_cases e:x=s
  ·simp[n5,e];omega
  ·have e':(x==s)=false:=by simp [e]
   simp only[n5,e',zaa,if_false,zaw,e,false_or]
   exact LL x l (k+1) (by omega)
theorem fS (l:List aB) (x:aB):dq l x=true↔x∈l:=by
 simp only[dq,decide_eq_true_eq];exact LL x l 0 (za9 0)
theorem E4 {α:Type} (b:α→Bool) : ∀ (l:List α) (k:Int),0≤k→(mh b k l≥0↔l.any b=true)
 | [],k,h=>by simp[mh]
 | s::l,k,h=>by
  by_cases e:b s=true
  ·simp[mh,e];omega
  ·have e':b s=false:=by simpa using e
   simp only[mh,e',zaa,if_false,List.any_cons,zay,false_or]
   exact E4 b l (k+1) (by omega)
theorem LM {l:List aB} (hl:l.length<4611686018427387904) (x:aB) (s:St):aC Tryz.prog 58 [.slice .shared 1 (l.map encStr), .str x] s (.int .i64 (n5 x 0 l)) s:=by
 refine aC.pure ?_ (by simp[D.bP,D.ok,Tag.ok,da]) rfl s
 generalize h:n5 x 0 l=p
 unfold S0
 refine aC.go u3.h rfl fun B Q hB hQ=>?_
 have⟨hC,hE,hF,hS⟩:=bt
 repeat' (first
 |simp only[go_sem,hC,hE,hF,hS]
 |(with_reducible first|refine aX fun hc=>?_|refine aY fun hc=>?_|refine aZ (fun hc=>?_) fun hc=>?_)<;>(try simp only[hc,bs,↓reduceIte]at h)<;>try simp only[hc]
 |((with_reducible refine ay hQ ?_);exact cS))
 refine b8 0 0 (aV.ind (ι:=List aB×Nat) (fun i=>l.drop i.2=i.1∧n5 x (i.2:Int) i.1=p) (fun i=>i.1.length)
  (fun i=> [(0, .slice .shared 1 (l.map encStr)),(1, .str x),(7, .int .i64 (l.length:Int)),(8, .int .i64 (i.2:Int))]) (fun i=>⟨[],[]⟩) ?_ (l,0) ⟨rfl,h⟩)
 rintro⟨rest,k⟩ ⟨h1,h⟩ IH
 dsimp only at h1 h
 cases rest with
 |nil=>
  have hC:=drop_nil h1
  simp only[n5]at h
  repeat' (first
 |simp only[go_sem,hC,hE,hF,hS]
 |(with_reducible first|refine aX fun hc=>?_|refine aY fun hc=>?_|refine aZ (fun hc=>?_) fun hc=>?_)<;>(try simp only[hc,bs,↓reduceIte]at h)<;>try simp only[hc]
 |((with_reducible refine ay hQ ?_);exact cS))
 |cons a rest=>
  obtain⟨hE,g2,hC,g4⟩:=drop_cons h1
  have bm:k<4611686018427387904:=by omega
  simp only[n5]at h
  repeat' (first
 |simp only[go_sem,hC,hE,hF,hS]
 |(with_reducible first|refine aX fun hc=>?_|refine aY fun hc=>?_|refine aZ (fun hc=>?_) fun hc=>?_)<;>(try simp only[hc,bs,↓reduceIte]at h)<;>try simp only[hc]
 |((with_reducible refine ay hQ ?_);exact cS))
  refine b9 0 0 ?_ ?_ (IH (rest,k+1) ⟨g2,h⟩ (zac _))
  ·(simp only[go_sem,hC,hE,hF,hS,az bm];try exact aT)
  ·(simp only[go_sem,hC,hE,hF,hS,az bm];try exact aT)
theorem qT {l:List aB} (hl:l.length<4611686018427387904) (x:aB) (s:St):aC Tryz.prog 64 [.slice .shared 1 (l.map encStr), .str x] s (.bool (dq l x)) s:=by
 refine aC.pure ?_ (by simp[D.bP,D.ok,Tag.ok,da]) rfl s
 have hi:=fun s=>LM hl x s
 unfold S0
 refine aC.go s7.h rfl fun B Q hB hQ=>?_
 have⟨hC,hE,hF,hS⟩:=bt
 repeat' (first
 |simp only[go_sem,hC,hE,hF,hS,dq]
 |(with_reducible refine CU (hi _) ?_)
 |(with_reducible first|refine aX fun hc=>?_|refine aY fun hc=>?_|refine aZ (fun hc=>?_) fun hc=>?_)<;>(try simp only[hc,bs,↓reduceIte]at h)<;>try simp only[hc]
 |(with_reducible refine ay hQ ?_;simp only[bp,bq,bS,bT,go_sem,hC,hE,hF,hS,dq];try exact cp))
theorem aC.FX {P:Program} {f:Nat} {d d':D} {r:List D} {s s':St} {x:D} (h:aC P f (d'::r) s x s') (hw:Wk d d'):aC P f (d::r) s x s':=dG.zT (.cons hw (mC.refl r)) h
theorem jl {l:List aB} (hl:l.length<4611686018427387904) (x:aB) (g:Tag) (s:St):aC Tryz.prog 64 [.slice g 1 (l.map encStr), .str x] s (.bool (dq l x)) s:=
 (qT hl x s).FX (Wk.shared _ _ _)
theorem I4 (x:aB) (z:Nat) (g:Tag) (s:St):aC Tryz.prog 64 [.slice g z [], .str x] s (.bool false) s:=
 (qT (l:= []) (by simp) x s).FX (Wk.nil _ _ _)
theorem Ae {l:List aB} (hl:l.length<4611686018427387904) {f:Nat} {row:List D} {b:aB→Bool} (tB:D.bP 0 0 row=true) (he:enters Tryz.prog f=true)
 (hb : ∀ x∈l,aC Tryz.prog f ([.str x]++ [.ptr 0 0]) ⟨[row],[]⟩ (.bool (b x)) ⟨[row],[]⟩) :
 aC Tryz.prog 118 [.slice .shared 1 (l.map encStr), .gK f [.ptr 0 0]] ⟨[row],[]⟩ (.int .i64 (mh b 0 l)) ⟨[row],[]⟩:=by
 generalize h:mh b 0 l=p
 have k1 : ∀ n m,D.ic n m row=row:=fun n m=>iF n m _ tB
 refine aC.go sG.h rfl fun B Q hB hQ=>?_
 have⟨hC,hE,hF,hS⟩:=bt
 repeat' (first
 |simp only[go_sem,hC,hE,hF,hS,k1]
 |(with_reducible first|refine aX fun hc=>?_|refine aY fun hc=>?_|refine aZ (fun hc=>?_) fun hc=>?_)<;>(try simp only[hc,bs,↓reduceIte]at h)<;>try simp only[hc]
 |((with_reducible refine ay hQ ?_);(try cases h);simp only[bp,bq,bS,bT,go_sem,hC,hE,hF,hS,k1];try exact cp))
 refine b9 1 0 ?_ ?_ (aV.ind (ι:=List aB×Nat) (fun i=>l.drop i.2=i.1∧mh b (i.2:Int) i.1=p) (fun i=>i.1.length)
  (fun i=> [(0, .slice .shared 1 (l.map encStr)),(1, .gK f [.ptr 0 0]),(7, .int .i64 (l.length:Int)),(8, .int .i64 (i.2:Int))]) (fun i=>⟨[row],[]⟩) ?_ (l,0) ⟨rfl,h⟩)
 ·(simp only[go_sem,hC,hE,hF,hS,k1];try exact aT)
 ·(simp only[go_sem,hC,hE,hF,hS,k1];try exact aT)
 rintro⟨rest,k⟩ ⟨h1,h⟩ IH
 dsimp only at h1 h
 cases rest with
 |nil=>
  have hC:=drop_nil h1
  simp only[mh]at h
  repeat' (first
 |simp only[go_sem,hC,hE,hF,hS,k1]
 |(with_reducible first|refine aX fun hc=>?_|refine aY fun hc=>?_|refine aZ (fun hc=>?_) fun hc=>?_)<;>(try simp only[hc,bs,↓reduceIte]at h)<;>try simp only[hc]
 |((with_reducible refine ay hQ ?_);(try cases h);simp only[bp,bq,bS,bT,go_sem,hC,hE,hF,hS,k1];try exact cp))
 |cons a rest=>
  obtain⟨hE,g2,hC,g4⟩:=drop_cons h1
  have bm:k<4611686018427387904:=by omega
  have hba:=hb a (zae hE)
  simp only[mh]at h
  repeat' (first
 |simp only[go_sem,hC,hE,hF,hS,k1]
 |(with_reducible refine CV.use (he) (hba) ?_)
 |(with_reducible first|refine aX fun hc=>?_|refine aY fun hc=>?_|refine aZ (fun hc=>?_) fun hc=>?_)<;>(try simp only[hc,bs,↓reduceIte]at h)<;>try simp only[hc]
 |((with_reducible refine ay hQ ?_);(try cases h);simp only[bp,bq,bS,bT,go_sem,hC,hE,hF,hS,k1];try exact cp))
  refine b9 1 0 ?_ ?_ (IH (rest,k+1) ⟨g2,h⟩ (zac _))
  ·(simp only[go_sem,hC,hE,hF,hS,k1,az bm];try exact aT)
  ·(simp only[go_sem,hC,hE,hF,hS,k1,az bm];try exact aT)
theorem Af {P:Program} {g f:Nat} {row:List D} {rows:List (List D)} {z:Nat} {d:D} (h:aC P g [.slice .shared z rows, .gK f [.ptr 0 0]] ⟨[row],[]⟩ d ⟨[row],[]⟩) (tB:D.bP 0 0 row=true) (hw:D.jw 0 0 rows=true) (hd:D.ok 0 0 d=true) {s:St} {o:Nat} (ho:s.aw[o]? = some row) :
 aC P g [.slice .shared z rows, .gK f [.ptr o 0]] s d s:=by
 refine dG.frame [o] [] h (by simp) List.nodup_nil (by simpa using (zai.1 ho).1) (by simp) rfl (fun i o' ds e1 e2=>?_) rfl (by simp) (by simp[D.gf,D.dv,Tag.dv,jx _ _ _ hw])
  (by simp[D.bP,D.ok,Tag.ok,nz (zau 1) (zaj 0) _ hw]) ?_
 ·cases i with
  |zero=>simp at e1 e2;subst e1;subst e2;exact⟨by rw[fc _ _ _ tB];exact ho,ik (zau 1) (zaj 0) _ tB⟩
  |succ i=>simp at e1
 ·rintro _ _ ⟨rfl,rfl⟩
  refine⟨rH _ _ _ hd, ?_⟩
  have:s.aw.set o row=s.aw:=by
   apply List.ext_getElem?
   intro i
   rw[zaK]
   split
   ·rename_i e;subst e;rw [ho];split
    ·rfl
    ·rename_i hh;exact absurd (zai.1 ho).1 hh
   ·rfl
  simp[St.back,kA,fc _ _ _ tB,this]
theorem xH {l:List aB} (hl:l.length<4611686018427387904) {f:Nat} {row:List D} {b:aB→Bool} (tB:D.bP 0 0 row=true) (he:enters Tryz.prog f=true)
 (hb : ∀ x∈l,aC Tryz.prog f ([.str x]++ [.ptr 0 0]) ⟨[row],[]⟩ (.bool (b x)) ⟨[row],[]⟩) :
 aC Tryz.prog 62 [.slice .shared 1 (l.map encStr), .gK f [.ptr 0 0]] ⟨[row],[]⟩ (.bool (l.any b)) ⟨[row],[]⟩:=by
 have k1 : ∀ n m,D.ic n m row=row:=fun n m=>iF n m _ tB
 have hi:=Ae hl tB he hb
 have e:decide (mh b 0 l≥0)=l.any b:=by
  have:=E4 b l 0 (za9 0)
  cases hh:l.any b<;>simp_all
 refine aC.go qO.h rfl fun B Q hB hQ=>?_
 have⟨hC,hE,hF,hS⟩:=bt
 repeat' (first
 |simp only[go_sem,hC,hE,hF,hS,k1,e]
 |(with_reducible refine CU (hi) ?_)
 |(with_reducible first|refine aX fun hc=>?_|refine aY fun hc=>?_|refine aZ (fun hc=>?_) fun hc=>?_)<;>(try simp only[hc,bs,↓reduceIte]at h)<;>try simp only[hc]
 |(with_reducible refine ay hQ ?_;simp only[bp,bq,bS,bT,go_sem,hC,hE,hF,hS,k1,e];try exact cp))
theorem xI {l:List aB} (hl:l.length<4611686018427387904) {f:Nat} {row:List D} {b:aB→Bool} (tB:D.bP 0 0 row=true) (he:enters Tryz.prog f=true)
 (hb : ∀ x∈l,aC Tryz.prog f ([.str x]++ [.ptr 0 0]) ⟨[row],[]⟩ (.bool (b x)) ⟨[row],[]⟩) {s:St} {o:Nat} (ho:s.aw[o]? = some row) :
 aC Tryz.prog 62 [.slice .shared 1 (l.map encStr), .gK f [.ptr o 0]] s (.bool (l.any b)) s:=
 Af (xH hl tB he hb) tB (da l) rfl ho
theorem uF {l:List Pc} (hl:l.length<4611686018427387904) {f:Nat} {row:List D} {b:Pc→Bool} (tB:D.bP 0 0 row=true) (he:enters Tryz.prog f=true)
 (hb : ∀ x∈l,aC Tryz.prog f ([.agg (cf x)]++ [.ptr 0 0]) ⟨[row],[]⟩ (.bool (b x)) ⟨[row],[]⟩) :
 aC Tryz.prog 166 [.slice .shared 5 (l.map cf), .gK f [.ptr 0 0]] ⟨[row],[]⟩ (.int .i64 (mh b 0 l)) ⟨[row],[]⟩:=by
 generalize h:mh b 0 l=p
 have k1 : ∀ n m,D.ic n m row=row:=fun n m=>iF n m _ tB
 refine aC.go rm.h rfl fun B Q hB hQ=>?_
 have⟨hC,hE,hF,hS⟩:=bt
 repeat' (first
 |simp only[go_sem,hC,hE,hF,hS,k1]
 |(with_reducible first|refine aX fun hc=>?_|refine aY fun hc=>?_|refine aZ (fun hc=>?_) fun hc=>?_)<;>(try simp only[hc,bs,↓reduceIte]at h)<;>try simp only[hc]
 |((with_reducible refine ay hQ ?_);(try cases h);simp only[bp,bq,bS,bT,go_sem,hC,hE,hF,hS,k1];try exact cp))
 refine b9 1 0 ?_ ?_ (aV.ind (ι:=List Pc×Nat) (fun i=>l.drop i.2=i.1∧mh b (i.2:Int) i.1=p) (fun i=>i.1.length)
  (fun i=> [(0, .slice .shared 5 (l.map cf)),(1, .gK f [.ptr 0 0]),(7, .int .i64 (l.length:Int)),(8, .int .i64 (i.2:Int))]) (fun i=>⟨[row],[]⟩) ?_ (l,0) ⟨rfl,h⟩)
 ·(simp only[go_sem,hC,hE,hF,hS,k1];try exact aT)
 ·(simp only[go_sem,hC,hE,hF,hS,k1];try exact aT)
 rintro⟨rest,k⟩ ⟨h1,h⟩ IH
 dsimp only at h1 h
 cases rest with
 |nil=>
  have hC:=drop_nil h1
  simp only[mh]at h
  repeat' (first
 |simp only[go_sem,hC,hE,hF,hS,k1]
 |(with_reducible first|refine aX fun hc=>?_|refine aY fun hc=>?_|refine aZ (fun hc=>?_) fun hc=>?_)<;>(try simp only[hc,bs,↓reduceIte]at h)<;>try simp only[hc]
 |((with_reducible refine ay hQ ?_);(try cases h);simp only[bp,bq,bS,bT,go_sem,hC,hE,hF,hS,k1];try exact cp))
 |cons a rest=>
  obtain⟨hE,g2,hC,g4⟩:=drop_cons h1
  have bm:k<4611686018427387904:=by omega
  have hba:=hb a (zae hE)
  simp only[mh]at h
  repeat' (first
 |simp only[go_sem,hC,hE,hF,hS,k1]
 |(with_reducible refine CV.use (he) (hba) ?_)
 |(with_reducible first|refine aX fun hc=>?_|refine aY fun hc=>?_|refine aZ (fun hc=>?_) fun hc=>?_)<;>(try simp only[hc,bs,↓reduceIte]at h)<;>try simp only[hc]
 |((with_reducible refine ay hQ ?_);(try cases h);simp only[bp,bq,bS,bT,go_sem,hC,hE,hF,hS,k1];try exact cp))
  refine b9 1 0 ?_ ?_ (IH (rest,k+1) ⟨g2,h⟩ (zac _))
  ·(simp only[go_sem,hC,hE,hF,hS,k1,az bm];try exact aT)
  ·(simp only[go_sem,hC,hE,hF,hS,k1,az bm];try exact aT)
theorem zk {l:List Pc} (hl:l.length<4611686018427387904) {f:Nat} {row:List D} {b:Pc→Bool} (tB:D.bP 0 0 row=true) (he:enters Tryz.prog f=true)
 (hb : ∀ x∈l,aC Tryz.prog f ([.agg (cf x)]++ [.ptr 0 0]) ⟨[row],[]⟩ (.bool (b x)) ⟨[row],[]⟩) :
 aC Tryz.prog 163 [.slice .shared 5 (l.map cf), .gK f [.ptr 0 0]] ⟨[row],[]⟩ (.bool (l.any b)) ⟨[row],[]⟩:=by
 have k1 : ∀ n m,D.ic n m row=row:=fun n m=>iF n m _ tB
 have hi:=uF hl tB he hb
 have e:decide (mh b 0 l≥0)=l.any b:=by
  have:=E4 b l 0 (za9 0)
  cases hh:l.any b<;>simp_all
 refine aC.go qb.h rfl fun B Q hB hQ=>?_
 have⟨hC,hE,hF,hS⟩:=bt
 repeat' (first
 |simp only[go_sem,hC,hE,hF,hS,k1,e]
 |(with_reducible refine CU (hi) ?_)
 |(with_reducible first|refine aX fun hc=>?_|refine aY fun hc=>?_|refine aZ (fun hc=>?_) fun hc=>?_)<;>(try simp only[hc,bs,↓reduceIte]at h)<;>try simp only[hc]
 |(with_reducible refine ay hQ ?_;simp only[bp,bq,bS,bT,go_sem,hC,hE,hF,hS,k1,e];try exact cp))
mutual
def Sm.pre:Sm→List Sm
 |⟨id,kind,labels,name,pc,x,has,args,bb,aR⟩=>⟨id,kind,labels,name,pc,x,has,args,bb,aR⟩::(Sm.du bb++Sm.du aR)
def Sm.du:List Sm→List Sm
 | []=> []
 |s::l=>s.pre++Sm.du l
end
def Pg.pre (p:Pg):List Sm:=(p.procs.map fun f=>Sm.du f.body).flatten
theorem Sm.I5 (s:Sm):s.pre=s::(Sm.du s.bb++Sm.du s.aR):=by cases s;simp only[Sm.pre]
mutual
theorem Zy (proc up next loop:Int) (out:List Im) : ∀ s:Sm,∃ e:List Im,Im.one proc up next loop out s=out++e∧e.map Im.s=s.pre
 |⟨id,kind,labels,name,pc,x,has,args,bb,aR⟩=>by
  simp only[Im.one,Sm.pre]
  obtain⟨e1,h1,k1⟩:=yv proc ((out.length:Int)+1) (if kind==6 then(out.length:Int)+1 else next) (if kind==6 then(out.length:Int)+1 else loop) (out++ [⟨⟨id,kind,labels,name,pc,x,has,args,bb,aR⟩,proc,up,next,loop⟩]) bb
  obtain⟨e2,h2,k2⟩:=yv proc ((out.length:Int)+1) (if kind==6 then(out.length:Int)+1 else next) (if kind==6 then(out.length:Int)+1 else loop) (Im.rows proc ((out.length:Int)+1) (if kind==6 then(out.length:Int)+1 else next) (if kind==6 then(out.length:Int)+1 else loop) (out++ [⟨⟨id,kind,labels,name,pc,x,has,args,bb,aR⟩,proc,up,next,loop⟩]) bb) aR
  refine⟨⟨⟨id,kind,labels,name,pc,x,has,args,bb,aR⟩,proc,up,next,loop⟩::(e1++e2), ?_, ?_⟩
  ·rw[h2,h1];simp
  ·simp[k1,k2]
theorem yv (proc up next loop:Int) (out:List Im) : ∀ l:List Sm,∃ e:List Im,Im.rows proc up next loop out l=out++e∧e.map Im.s=Sm.du l
 | []=>⟨[],by simp[Im.rows],rfl⟩
 |s::l=>by
  simp only[Im.rows,Sm.du]
  obtain⟨e1,h1,k1⟩:=Zy proc up (if l.length=0 then next else(out.length:Int)+1+(s.fk:Int)) loop out s
  obtain⟨e2,h2,k2⟩:=yv proc up next loop (Im.one proc up (if l.length=0 then next else(out.length:Int)+1+(s.fk:Int)) loop out s) l
  refine⟨e1++e2, ?_,by simp[k1,k2]⟩
  rw[h2,h1];simp
end
theorem RU : ∀ (l:List Pc) (n:Nat) (h:Sh),h.lo.length=n→h.hi.length=n→
 ∃ e lo hi,Sh.go n h l = ⟨h.L++e,h.lo++lo,h.hi++hi⟩∧e.map Im.s=(l.map fun f=>Sm.du f.body).flatten∧lo.length=l.length∧hi.length=l.length∧
  ∀ (i:Nat) (f:Pc),l[i]? = some f→∃ a b e' Lq:List Im,lo[i]? = some (((h.L++a).length:Int)+1)∧hi[i]? = some (((h.L++a++b).length:Int)+1)∧b.map Im.s=Sm.du f.body∧e=a++b++e'
 | [],n,h,hl,hh=>⟨[],[],[],by simp[Sh.go],rfl,rfl,rfl,fun i f h=>by simp at h⟩
 | f::l,n,h,hl,hh=>by
  simp only[Sh.go]
  obtain⟨e1,h1,k1⟩:=yv (n:Int) 0 (-1) 0 h.L f.body
  obtain⟨e2,lo,hi,h2,k2,h3,h4,h5⟩:=RU l (n+1) ⟨Im.rows (n:Int) 0 (-1) 0 h.L f.body,h.lo++ [(h.L.length:Int)+1],h.hi++ [((Im.rows (n:Int) 0 (-1) 0 h.L f.body).length:Int)+1]⟩ (by simp[hl]) (by simp[hh])
  refine⟨e1++e2,((h.L.length:Int)+1)::lo,(((Im.rows (n:Int) 0 (-1) 0 h.L f.body).length:Int)+1)::hi, ?_,by simp[k1,k2],by simp[h3],by simp[h4],fun i g ib=>?_⟩
  ·rw[h2,h1];simp
  ·cases i with
   |zero=>
    simp only[zbe,Option.some.injEq]at ib
    subst ib
    exact⟨[],e1,e2,[],by simp,by rw[h1];simp,k1,by simp⟩
   |succ i=>
    simp only[zba]at ib
    obtain⟨a,b,e',Lq,g1,g2,g3,g4⟩:=h5 i g ib
    refine⟨e1++a,b,e',Lq, ?_, ?_,g3,by rw[g4];simp⟩
    ·rw[zba,g1,h1];simp
    ·rw[zba,g2,h1];simp
theorem qn (p:Pg):p.eY.L.map Im.s=p.pre∧∀ (i:Nat) (f:Pc),p.procs[i]? = some f→∃ a b e:List Im,p.eY.lo[i]? = some ((a.length:Int)+1)∧p.eY.hi[i]? = some (((a++b).length:Int)+1)∧b.map Im.s=Sm.du f.body∧p.eY.L=a++b++e:=by
 obtain⟨e,lo,hi,h1,h2,h3,h4,h5⟩:=RU p.procs 0 ⟨[],[],[]⟩ rfl rfl
 unfold Pg.eY
 rw[h1]
 refine⟨by simpa[Pg.pre]using h2,fun i f hf=>?_⟩
 obtain⟨a,b,e',_,g1,g2,g3,g4⟩:=h5 i f hf
 exact⟨a,b,e',by simpa using g1,by simpa using g2,g3,by simpa using g4⟩
def Pg.at (p:Pg) (name:aB):Int:=mh (fun f:Pc=>f.name==name) 0 p.procs
theorem YtiopamakecmpkaaGreat (name:aB) (f:Pc):aC Tryz.prog 167 ([.agg (cf f)]++ [.ptr 0 0]) ⟨[[.str name]],[]⟩ (.bool (f.name==name)) ⟨[[.str name]],[]⟩:=by
 show aC Tryz.prog 167 [.agg (cf f), .ptr 0 0] _ _ _
 refine aC.go xn.h rfl fun B Q hB hQ=>?_
 have⟨hC,hE,hF,hS⟩:=bt
 repeat' (first
 |simp only[go_sem,hC,hE,hF,hS]
 |(with_reducible refine ay hQ ?_;exact aK))
theorem RV {p:Pg} (hs:p.procs.length<4611686018427387904) (name:aB) (s:St):aC Tryz.prog 125 [.dJ (iA p) 0, .str name] s (.int .i64 (p.at name)) s:=by
 refine aC.pure ?_ (by simp[D.bP,D.ok,yu]) rfl s
 have hi:=fun {s:St} {o:Nat} (ho:s.aw[o]? = some [.str name])=>Af (uF (l:=p.procs) (f:=167) (row:= [.str name]) (b:=fun f:Pc=>f.name==name) hs rfl (by with_unfolding_all rfl) (fun x _=>YtiopamakecmpkaaGreat name x)) rfl (Hu _) rfl ho
 have ib:=fun {s:St} {o:Nat} (ho:s.aw[o]? = some [.str name])=>(show aC Tryz.prog 166 [.slice .shared 5 (p.procs.map cf), .gK 167 [.ptr o 0]] s (.int .i64 (p.at name)) s from hi ho)
 unfold S0
 rw[rM]
 refine aC.go zi.h rfl fun B Q hB hQ=>?_
 have⟨hC,hE,hF,hS⟩:=bt
 repeat' (first
 |simp only[go_sem,hC,hE,hF,hS]
 |(with_reducible refine CU (ib (by with_unfolding_all rfl)) ?_)
 |(with_reducible refine ay hQ ?_;exact aK))
theorem RW : ∀ (l:List Pc) (n:Nat) (h:Sh),(Sh.go n h l).L.length≤h.L.length+Pc.aQ l
 | [],n,h=>by simp[Sh.go]
 |f::l,n,h=>by
  simp only[Sh.go]
  refine zaN (RW l _ _) ?_
  have:=gi (n:Int) 0 (-1) 0 h.L f.body
  have:=kT f.body
  simp only[Pc.aQ,Pc.size];omega
theorem qo (p:Pg):p.eY.L.length≤Pc.aQ p.procs:=by have:=RW p.procs 0 ⟨[],[],[]⟩;simpa[Pg.eY]using this
theorem ack {p:Pg} {i:Nat} (hs:Pc.aQ p.procs<1000000000) {a b e:List Im} (h1:p.eY.lo[i]? = some ((a.length:Int)+1)) (h2:p.eY.hi[i]? = some (((a++b).length:Int)+1)) (h4:p.eY.L=a++b++e) (s:St) :
 aC Tryz.prog 65 [.dJ (iA p) 0, .int .i64 (i:Int)] s (.slice .shared 17 (b.map eO)) s:=by
 refine aC.pure ?_ (by simp[D.bP,D.ok,yu]) (by simp[D.ok,Tag.ok,Hy]) s
 have hL:p.eY.L.length<1000000000:=Nat.lt_of_le_of_lt (qo p) hs
 have l1:(i:Int)<(p.eY.lo.length:Int):=by have:=(zai.1 h1).1;omega
 have l2:(i:Int)<(p.eY.hi.length:Int):=by have:=(zai.1 h2).1;omega
 have sJ:a.length+b.length≤p.eY.L.length:=by rw[h4];simp
 have w1:IntKind.wrap .i64 ((a.length:Int)+1 - 1)=(a.length:Int):=by rw[show(a.length:Int)+1 - 1=(a.length:Int) by omega];exact cL (by omega) (by omega)
 have w2:IntKind.wrap .i64 (((a.length+b.length:Nat):Int)+1 - 1)=((a.length+b.length:Nat):Int):=by rw[show((a.length+b.length:Nat):Int)+1 - 1=((a.length+b.length:Nat):Int) by omega];exact cL (by omega) (by omega)
 have c1:((a.length:Int)≤((a.length+b.length:Nat):Int))=True:=by simp only[eq_iff_iff,iff_true];omega
 have c2:(((a.length+b.length:Nat):Int)≤(p.eY.L.length:Int))=True:=by simp only[eq_iff_iff,iff_true];omega
 have hb:List.drop a.length (List.take (a.length+b.length) (List.map eO p.eY.L))=List.map eO b:=by rw[h4];simp[zag,List.take_append,List.drop_append]
 unfold S0
 rw[rM]
 refine aC.go Bv.h rfl fun B Q hB hQ=>?_
 have⟨hC,hE,hF,hS⟩:=bt
 repeat' (first
 |simp only[go_sem,hC,hE,hF,hS,h1,h2,zak,w1,w2,c1,c2,or_true,true_and,and_self,ite_self,Int.toNat_natCast,hb]
 |(with_reducible first|refine aX fun hc=>?_|refine aY fun hc=>?_|refine aZ (fun hc=>?_) fun hc=>?_)<;>(try simp only[hc,bs,↓reduceIte]at h)<;>try simp only[hc]
 |((with_reducible refine ay hQ ?_);(try cases h);simp only[bp,bq,bS,bT,go_sem,hC,hE,hF,hS,h1,h2,zak,w1,w2,c1,c2,or_true,true_and,and_self,ite_self,Int.toNat_natCast,hb];try exact cp)
 |(cases h;done))
theorem VP {p:Pg} {i:Nat} {f:Pc} (hf:p.procs[i]? = some f) (hs:Pc.aQ p.procs<1000000000) : ∃ it:List Im,it.map Im.s=Sm.du f.body∧∀ s,aC Tryz.prog 65 [.dJ (iA p) 0, .int .i64 (i:Int)] s (.slice .shared 17 (it.map eO)) s:=by
 obtain⟨a,b,e,h1,h2,h3,h4⟩:=(qn p).2 i f hf
 exact⟨b,h3,ack hs h1 h2 h4⟩
theorem FY {r:aB} : qR r=true↔fu r=r.length:=by
 induction r with
 |nil=>simp[qR,fu]
 |cons c r ih=>
  simp only[qR,fu]
  cases h1:lG c<;>cases h2:iH c<;>simp[ih]
theorem Ag (t:aB) (hl:t.length<4611686018427387904) (s:St):aC Tryz.prog 28 [.str t] s (.bool (isName t)) s:=by
 refine aC.pure ?_ rfl rfl s
 have hr:=fun s=>X9 (pos:=0) hl s
 simp only[List.drop_zero,za3]at hr
 unfold S0
 cases t with
 |nil=>
  have z:decide (((0:Nat):Int)<1)=true:=rfl
  have z':decide ((0:Int)<1)=true:=rfl
  have e:isName [] = false:=rfl
  rw[e]
  refine aC.go mQ.h rfl fun B Q hB hQ=>?_
  have⟨hC,hE,hF,hS⟩:=bt
  repeat' (first
 |simp only[go_sem,hC,hE,hF,hS,z,z']
 |(with_reducible refine ay hQ ?_;exact aK))
 | cons c r=>
  have l1:decide (((r.length+1:Nat):Int)<1)=false:=by simp;omega
  generalize h:isName (c::r)=p
  simp only[isName]at h
  cases hL:lG c
  ·simp only [hL,zao,zbt, ↓reduceIte]at h
   subst h
   by_cases c8:decide (((r.length+1:Nat):Int) > 8)=true
   ·refine aC.go mQ.h rfl fun B Q hB hQ=> ?_
    have⟨hC,hE,hF,hS⟩:=bt
    repeat' (first
 |simp only[go_sem,hC,hE,hF,hS,l1,c8]
 | (with_reducible refine ay hQ ?_;exact aK))
   ·have c8:decide (((r.length+1:Nat):Int) > 8)=false:=by simpa using c8
    refine aC.go mQ.h rfl fun B Q hB hQ=>?_
    have⟨hC,hE,hF,hS⟩:=bt
    repeat' (first
 |simp only[go_sem,hC,hE,hF,hS,l1,c8,hL]
 |(with_reducible refine CU (il _ _) ?_)
 | (with_reducible refine ay hQ ?_;exact aK))
  ·simp only [hL,zan,zbI]at h
   by_cases c8:decide (((r.length+1:Nat):Int) > 8)=true
   ·simp only [c8, ↓reduceIte]at h
    subst h
    refine aC.go mQ.h rfl fun B Q hB hQ=>?_
    have⟨hC,hE,hF,hS⟩:=bt
    repeat' (first
 |simp only[go_sem,hC,hE,hF,hS,l1,c8]
 | (with_reducible refine ay hQ ?_;exact aK))
   ·have c8:decide (((r.length+1:Nat):Int) > 8)=false:=by simpa using c8
    simp only[c8,zaa,↓reduceIte]at h
    have c7:fu (c::r)=fu r+1:=by simp[fu,hL]
    cases hn:qR r
    ·simp only [hn,zaa, ↓reduceIte]at h
     have:fu r≠r.length:=fun e=>by rw[FY.2 e]at hn;cases hn
     have e:(((fu (c::r):Nat):Int)==((r.length+1:Nat):Int))=false:=by rw[c7];simp;omega
     subst h
     refine aC.go mQ.h rfl fun B Q hB hQ=>?_
     have⟨hC,hE,hF,hS⟩:=bt
     repeat' (first
 |simp only[go_sem,hC,hE,hF,hS,l1,c8,hL,e]
 |(with_reducible refine CU (il _ _) ?_)
 |(with_reducible refine CU (hr _) ?_)
 | (with_reducible refine ay hQ ?_;exact aK))
    ·simp only [hn, ↓reduceIte]at h
     have:=FY.1 hn
     have e:(((fu (c::r):Nat):Int)==((r.length+1:Nat):Int))=true:=by rw[c7];simp;omega
     subst h
     refine aC.go mQ.h rfl fun B Q hB hQ=>?_
     have⟨hC,hE,hF,hS⟩:=bt
     repeat' (first
 |simp only[go_sem,hC,hE,hF,hS,l1,c8,hL,e]
 |(with_reducible refine CU (il _ _) ?_)
 |(with_reducible refine CU (hr _) ?_)
 |(with_reducible refine CU (uC _ _) ?_)
 |(with_reducible refine ay hQ ?_;exact aK))
theorem LN (op:Int) (s:St):aC Tryz.prog 237 [.int .i64 op] s (.int .i64 (jH op)) s:=by
 refine aC.pure ?_ rfl rfl s
 unfold S0
 generalize h:jH op=p
 unfold jH at h
 refine aC.go Hh.h rfl fun B Q hB hQ=>?_
 have⟨hC,hE,hF,hS⟩:=bt
 repeat' (first
 |simp only[go_sem,hC,hE,hF,hS]
 |(with_reducible first|refine aX fun hc=>?_|refine aY fun hc=>?_|refine aZ (fun hc=>?_) fun hc=>?_)<;>(try simp only[hc,bs,↓reduceIte]at h)<;>try simp only[hc]
 |((with_reducible refine ay hQ ?_);exact cS))
theorem yw {l:List aB} (hl:l.length<4611686018427387904) (hs : ∀ t∈l,t.length<4611686018427387904) (s:St):aC Tryz.prog 56 [.slice .shared 1 (l.map encStr)] s (.bool (cr l)) s:=by
 refine aC.pure ?_ (by simp[D.bP,D.ok,da,Tag.ok]) rfl s
 unfold S0
 generalize h:cr l=p
 refine aC.go EI.h rfl fun B Q hB hQ=>?_
 have⟨hC,hE,hF,hS⟩:=bt
 repeat' (first
 |simp only[go_sem,hC,hE,hF,hS]
 |(with_reducible first|refine aX fun hc=>?_|refine aY fun hc=>?_|refine aZ (fun hc=>?_) fun hc=>?_)<;>(try simp only[hc,bs,↓reduceIte]at h)<;>try simp only[hc]
 |((with_reducible refine ay hQ ?_);exact cS))
 refine b8 0 0 (aV.ind (ι:=List aB×Nat) (fun i=>l.drop i.2=i.1∧cr i.1=p) (fun i=>i.1.length)
  (fun i=> [(5, .slice .shared 1 (l.map encStr)),(6, .int .i64 (l.length:Int)),(7, .int .i64 (i.2:Int))]) (fun i=>⟨[],[]⟩) ?_ (l,0) ⟨rfl,h⟩)
 rintro⟨rest,k⟩ ⟨h1,h⟩ IH
 dsimp only at h1 h
 cases rest with
 |nil=>
  have hC:=drop_nil h1
  simp only[cr]at h
  repeat' (first
 |simp only[go_sem,hC,hE,hF,hS]
 |(with_reducible first|refine aX fun hc=>?_|refine aY fun hc=>?_|refine aZ (fun hc=>?_) fun hc=>?_)<;>(try simp only[hc,bs,↓reduceIte]at h)<;>try simp only[hc]
 |((with_reducible refine ay hQ ?_);exact cS))
 |cons t rest=>
  obtain⟨hE,g2,hC,g4⟩:=drop_cons h1
  have hF:k<4611686018427387904:=by omega
  have hn:=Ag t (hs t (zae hE))
  simp only[cr]at h
  repeat' (first
 |simp only[go_sem,hC,hE,hF,hS]
 |(with_reducible refine CU (hn _) ?_)
 |(with_reducible first|refine aX fun hc=>?_|refine aY fun hc=>?_|refine aZ (fun hc=>?_) fun hc=>?_)<;>(try simp only[hc,bs,↓reduceIte]at h)<;>try simp only[hc]
 |((with_reducible refine ay hQ ?_);exact cS))
  refine b8 0 0 (IH (rest,k+1) ⟨g2,h⟩ (zac _))
mutual
def Ex.dp (left:Int):Ex→Bool
 |⟨op,n,name,kids⟩=>
  if decide (left<1) ||(kids.length:Int) != jH op then false
  else if op==1 then decide (n≥0) && name == []
  else if op==2 then n==0 && isName name
  else if n != 0 || !(name == [])then false
  else Ex.DM (left - 1) kids
def Ex.DM (left:Int):List Ex→Bool
 | []=>true
 |x::l=>if !(Ex.dp left x)then false else Ex.DM left l
end
theorem ZA : ∀ (m:Nat) (x:Ex),x.size≤m→x.size<4611686018427387904→x.texts→∀ left:Int,0≤left→left≤100→∀ s:St,aC Tryz.prog 219 [.agg (bI x), .int .i64 left] s (.bool (x.dp left)) s:=by
 intro m
 induction m with
 |zero=>rintro⟨op,v,name,kids⟩ h;simp only[Ex.size]at h;omega
 | succ m ih=>
  rintro⟨op,v,name,kids⟩ h hx ht left h0 alo s
  refine aC.pure ?_ (by simp[D.bP,D.ok,fK]) rfl s
  have hlen:kids.length<4611686018427387904:=by simp only[Ex.size]at hx;have:=Ex.cG kids;omega
  have hn:=Ag name ht.1
  generalize hp:Ex.dp left ⟨op,v,name,kids⟩=p
  simp only[Ex.dp]at hp
  unfold S0
  by_cases tC:left<1
  ·have d1:decide (left<1)=true:=by simpa using tC
   simp only[d1,za6,↓reduceIte]at hp
   subst hp
   refine aC.go y2.h rfl fun B Q hB hQ=>?_
   have⟨hC,hE,hF,hS⟩:=bt
   repeat' (first
 |simp only[go_sem,hC,hE,hF,hS,d1]
 |(with_reducible refine CU (LN _ _) ?_)
 |(with_reducible refine CU (hn _) ?_)
 | (with_reducible refine ay hQ ?_;exact aK))
  ·have d1:decide (left<1)=false:=by simpa using tC
   have w1:IntKind.wrap .i64 (left - 1)=left - 1:=cL (by omega) (by omega)
   have hk : ∀ y∈kids,∀ s,aC Tryz.prog 219 [.agg (bI y), .int .i64 (left - 1)] s (.bool (y.dp (left - 1))) s:=fun y hy s=>
    ih y (by simp only[Ex.size]at h;have:=Ex.bX hy;omega) (by simp only[Ex.size]at hx;have:=Ex.bX hy;omega) (Ex.FV ht hy) (left - 1) (by omega) (by omega) s
   simp only[d1,zbd]at hp
   have h:=hp
   clear hp
   refine aC.go y2.h rfl fun B Q hB hQ=>?_
   have⟨hC,hE,hF,hS⟩:=bt
   repeat' (first
 |simp only[go_sem,hC,hE,hF,hS,d1]
 |(with_reducible refine CU (LN _ _) ?_)
 |(with_reducible refine CU (hn _) ?_)
 |(with_reducible first|refine aX fun hc=>?_|refine aY fun hc=>?_|refine aZ (fun hc=>?_) fun hc=>?_)<;>(try simp only[hc,bs,↓reduceIte]at h)<;>try simp only[hc]
 | ((with_reducible refine ay hQ ?_);(try cases h);simp only [bp,bq,bS,bT,go_sem,hC,hE,hF,hS,d1];repeat' (first | exact Ok.out | with_reducible refine eJ ?_ ?_ | (simp;done))))
   all_goals
    refine b8 1 0 (aV.ind (ι:=List Ex×Nat) (fun i=>kids.drop i.2=i.1∧Ex.DM (left - 1) i.1=p) (fun i=>i.1.length)
     (fun i=> [(1, .int .i64 left),(49, .slice .shared 4 (kids.map bI)),(50, .int .i64 (kids.length:Int)),(51, .int .i64 (i.2:Int))]) (fun i=>⟨[bI ⟨op,v,name,kids⟩],[]⟩) ?_ (kids,0) ⟨rfl,h⟩)
    rintro⟨rest,k⟩ ⟨h1,h⟩ IH
    dsimp only at h1 h
    cases rest with
    |nil=>
     have hC:=drop_nil h1
     simp only[Ex.DM]at h
     repeat' (first
 |simp only[go_sem,hC,hE,hF,hS]
 |(with_reducible first|refine aX fun hc=>?_|refine aY fun hc=>?_|refine aZ (fun hc=>?_) fun hc=>?_)<;>(try simp only[hc,bs,↓reduceIte]at h)<;>try simp only[hc]
 |((with_reducible refine ay hQ ?_);exact cS)
 | (cases h;done))
    |cons y rest=>
     obtain⟨hE,g2,hC,g4⟩:=drop_cons h1
     have hy:=hk y (zae hE)
     have hF:k<4611686018427387904:=by omega
     simp only[Ex.DM]at h
     repeat' (first
 |simp only[go_sem,hC,hE,hF,hS,w1]
 |(with_reducible refine CU (hy _) ?_)
 |(with_reducible first|refine aX fun hc=>?_|refine aY fun hc=>?_|refine aZ (fun hc=>?_) fun hc=>?_)<;>(try simp only[hc,bs,↓reduceIte]at h)<;>try simp only[hc]
 |((with_reducible refine ay hQ ?_);(try cases h);simp only[bp,bq,bS,bT,go_sem,hC,hE,hF,hS,w1];try exact cp))
     refine b8 1 0 (IH (rest,k+1) ⟨g2,h⟩ (zac _))
theorem DN {x:Ex} (hx:x.size<4611686018427387904) (ht:x.texts) (s:St):aC Tryz.prog 190 [.agg (bI x)] s (.bool (x.dp 20)) s:=by
 refine aC.pure ?_ (by simp[D.bP,D.ok,fK]) rfl s
 have hd:=fun s=>ZA _ x (zaj _) hx ht 20 (by omega) (by omega) s
 unfold S0
 refine aC.go Cl.h rfl fun B Q hB hQ=>?_
 have⟨hC,hE,hF,hS⟩:=bt
 repeat' (first
 |simp only[go_sem,hC,hE,hF,hS]
 |(with_reducible refine CU (hd _) ?_)
 |(with_reducible refine ay hQ ?_;exact aK))
theorem ZB (x:Ex) (s:St):aC Tryz.prog 191 [.agg (bI x)] s (.bool x.none) s:=by
 refine aC.pure ?_ (by simp[D.bP,D.ok,fK]) rfl s
 unfold S0
 generalize h:Ex.none x=p
 unfold Ex.none at h
 refine aC.go Hf.h rfl fun B Q hB hQ=>?_
 have⟨hC,hE,hF,hS⟩:=bt
 repeat' (first
 |simp only[go_sem,hC,hE,hF,hS]
 |(with_reducible first|refine aX fun hc=>?_|refine aY fun hc=>?_|refine aZ (fun hc=>?_) fun hc=>?_)<;>(try simp only[hc,bs,↓reduceIte]at h)<;>try simp only[hc]
 |((with_reducible refine ay hQ ?_);exact cS))
def lZ (t:aB) (is:Bool):Bool:=(is && isName t) ||(!is && t == [])
theorem Cp (t:aB) (is:Bool) (hl:t.length<4611686018427387904) (s:St):aC Tryz.prog 158 [.str t, .bool is] s (.bool (lZ t is)) s:=by
 refine aC.pure ?_ rfl rfl s
 have hn:=Ag t hl
 unfold S0
 generalize h:lZ t is=p
 unfold lZ at h
 refine aC.go E1.h rfl fun B Q hB hQ=>?_
 have⟨hC,hE,hF,hS⟩:=bt
 repeat' (first
 |simp only[go_sem,hC,hE,hF,hS]
 |(with_reducible refine CU (hn _) ?_)
 |(with_reducible first|refine aX fun hc=>?_|refine aY fun hc=>?_|refine aZ (fun hc=>?_) fun hc=>?_)<;>(try simp only[hc,bs,↓reduceIte]at h)<;>try simp only[hc]
 |((with_reducible refine ay hQ ?_);exact cS))
def uG (x:Ex) (is:Bool):Bool:=(is && x.dp 20) ||(!is && x.none)
theorem LO {x:Ex} (is:Bool) (hx:x.size<4611686018427387904) (ht:x.texts) (s:St):aC Tryz.prog 159 [.agg (bI x), .bool is] s (.bool (uG x is)) s:=by
 refine aC.pure ?_ (by simp[D.bP,D.ok,fK]) rfl s
 have hm:=DN hx ht
 unfold S0
 generalize h:uG x is=p
 unfold uG at h
 refine aC.go E2.h rfl fun B Q hB hQ=>?_
 have⟨hC,hE,hF,hS⟩:=bt
 repeat' (first
 |simp only[go_sem,hC,hE,hF,hS]
 |(with_reducible refine CU (hm _) ?_)
 |(with_reducible refine CU (ZB _ _) ?_)
 |(with_reducible first|refine aX fun hc=>?_|refine aY fun hc=>?_|refine aZ (fun hc=>?_) fun hc=>?_)<;>(try simp only[hc,bs,↓reduceIte]at h)<;>try simp only[hc]
 |((with_reducible refine ay hQ ?_);exact cS))
def o9:List Ar→Bool
 | []=>true
 |a::l=>if !(lZ a.name a.ref) || !(uG a.x !a.ref)then false else o9 l
theorem VQ {l:List Ar} (hl:l.length<4611686018427387904) (hs : ∀ a∈l,a.x.size<4611686018427387904∧a.x.texts∧a.name.length<4611686018427387904) (s:St) :
 aC Tryz.prog 160 [.slice .shared 6 (l.map dM)] s (.bool (o9 l)) s:=by
 refine aC.pure ?_ (by simp[D.bP,D.ok,Di,Tag.ok]) rfl s
 unfold S0
 generalize h:o9 l=p
 refine aC.go DC.h rfl fun B Q hB hQ=>?_
 have⟨hC,hE,hF,hS⟩:=bt
 repeat' (first
 |simp only[go_sem,hC,hE,hF,hS]
 |(with_reducible first|refine aX fun hc=>?_|refine aY fun hc=>?_|refine aZ (fun hc=>?_) fun hc=>?_)<;>(try simp only[hc,bs,↓reduceIte]at h)<;>try simp only[hc]
 |((with_reducible refine ay hQ ?_);exact cS))
 refine b8 0 0 (aV.ind (ι:=List Ar×Nat) (fun i=>l.drop i.2=i.1∧o9 i.1=p) (fun i=>i.1.length)
  (fun i=> [(5, .slice .shared 6 (l.map dM)),(6, .int .i64 (l.length:Int)),(7, .int .i64 (i.2:Int))]) (fun i=>⟨[],[]⟩) ?_ (l,0) ⟨rfl,h⟩)
 rintro⟨rest,k⟩ ⟨h1,h⟩ IH
 dsimp only at h1 h
 cases rest with
 |nil=>
  have hC:=drop_nil h1
  simp only[o9]at h
  repeat' (first
 |simp only[go_sem,hC,hE,hF,hS]
 |(with_reducible first|refine aX fun hc=>?_|refine aY fun hc=>?_|refine aZ (fun hc=>?_) fun hc=>?_)<;>(try simp only[hc,bs,↓reduceIte]at h)<;>try simp only[hc]
 |((with_reducible refine ay hQ ?_);exact cS))
 |cons a rest=>
  obtain⟨hE,g2,hC,g4⟩:=drop_cons h1
  have hF:k<4611686018427387904:=by omega
  obtain⟨a1,a2,a3⟩:=hs a (zae hE)
  have hn:=fun b s=>Cp a.name b a3 s
  have hw:=fun b s=>LO b a1 a2 s
  simp only[o9]at h
  repeat' (first
 |simp only[go_sem,hC,hE,hF,hS]
 |(with_reducible refine CU (hn _ _) ?_)
 |(with_reducible refine CU (hw _ _) ?_)
 |(with_reducible first|refine aX fun hc=>?_|refine aY fun hc=>?_|refine aZ (fun hc=>?_) fun hc=>?_)<;>(try simp only[hc,bs,↓reduceIte]at h)<;>try simp only[hc]
 |((with_reducible refine ay hQ ?_);exact cS))
  refine b8 0 0 (IH (rest,k+1) ⟨g2,h⟩ (zac _))
def Sm.flags (s:Sm):Option (Bool×Bool×Bool×Bool×Bool×Bool):=
 if s.kind==1 then some (true,false,true,s.has,false,false)
 else if s.kind==2 ||s.kind==10 then some (true,false,false,s.has,false,false)
 else if s.kind==3 then some (false,false,true,s.has,false,false)
 else if s.kind==4 then some (!(s.name == []),true,false,s.has,false,false)
 else if s.kind==5 then some (false,false,true,s.has,true,true)
 else if s.kind==6 then some (false,false,true,s.has,true,false)
 else if s.kind==9 then some (false,false,s.has,false,false,false)
 else if s.kind==7 ||s.kind==8 then some (false,false,false,s.has,false,false)
 else none
def Sm.Hz (s:Sm) (nm pr x:Bool):Bool:=if !(lZ s.name nm) || !(lZ s.proc pr) || !(uG s.x x)then false else o9 s.args
def Sm.HA (s:Sm) (f:Bool×Bool×Bool×Bool×Bool×Bool):Bool:=
 if f.2.2.2.1 ||(!f.2.2.2.2.1 && decide ((s.bb.length:Int) > 0)) ||(!f.2.2.2.2.2 && decide ((s.aR.length:Int) > 0)) ||(!(s.kind==4) && decide ((s.args.length:Int) > 0))then false
 else s.Hz f.1 f.2.1 f.2.2.1
def Sm.fields (s:Sm):Bool:=match s.flags with
 |none=>false
 |some f=>s.HA f
section
variable {v:Sm} {B:eQ} {Q:Exit→Tm→St→Prop} {p:Bool}
theorem VR {nm pr x:Bool} (hf:v.jy) (hB:B.s = ⟨[],[]⟩) (hQ:gZ 0 0 [(2,none)] (.bool p) ⟨[],[]⟩=Q) (h:v.Hz nm pr x=p) :
 Sem Tryz.prog B 93 Q0G Q [(1, .ptr 0 0),(3, .bool nm),(4, .bool pr),(5, .bool x)] ⟨[bn v],[]⟩:=by
 have h1:=fun b s=>Cp v.name b hf.name s
 have h2:=fun b s=>Cp v.proc b hf.proc s
 have h3:=fun b s=>LO b hf.x hf.xt s
 have h4:=fun s=>VQ hf.ace hf.arg s
 unfold Sm.Hz at h
 have⟨hC,hE,hF,hS⟩:=bt
 refine iz ?_
 repeat' (first
 |simp only[go_sem,hC,hE,hF,hS]
 |(with_reducible refine CU (h1 _ _) ?_)
 |(with_reducible refine CU (h2 _ _) ?_)
 |(with_reducible refine CU (h3 _ _) ?_)
 |(with_reducible refine CU (h4 _) ?_)
 |(with_reducible first|refine aX fun hc=>?_|refine aY fun hc=>?_|refine aZ (fun hc=>?_) fun hc=>?_)<;>(try simp only[hc,bs,↓reduceIte]at h)<;>try simp only[hc]
 |((with_reducible refine ay hQ ?_);exact cS))
theorem VS {nm pr x has th ot ar:Bool} (hf:v.jy) (hB:B.s = ⟨[],[]⟩) (hQ:gZ 0 0 [(2,none)] (.bool p) ⟨[],[]⟩=Q) (e:(v.kind==4)=ar) (h:v.HA (nm,pr,x,has,th,ot)=p) :
 Sem Tryz.prog B 93 Q0F Q [(1, .ptr 0 0),(3, .bool nm),(4, .bool pr),(5, .bool x),(6, .bool has),(7, .bool th),(8, .bool ot),(9, .bool ar)] ⟨[bn v],[]⟩:=by
 simp only[Sm.HA,e]at h
 have⟨hC,hE,hF,hS⟩:=bt
 refine Sem.kM ?_
 repeat' (first
 |simp only[go_sem,hC,hE,hF,hS]
 |(with_reducible first|refine aX fun hc=>?_|refine aY fun hc=>?_|refine aZ (fun hc=>?_) fun hc=>?_)<;>(try simp only[hc,bs,↓reduceIte]at h)<;>try simp only[hc]
 |((with_reducible refine ay hQ ?_);(try cases h);simp only[bp,bq,bS,bT,go_sem,hC,hE,hF,hS];repeat' (first|exact Ok.out|with_reducible refine eJ ?_ ?_|(simp;done))))
 all_goals
  refine Sem.re _ _ 1 0 (by rw[hB];exact mD rfl) (by rw[hB];exact mD rfl) ?_ ?_ (VR hf hB hQ h)
  ·(simp only[go_sem,hC,hE,hF,hS];repeat' (first|exact Ok.out|with_reducible refine eJ ?_ ?_))
  ·(simp only[go_sem,hC,hE,hF,hS];repeat' (first|exact Ok.out|with_reducible refine eJ ?_ ?_))
theorem VT {ar:Bool} (hf:v.jy) (hB:B.s = ⟨[],[]⟩) (hQ:gZ 0 0 [(2,none)] (.bool p) ⟨[],[]⟩=Q) (e:(v.kind==4)=ar) (h:v.fields=p) :
 Sem Tryz.prog B 93 Q0E Q [(1, .ptr 0 0),(3, .bool false),(4, .bool false),(5, .bool false),(6, .bool v.has),(7, .bool false),(8, .bool false),(9, .bool ar)] ⟨[bn v],[]⟩:=by
 simp only[Sm.fields,Sm.flags]at h
 have⟨hC,hE,hF,hS⟩:=bt
 refine Sem.kM ?_
 repeat' (first
 |simp only[go_sem,hC,hE,hF,hS]
 |(with_reducible first|refine aX fun hc=>?_|refine aY fun hc=>?_|refine aZ (fun hc=>?_) fun hc=>?_)<;>(try simp only[hc,bs,↓reduceIte]at h)<;>try simp only[hc]
 |((with_reducible refine ay hQ ?_);(try cases h);simp only[bp,bq,bS,bT,go_sem,hC,hE,hF,hS];repeat' (first|exact Ok.out|with_reducible refine eJ ?_ ?_|(simp;done))))
 all_goals
  refine Sem.re _ _ 1 0 (by rw[hB];exact mD rfl) (by rw[hB];exact mD rfl) ?_ ?_ (VS hf hB hQ e h)
  ·(simp only[go_sem,hC,hE,hF,hS];repeat' (first|exact Ok.out|with_reducible refine eJ ?_ ?_))
  ·(simp only[go_sem,hC,hE,hF,hS];repeat' (first|exact Ok.out|with_reducible refine eJ ?_ ?_))
end
theorem VU {v:Sm} (hf:v.jy) (s:St):aC Tryz.prog 116 [.agg (bn v)] s (.bool v.fields) s:=by
 refine aC.pure ?_ (by simp[D.bP,D.ok,ke]) rfl s
 unfold S0
 refine aC.goS ku.h rfl fun B Q hB hQ=>?_
 have⟨hC,hE,hF,hS⟩:=bt
 refine Sem.seq (b:=Q0C) (iz ?_)
 repeat' (first
 |simp only[go_sem,hC,hE,hF,hS]
 |(with_reducible refine ay hQ ?_;exact aK))
 refine Sem.seq (b:=Q0D) (iz ?_)
 repeat' (first
 |simp only[go_sem,hC,hE,hF,hS]
 |(with_reducible refine ay hQ ?_;exact aK))
 refine Sem.seq (b:=Q0E) (iz ?_)
 repeat' (first
 |simp only[go_sem,hC,hE,hF,hS]
 |(with_reducible refine ay hQ ?_;exact aK))
 refine Sem.re _ _ 1 0 (by rw[hB];exact mD rfl) (by rw[hB];exact mD rfl) ?_ ?_ (VT hf hB hQ rfl rfl)
 ·(simp only[go_sem,hC,hE,hF,hS];repeat' (first|exact Ok.out|with_reducible refine eJ ?_ ?_))
 ·(simp only[go_sem,hC,hE,hF,hS];repeat' (first|exact Ok.out|with_reducible refine eJ ?_ ?_))
end Go.Abs
namespace Go.Abs
set_option maxRecDepth 8000
open Go.Proofs
def dX (i:It):List D:= [.int .i64 i.s.id, .int .i64 i.s.kind, .slice .shared 1 (i.s.labels.map encStr), .str i.s.name, .str i.s.proc,
 .int .i64 i.s.x.op, .int .i64 i.s.x.n, .str i.s.x.name, .slice .shared 4 (i.s.x.kids.map bI), .bool i.s.has, .slice .shared 6 (i.s.args.map dM), .slice .shared 13 (i.s.bb.map bn), .slice .shared 13 (i.s.aR.map bn), .int .i64 i.deep, .int .i64 i.bF, .bool i.aR]
theorem VV (i:It):D.bP 0 0 (dX i)=true:=by simp[dX,D.bP,D.ok,Tag.ok,da,X6,Di,lz]
theorem Bd (l:List It):D.jw 0 0 (l.map dX)=true:=gM VV l
theorem aff (n m:Nat) (l:List It):D.ko n m (l.map dX)=l.map dX:=mN VV n m l
theorem afg (n m:Nat) (i:It):D.ic n m (dX i)=dX i:=iF n m _ (VV i)
theorem afh (x:It):(dX x).length=16:=nd rfl
theorem acn (x:It):List.take 13 (dX x)=bn x.s:=by simp only[dX,cD];rfl
theorem VW (x:It):(dX x)[0]? = some (.int .i64 x.s.id):=nd rfl
theorem RX (x:It):(dX x)[13]? = some (.int .i64 x.deep):=nd rfl
theorem E5 (s:Sm) (d n:Int) (e:Bool):dX ⟨s,d,n,e⟩ = [.int .i64 s.id, .int .i64 s.kind, .slice .shared 1 (s.labels.map encStr), .str s.name, .str s.proc,
 .int .i64 s.x.op, .int .i64 s.x.n, .str s.x.name, .slice .shared 4 (s.x.kids.map bI), .bool s.has, .slice .shared 6 (s.args.map dM), .slice .shared 13 (s.bb.map bn), .slice .shared 13 (s.aR.map bn), .int .i64 d, .int .i64 n, .bool e]:=nd rfl
attribute [go_sem] aff afg afh acn VW RX
theorem I6 (deep bF:Int) (aR:Bool) (out:List It) (s:Sm) :
 ff deep bF aR out s=if decide (deep≤12)then cW (deep+1) s.id true (cW (deep+1) s.id false (out++ [⟨s,deep,bF,aR⟩]) s.bb) s.aR else out++ [⟨s,deep,bF,aR⟩]:=by
 cases s;simp only[ff]
mutual
theorem RY (deep bF:Int) (aR:Bool) (out:List It) (h:out.length≤200) : ∀ s:Sm,(ff deep bF aR out s).length≤201
 |⟨id,kind,labels,name,proc,x,has,args,bb,e⟩=>by
  simp only[ff]
  have h1:(out++ [(⟨⟨id,kind,labels,name,proc,x,has,args,bb,e⟩,deep,bF,aR⟩:It)]).length≤201:=by simp;omega
  split
  ·exact kU _ _ _ _ (kU _ _ _ _ h1 bb) e
  ·exact h1
theorem kU (deep bF:Int) (aR:Bool) (out:List It) (h:out.length≤201) : ∀ l:List Sm,(cW deep bF aR out l).length≤201
 | []=>by simpa only[cW]using h
 | s::l=>by
  simp only[cW]
  split
  ·rename_i hc
   simp only[decide_eq_true_eq]at hc
   exact kU deep bF aR _ (RY _ _ _ _ (by omega) s) l
  ·exact h
end
abbrev RZ (N:Nat):Prop:=∀ (l:List Sm) (deep bF:Int) (aR:Bool) (out:List It),Sm.aQ l<N→0≤deep→deep≤13→out.length≤201→∀ {s:St} {t:Nat},s.aE[t]? = some (some out.length)→
 aC Tryz.prog 142 [.slice .shared 13 (l.map bn), .int .i64 deep, .int .i64 bF, .bool aR, .slice (.tok t) 16 (out.map dX)] s (.slice (.tok t) 16 ((cW deep bF aR out l).map dX)) ⟨s.aw,s.aE.set t (some (cW deep bF aR out l).length)⟩
theorem aco {N:Nat} (hN:N<4611686018427387904) (ih:RZ N) {l:List Sm} {deep bF:Int} {aR:Bool} {out:List It} (hs:Sm.aQ l<N+1) (FZ:0≤deep) (hd:deep≤13) (ho:out.length≤201) :
 aC Tryz.prog 142 [.slice .shared 13 (l.map bn), .int .i64 deep, .int .i64 bF, .bool aR, .slice (.tok 0) 16 (out.map dX)] ⟨[],[some out.length]⟩ (.slice (.tok 0) 16 ((cW deep bF aR out l).map dX)) ⟨[],[some (cW deep bF aR out l).length]⟩:=by
 generalize hR:cW deep bF aR out l=R
 refine aC.go y4.h rfl fun B Q hB hQ=>?_
 have⟨hC,hE,hF,hS⟩:=bt
 repeat' (first
 |simp only[go_sem,hC,hE,hF,hS]
 |(with_reducible refine ay hQ ?_;exact aK))
 refine b8 0 1 (aV.ind (ι:=List Sm×Nat×List It×Nat) (fun i=>l.drop i.2.1=i.1∧cW deep bF aR i.2.2.1 i.1=R∧i.2.2.1.length≤201∧i.2.2.2=i.2.2.1.length) (fun i=>i.1.length)
  (fun i=> [(0, .slice .shared 13 (l.map bn)),(1, .int .i64 deep),(2, .int .i64 bF),(3, .bool aR),(4, .slice (.tok 0) 16 (i.2.2.1.map dX)),(11, .int .i64 (i.2.1:Int))]) (fun i=>⟨[],[some i.2.2.2]⟩) ?_ (l,0,out,out.length) ⟨rfl,hR,ho,rfl⟩)
 rintro⟨rest,k,out,n⟩ ⟨h1,h2,h3,h4⟩ IH
 dsimp only at h1 h2 h3 h4
 subst h4
 have hlen:l.length<4611686018427387904:=by have:=Sm.cG l;omega
 cases rest with
 |nil=>
  have hC:=drop_nil h1
  simp only[cW]at h2
  subst h2
  repeat' (first
 |simp only[go_sem,hC,hE,hF,hS]
 |(with_reducible refine ay hQ ?_;exact aK))
 | cons v rest=>
  obtain⟨hE,g2,hC,g4⟩:=drop_cons h1
  have bm:k<4611686018427387904:=by omega
  have hv:=Sm.bX (zae hE)
  have oB:Sm.aQ v.bb<N∧Sm.aQ v.aR<N:=by
   obtain⟨_,_,_,_,_,_,_,_,_,_⟩:=v
   simp only[Sm.size]at hv ⊢;omega
  simp only[cW]at h2
  by_cases hc:out.length≤200
  ·have c1:decide ((out.length:Int)≤200)=true:=by simp;omega
   simp only[c1,↓reduceIte,I6]at h2
   have hF:(out.length+1)*233≤bh:=by unfold bh;omega
   have ew:(out++ [(⟨v,deep,bF,aR⟩:It)]).length≤201:=by simp;omega
   have hw:IntKind.wrap .i64 (deep+1)=deep+1:=cL (by omega) (by omega)
   by_cases ahO:deep≤12
   ·have c2:decide (deep≤12)=true:=by simp;omega
    simp only[c2,↓reduceIte]at h2
    have f1:=fun {s:St} {t:Nat} (ht:s.aE[t]? = some (some (out++ [(⟨v,deep,bF,aR⟩:It)]).length))=>ih v.bb (deep+1) v.id false _ oB.1 (by omega) (by omega) ew ht
    have f2:=fun {s:St} {t:Nat} (ht:s.aE[t]? = some (some (cW (deep+1) v.id false (out++ [(⟨v,deep,bF,aR⟩:It)]) v.bb).length))=>ih v.aR (deep+1) v.id true _ oB.2 (by omega) (by omega) (kU _ _ _ _ ew _) ht
    simp only[zag,zaf,zah,E5,zak,zal,zax]at f1
    repeat' (first
 |simp only[go_sem,hC,hE,hF,hS,c1,c2,hw,cD]
 |(with_reducible refine CU (f1 (by with_unfolding_all rfl)) ?_)
 |(with_reducible refine CU (f2 (by with_unfolding_all rfl)) ?_)
 | (with_reducible refine ay hQ ?_;exact aK))
    refine b9 0 1 ?_ ?_ (IH (rest,k+1,_,_) ⟨g2,h2,kU _ _ _ _ (kU _ _ _ _ ew _) _,rfl⟩ (zac _))
    ·(simp only[go_sem,hC,hE,hF,hS,az bm];try exact aT)
    ·(simp only[go_sem,hC,hE,hF,hS,az bm];try exact aT)
   ·have c2:decide (deep≤12)=false:=by simp;omega
    simp only[c2,zaa,↓reduceIte]at h2
    repeat' (first
 |simp only[go_sem,hC,hE,hF,hS,c1,c2,cD]
 | (with_reducible refine ay hQ ?_;exact aK))
    refine b9 0 1 ?_ ?_ (IH (rest,k+1,out++ [⟨v,deep,bF,aR⟩],out.length+1) ⟨g2,h2,ew,by simp⟩ (zac _))
    ·(simp only[go_sem,hC,hE,hF,hS,az bm,E5,zag,zaf,zah];try exact aT)
    ·(simp only[go_sem,hC,hE,hF,hS,az bm,E5,zag,zaf,zah];try exact aT)
  ·have c1:decide ((out.length:Int)≤200)=false:=by simp;omega
   simp only[c1,zaa,↓reduceIte]at h2
   subst h2
   repeat' (first
 |simp only[go_sem,hC,hE,hF,hS,c1]
 |(with_reducible refine ay hQ ?_;exact aK))
theorem VX : ∀ N,N<4611686018427387904→RZ N:=by
 intro N
 induction N with
 |zero=>exact fun _ l deep bF aR out h=>absurd h (zaM _)
 |succ N ih=>
  intro h l deep bF aR out hs FZ hd ho s t ht
  exact(aco (by omega) (ih (by omega)) hs FZ hd ho).NF (pre:= [_,_,_,_]) (post:= []) (by simp[D.bP,D.ok,Tag.ok,lz]) rfl (Bd out) (Bd _) ht
theorem VY {l:List Sm} (hs:Sm.aQ l<4611686018427387000) (s:St) :
 aC Tryz.prog 142 [.slice .shared 13 (l.map bn), .int .i64 1, .int .i64 0, .bool false, .slice .full 0 []] s (.slice .shared 16 ((cW 1 0 false [] l).map dX)) s:=by
 refine aC.pure ?_ (by simp[D.bP,D.ok,Tag.ok,lz,D.jw]) (by simp[D.ok,Tag.ok,Bd]) s
 obtain⟨N,hN⟩ : ∃ N,N=Sm.aQ l:=⟨_,rfl⟩
 have ih:=VX N (by omega)
 replace hs:Sm.aQ l<N+1∧N<4611686018427387000:=by omega
 obtain⟨hs,hN⟩:=hs
 generalize hR:cW 1 0 false [] l=R
 obtain⟨deep,yq⟩ : ∃ d:Int,d=1:=⟨_,rfl⟩
 obtain⟨bF,VZ⟩ : ∃ d:Int,d=0:=⟨_,rfl⟩
 obtain⟨aR,V0⟩ : ∃ d:Bool,d=false:=⟨_,rfl⟩
 rw[← yq, ← VZ, ← V0]at hR
 rw[← yq, ← VZ, ← V0]
 have FZ:0≤deep:=by omega
 have hd:deep≤13:=by omega
 clear yq VZ V0
 have ho:([] : List It).length≤201:=zau _
 unfold S0
 refine aC.go y4.h rfl fun B Q hB hQ=>?_
 have⟨hC,hE,hF,hS⟩:=bt
 repeat' (first
 |simp only[go_sem,hC,hE,hF,hS]
 |(with_reducible refine ay hQ ?_;exact aK))
 refine aV.gY 4 16 rfl ?_
 simp only[go_sem,hC,hE,hF,hS]
 refine b8 0 1 (aV.ind (ι:=List Sm×Nat×List It×Nat) (fun i=>l.drop i.2.1=i.1∧cW deep bF aR i.2.2.1 i.1=R∧i.2.2.1.length≤201∧i.2.2.2=i.2.2.1.length) (fun i=>i.1.length)
  (fun i=> [(0, .slice .shared 13 (l.map bn)),(1, .int .i64 deep),(2, .int .i64 bF),(3, .bool aR),(4, .slice (.tok 0) 16 (i.2.2.1.map dX)),(11, .int .i64 (i.2.1:Int))]) (fun i=>⟨[],[some i.2.2.2]⟩) ?_ (l,0,[],0) ⟨rfl,hR,ho,rfl⟩)
 rintro⟨rest,k,out,n⟩ ⟨h1,h2,h3,h4⟩ IH
 dsimp only at h1 h2 h3 h4
 subst h4
 have hlen:l.length<4611686018427387904:=by have:=Sm.cG l;omega
 cases rest with
 |nil=>
  have hC:=drop_nil h1
  simp only[cW]at h2
  subst h2
  repeat' (first
 |simp only[go_sem,hC,hE,hF,hS]
 |(with_reducible refine ay hQ ?_;exact aK))
 | cons v rest=>
  obtain⟨hE,g2,hC,g4⟩:=drop_cons h1
  have bm:k<4611686018427387904:=by omega
  have hv:=Sm.bX (zae hE)
  have oB:Sm.aQ v.bb<N∧Sm.aQ v.aR<N:=by
   obtain⟨_,_,_,_,_,_,_,_,_,_⟩:=v
   simp only[Sm.size]at hv ⊢;omega
  simp only[cW]at h2
  by_cases hc:out.length≤200
  ·have c1:decide ((out.length:Int)≤200)=true:=by simp;omega
   simp only[c1,↓reduceIte,I6]at h2
   have hF:(out.length+1)*233≤bh:=by unfold bh;omega
   have ew:(out++ [(⟨v,deep,bF,aR⟩:It)]).length≤201:=by simp;omega
   have hw:IntKind.wrap .i64 (deep+1)=deep+1:=cL (by omega) (by omega)
   by_cases ahO:deep≤12
   ·have c2:decide (deep≤12)=true:=by simp;omega
    simp only[c2,↓reduceIte]at h2
    have f1:=fun {s:St} {t:Nat} (ht:s.aE[t]? = some (some (out++ [(⟨v,deep,bF,aR⟩:It)]).length))=>ih v.bb (deep+1) v.id false _ oB.1 (by omega) (by omega) ew ht
    have f2:=fun {s:St} {t:Nat} (ht:s.aE[t]? = some (some (cW (deep+1) v.id false (out++ [(⟨v,deep,bF,aR⟩:It)]) v.bb).length))=>ih v.aR (deep+1) v.id true _ oB.2 (by omega) (by omega) (kU _ _ _ _ ew _) ht
    simp only[zag,zaf,zah,E5,zak,zal,zax]at f1
    repeat' (first
 |simp only[go_sem,hC,hE,hF,hS,c1,c2,hw,cD]
 |(with_reducible refine CU (f1 (by with_unfolding_all rfl)) ?_)
 |(with_reducible refine CU (f2 (by with_unfolding_all rfl)) ?_)
 | (with_reducible refine ay hQ ?_;exact aK))
    refine b9 0 1 ?_ ?_ (IH (rest,k+1,_,_) ⟨g2,h2,kU _ _ _ _ (kU _ _ _ _ ew _) _,rfl⟩ (zac _))
    ·(simp only[go_sem,hC,hE,hF,hS,az bm];try exact aT)
    ·(simp only[go_sem,hC,hE,hF,hS,az bm];try exact aT)
   ·have c2:decide (deep≤12)=false:=by simp;omega
    simp only[c2,zaa,↓reduceIte]at h2
    repeat' (first
 |simp only[go_sem,hC,hE,hF,hS,c1,c2,cD]
 | (with_reducible refine ay hQ ?_;exact aK))
    refine b9 0 1 ?_ ?_ (IH (rest,k+1,out++ [⟨v,deep,bF,aR⟩],out.length+1) ⟨g2,h2,ew,by simp⟩ (zac _))
    ·(simp only[go_sem,hC,hE,hF,hS,az bm,E5,zag,zaf,zah];try exact aT)
    ·(simp only[go_sem,hC,hE,hF,hS,az bm,E5,zag,zaf,zah];try exact aT)
  ·have c1:decide ((out.length:Int)≤200)=false:=by simp;omega
   simp only[c1,zaa,↓reduceIte]at h2
   subst h2
   repeat' (first
 |simp only[go_sem,hC,hE,hF,hS,c1]
 |(with_reducible refine ay hQ ?_;exact aK))
theorem xJ {f:Pc} (hs:Sm.aQ f.body<4611686018427387000) (s:St):aC Tryz.prog 83 [.agg (cf f)] s (.slice .shared 16 (f.flat.map dX)) s:=by
 refine aC.pure ?_ (by simp only[D.bP,D.ok,qL];rfl) (by simp[D.ok,Tag.ok,Bd]) s
 have h:=fun s=>VY hs s
 unfold S0
 refine aC.go G6.h rfl fun B Q hB hQ=>?_
 have⟨hC,hE,hF,hS⟩:=bt
 repeat' (first
 |simp only[go_sem,hC,hE,hF,hS,Pc.flat]
 |(with_reducible refine CU (h _) ?_)
 |(with_reducible first|refine aX fun hc=>?_|refine aY fun hc=>?_|refine aZ (fun hc=>?_) fun hc=>?_)<;>(try simp only[hc,bs,↓reduceIte]at h)<;>try simp only[hc]
 |(with_reducible refine ay hQ ?_;simp only[bp,bq,bS,bT,go_sem,hC,hE,hF,hS,Pc.flat];try exact cp))
end Go.Abs
namespace Go.Abs
set_option maxRecDepth 8000
open Go.Proofs
theorem Pc.qd (f:Pc):f.flat.length≤201:=kU _ _ _ _ (zau _) _
theorem Pa {p:Pg} (hs:Pc.aQ p.procs<4611686018427387000) (s:St):aC Tryz.prog 38 [.agg (bQ p)] s (.slice .shared 16 (p.all.map dX)) s:=by
 refine aC.pure ?_ (by simp only[D.bP,D.ok,fH];rfl) (by simp[D.ok,Tag.ok,Bd]) s
 have hlen:p.procs.length<4611686018427387904:=by have:=Pc.cG p.procs;omega
 generalize hR:p.all=R
 unfold Pg.all at hR
 unfold S0
 refine aC.go IS.h rfl fun B Q hB hQ=>?_
 have⟨hC,hE,hF,hS⟩:=bt
 repeat' (first
 |simp only[go_sem,hC,hE,hF,hS]
 |(with_reducible refine ay hQ ?_;exact aK))
 refine aV.gY 3 16 rfl ?_
 simp only[go_sem,hC,hE,hF,hS]
 refine b8 1 1 (aV.ind (ι:=List Pc×Nat×List It×Nat) (fun i=>p.procs.drop i.2.1=i.1∧allM i.2.2.1 i.1=R∧i.2.2.1.length≤200∧i.2.2.2=i.2.2.1.length) (fun i=>i.1.length)
  (fun i=> [(1, .ptr 0 0),(3, .slice (.tok 0) 16 (i.2.2.1.map dX)),(7, .slice .shared 5 (p.procs.map cf)),(8, .int .i64 (p.procs.length:Int)),(9, .int .i64 (i.2.1:Int))]) (fun i=>⟨[bQ p],[some i.2.2.2]⟩) ?_ (p.procs,0,[],0) ⟨rfl,hR,zau _,rfl⟩)
 rintro⟨rest,k,out,n⟩ ⟨h1,h,h3,h4⟩ IH
 dsimp only at h1 h h3 h4
 subst h4
 cases rest with
 |nil=>
  have hC:=drop_nil h1
  simp only[allM]at h
  subst h
  repeat' (first
 |simp only[go_sem,hC,hE,hF,hS]
 |(with_reducible refine ay hQ ?_;exact aK))
 |cons f rest=>
  obtain⟨hE,g2,hC,g4⟩:=drop_cons h1
  have bm:k<4611686018427387904:=by omega
  have hf:=Pc.bX (zae hE)
  have hb:Sm.aQ f.body<4611686018427387000:=by simp only[Pc.size]at hf;omega
  have iy:=fun s=>xJ hb s
  have alp:=f.qd
  have hF:(out.length+f.flat.length)*233≤bh:=by unfold bh;omega
  simp only[allM,zak]at h
  have cY:=fun(o:List (List D))=>Ce (size:=16) (bytes:=232) (t:=0) (rows:=out.map dX) (new:=f.flat.map dX) (g:= .shared) (s:=⟨o,[some out.length]⟩) (by simpa using hF) (by simp)
  repeat' (first
 |simp only[go_sem,hC,hE,hF,hS,cY]
 |(with_reducible refine CU (iy _) ?_)
 |(with_reducible first|refine aX fun hc=>?_|refine aY fun hc=>?_|refine aZ (fun hc=>?_) fun hc=>?_)<;>(try simp only[hc,bs,↓reduceIte]at h)<;>try simp only[hc]
 |((with_reducible refine ay hQ ?_);(try cases h);simp only[bp,bq,bS,bT,go_sem,hC,hE,hF,hS,cY];try exact cp))
  refine b9 1 1 ?_ ?_ (IH (rest,k+1,out++f.flat,out.length+f.flat.length) ⟨g2,h,by rename_i hc;simp only[decide_eq_false_iff_not]at hc;simp only[zak];omega,by simp⟩ (zac _))
  ·(simp only[go_sem,hC,hE,hF,hS,az bm];try exact aT)
  ·(simp only[go_sem,hC,hE,hF,hS,az bm];try exact aT)
structure Pg.jy (p:Pg):Prop where
 sz:p.size<4611686018427387000
 E6 : ∀ t∈p.globals,t.length<4611686018427387904
 kz : ∀ f∈p.procs,f.name.length<4611686018427387904∧(∀ t∈f.vars,t.length<4611686018427387904)∧(∀ t∈f.fin,t.length<4611686018427387904)∧∀ a∈f.params,a.name.length<4611686018427387904
 items : ∀ i∈p.all,i.s.jy
theorem I7 : ∀ (l:List Pc) (out:List It),out.length≤200→(allM out l).length≤401
 | [],out,h=>by simp only[allM];omega
 | f::l,out,h=>by
  have:=f.qd
  simp only[allM]
  split
  ·simp;omega
  ·rename_i hc
   exact I7 l _ (by simp only[decide_eq_true_eq]at hc;omega)
theorem afi {p:Pg} (hf:p.jy) (s:St):aC Tryz.prog 91 [.agg (bQ p)] s (.bool p.may) s:=by
 refine aC.pure ?_ (by simp only[D.bP,D.ok,fH];rfl) rfl s
 obtain⟨dz,pz,I8,acp⟩:=hf
 have nh:Pc.aQ p.procs<4611686018427387000:=by simp only[Pg.size]at dz;omega
 have Pb:p.globals.length<4611686018427387904:=by simp only[Pg.size]at dz;omega
 have afj:p.procs.length<4611686018427387904:=by have:=Pc.cG p.procs;omega
 have hg:=fun s=>yr Pb pz s
 have rr:=fun s=>Pa nh s
 have px:p.all.length≤401:=I7 _ _ (zau _)
 unfold S0
 generalize h:p.may=R
 unfold Pg.may at h
 refine aC.go IV.h rfl fun B Q hB hQ=>?_
 have⟨hC,hE,hF,hS⟩:=bt
 repeat' (first
 |simp only[go_sem,hC,hE,hF,hS]
 |(with_reducible refine CU (hg _) ?_)
 |(with_reducible first|refine aX fun hc=>?_|refine aY fun hc=>?_|refine aZ (fun hc=>?_) fun hc=>?_)<;>(try simp only[hc,bs,↓reduceIte]at h)<;>try simp only[hc]
 |((with_reducible refine ay hQ ?_);exact cS))
 refine b8 1 0 (aV.ind (ι:=List Pc×Nat) (fun i=>p.procs.drop i.2=i.1∧(if !(Pc.kz i.1)then false else if decide ((p.all.length:Int) > 200)then false else It.cJ 0 p.all)=R) (fun i=>i.1.length)
  (fun i=> [(1, .ptr 0 0),(26, .slice .shared 5 (p.procs.map cf)),(27, .int .i64 (p.procs.length:Int)),(28, .int .i64 (i.2:Int))]) (fun i=>⟨[bQ p],[]⟩) ?_ (p.procs,0) ⟨rfl,h⟩)
 rintro⟨rest,k⟩ ⟨h1,h⟩ IH
 dsimp only at h1 h
 cases rest with
 |nil=>
  have hC:=drop_nil h1
  simp only[Pc.kz,zan,zaa,↓reduceIte]at h
  repeat' (first
 |simp only[go_sem,hC,hE,hF,hS]
 |(with_reducible refine CU (rr _) ?_)
 |(with_reducible first|refine aX fun hc=>?_|refine aY fun hc=>?_|refine aZ (fun hc=>?_) fun hc=>?_)<;>(try simp only[hc,bs,↓reduceIte]at h)<;>try simp only[hc]
 |((with_reducible refine ay hQ ?_);exact cS)
 | (cases h;done))
  clear IH
  refine b8 1 0 (aV.ind (ι:=List It×Nat) (fun i=>p.all.drop i.2=i.1∧It.cJ i.2 i.1=R) (fun i=>i.1.length)
   (fun i=> [(1, .ptr 0 0),(7, .slice .shared 16 (p.all.map dX)),(79, .int .i64 (p.all.length:Int)),(80, .int .i64 (i.2:Int))]) (fun i=>⟨[bQ p],[]⟩) ?_ (p.all,0) ⟨rfl,h⟩)
  rintro⟨rest,k⟩ ⟨h1,h⟩ IH
  dsimp only at h1 h
  cases rest with
  |nil=>
   have hC:=drop_nil h1
   simp only[It.cJ]at h
   repeat' (first
 |simp only[go_sem,hC,hE,hF,hS]
 |(with_reducible first|refine aX fun hc=>?_|refine aY fun hc=>?_|refine aZ (fun hc=>?_) fun hc=>?_)<;>(try simp only[hc,bs,↓reduceIte]at h)<;>try simp only[hc]
 |((with_reducible refine ay hQ ?_);exact cS)
 | (cases h;done))
  |cons i rest=>
   obtain⟨hE,g2,hC,g4⟩:=drop_cons h1
   have hi:=fun s=>DI (acp i (zae hE)) s
   have hF:k<4611686018427387904:=by omega
   simp only[It.cJ]at h
   repeat' (first
 |simp only[go_sem,hC,hE,hF,hS,az hF]
 |(with_reducible refine CU (hi _) ?_)
 |(with_reducible first|refine aX fun hc=>?_|refine aY fun hc=>?_|refine aZ (fun hc=>?_) fun hc=>?_)<;>(try simp only[hc,bs,↓reduceIte]at h)<;>try simp only[hc]
 |((with_reducible refine ay hQ ?_);(try cases h);simp only[bp,bq,bS,bT,go_sem,hC,hE,hF,hS,az hF];try exact cp)
 | (cases h;done))
   refine b9 1 0 ?_ ?_ (IH (rest,k+1) ⟨g2,h⟩ (zac _))
   ·(simp only[go_sem,hC,hE,hF,hS,az hF];try exact aT)
   ·(simp only[go_sem,hC,hE,hF,hS,az hF];try exact aT)
 |cons f rest=>
  obtain⟨hE,g2,hC,g4⟩:=drop_cons h1
  have bm:k<4611686018427387904:=by omega
  have mS:=Pc.bX (zae hE)
  simp only[Pc.size]at mS
  obtain⟨vC,hfv,za,hfp⟩:=I8 f (zae hE)
  have hn:=rL f.name vC
  have hv:=fun s=>yr (by omega) hfv s
  have he:=fun s=>yr (by omega) za s
  simp only[Pc.kz]at h
  repeat' (first
 |simp only[go_sem,hC,hE,hF,hS]
 |(with_reducible refine CU (hn _) ?_)
 |(with_reducible refine CU (hv _) ?_)
 |(with_reducible refine CU (he _) ?_)
 |(with_reducible first|refine aX fun hc=>?_|refine aY fun hc=>?_|refine aZ (fun hc=>?_) fun hc=>?_)<;>(try simp only[hc,bs,↓reduceIte]at h)<;>try simp only[hc]
 |((with_reducible refine ay hQ ?_);exact cS)
 | (cases h;done))
  refine b8 1 0 (aV.ind (ι:=List Pm×Nat) (fun i=>f.params.drop i.2=i.1∧(if !(if !(Pm.cJ i.1)then false else Pc.kz rest)then false else if decide ((p.all.length:Int) > 200)then false else It.cJ 0 p.all)=R) (fun i=>i.1.length)
   (fun i=> [(1, .ptr 0 0),(26, .slice .shared 5 (p.procs.map cf)),(27, .int .i64 (p.procs.length:Int)),(28, .int .i64 (k:Int)),(61, .slice .shared 2 (f.params.map eH)),(62, .int .i64 (f.params.length:Int)),(63, .int .i64 (i.2:Int))]) (fun i=>⟨[bQ p],[]⟩) ?_ (f.params,0) ⟨rfl,h⟩)
  rintro⟨yx,j⟩ ⟨j1,h⟩ sK
  dsimp only at j1 h
  cases yx with
  |nil=>
   have hC:=drop_nil j1
   simp only[Pm.cJ,zan,zaa,↓reduceIte]at h
   repeat' (first
 |simp only[go_sem,hC,hE,hF,hS]
 |(with_reducible first|refine aX fun hc=>?_|refine aY fun hc=>?_|refine aZ (fun hc=>?_) fun hc=>?_)<;>(try simp only[hc,bs,↓reduceIte]at h)<;>try simp only[hc]
 |((with_reducible refine ay hQ ?_);exact cS)
 | (cases h;done))
   refine b9 1 0 ?_ ?_ (IH (rest,k+1) ⟨g2,h⟩ (zac _))
   ·(simp only[go_sem,hC,hE,hF,hS,az bm];try exact aT)
   ·(simp only[go_sem,hC,hE,hF,hS,az bm];try exact aT)
  |cons a yx=>
   obtain⟨hE,b2,hC,b4⟩:=drop_cons j1
   have F0:j<4611686018427387904:=by omega
   have ha:=rL a.name (hfp a (zae hE))
   simp only[Pm.cJ]at h
   repeat' (first
 |simp only[go_sem,hC,hE,hF,hS]
 |(with_reducible refine CU (ha _) ?_)
 |(with_reducible first|refine aX fun hc=>?_|refine aY fun hc=>?_|refine aZ (fun hc=>?_) fun hc=>?_)<;>(try simp only[hc,bs,↓reduceIte]at h)<;>try simp only[hc]
 |((with_reducible refine ay hQ ?_);exact cS)
 | (cases h;done))
   refine b9 1 0 ?_ ?_ (sK (yx,j+1) ⟨b2,h⟩ (zac _))
   ·(simp only[go_sem,hC,hE,hF,hS,az F0];try exact aT)
   ·(simp only[go_sem,hC,hE,hF,hS,az F0];try exact aT)
def gate (nest:Int) (len n:Nat) (r:Bool×Nat):Bool×Nat:=if decide (nest > 12) && decide ((len:Int) > 0)then(false,n)else r
mutual
def Sm.pG (nest:Int) (n:Nat):Sm→Bool×Nat
 |⟨id,kind,labels,name,proc,x,has,args,bb,aR⟩=>
  if decide (((n+1:Nat):Int) > 200) ||id != ((n+1:Nat):Int) || !(cr labels) || !(Sm.fields ⟨id,kind,labels,name,proc,x,has,args,bb,aR⟩)then(false,n+1)
  else if !(gate (nest+1) bb.length (n+1) (Sm.eL (nest+1) (n+1) bb)).1 then(false,(gate (nest+1) bb.length (n+1) (Sm.eL (nest+1) (n+1) bb)).2)
  else gate (nest+1) aR.length (gate (nest+1) bb.length (n+1) (Sm.eL (nest+1) (n+1) bb)).2 (Sm.eL (nest+1) (gate (nest+1) bb.length (n+1) (Sm.eL (nest+1) (n+1) bb)).2 aR)
def Sm.eL (nest:Int) (n:Nat):List Sm→Bool×Nat
 | []=>(true,n)
 |s::l=>if !(Sm.pG nest n s).1 then(false,(Sm.pG nest n s).2)else Sm.eL nest (Sm.pG nest n s).2 l
end
def Sm.fW (nest:Int) (n:Nat) (l:List Sm):Bool×Nat:=gate nest l.length n (Sm.eL nest n l)
theorem E7 (nest:Int) (n:Nat) (s:Sm):Sm.pG nest n s =
 if decide (((n+1:Nat):Int) > 200) ||s.id != ((n+1:Nat):Int) || !(cr s.labels) || !(s.fields)then(false,n+1)
 else if !(Sm.fW (nest+1) (n+1) s.bb).1 then(false,(Sm.fW (nest+1) (n+1) s.bb).2)
 else Sm.fW (nest+1) (Sm.fW (nest+1) (n+1) s.bb).2 s.aR:=by
 cases s;simp only[Sm.pG,Sm.fW];rfl
mutual
def Sm.tP:Sm→Prop
 |⟨id,kind,labels,name,proc,x,has,args,bb,aR⟩=>Sm.jy ⟨id,kind,labels,name,proc,x,has,args,bb,aR⟩∧Sm.kG bb∧Sm.kG aR
def Sm.kG:List Sm→Prop
 | []=>True
 |s::l=>s.tP∧Sm.kG l
end
theorem I9 (s:Sm):s.tP↔s.jy∧Sm.kG s.bb∧Sm.kG s.aR:=by cases s;simp only[Sm.tP]
theorem DO {s:Sm} : ∀ {l:List Sm},Sm.kG l→s∈l→s.tP
 |y::l,h,m=>by
  simp only[Sm.kG]at h
  rcases zaw.1 m with rfl|m
  ·exact h.1
  ·exact DO h.2 m
mutual
theorem ZC (nest:Int) (n:Nat) : ∀ s:Sm,n≤201→(Sm.pG nest n s).2≤202∧((Sm.pG nest n s).1=true→(Sm.pG nest n s).2≤200)
 | ⟨id,kind,labels,name,proc,x,has,args,bb,aR⟩,hn=>by
  simp only[Sm.pG]
  split
  ·exact⟨by dsimp only;omega,fun h=>by cases h⟩
  rename_i hc
  simp only[zay,decide_eq_true_eq,not_or]at hc
  have jI:n+1≤200:=by omega
  have g1 : ∀ (nest:Int) (l:List Sm) (m:Nat),m≤200→(Sm.eL nest m l).2≤202∧((Sm.eL nest m l).1=true→(Sm.eL nest m l).2≤200)→
   (gate nest l.length m (Sm.eL nest m l)).2≤202∧((gate nest l.length m (Sm.eL nest m l)).1=true→(gate nest l.length m (Sm.eL nest m l)).2≤200):=by
   intro nest l m hm h
   unfold gate
   split
   ·exact⟨by dsimp only;omega,fun h=>by cases h⟩
   ·exact h
  have h1:=g1 (nest+1) bb (n+1) jI (Be (nest+1) (n+1) bb jI)
  split
  ·exact⟨h1.1,fun h=>by cases h⟩
  rename_i uk
  have h2:=h1.2 (by simpa using uk)
  exact g1 (nest+1) aR _ h2 (Be (nest+1) _ aR h2)
theorem Be (nest:Int) (n:Nat) : ∀ l:List Sm,n≤200→(Sm.eL nest n l).2≤202∧((Sm.eL nest n l).1=true→(Sm.eL nest n l).2≤200)
 | [],hn=>by simp only[Sm.eL];exact⟨by omega,fun _=>hn⟩
 |s::l,hn=>by
  simp only[Sm.eL]
  have h1:=ZC nest n s (by omega)
  split
  ·exact⟨h1.1,fun h=>by cases h⟩
  rename_i hc
  exact Be nest _ l (h1.2 (by simpa using hc))
end
theorem E8 {nest:Int} {n:Nat} {l:List Sm} (hn:n≤200):(Sm.fW nest n l).2≤202∧((Sm.fW nest n l).1=true→(Sm.fW nest n l).2≤200):=by
 unfold Sm.fW gate
 split
 ·exact⟨by dsimp only;omega,fun h=>by cases h⟩
 ·exact Be nest n l hn
theorem ZD : ∀ (m:Nat) (l:List Sm),Sm.aQ l≤m→Sm.aQ l<4611686018427387000→Sm.kG l→∀ (nest:Int) (n:Nat),0≤nest→nest≤13→n≤200→
 aC Tryz.prog 57 [.ptr 0 0, .slice .shared 13 (l.map bn), .int .i64 nest] ⟨[[.int .i64 n]],[]⟩ (.bool (Sm.fW nest n l).1) ⟨[[.int .i64 (Sm.fW nest n l).2]],[]⟩:=by
 intro m
 induction m with
 | zero=>
  intro l h hs hf nest n h0 RJ hn
  cases l with
  |nil=>
   have d1:decide ((0:Int) > 0)=false:=rfl
   have e:Sm.fW nest n [] = (true,n):=by simp[Sm.fW,gate,Sm.eL]
   have z:decide ((0:Int)<0)=false:=rfl
   rw[e]
   refine aC.go qN.h rfl fun B Q hB hQ=>?_
   have⟨hC,hE,hF,hS⟩:=bt
   repeat' (first
 |simp only[go_sem,hC,hE,hF,hS,d1,z]
 |(with_reducible refine aV.gO ?_)
 |(with_reducible first|refine aX fun hc=>?_|refine aY fun hc=>?_|refine aZ (fun hc=>?_) fun hc=>?_)<;>(try simp only[hc,bs,↓reduceIte]at h)<;>try simp only[hc]
 |(with_reducible refine ay hQ ?_;exact aK))
  |cons s l=>simp only[Sm.aQ]at h;omega
 |succ m ih=>
  intro l h hs hf nest n h0 RJ hn
  generalize hR:Sm.fW nest n l=R
  have hlen:=Sm.cG l
  unfold Sm.fW gate at hR
  have h:=hR
  refine aC.go qN.h rfl fun B Q hB hQ=>?_
  have⟨hC,hE,hF,hS⟩:=bt
  repeat' (first
 |simp only[go_sem,hC,hE,hF,hS]
 |(with_reducible first|refine aX fun hc=>?_|refine aY fun hc=>?_|refine aZ (fun hc=>?_) fun hc=>?_)<;>(try simp only[hc,bs,↓reduceIte]at h)<;>try simp only[hc]
 | ((with_reducible refine ay hQ ?_);(try cases h);simp only [bp,bq,bS,bT,go_sem,hC,hE,hF,hS];repeat' (first | exact Ok.out | with_reducible refine eJ ?_ ?_ | (simp;done))))
  all_goals
   have afk:l≠ []→nest≤12:=by
    intro eF
    have:l.length≠0:=by simpa using eF
    simp_all<;>omega
   refine b8 1 0 (aV.ind (ι:=List Sm×Nat×Nat) (fun i=>l.drop i.2.1=i.1∧Sm.eL nest i.2.2 i.1=R∧i.2.2≤200) (fun i=>i.1.length)
    (fun i=> [(0, .ptr 0 0),(2, .int .i64 nest),(16, .slice .shared 13 (l.map bn)),(17, .int .i64 (l.length:Int)),(18, .int .i64 (i.2.1:Int))]) (fun i=>⟨[[.int .i64 (i.2.2:Int)]],[]⟩) ?_ (l,0,n) ⟨rfl,h,hn⟩)
   rintro⟨rest,k,j⟩ ⟨h1,h,hj⟩ IH
   dsimp only at h1 h hj
   cases rest with
   |nil=>
    have hC:=drop_nil h1
    simp only[Sm.eL]at h
    repeat' (first
 |simp only[go_sem,hC,hE,hF,hS]
 |(with_reducible first|refine aX fun hc=>?_|refine aY fun hc=>?_|refine aZ (fun hc=>?_) fun hc=>?_)<;>(try simp only[hc,bs,↓reduceIte]at h)<;>try simp only[hc]
 | ((with_reducible refine ay hQ ?_);exact cS))
   | cons s rest=>
    obtain⟨hE,g2,hC,g4⟩:=drop_cons h1
    have hF:k<4611686018427387904:=by omega
    have pE:=zae hE
    have dz:=Sm.bX pE
    have alq:=afk (by rintro rfl;simp at pE)
    obtain⟨wX,tD,hfe⟩:=(I9 s).1 (DO hf pE)
    have aaT:Sm.aQ s.bb<s.size∧Sm.aQ s.aR<s.size:=by cases s;simp only[Sm.size];omega
    have w1:IntKind.wrap .i64 ((j:Int)+1)=((j+1:Nat):Int):=by rw[cL]<;>omega
    have w2:IntKind.wrap .i64 (nest+1)=nest+1:=cL (by omega) (by omega)
    have c1:=fun s=>yw wX.acd wX.LH s
    have c2:=fun s=>VU wX s
    simp only[Sm.eL,E7]at h
    by_cases F0:j+1≤200
    ·have r1:=E8 (nest:=nest+1) (l:=s.bb) F0
     have c3:=fun s' ho=>(ih s.bb (by omega) (by omega) tD (nest+1) (j+1) (by omega) (by omega) F0).fy (s:=s') (o:=0) (by simp[D.bP,D.ok,lz,Tag.ok]) rfl rfl rfl ho
     by_cases pO:(Sm.fW (nest+1) (j+1) s.bb).1=true
     ·have c4:=fun s' ho=>(ih s.aR (by omega) (by omega) hfe (nest+1) _ (by omega) (by omega) (r1.2 pO)).fy (s:=s') (o:=0) (by simp [D.bP,D.ok,lz,Tag.ok]) rfl rfl rfl ho
      have r2:=E8 (nest:=nest+1) (l:=s.aR) (r1.2 pO)
      simp only[pO]at c3
      simp only[pO,zan,zaa,↓reduceIte]at h
      repeat' (first
 |simp only[go_sem,hC,hE,hF,hS,w1,w2,pO]
 |(with_reducible refine CU (c1 _) ?_)
 |(with_reducible refine CU (c2 _) ?_)
 |(with_reducible refine CU (c3 _ rfl) ?_)
 |(with_reducible refine CU (c4 _ rfl) ?_)
 |(with_reducible first|refine aX fun hc=>?_|refine aY fun hc=>?_|refine aZ (fun hc=>?_) fun hc=>?_)<;>(try simp only[hc,bs,↓reduceIte]at h)<;>try simp only[hc]
 |((with_reducible refine ay hQ ?_);(try cases h);simp only[bp,bq,bS,bT,go_sem,hC,hE,hF,hS,w1,w2,pO];try exact cp))
      refine b8 1 0 (IH (rest,k+1,(Sm.fW (nest+1) (Sm.fW (nest+1) (j+1) s.bb).2 s.aR).2) ⟨g2,h,r2.2 (by assumption)⟩ (zac _))
     ·have pO:(Sm.fW (nest+1) (j+1) s.bb).1=false:=by simpa using pO
      simp only[pO]at c3
      simp only[pO,zao,↓reduceIte]at h
      repeat' (first
 |simp only[go_sem,hC,hE,hF,hS,w1,w2,pO]
 |(with_reducible refine CU (c1 _) ?_)
 |(with_reducible refine CU (c2 _) ?_)
 |(with_reducible refine CU (c3 _ rfl) ?_)
 |(with_reducible first|refine aX fun hc=>?_|refine aY fun hc=>?_|refine aZ (fun hc=>?_) fun hc=>?_)<;>(try simp only[hc,bs,↓reduceIte]at h)<;>try simp only[hc]
 | ((with_reducible refine ay hQ ?_);(try cases h);simp only [bp,bq,bS,bT,go_sem,hC,hE,hF,hS,w1,w2,pO];try exact cp))
    ·have d1:decide (((j+1:Nat):Int) > 200)=true:=by simp;omega
     simp only[d1,za6,zao,↓reduceIte]at h
     repeat' (first
 |simp only[go_sem,hC,hE,hF,hS,w1,w2,d1]
 |(with_reducible refine CU (c1 _) ?_)
 |(with_reducible refine CU (c2 _) ?_)
 |(with_reducible first|refine aX fun hc=>?_|refine aY fun hc=>?_|refine aZ (fun hc=>?_) fun hc=>?_)<;>(try simp only[hc,bs,↓reduceIte]at h)<;>try simp only[hc]
 |((with_reducible refine ay hQ ?_);(try cases h);simp only[bp,bq,bS,bT,go_sem,hC,hE,hF,hS,w1,w2,d1];try exact cp))
def Pc.eL (n:Nat):List Pc→Bool
 | []=>true
 |f::l=>
  if decide ((f.params.length:Int) > 8) ||decide ((f.vars.length:Int) > 16) || !(isName f.name) || !(cr f.vars) || !(cr f.fin)then false
  else if !(Pm.cJ f.params)then false
  else if !(Sm.fW 1 n f.body).1 then false
  else Pc.eL (Sm.fW 1 n f.body).2 l
def Pg.E9 (p:Pg):Bool:=
 if decide ((p.globals.length:Int) > 16) ||decide ((p.procs.length:Int) > 16) || !(cr p.globals)then false
 else Pc.eL 0 p.procs
structure Pg.HC (p:Pg):Prop where
 sz:p.size<4611686018427387000
 E6 : ∀ t∈p.globals,t.length<4611686018427387904
 kz : ∀ f∈p.procs,f.name.length<4611686018427387904∧(∀ t∈f.vars,t.length<4611686018427387904)∧(∀ t∈f.fin,t.length<4611686018427387904)∧∀ a∈f.params,a.name.length<4611686018427387904
 body : ∀ f∈p.procs,Sm.kG f.body
theorem R1 {p:Pg} (hf:p.HC) (s:St):aC Tryz.prog 22 [.agg (bQ p)] s (.bool p.E9) s:=by
 refine aC.pure ?_ (by simp only[D.bP,D.ok,fH];rfl) rfl s
 obtain⟨dz,pz,I8,Nk⟩:=hf
 have nh:Pc.aQ p.procs<4611686018427387000:=by simp only[Pg.size]at dz;omega
 have Pb:p.globals.length<4611686018427387904:=by simp only[Pg.size]at dz;omega
 have afj:p.procs.length<4611686018427387904:=by have:=Pc.cG p.procs;omega
 have hg:=fun s=>yw Pb pz s
 unfold S0
 generalize h:p.E9=R
 unfold Pg.E9 at h
 refine aC.go IQ.h rfl fun B Q hB hQ=>?_
 have⟨hC,hE,hF,hS⟩:=bt
 repeat' (first
 |simp only[go_sem,hC,hE,hF,hS]
 |(with_reducible refine CU (hg _) ?_)
 |(with_reducible first|refine aX fun hc=>?_|refine aY fun hc=>?_|refine aZ (fun hc=>?_) fun hc=>?_)<;>(try simp only[hc,bs,↓reduceIte]at h)<;>try simp only[hc]
 |((with_reducible refine ay hQ ?_);exact cS))
 refine b8 2 0 (aV.ind (ι:=List Pc×Nat×Nat) (fun i=>p.procs.drop i.2.1=i.1∧Pc.eL i.2.2 i.1=R∧i.2.2≤200) (fun i=>i.1.length)
  (fun i=> [(1, .ptr 0 0),(3, .ptr 1 0),(27, .slice .shared 5 (p.procs.map cf)),(28, .int .i64 (p.procs.length:Int)),(29, .int .i64 (i.2.1:Int))]) (fun i=>⟨[bQ p,[.int .i64 (i.2.2:Int)]],[]⟩) ?_ (p.procs,0,0) ⟨rfl,h,zau _⟩)
 rintro⟨rest,k,n⟩ ⟨h1,h,hn⟩ IH
 dsimp only at h1 h hn
 cases rest with
 |nil=>
  have hC:=drop_nil h1
  simp only[Pc.eL]at h
  repeat' (first
 |simp only[go_sem,hC,hE,hF,hS]
 |(with_reducible first|refine aX fun hc=>?_|refine aY fun hc=>?_|refine aZ (fun hc=>?_) fun hc=>?_)<;>(try simp only[hc,bs,↓reduceIte]at h)<;>try simp only[hc]
 |((with_reducible refine ay hQ ?_);exact cS))
 |cons f rest=>
  obtain⟨hE,g2,hC,g4⟩:=drop_cons h1
  have bm:k<4611686018427387904:=by omega
  have pE:=zae hE
  have mS:=Pc.bX pE
  simp only[Pc.size]at mS
  obtain⟨vC,hfv,za,hfp⟩:=I8 f pE
  have qU:=Ag f.name vC
  have hv:=fun s=>yw (by omega) hfv s
  have he:=fun s=>yw (by omega) za s
  have hb:=fun s' o ho=>(ZD _ f.body (zaj _) (by omega) (Nk f pE) 1 n (by omega) (by omega) hn).fy (s:=s') (o:=o) (by simp[D.bP,D.ok,lz,Tag.ok]) rfl rfl rfl ho
  have hle:=E8 (nest:=1) (l:=f.body) hn
  simp only[Pc.eL]at h
  repeat' (first
 |simp only[go_sem,hC,hE,hF,hS]
 |(with_reducible refine CU (qU _) ?_)
 |(with_reducible refine CU (hv _) ?_)
 |(with_reducible refine CU (he _) ?_)
 |(with_reducible first|refine aX fun hc=>?_|refine aY fun hc=>?_|refine aZ (fun hc=>?_) fun hc=>?_)<;>(try simp only[hc,bs,↓reduceIte]at h)<;>try simp only[hc]
 |((with_reducible refine ay hQ ?_);exact cS)
 | (cases h;done))
  refine b8 3 0 (aV.ind (ι:=List Pm×Nat) (fun i=>f.params.drop i.2=i.1∧(if !(Pm.cJ i.1)then false else if !(Sm.fW 1 n f.body).1 then false else Pc.eL (Sm.fW 1 n f.body).2 rest)=R) (fun i=>i.1.length)
   (fun i=> [(1, .ptr 0 0),(3, .ptr 1 0),(5, .ptr 2 0),(27, .slice .shared 5 (p.procs.map cf)),(28, .int .i64 (p.procs.length:Int)),(29, .int .i64 (k:Int)),(62, .slice .shared 2 (f.params.map eH)),(63, .int .i64 (f.params.length:Int)),(64, .int .i64 (i.2:Int))]) (fun i=>⟨[bQ p,[.int .i64 (n:Int)],cf f],[]⟩) ?_ (f.params,0) ⟨rfl,h⟩)
  rintro⟨yx,j⟩ ⟨j1,h⟩ sK
  dsimp only at j1 h
  cases yx with
  |nil=>
   have hC:=drop_nil j1
   simp only[Pm.cJ,zan,zaa,↓reduceIte]at h
   repeat' (first
 |simp only[go_sem,hC,hE,hF,hS]
 |(with_reducible refine CU (hb _ _ rfl) ?_)
 |(with_reducible first|refine aX fun hc=>?_|refine aY fun hc=>?_|refine aZ (fun hc=>?_) fun hc=>?_)<;>(try simp only[hc,bs,↓reduceIte]at h)<;>try simp only[hc]
 |((with_reducible refine ay hQ ?_);exact cS)
 | (cases h;done))
   refine b9 2 0 ?_ ?_ (IH (rest,k+1,(Sm.fW 1 n f.body).2) ⟨g2,h,hle.2 (by assumption)⟩ (zac _))
   ·(simp only[go_sem,hC,hE,hF,hS,az bm];try exact aT)
   ·(simp only[go_sem,hC,hE,hF,hS,az bm];try exact aT)
  |cons a yx=>
   obtain⟨hE,b2,hC,b4⟩:=drop_cons j1
   have F0:j<4611686018427387904:=by omega
   have ha:=Ag a.name (hfp a (zae hE))
   simp only[Pm.cJ]at h
   repeat' (first
 |simp only[go_sem,hC,hE,hF,hS]
 |(with_reducible refine CU (ha _) ?_)
 |(with_reducible first|refine aX fun hc=>?_|refine aY fun hc=>?_|refine aZ (fun hc=>?_) fun hc=>?_)<;>(try simp only[hc,bs,↓reduceIte]at h)<;>try simp only[hc]
 |((with_reducible refine ay hQ ?_);exact cS)
 | (cases h;done))
   refine b9 3 0 ?_ ?_ (sK (yx,j+1) ⟨b2,h⟩ (zac _))
   ·(simp only[go_sem,hC,hE,hF,hS,az F0];try exact aT)
   ·(simp only[go_sem,hC,hE,hF,hS,az F0];try exact aT)
theorem yy {s:aB} (h:isName s=true):s.length≤8:=by
 cases s with
 |nil=>simp
 | cons c r=>
  simp only[isName]at h
  split at h
  ·cases h
  ·rename_i hc
   simp only[zay,decide_eq_true_eq,not_or]at hc
   simp only[zal];omega
theorem oN {t:aB} : ∀ {l:List aB},cr l=true→t∈l→isName t=true
 | s::l,h,m=>by
  simp only[cr]at h
  cases hs:isName s
  ·simp[hs]at h
  ·simp [hs]at h
   rcases zaw.1 m with rfl|m
   ·exact hs
   ·exact oN h m
theorem Ja {a:Ar} : ∀ {l:List Ar},Ar.cJ l=true→a∈l→a.may=true
 | s::l,h,m=>by
  simp only[Ar.cJ]at h
  cases hs:s.may
  ·simp[hs]at h
  ·simp [hs]at h
   rcases zaw.1 m with rfl|m
   ·exact hs
   ·exact Ja h m
theorem F1 {a:Pm} : ∀ {l:List Pm},Pm.cJ l=true→a∈l→isName a.name=true
 | s::l,h,m=>by
  simp only[Pm.cJ]at h
  cases hs:isName s.name
  ·simp[hs]at h
  ·simp [hs]at h
   rcases zaw.1 m with rfl|m
   ·exact hs
   ·exact F1 h m
mutual
theorem DP : ∀ x:Ex,x.form=true→x.texts
 | ⟨op,n,name,kids⟩,h=>by
  simp only[Ex.form]at h
  split at h
  ·cases h
  ·rename_i hc
   refine⟨?_,BM kids h⟩
   simp only[zay,zaq,zaG,not_or,not_and,za4]at hc
   cases hn:(name == [])
   ·have:=yy (hc.2 hn);omega
   ·simp at hn;subst hn;simp
theorem BM : ∀ l:List Ex,Ex.lW l=true→Ex.xD l
 | [],_=>trivial
 | x::l,h=>by
  simp only[Ex.lW]at h
  cases hx:x.form
  ·simp[hx]at h
  ·simp [hx]at h
   exact⟨DP x hx,BM l h⟩
end
theorem F2 {x:Ex} (h:x.may=true):x.texts:=by
 unfold Ex.may at h
 simp only[zaq]at h
 exact DP x h.2
theorem DQ {x:Ex} (h:x.none=true):x.texts:=by
 obtain⟨op,n,name,kids⟩:=x
 simp[Ex.none]at h
 obtain⟨⟨_,h1⟩,h2⟩:=h
 subst h1 h2
 exact⟨by simp,trivial⟩
mutual
theorem R3 {deep bF:Int} {aR:Bool} {out:List It} {i:It} : ∀ s:Sm,i∈ff deep bF aR out s→i∈out∨i.s.size≤s.size
 | ⟨id,kind,labels,name,proc,x,has,args,bb,e⟩,h=>by
  simp only[ff]at h
  have key:i∈out++ [(⟨⟨id,kind,labels,name,proc,x,has,args,bb,e⟩,deep,bF,aR⟩:It)]→i∈out∨i.s.size≤(⟨id,kind,labels,name,proc,x,has,args,bb,e⟩:Sm).size:=by
   intro h
   rcases zaB.1 h with h|h
   ·exact .inl h
   ·simp at h;subst h;exact .inr (zaj _)
  split at h
  ·rcases vD e h with h | h
   ·rcases vD bb h with h | h
    ·exact key h
    ·right;simp only[Sm.size];omega
   ·right;simp only[Sm.size];omega
  ·exact key h
theorem vD {deep bF:Int} {aR:Bool} {out:List It} {i:It} : ∀ l:List Sm,i∈cW deep bF aR out l→i∈out∨i.s.size<Sm.aQ l
 | [],h=>by simp only[cW]at h;exact .inl h
 | s::l,h=>by
  simp only[cW]at h
  split at h
  ·rcases vD l h with h | h
   ·rcases R3 s h with h | h
    ·exact .inl h
    ·right;simp only[Sm.aQ];omega
   ·right;simp only[Sm.aQ];omega
  ·exact .inl h
end
theorem Jb {i:It} : ∀ (l:List Pc) (out:List It),i∈allM out l→i∈out∨i.s.size<Pc.aQ l
 | [],out,h=>by simp only[allM]at h;exact .inl h
 | f::l,out,h=>by
  have key:i∈out++f.flat→i∈out∨i.s.size<Pc.aQ (f::l):=by
   intro h
   rcases zaB.1 h with h|h
   ·exact .inl h
   ·rcases vD _ h with h | h
    ·simp at h
    ·right;simp only[Pc.aQ,Pc.size];omega
  simp only[allM]at h
  split at h
  ·exact key h
  ·rcases Jb l _ h with h | h
   ·exact key h
   ·right;simp only[Pc.aQ];omega
theorem DR {i:It} : ∀ (l:List It) (n:Nat),It.cJ n l=true→i∈l→i.s.one=true
 | s::l,n,h,m=>by
  simp only[It.cJ]at h
  split at h
  ·cases h
  ·rename_i hc
   simp only[zay,zaG,not_or,za4]at hc
   rcases zaw.1 m with rfl|m
   ·exact hc.2
   ·exact DR l (n+1) h m
theorem Jc {s:Sm} (h:s.one=true) (hs:s.size<4611686018427387000):s.jy:=by
 unfold Sm.one at h
 split at h
 ·cases h
 split at h
 ·cases h
 split at h
 ·cases h
 split at h
 ·cases h
 rename_i c1 c2 c3 c4
 simp only[zay,zaq,zaG,not_or,not_and,za4,decide_eq_true_eq]at c1 c2 c3 c4
 obtain⟨⟨⟨⟨⟨_,_⟩,ahP⟩,cx⟩,cn⟩,_⟩:=c1
 obtain⟨c21,c22⟩:=c2
 obtain⟨⟨c31,c32⟩,c33⟩:=c3
 have nm : ∀ {t:aB},isName t=true→t.length<4611686018427387904:=fun h=>by have:=yy h;omega
 have dz:1+s.labels.length+s.x.size+Ar.aQ s.args≤s.size:=by cases s;simp only[Sm.size];omega
 have rr:=Ar.cG s.args
 refine⟨fun t ht=>nm (oN ahP ht),by omega, ?_, ?_,by omega, ?_,by omega,fun a ha=>?_⟩
 ·cases hn:s.hasName
  ·cases he:(s.name == [])
   ·exact nm (c22 ⟨hn,he⟩).2
   ·simp at he;rw[he];simp
  ·exact nm (c21 hn)
 ·cases w9:s.iI
  ·rw [w9]at c31
   have:s.proc = []:=by simpa using c31
   rw[this];simp
  ·exact nm (c32 w9)
 ·cases hx:s.mg
  ·exact DQ (cn hx)
  ·exact F2 (cx hx)
 ·have hm:=Ja c4 ha
  have F3:=Ar.bX ha
  unfold Ar.may at hm
  split at hm
  ·simp only [zaq]at hm
   exact⟨by omega,DQ hm.2,nm hm.1⟩
  ·simp only [zaq,beq_iff_eq]at hm
   exact⟨by omega,F2 hm.2,by rw[hm.1];simp⟩
theorem F4 {f:Pc} : ∀ {l:List Pc},Pc.kz l=true→f∈l→isName f.name=true∧cr f.vars=true∧cr f.fin=true∧Pm.cJ f.params=true
 |s::l,h,m=>by
  simp only[Pc.kz]at h
  split at h
  ·cases h
  split at h
  ·cases h
  rename_i c1 c2
  simp only[zay,zaG,not_or,za4]at c1 c2
  rcases zaw.1 m with rfl|m
  ·exact⟨c1.1.1.1.1,c1.1.2,c1.2,c2⟩
  ·exact F4 h m
theorem V1 {p:Pg} (h:p.may=true) (hs:p.size<4611686018427387000):p.jy:=by
 unfold Pg.may at h
 split at h
 ·cases h
 split at h
 ·cases h
 split at h
 ·cases h
 rename_i c1 c2 c3
 simp only[zay,zaG,not_or,za4]at c1 c2
 have nm : ∀ {t:aB},isName t=true→t.length<4611686018427387904:=fun h=>by have:=yy h;omega
 refine⟨hs,fun t ht=>nm (oN c1.2 ht),fun f hf=>?_,fun i hi=>?_⟩
 ·obtain⟨a,b,c,d⟩:=F4 c2 hf
  exact⟨nm a,fun t ht=>nm (oN b ht),fun t ht=>nm (oN c ht),fun t ht=>nm (F1 d ht)⟩
 ·refine Jc (DR _ _ h hi) ?_
  rcases Jb _ _ hi with h1|h1
  ·simp at h1
  ·simp only[Pg.size]at hs;omega
theorem R4 {t:aB} (h:isName t=true):t≠ []:=by rintro rfl;cases h
theorem V2 (op n:Int) (name:aB) (kids:List Ex):Ex.form ⟨op,n,name,kids⟩=true↔
 jH op=(kids.length:Int)∧(op=1∨n=0)∧0≤n∧(op=2↔name≠ [])∧(name = []∨isName name=true)∧Ex.lW kids=true:=by
 simp only[Ex.form]
 split
 ·rename_i h
  simp only[zay,zaq,bne_iff_ne,ne_eq,decide_eq_true_eq,zaG]at h
  refine⟨fun h=>(Bool.false_ne_true h).elim,fun⟨h1,h2,h3,h4,h5,_⟩=>?_⟩
  exfalso
  rcases h with (((h|h)|h)|h)|h
  ·exact h h1
  ·rcases h2 with h2 | h2
   ·exact h.1 h2
   ·exact h.2 h2
  ·omega
  ·by_cases h2:op=2<;>cases name<;>simp_all
  ·rcases h5 with h5 | h5
   ·subst h5;simp at h
   ·rw[h5]at h;simp at h
 ·rename_i h
  simp only[zay,zaq,bne_iff_ne,ne_eq,decide_eq_true_eq,zaG,not_or,not_and,Decidable.not_not,za4]at h
  obtain⟨⟨⟨⟨h1,h2⟩,h3⟩,h4⟩,h5⟩:=h
  refine⟨fun h=>⟨h1, ?_,by omega, ?_, ?_,h⟩,fun h=>h.2.2.2.2.2⟩
  ·by_cases h:op=1
   ·exact .inl h
   ·exact .inr (h2 h)
  ·by_cases h2:op=2<;>cases name<;>simp_all
  ·cases name with
   |nil=>exact .inl rfl
   |cons c r=>exact .inr (h5 rfl)
theorem acs (op n:Int) (name:aB) (kids:List Ex) (k:Int):Ex.dp k ⟨op,n,name,kids⟩=true↔
 1≤k∧(kids.length:Int)=jH op∧(if op=1 then 0≤n∧name = []else if op=2 then n=0∧isName name=true else n=0∧name = []∧Ex.DM (k - 1) kids=true):=by
 simp only[Ex.dp]
 split
 ·rename_i h
  simp only[zay,decide_eq_true_eq,bne_iff_ne,ne_eq]at h
  refine⟨fun h=>(Bool.false_ne_true h).elim,fun⟨h1,h2,_⟩=>?_⟩
  rcases h with h|h
  ·omega
  ·exact(h h2).elim
 rename_i h
 simp only[zay,decide_eq_true_eq,bne_iff_ne,ne_eq,not_or,Decidable.not_not]at h
 have h1:1≤k:=by omega
 simp only[h1,h.2,true_and]
 by_cases o1:op=1
 ·subst o1
  cases name<;>simp
 ·have o1' : ¬ (op==1)=true:=by simpa using o1
  rw[if_neg o1',if_neg o1]
  by_cases o2:op=2
  ·subst o2;simp
  ·have o2' : ¬ (op==2)=true:=by simpa using o2
   rw[if_neg o2',if_neg o2]
   by_cases hn:n=0
   ·subst hn
    cases name<;>simp
   ·simp[hn]
mutual
theorem Yf : ∀ (x:Ex) (k:Int),0≤k→(x.dp k=true↔(x.depth:Int)≤k∧x.form=true)
 | ⟨op,n,name,kids⟩,k,hk=>by
  rw[acs,V2]
  have hd:Ex.depth ⟨op,n,name,kids⟩=Ex.gD kids+1:=by simp only[Ex.depth]
  rw[hd]
  by_cases h1:1≤k
  ·have ih:=R5 kids (k - 1) (by omega)
   by_cases o1:op=1
   ·subst o1
    have ha:jH 1=0:=rfl
    rw[ha,if_pos rfl]
    constructor
    ·rintro⟨_,h2,h3,h4⟩
     have:kids = []:=zbi (by omega)
     subst this;subst h4
     simp[Ex.gD,Ex.lW,h3];omega
    ·rintro⟨h2,h3,_,h4,h5,_⟩
     refine⟨h1,h3.symm,h4, ?_⟩
     cases name
     ·rfl
     ·simp at h5
   ·rw [if_neg o1]
    by_cases o2:op=2
    ·subst o2
     have ha:jH 2=0:=rfl
     rw[ha,if_pos rfl]
     constructor
     ·rintro⟨_,h2,h3,h4⟩
      have:kids = []:=zbi (by omega)
      subst this;subst h3
      have:=R4 h4
      simp[Ex.gD,Ex.lW,h4,this];omega
     ·rintro⟨h2,h3,h4,_,h5,h6,_⟩
      refine⟨h1,h3.symm,h4.resolve_left o1, ?_⟩
      exact h6.resolve_left (h5.1 rfl)
    ·rw [if_neg o2,ih]
     constructor
     ·rintro⟨_,h2,h3,h4,h5,h6⟩
      subst h3;subst h4
      exact⟨by omega,h2.symm, .inr rfl,za9 _,by simp[o2], .inl rfl,h6⟩
     ·rintro⟨h2,h3,h4,_,h5,h6,h7⟩
      refine⟨h1,h3.symm,h4.resolve_left o1, ?_,by omega,h7⟩
      exact Decidable.byContradiction fun h=>o2 (h5.2 h)
  ·constructor
   ·rintro⟨h,_⟩;exact(h1 h).elim
   ·rintro⟨h,_⟩;omega
theorem R5 : ∀ (l:List Ex) (k:Int),0≤k→(Ex.DM k l=true↔(Ex.gD l:Int)≤k∧Ex.lW l=true)
 | [],k,hk=>by simp[Ex.DM,Ex.gD,Ex.lW,hk]
 | x::l,k,hk=>by
  have h1:=Yf x k hk
  have h2:=R5 l k hk
  have hd:Ex.gD (x::l)=max x.depth (Ex.gD l):=by simp only[Ex.gD]
  rw[hd]
  simp only[Ex.DM,Ex.lW]
  cases hx:Ex.dp k x
  ·simp only [zao, ↓reduceIte,zaa,false_iff,not_and]
   intro h3
   have : ¬ ((x.depth:Int)≤k∧x.form=true):=by rw[← h1,hx];simp
   have hf:x.form=false:=by
    cases hf:x.form
    ·rfl
    ·exact(this ⟨by omega,hf⟩).elim
   simp[hf]
  ·have:=h1.1 hx
   simp only[zan,zaa,↓reduceIte,this.2,h2]
   have h3:=this.1
   refine and_congr_left fun _=>?_
   omega
end
theorem R6 (x:Ex):x.dp 20=x.may:=by
 rw[Bool.eq_iff_iff,Yf x 20 (by omega)]
 unfold Ex.may
 simp only[zaq,decide_eq_true_eq]
 refine and_congr_left fun _=>?_
 omega
theorem F5 (x:Ex) (b:Bool):uG x b=if b then x.may else x.none:=by
 unfold uG
 rw[R6]
 cases b<;>simp
theorem F6 (t:aB) (b:Bool):lZ t b=if b then isName t else t == []:=by
 unfold lZ
 cases b<;>simp
theorem BN : ∀ l:List Ar,o9 l=Ar.cJ l
 | []=>rfl
 |a::l=>by
  simp only[o9,Ar.cJ,Ar.may,F5,F6,BN l]
  grind
theorem aa6 {α:Type} (l:List α):((l.length:Int)==0) = !(decide ((l.length:Int) > 0)):=by
 cases l with
 |nil=>rfl
 |cons a l=>
  have h1:(((a::l).length:Int)==0)=false:=by simp only[zal,beq_eq_false_iff_ne];omega
  have h2:decide (((a::l).length:Int) > 0)=true:=by simp only[zal,decide_eq_true_eq];omega
  rw[h1,h2];rfl
theorem DS (s:Sm):s.one=(cr s.labels && s.fields):=by
 have hk:s.kind=1∨s.kind=2∨s.kind=3∨s.kind=4∨s.kind=5∨s.kind=6∨s.kind=7∨s.kind=8∨s.kind=9∨s.kind=10∨s.kind<1∨s.kind > 10:=by omega
 unfold Sm.one Sm.fields Sm.flags Sm.mg Sm.hasName Sm.iI
 have p1:isName [] = false:=rfl
 rcases hk with h|h|h|h|h|h|h|h|h|h|h|h
 all_goals
  simp only[h,aa6,BN,F5,F6,Sm.HA,Sm.Hz]
  grind
mutual
def Ex.im (out:List aB):Ex→List aB
 |⟨op,_,name,kids⟩=>Ex.fT (if op==2 && !(dq out name)then out++ [name]else out) kids
def Ex.fT (out:List aB):List Ex→List aB
 | []=>out
 |x::l=>Ex.fT (Ex.im out x) l
end
def Ex.names (x:Ex):List aB:=if x.may then x.im []else []
mutual
theorem mj (out:List aB) : ∀ x:Ex,(Ex.im out x).length≤out.length+x.size
 |⟨op,n,name,kids⟩=>by
  simp only[Ex.im,Ex.size]
  have h:=F7 (if op==2 && !(dq out name)then out++ [name]else out) kids
  refine zaN h ?_
  split<;>simp<;>omega
theorem F7 (out:List aB) : ∀ l:List Ex,(Ex.fT out l).length≤out.length+Ex.aQ l
 | []=>by simp[Ex.fT,Ex.aQ]
 |x::l=>by
  simp only[Ex.fT,Ex.aQ]
  have h1:=mj out x
  have h2:=F7 (Ex.im out x) l
  omega
end
def l5 (out:List aB) (x:aB):List aB:=if dq out x then out else out++ [x]
def qV (x:aB):List aB→Bool
 | []=>false
 |s::l=>if s==x then true else qV x l
theorem Ah (x:aB) : ∀ l:List aB,qV x l=dq l x
 | []=>rfl
 | s::l=>by
  have h1:=fS (s::l) x
  have h2:=fS l x
  have h3:=Ah x l
  simp only[qV]
  by_cases e:s=x
  ·subst e;simp only[beq_self_eq_true,if_true];exact(h1.2 zaE).symm
  ·have e':(s==x)=false:=by simp [e]
   simp only[e',zaa,if_false,h3]
   cases ha:dq l x<;>cases hb:dq (s::l) x<;>simp_all [Ne.symm e]
theorem V3 {out:List aB} (hl:out.length<1000000000) (x:aB):aC Tryz.prog 208 [.slice (.tok 0) 1 (out.map encStr), .str x] ⟨[],[some out.length]⟩ (.slice (.tok 0) 1 ((l5 out x).map encStr)) ⟨[],[some (l5 out x).length]⟩:=by
 rw[l5, ← Ah]
 cases h:qV x out
 all_goals
  simp only[zaa,if_false,if_true]
  refine aC.go vy.h rfl fun B Q hB hQ=>?_
  have⟨hC,hE,hF,hS⟩:=bt
  have hF:(out.length+1)*17≤bh:=by unfold bh;omega
  repeat' (first
 |simp only[go_sem,hC,hE,hF,hS]
 |(with_reducible first|refine aX fun hc=>?_|refine aY fun hc=>?_|refine aZ (fun hc=>?_) fun hc=>?_)<;>(try simp only[hc,bs,↓reduceIte]at h)<;>try simp only[hc]
 |((with_reducible refine ay hQ ?_);exact cS)
 | (cases h;done))
  refine b8 0 1 (aV.ind (ι:=List aB×Nat) (fun i=>out.drop i.2=i.1∧qV x i.1=_) (fun i=>i.1.length)
   (fun i=> [(0, .slice (.tok 0) 1 (out.map encStr)),(1, .str x),(7, .slice (.tok 0) 1 (out.map encStr)),(8, .int .i64 (out.length:Int)),(9, .int .i64 (i.2:Int))]) (fun i=>⟨[],[some out.length]⟩) ?_ (out,0) ⟨rfl,h⟩)
  rintro⟨rest,k⟩ ⟨h1,h⟩ IH
  dsimp only at h1 h
  cases rest with
  |nil=>
   have hC:=drop_nil h1
   simp only[qV]at h
   repeat' (first
 |simp only[go_sem,hC,hE,hF,hS,zag,zaf,zah,zak,zal,zax,encStr]
 |(with_reducible first|refine aX fun hc=>?_|refine aY fun hc=>?_|refine aZ (fun hc=>?_) fun hc=>?_)<;>(try simp only[hc,bs,↓reduceIte]at h)<;>try simp only[hc]
 |((with_reducible refine ay hQ ?_);(try cases h);simp only[bp,bq,bS,bT,go_sem,hC,hE,hF,hS,zag,zaf,zah,zak,zal,zax,encStr];try exact cp)
 | (cases h;done))
  |cons a rest=>
   obtain⟨hE,g2,hC,g4⟩:=drop_cons h1
   have bm:k<4611686018427387904:=by omega
   simp only[qV]at h
   repeat' (first
 |simp only[go_sem,hC,hE,hF,hS]
 |(with_reducible first|refine aX fun hc=>?_|refine aY fun hc=>?_|refine aZ (fun hc=>?_) fun hc=>?_)<;>(try simp only[hc,bs,↓reduceIte]at h)<;>try simp only[hc]
 |((with_reducible refine ay hQ ?_);exact cS)
 | (cases h;done))
   refine b9 0 1 ?_ ?_ (IH (rest,k+1) ⟨g2,h⟩ (zac _))
   ·(simp only[go_sem,hC,hE,hF,hS,az bm];try exact aT)
   ·(simp only[go_sem,hC,hE,hF,hS,az bm];try exact aT)
theorem V4 {out:List aB} (hl:out.length<1000000000) (x:aB) {s:St} {t:Nat} (ht:s.aE[t]? = some (some out.length)):aC Tryz.prog 208 [.slice (.tok t) 1 (out.map encStr), .str x] s (.slice (.tok t) 1 ((l5 out x).map encStr)) ⟨s.aw,s.aE.set t (some (l5 out x).length)⟩:=
 (V3 hl x).NF (pre:= []) (post:= [_]) rfl rfl (da out) (da _) ht
abbrev R7 (N:Nat):Prop:=∀ (x:Ex),x.size≤N→∀ out:List aB,out.length+x.size≤1000000000→∀ {s:St} {t:Nat},s.aE[t]? = some (some out.length)→
 aC Tryz.prog 192 [.agg (bI x), .slice (.tok t) 1 (out.map encStr)] s (.slice (.tok t) 1 ((x.im out).map encStr)) ⟨s.aw,s.aE.set t (some (x.im out).length)⟩
theorem acu {N:Nat} (ih:R7 N) {op m:Int} {name:aB} {kids:List Ex} (h:Ex.size ⟨op,m,name,kids⟩≤N+1) {out:List aB} (ho:out.length+Ex.size ⟨op,m,name,kids⟩≤1000000000) :
 aC Tryz.prog 192 [.agg (bI ⟨op,m,name,kids⟩), .slice (.tok 0) 1 (out.map encStr)] ⟨[],[some out.length]⟩ (.slice (.tok 0) 1 ((Ex.im out ⟨op,m,name,kids⟩).map encStr)) ⟨[],[some (Ex.im out ⟨op,m,name,kids⟩).length]⟩:=by
 obtain⟨R,hG⟩ : ∃ R,Ex.im out ⟨op,m,name,kids⟩=R:=⟨_,rfl⟩
 rw[hG]
 simp only[Ex.im]at hG
 simp only[Ex.size]at h ho
 have hlen:kids.length<1000000000:=by have:=Ex.cG kids;omega
 have hk : ∀ y∈kids,∀ out:List aB,out.length+y.size≤1000000000→∀ {s:St} {t:Nat},s.aE[t]? = some (some out.length)→
  aC Tryz.prog 192 [.agg (bI y), .slice (.tok t) 1 (out.map encStr)] s (.slice (.tok t) 1 ((y.im out).map encStr)) ⟨s.aw,s.aE.set t (some (y.im out).length)⟩:=fun y hy out ho=>
  ih y (by have:=Ex.bX hy;omega) out ho
 refine aC.go qP.h rfl fun B Q hB hQ=>?_
 have⟨hC,hE,hF,hS⟩:=bt
 have hF:(out.length+1)*17≤bh:=by unfold bh;omega
 rcases zad (op==2)with b1|b1
 ·rcases zad (dq out name)with b2 | b2
  ·simp only [b1,b2,zan,zbf,zaa,if_false]at hG
   repeat' (first
 |simp only[go_sem,hC,hE,hF,hS,b1,b2]
 |(with_reducible refine CU (jl (l:=out) (by omega) name _ _) ?_)
 | (with_reducible refine ay hQ ?_;exact aK))
   refine b8 1 1 (aV.ind (ι:=List Ex×Nat×List aB×Nat) (fun i=>kids.drop i.2.1=i.1∧Ex.fT i.2.2.1 i.1=R∧i.2.2.1.length+Ex.aQ i.1≤1000000000∧i.2.2.2=i.2.2.1.length) (fun i=>i.1.length)
    (fun i=> [(1, .slice (.tok 0) 1 (i.2.2.1.map encStr)),(2, .ptr 0 0),(23, .slice .shared 4 (kids.map bI)),(24, .int .i64 (kids.length:Int)),(25, .int .i64 (i.2.1:Int))]) (fun i=>⟨[bI ⟨op,m,name,kids⟩],[some i.2.2.2]⟩) ?_ (kids,0,out,out.length) ⟨rfl,hG,by simp;omega,by simp⟩)
   rintro⟨rest,k,bK,n'⟩ ⟨h1,h2,h3,h4⟩ IH
   dsimp only at h1 h2 h3 h4
   subst h4
   cases rest with
   |nil=>
    have hC:=drop_nil h1
    simp only[Ex.fT]at h2
    subst h2
    repeat' (first
 |simp only[go_sem,hC,hE,hF,hS]
 | (with_reducible refine ay hQ ?_;exact aK))
   |cons y rest=>
    obtain⟨hE,g2,hC,g4⟩:=drop_cons h1
    have bm:k<4611686018427387904:=by omega
    simp only[Ex.fT]at h2
    simp only[Ex.aQ]at h3
    have hy:=fun {s:St} {t:Nat} (ht:s.aE[t]? = some (some bK.length))=>hk y (zae hE) bK (by omega) ht
    have hl:=mj bK y
    repeat' (first
 |simp only[go_sem,hC,hE,hF,hS]
 |(with_reducible refine CU (hy (by with_unfolding_all rfl)) ?_)
 | (with_reducible refine ay hQ ?_;exact aK))
    refine b9 1 1 ?_ ?_ (IH (rest,k+1,_,_) ⟨g2,h2,by dsimp only;omega,rfl⟩ (zac _))
    ·(simp only[go_sem,hC,hE,hF,hS,az bm];try exact aT)
    ·(simp only[go_sem,hC,hE,hF,hS,az bm];try exact aT)
  ·simp only [b1,b2,zao,zbn,if_true]at hG
   repeat' (first
 |simp only[go_sem,hC,hE,hF,hS,b1,b2]
 |(with_reducible refine CU (jl (l:=out) (by omega) name _ _) ?_)
 | (with_reducible refine ay hQ ?_;exact aK))
   refine b9 1 1 ?_ ?_ (aV.ind (ι:=List Ex×Nat×List aB×Nat) (fun i=>kids.drop i.2.1=i.1∧Ex.fT i.2.2.1 i.1=R∧i.2.2.1.length+Ex.aQ i.1≤1000000000∧i.2.2.2=i.2.2.1.length) (fun i=>i.1.length)
    (fun i=> [(1, .slice (.tok 0) 1 (i.2.2.1.map encStr)),(2, .ptr 0 0),(23, .slice .shared 4 (kids.map bI)),(24, .int .i64 (kids.length:Int)),(25, .int .i64 (i.2.1:Int))]) (fun i=>⟨[bI ⟨op,m,name,kids⟩],[some i.2.2.2]⟩) ?_ (kids,0,(out++ [name]),(out.length+1)) ⟨rfl,hG,by simp;omega,by simp⟩)
   ·(simp only[go_sem,hC,hE,hF,hS,zag,zaf,zah,zak,zal,zax,encStr];try exact aT)
   ·(simp only[go_sem,hC,hE,hF,hS,zag,zaf,zah,zak,zal,zax,encStr];try exact aT)
   rintro⟨rest,k,bK,n'⟩ ⟨h1,h2,h3,h4⟩ IH
   dsimp only at h1 h2 h3 h4
   subst h4
   cases rest with
   |nil=>
    have hC:=drop_nil h1
    simp only[Ex.fT]at h2
    subst h2
    repeat' (first
 |simp only[go_sem,hC,hE,hF,hS]
 | (with_reducible refine ay hQ ?_;exact aK))
   |cons y rest=>
    obtain⟨hE,g2,hC,g4⟩:=drop_cons h1
    have bm:k<4611686018427387904:=by omega
    simp only[Ex.fT]at h2
    simp only[Ex.aQ]at h3
    have hy:=fun {s:St} {t:Nat} (ht:s.aE[t]? = some (some bK.length))=>hk y (zae hE) bK (by omega) ht
    have hl:=mj bK y
    repeat' (first
 |simp only[go_sem,hC,hE,hF,hS]
 |(with_reducible refine CU (hy (by with_unfolding_all rfl)) ?_)
 | (with_reducible refine ay hQ ?_;exact aK))
    refine b9 1 1 ?_ ?_ (IH (rest,k+1,_,_) ⟨g2,h2,by dsimp only;omega,rfl⟩ (zac _))
    ·(simp only[go_sem,hC,hE,hF,hS,az bm];try exact aT)
    ·(simp only[go_sem,hC,hE,hF,hS,az bm];try exact aT)
 ·simp only [b1,zaO,zaa,if_false]at hG
  repeat' (first
 |simp only[go_sem,hC,hE,hF,hS,b1]
 | (with_reducible refine ay hQ ?_;exact aK))
  refine b8 1 1 (aV.ind (ι:=List Ex×Nat×List aB×Nat) (fun i=>kids.drop i.2.1=i.1∧Ex.fT i.2.2.1 i.1=R∧i.2.2.1.length+Ex.aQ i.1≤1000000000∧i.2.2.2=i.2.2.1.length) (fun i=>i.1.length)
   (fun i=> [(1, .slice (.tok 0) 1 (i.2.2.1.map encStr)),(2, .ptr 0 0),(23, .slice .shared 4 (kids.map bI)),(24, .int .i64 (kids.length:Int)),(25, .int .i64 (i.2.1:Int))]) (fun i=>⟨[bI ⟨op,m,name,kids⟩],[some i.2.2.2]⟩) ?_ (kids,0,out,out.length) ⟨rfl,hG,by simp;omega,by simp⟩)
  rintro⟨rest,k,bK,n'⟩ ⟨h1,h2,h3,h4⟩ IH
  dsimp only at h1 h2 h3 h4
  subst h4
  cases rest with
  |nil=>
   have hC:=drop_nil h1
   simp only[Ex.fT]at h2
   subst h2
   repeat' (first
 |simp only[go_sem,hC,hE,hF,hS]
 | (with_reducible refine ay hQ ?_;exact aK))
  |cons y rest=>
   obtain⟨hE,g2,hC,g4⟩:=drop_cons h1
   have bm:k<4611686018427387904:=by omega
   simp only[Ex.fT]at h2
   simp only[Ex.aQ]at h3
   have hy:=fun {s:St} {t:Nat} (ht:s.aE[t]? = some (some bK.length))=>hk y (zae hE) bK (by omega) ht
   have hl:=mj bK y
   repeat' (first
 |simp only[go_sem,hC,hE,hF,hS]
 |(with_reducible refine CU (hy (by with_unfolding_all rfl)) ?_)
 | (with_reducible refine ay hQ ?_;exact aK))
   refine b9 1 1 ?_ ?_ (IH (rest,k+1,_,_) ⟨g2,h2,by dsimp only;omega,rfl⟩ (zac _))
   ·(simp only[go_sem,hC,hE,hF,hS,az bm];try exact aT)
   ·(simp only[go_sem,hC,hE,hF,hS,az bm];try exact aT)
theorem V5 : ∀ N,R7 N:=by
 intro N
 induction N with
 |zero=>rintro⟨op,m,name,kids⟩ h;simp only[Ex.size]at h;omega
 |succ N ih=>
  rintro⟨op,m,name,kids⟩ h out ho s t ht
  exact(acu ih h ho).NF (pre:= [_]) (post:= []) (by simp only[D.bP,D.ok,fK];rfl) rfl (da out) (da _) ht
abbrev LP (N:Nat):Prop:=∀ (x:Ex),x.size≤N→∀ out:List aB,out.length+x.size≤1000000000→∀ {s:St} {t:Nat},s.aE[t]? = some (some out.length)→
 aC Tryz.prog 175 [.agg (bI x), .slice (.tok t) 1 (out.map encStr)] s (.slice (.tok t) 1 ((x.im out).map encStr)) ⟨s.aw,s.aE.set t (some (x.im out).length)⟩
theorem ZE {N:Nat} (ih:LP N) {op m:Int} {name:aB} {kids:List Ex} (h:Ex.size ⟨op,m,name,kids⟩≤N+1) {out:List aB} (ho:out.length+Ex.size ⟨op,m,name,kids⟩≤1000000000) :
 aC Tryz.prog 175 [.agg (bI ⟨op,m,name,kids⟩), .slice (.tok 0) 1 (out.map encStr)] ⟨[],[some out.length]⟩ (.slice (.tok 0) 1 ((Ex.im out ⟨op,m,name,kids⟩).map encStr)) ⟨[],[some (Ex.im out ⟨op,m,name,kids⟩).length]⟩:=by
 obtain⟨R,hG⟩ : ∃ R,Ex.im out ⟨op,m,name,kids⟩=R:=⟨_,rfl⟩
 rw[hG]
 simp only[Ex.im]at hG
 simp only[Ex.size]at h ho
 have hlen:kids.length<1000000000:=by have:=Ex.cG kids;omega
 have hk : ∀ y∈kids,∀ out:List aB,out.length+y.size≤1000000000→∀ {s:St} {t:Nat},s.aE[t]? = some (some out.length)→
  aC Tryz.prog 175 [.agg (bI y), .slice (.tok t) 1 (out.map encStr)] s (.slice (.tok t) 1 ((y.im out).map encStr)) ⟨s.aw,s.aE.set t (some (y.im out).length)⟩:=fun y hy out ho=>
  ih y (by have:=Ex.bX hy;omega) out ho
 have oH:=fun {s:St} {t:Nat} (ht:s.aE[t]? = some (some out.length))=>V4 (out:=out) (by omega) name ht
 refine aC.go s8.h rfl fun B Q hB hQ=>?_
 have⟨hC,hE,hF,hS⟩:=bt
 have hF:(out.length+1)*17≤bh:=by unfold bh;omega
 rcases zad (op==2)with b1|b1
 ·rcases zad (dq out name)with b2 | b2
  ·simp only [b1,b2,zan,zbf,zaa,if_false]at hG
   simp only[l5,b2,if_true]at oH
   repeat' (first
 |simp only[go_sem,hC,hE,hF,hS,b1,b2]
 |(with_reducible refine CU (oH (by with_unfolding_all rfl)) ?_)
 | (with_reducible refine ay hQ ?_;exact aK))
   refine b8 1 1 (aV.ind (ι:=List Ex×Nat×List aB×Nat) (fun i=>kids.drop i.2.1=i.1∧Ex.fT i.2.2.1 i.1=R∧i.2.2.1.length+Ex.aQ i.1≤1000000000∧i.2.2.2=i.2.2.1.length) (fun i=>i.1.length)
    (fun i=> [(1, .slice (.tok 0) 1 (i.2.2.1.map encStr)),(2, .ptr 0 0),(15, .int .i64 (kids.length:Int)),(16, .int .i64 (i.2.1:Int))]) (fun i=>⟨[bI ⟨op,m,name,kids⟩],[some i.2.2.2]⟩) ?_ (kids,0,out,out.length) ⟨rfl,hG,by simp;omega,by simp⟩)
   rintro⟨rest,k,bK,n'⟩ ⟨h1,h2,h3,h4⟩ IH
   dsimp only at h1 h2 h3 h4
   subst h4
   cases rest with
   |nil=>
    have hC:=drop_nil h1
    simp only[Ex.fT]at h2
    subst h2
    repeat' (first
 |simp only[go_sem,hC,hE,hF,hS]
 | (with_reducible refine ay hQ ?_;exact aK))
   |cons y rest=>
    obtain⟨hE,g2,hC,g4⟩:=drop_cons h1
    have bm:k<4611686018427387904:=by omega
    simp only[Ex.fT]at h2
    simp only[Ex.aQ]at h3
    have hy:=fun {s:St} {t:Nat} (ht:s.aE[t]? = some (some bK.length))=>hk y (zae hE) bK (by omega) ht
    have hl:=mj bK y
    repeat' (first
 |simp only[go_sem,hC,hE,hF,hS]
 |(with_reducible refine CU (hy (by with_unfolding_all rfl)) ?_)
 | (with_reducible refine ay hQ ?_;exact aK))
    refine b9 1 1 ?_ ?_ (IH (rest,k+1,_,_) ⟨g2,h2,by dsimp only;omega,rfl⟩ (zac _))
    ·(simp only[go_sem,hC,hE,hF,hS,az bm];try exact aT)
    ·(simp only[go_sem,hC,hE,hF,hS,az bm];try exact aT)
  ·simp only [b1,b2,zao,zbn,if_true]at hG
   simp only[l5,b2,zaa,if_false,zak,zal,zax]at oH
   repeat' (first
 |simp only[go_sem,hC,hE,hF,hS,b1,b2]
 |(with_reducible refine CU (oH (by with_unfolding_all rfl)) ?_)
 | (with_reducible refine ay hQ ?_;exact aK))
   refine b9 1 1 ?_ ?_ (aV.ind (ι:=List Ex×Nat×List aB×Nat) (fun i=>kids.drop i.2.1=i.1∧Ex.fT i.2.2.1 i.1=R∧i.2.2.1.length+Ex.aQ i.1≤1000000000∧i.2.2.2=i.2.2.1.length) (fun i=>i.1.length)
    (fun i=> [(1, .slice (.tok 0) 1 (i.2.2.1.map encStr)),(2, .ptr 0 0),(15, .int .i64 (kids.length:Int)),(16, .int .i64 (i.2.1:Int))]) (fun i=>⟨[bI ⟨op,m,name,kids⟩],[some i.2.2.2]⟩) ?_ (kids,0,(out++ [name]),(out.length+1)) ⟨rfl,hG,by simp;omega,by simp⟩)
   ·(simp only[go_sem,hC,hE,hF,hS,zag,zaf,zah,zak,zal,zax,encStr];try exact aT)
   ·(simp only[go_sem,hC,hE,hF,hS,zag,zaf,zah,zak,zal,zax,encStr];try exact aT)
   rintro⟨rest,k,bK,n'⟩ ⟨h1,h2,h3,h4⟩ IH
   dsimp only at h1 h2 h3 h4
   subst h4
   cases rest with
   |nil=>
    have hC:=drop_nil h1
    simp only[Ex.fT]at h2
    subst h2
    repeat' (first
 |simp only[go_sem,hC,hE,hF,hS]
 | (with_reducible refine ay hQ ?_;exact aK))
   |cons y rest=>
    obtain⟨hE,g2,hC,g4⟩:=drop_cons h1
    have bm:k<4611686018427387904:=by omega
    simp only[Ex.fT]at h2
    simp only[Ex.aQ]at h3
    have hy:=fun {s:St} {t:Nat} (ht:s.aE[t]? = some (some bK.length))=>hk y (zae hE) bK (by omega) ht
    have hl:=mj bK y
    repeat' (first
 |simp only[go_sem,hC,hE,hF,hS]
 |(with_reducible refine CU (hy (by with_unfolding_all rfl)) ?_)
 | (with_reducible refine ay hQ ?_;exact aK))
    refine b9 1 1 ?_ ?_ (IH (rest,k+1,_,_) ⟨g2,h2,by dsimp only;omega,rfl⟩ (zac _))
    ·(simp only[go_sem,hC,hE,hF,hS,az bm];try exact aT)
    ·(simp only[go_sem,hC,hE,hF,hS,az bm];try exact aT)
 ·simp only [b1,zaO,zaa,if_false]at hG
  repeat' (first
 |simp only[go_sem,hC,hE,hF,hS,b1]
 | (with_reducible refine ay hQ ?_;exact aK))
  refine b8 1 1 (aV.ind (ι:=List Ex×Nat×List aB×Nat) (fun i=>kids.drop i.2.1=i.1∧Ex.fT i.2.2.1 i.1=R∧i.2.2.1.length+Ex.aQ i.1≤1000000000∧i.2.2.2=i.2.2.1.length) (fun i=>i.1.length)
   (fun i=> [(1, .slice (.tok 0) 1 (i.2.2.1.map encStr)),(2, .ptr 0 0),(15, .int .i64 (kids.length:Int)),(16, .int .i64 (i.2.1:Int))]) (fun i=>⟨[bI ⟨op,m,name,kids⟩],[some i.2.2.2]⟩) ?_ (kids,0,out,out.length) ⟨rfl,hG,by simp;omega,by simp⟩)
  rintro⟨rest,k,bK,n'⟩ ⟨h1,h2,h3,h4⟩ IH
  dsimp only at h1 h2 h3 h4
  subst h4
  cases rest with
  |nil=>
   have hC:=drop_nil h1
   simp only[Ex.fT]at h2
   subst h2
   repeat' (first
 |simp only[go_sem,hC,hE,hF,hS]
 | (with_reducible refine ay hQ ?_;exact aK))
  |cons y rest=>
   obtain⟨hE,g2,hC,g4⟩:=drop_cons h1
   have bm:k<4611686018427387904:=by omega
   simp only[Ex.fT]at h2
   simp only[Ex.aQ]at h3
   have hy:=fun {s:St} {t:Nat} (ht:s.aE[t]? = some (some bK.length))=>hk y (zae hE) bK (by omega) ht
   have hl:=mj bK y
   repeat' (first
 |simp only[go_sem,hC,hE,hF,hS]
 |(with_reducible refine CU (hy (by with_unfolding_all rfl)) ?_)
 | (with_reducible refine ay hQ ?_;exact aK))
   refine b9 1 1 ?_ ?_ (IH (rest,k+1,_,_) ⟨g2,h2,by dsimp only;omega,rfl⟩ (zac _))
   ·(simp only[go_sem,hC,hE,hF,hS,az bm];try exact aT)
   ·(simp only[go_sem,hC,hE,hF,hS,az bm];try exact aT)
theorem R8 : ∀ N,LP N:=by
 intro N
 induction N with
 |zero=>rintro⟨op,m,name,kids⟩ h;simp only[Ex.size]at h;omega
 |succ N ih=>
  rintro⟨op,m,name,kids⟩ h out ho s t ht
  exact(ZE ih h ho).NF (pre:= [_]) (post:= []) (by simp only[D.bP,D.ok,fK];rfl) rfl (da out) (da _) ht
theorem Pe (x:aB) (s:St):aC Tryz.prog 208 [.slice .full 0 [], .str x] s (.slice .shared 1 [[.str x]]) s:=by
 refine aC.pure ?_ rfl rfl s
 unfold S0
 refine aC.go vy.h rfl fun B Q hB hQ=>?_
 have⟨hC,hE,hF,hS⟩:=bt
 have hF:17≤bh:=by unfold bh;omega
 repeat' (first
 |simp only[go_sem,hC,hE,hF,hS,Int.lt_irrefl,decide_false]
 |(with_reducible refine aV.gO ?_)
 |(with_reducible refine ay hQ ?_;exact aK))
theorem F8 {op m:Int} {name:aB} {kids:List Ex} (h:Ex.form ⟨op,m,name,kids⟩=true) (h2:(op==2)=true):kids = []:=by
 have e:op=2:=by simpa using h2
 subst e
 simp only[Ex.form]at h
 split at h
 ·cases h
 ·rename_i hh
  simp only[zay,not_or,bne_iff_ne,ne_eq,Decidable.not_not]at hh
  have:=hh.1.1.1.1
  have e:jH 2=0:=rfl
  rw[e]at this
  exact List.length_eq_zero_iff.1 (by omega)
theorem V6 {op m:Int} {name:aB} {kids:List Ex} (hf:(op==2)=true→kids = []) (ho:Ex.size ⟨op,m,name,kids⟩≤1000000000) (s:St) :
 aC Tryz.prog 192 [.agg (bI ⟨op,m,name,kids⟩), .slice .full 0 []] s (.slice .shared 1 ((Ex.im [] ⟨op,m,name,kids⟩).map encStr)) s:=by
 refine aC.pure ?_ (by simp only[D.bP,D.ok,fK];rfl) (by simp only[D.ok,Tag.ok,da];rfl) s
 obtain⟨R,hG⟩ : ∃ R,Ex.im [] ⟨op,m,name,kids⟩=R:=⟨_,rfl⟩
 rw[hG]
 simp only[Ex.im]at hG
 simp only[Ex.size]at ho
 have hlen:kids.length<1000000000:=by have:=Ex.cG kids;omega
 have hk : ∀ y∈kids,∀ out:List aB,out.length+y.size≤1000000000→∀ {s:St} {t:Nat},s.aE[t]? = some (some out.length)→
  aC Tryz.prog 192 [.agg (bI y), .slice (.tok t) 1 (out.map encStr)] s (.slice (.tok t) 1 ((y.im out).map encStr)) ⟨s.aw,s.aE.set t (some (y.im out).length)⟩:=fun y hy out ho=>
  V5 y.size y (zaj _) out ho
 unfold S0
 rcases zad (op==2)with b1|b1
 ·have sL:=hf b1
  subst sL
  have e:dq [] name=false:=rfl
  simp only[b1,e,zao,zbn,if_true,Ex.fT,zaR]at hG
  subst hG
  refine aC.go qP.h rfl fun B Q hB hQ=>?_
  have⟨hC,hE,hF,hS⟩:=bt
  have hF:17≤bh:=by unfold bh;omega
  repeat' (first
 |simp only[go_sem,hC,hE,hF,hS,b1,zah,zaf,zax,encStr,Int.natCast_zero,Int.lt_irrefl,decide_false]
 |(with_reducible refine CU (I4 name _ _ _) ?_)
 |(with_reducible refine aV.gO ?_)
 |(with_reducible refine ay hQ ?_;exact aK))
 ·simp only [b1,zaO,zaa,if_false]at hG
  refine aC.go qP.h rfl fun B Q hB hQ=>?_
  have⟨hC,hE,hF,hS⟩:=bt
  repeat' (first
 |simp only[go_sem,hC,hE,hF,hS,b1]
 | (with_reducible refine ay hQ ?_;exact aK))
  refine aV.gY 1 1 rfl ?_
  simp only[go_sem,hC,hE,hF,hS]
  refine b8 1 1 (aV.ind (ι:=List Ex×Nat×List aB×Nat) (fun i=>kids.drop i.2.1=i.1∧Ex.fT i.2.2.1 i.1=R∧i.2.2.1.length+Ex.aQ i.1≤1000000000∧i.2.2.2=i.2.2.1.length) (fun i=>i.1.length)
   (fun i=> [(1, .slice (.tok 0) 1 (i.2.2.1.map encStr)),(2, .ptr 0 0),(23, .slice .shared 4 (kids.map bI)),(24, .int .i64 (kids.length:Int)),(25, .int .i64 (i.2.1:Int))]) (fun i=>⟨[bI ⟨op,m,name,kids⟩],[some i.2.2.2]⟩) ?_ (kids,0,[],0) ⟨rfl,hG,by simp;omega,by simp⟩)
  rintro⟨rest,k,bK,n'⟩ ⟨h1,h2,h3,h4⟩ IH
  dsimp only at h1 h2 h3 h4
  subst h4
  cases rest with
  |nil=>
   have hC:=drop_nil h1
   simp only[Ex.fT]at h2
   subst h2
   repeat' (first
 |simp only[go_sem,hC,hE,hF,hS]
 | (with_reducible refine ay hQ ?_;exact aK))
  |cons y rest=>
   obtain⟨hE,g2,hC,g4⟩:=drop_cons h1
   have bm:k<4611686018427387904:=by omega
   simp only[Ex.fT]at h2
   simp only[Ex.aQ]at h3
   have hy:=fun {s:St} {t:Nat} (ht:s.aE[t]? = some (some bK.length))=>hk y (zae hE) bK (by omega) ht
   have hl:=mj bK y
   repeat' (first
 |simp only[go_sem,hC,hE,hF,hS]
 |(with_reducible refine CU (hy (by with_unfolding_all rfl)) ?_)
 | (with_reducible refine ay hQ ?_;exact aK))
   refine b9 1 1 ?_ ?_ (IH (rest,k+1,_,_) ⟨g2,h2,by dsimp only;omega,rfl⟩ (zac _))
   ·(simp only[go_sem,hC,hE,hF,hS,az bm];try exact aT)
   ·(simp only[go_sem,hC,hE,hF,hS,az bm];try exact aT)
theorem R9 {op m:Int} {name:aB} {kids:List Ex} (hf:(op==2)=true→kids = []) (ho:Ex.size ⟨op,m,name,kids⟩≤1000000000) (s:St) :
 aC Tryz.prog 175 [.agg (bI ⟨op,m,name,kids⟩), .slice .full 0 []] s (.slice .shared 1 ((Ex.im [] ⟨op,m,name,kids⟩).map encStr)) s:=by
 refine aC.pure ?_ (by simp only[D.bP,D.ok,fK];rfl) (by simp only[D.ok,Tag.ok,da];rfl) s
 obtain⟨R,hG⟩ : ∃ R,Ex.im [] ⟨op,m,name,kids⟩=R:=⟨_,rfl⟩
 rw[hG]
 simp only[Ex.im]at hG
 simp only[Ex.size]at ho
 have hlen:kids.length<1000000000:=by have:=Ex.cG kids;omega
 have hk : ∀ y∈kids,∀ out:List aB,out.length+y.size≤1000000000→∀ {s:St} {t:Nat},s.aE[t]? = some (some out.length)→
  aC Tryz.prog 175 [.agg (bI y), .slice (.tok t) 1 (out.map encStr)] s (.slice (.tok t) 1 ((y.im out).map encStr)) ⟨s.aw,s.aE.set t (some (y.im out).length)⟩:=fun y hy out ho=>
  R8 y.size y (zaj _) out ho
 unfold S0
 rcases zad (op==2)with b1|b1
 ·have sL:=hf b1
  subst sL
  have e:dq [] name=false:=rfl
  simp only[b1,e,zao,zbn,if_true,Ex.fT,zaR]at hG
  subst hG
  refine aC.go s8.h rfl fun B Q hB hQ=>?_
  have⟨hC,hE,hF,hS⟩:=bt
  have hF:17≤bh:=by unfold bh;omega
  repeat' (first
 |simp only[go_sem,hC,hE,hF,hS,b1,zah,zaf,zax,encStr,Int.natCast_zero,Int.lt_irrefl,decide_false]
 |(with_reducible refine CU (Pe name _) ?_)
 |(with_reducible refine aV.gO ?_)
 |(with_reducible refine ay hQ ?_;exact aK))
 ·simp only [b1,zaO,zaa,if_false]at hG
  refine aC.go s8.h rfl fun B Q hB hQ=>?_
  have⟨hC,hE,hF,hS⟩:=bt
  repeat' (first
 |simp only[go_sem,hC,hE,hF,hS,b1]
 | (with_reducible refine ay hQ ?_;exact aK))
  refine aV.gY 1 1 rfl ?_
  simp only[go_sem,hC,hE,hF,hS]
  refine b8 1 1 (aV.ind (ι:=List Ex×Nat×List aB×Nat) (fun i=>kids.drop i.2.1=i.1∧Ex.fT i.2.2.1 i.1=R∧i.2.2.1.length+Ex.aQ i.1≤1000000000∧i.2.2.2=i.2.2.1.length) (fun i=>i.1.length)
   (fun i=> [(1, .slice (.tok 0) 1 (i.2.2.1.map encStr)),(2, .ptr 0 0),(15, .int .i64 (kids.length:Int)),(16, .int .i64 (i.2.1:Int))]) (fun i=>⟨[bI ⟨op,m,name,kids⟩],[some i.2.2.2]⟩) ?_ (kids,0,[],0) ⟨rfl,hG,by simp;omega,by simp⟩)
  rintro⟨rest,k,bK,n'⟩ ⟨h1,h2,h3,h4⟩ IH
  dsimp only at h1 h2 h3 h4
  subst h4
  cases rest with
  |nil=>
   have hC:=drop_nil h1
   simp only[Ex.fT]at h2
   subst h2
   repeat' (first
 |simp only[go_sem,hC,hE,hF,hS]
 | (with_reducible refine ay hQ ?_;exact aK))
  |cons y rest=>
   obtain⟨hE,g2,hC,g4⟩:=drop_cons h1
   have bm:k<4611686018427387904:=by omega
   simp only[Ex.fT]at h2
   simp only[Ex.aQ]at h3
   have hy:=fun {s:St} {t:Nat} (ht:s.aE[t]? = some (some bK.length))=>hk y (zae hE) bK (by omega) ht
   have hl:=mj bK y
   repeat' (first
 |simp only[go_sem,hC,hE,hF,hS]
 |(with_reducible refine CU (hy (by with_unfolding_all rfl)) ?_)
 | (with_reducible refine ay hQ ?_;exact aK))
   refine b9 1 1 ?_ ?_ (IH (rest,k+1,_,_) ⟨g2,h2,by dsimp only;omega,rfl⟩ (zac _))
   ·(simp only[go_sem,hC,hE,hF,hS,az bm];try exact aT)
   ·(simp only[go_sem,hC,hE,hF,hS,az bm];try exact aT)
theorem mT {x:Ex} (hx:x.size≤1000000000) (ht:x.texts) (s:St):aC Tryz.prog 162 [.agg (bI x)] s (.slice .shared 1 (x.names.map encStr)) s:=by
 refine aC.pure ?_ (by simp only[D.bP,D.ok,fK];rfl) (by simp only[D.ok,Tag.ok,da];rfl) s
 have hm:=fun s=>DN (x:=x) (by omega) ht s
 simp only[R6]at hm
 unfold Ex.names
 unfold S0
 cases hb:x.may
 ·simp only [hb]at hm
  simp only[zaa,if_false,zah]
  refine aC.go xC.h rfl fun B Q hB hQ=>?_
  have⟨hC,hE,hF,hS⟩:=bt
  repeat' (first
 |simp only[go_sem,hC,hE,hF,hS]
 |(with_reducible refine CU (hm _) ?_)
 |(with_reducible refine ay hQ ?_;exact aK))
 ·simp only [hb]at hm
  simp only[if_true]
  have hg : ∀ s,aC Tryz.prog 192 [.agg (bI x), .slice .full 0 []] s (.slice .shared 1 ((x.im []).map encStr)) s:=by
   intro s
   obtain⟨op,m,name,kids⟩:=x
   exact V6 (fun h2=>F8 (by simp only[Ex.may,zaq]at hb;exact hb.2) h2) hx s
  refine aC.go xC.h rfl fun B Q hB hQ=>?_
  have⟨hC,hE,hF,hS⟩:=bt
  repeat' (first
 |simp only[go_sem,hC,hE,hF,hS]
 |(with_reducible refine CU (hm _) ?_)
 |(with_reducible refine CU (hg _) ?_)
 |(with_reducible refine ay hQ ?_;exact aK))
theorem mU {x:Ex} (hx:x.size≤1000000000) (ht:x.texts) (s:St):aC Tryz.prog 143 [.agg (bI x)] s (.slice .shared 1 (x.names.map encStr)) s:=by
 refine aC.pure ?_ (by simp only[D.bP,D.ok,fK];rfl) (by simp only[D.ok,Tag.ok,da];rfl) s
 have hm:=fun s=>Ac (x:=x) (by omega) ht s
 unfold Ex.names
 unfold S0
 cases hb:x.may
 ·simp only [hb]at hm
  simp only[zaa,if_false,zah]
  refine aC.go xB.h rfl fun B Q hB hQ=>?_
  have⟨hC,hE,hF,hS⟩:=bt
  repeat' (first
 |simp only[go_sem,hC,hE,hF,hS]
 |(with_reducible refine CU (hm _) ?_)
 |(with_reducible refine ay hQ ?_;exact aK))
 ·simp only [hb]at hm
  simp only[if_true]
  have hg : ∀ s,aC Tryz.prog 175 [.agg (bI x), .slice .full 0 []] s (.slice .shared 1 ((x.im []).map encStr)) s:=by
   intro s
   obtain⟨op,m,name,kids⟩:=x
   exact R9 (fun h2=>F8 (by simp only[Ex.may,zaq]at hb;exact hb.2) h2) hx s
  refine aC.go xB.h rfl fun B Q hB hQ=>?_
  have⟨hC,hE,hF,hS⟩:=bt
  repeat' (first
 |simp only[go_sem,hC,hE,hF,hS]
 |(with_reducible refine CU (hm _) ?_)
 |(with_reducible refine CU (hg _) ?_)
 |(with_reducible refine ay hQ ?_;exact aK))
end Go.Abs
