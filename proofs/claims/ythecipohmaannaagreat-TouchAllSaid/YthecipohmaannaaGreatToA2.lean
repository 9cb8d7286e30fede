/-
  What is proved here: part 2 of the road to the claim (Frz, MirLex, MirMay, Prs, Lex1, Lex2, RefLex1, Prs2, Ref1, Ref2, Ref3, RefMay1, RefMay2, Flat1, Flat2, Flat3, Sl1, MirFlat2, Sl2, TMay1, TMay2, RefMay3, RefMay4, TMay3, TMay4, MayFine, MayEq, Nm1, Nm2, Nm3, MayEq2, Tree1, Tree2, Sc1).
  No conditions.
-/
import Derived.Test.YthecipohmaannaaGreatToA1

set_option linter.unusedSimpArgs false
set_option linter.unusedVariables false

/-! Frz -/

namespace Go.Abs
theorem aA.u9 {P:Program} {f:Nat} {args:List D} {s0 s:St} {o off n m:Nat} {row:List D} (h:aA P f args s0 (.ptr o off) s) (ho:s.av[o]? = some row) (hn:s0.av.length≤n) (hno:n≤o) (hm:s0.ax.length≤m) :
 aA P f args s0 (.dE (D.fV n m row) off) (s.cut n m):=by
 intro M0 w0 fk r0 jw Z7 ha
 refine(h M0 w0 fk r0 jw Z7 ha).mono ?_
 rintro en w ⟨M,d,v0,s',rfl,⟨rfl,rfl⟩,e,r,hv⟩
 have sZ:=hv.vj
 have o8:v0 = .pointer (some ⟨M.mu o,off,none⟩):=hv.o4.1
 have Hq:o<s'.av.length:=(List.getElem?_eq_some_iff.1 ho).1
 obtain⟨vs,T,hh,eg,⟨kV,_⟩,nk⟩:=r.obj o row ho
 replace hh:=hh.cells sZ
 let M':Map:= {M with G:=fun b q=>if b=M.mu o then vs[q]? else M.G b q}
 have hGo : ∀ q,M.G (M.mu o) q=none:=r.jk o Hq
 have le:Le M s' M' s':=⟨fun b q v hq=>by
  show(if b=M.mu o then vs[q]? else M.G b q)=some v
  by_cases hb:b=M.mu o
  ·subst hb;rw [hGo]at hq;cases hq
  ·rw [if_neg hb];exact hq,Nat.le_refl _,fun _ _=>rfl,Nat.le_refl _,fun t n' _ e=>⟨n',e,Nat.le_refl _,fun _=>rfl⟩⟩
 have hD : ∀ q,q<(s'.cut n m).av.length→q<s'.av.length∧q≠o:=fun q h=>by rw [nQ]at h;omega
 have sd:w0.heap.size≤M.mu o:=e.n6 o (by omega) Hq
 have ec:=e.cut hn hm
 have RA:Le M (s'.cut n m) M' (s'.cut n m):=⟨le.G,Nat.le_refl _,fun _ _=>rfl,Nat.le_refl _,fun t n' _ e=>⟨n',e,Nat.le_refl _,fun _=>rfl⟩⟩
 have rc:=r.cut n m
 have pN : ∀ b,b≠M.mu o→∀ q,M'.G b q=M.G b q:=fun b hb q=>if_neg hb
 refine⟨M',_,v0,_,rfl,⟨rfl,rfl⟩,⟨ec.le.trans RA,ec.kept,ec.n6,ec.n7,fun b q eI=> ?_,ec.size,ec.os,ec.tape,ec.output⟩,⟨fun b q v hq=> ?_,fun q ds hq=> ?_,fun q hq sy=> ?_,rc.inj,fun t n' Ir=> ?_,rc.ez,rc.ff⟩, ?_⟩
 ·by_cases hb:b=M.mu o
  ·subst hb;exact .inl sd
  ·rw [pN b hb]at eI;exact ec.qc b q eI
 ·have oU:(if b=M.mu o then vs[q]? else M.G b q)=some v:=hq
  by_cases hb:b=M.mu o
  ·rw [if_pos hb]at oU
   rw [hb,ja hh]
   exact⟨oU,kV v (Array.mem_of_getElem? oU)⟩
  ·rw [if_neg hb]at oU
   exact r.comm b q v oU
 ·obtain⟨eR,T',h3,h4,h5,h6⟩:=rc.obj q ds hq
  exact⟨eR,T',h3,h4,h5,fun i d v e1 e2=>(h6 i d v e1 e2).mono RA⟩
 ·obtain⟨h3,h4⟩:=hD q hq
  show M'.G (M.mu q) sy=none
  rw [pN _ (fun e=>h4 (r.inj q o h3 Hq e))]
  exact r.jk q h3 sy
 ·rcases rc.tok t n' Ir with h3 | ⟨b,cap,z,eR,T',h3,h4,h5,h6,h7⟩
  ·exact .inl h3
  ·refine .inr ⟨b,cap,z,eR,T',h3,h4,h5,h6,fun sy xw=> ?_,h7.2⟩
   rw [pN _ (fun e=>r.ez t b cap z o (q7 ⟨n',Ir⟩) h3 Hq e.symm)]
   exact h7.1 sy xw
 ·rw [o8]
  have:=RD.dE (M:=M') (s:=s'.cut n m) (D.fV n m row) off (M.mu o) 0 (fun i d e1=> ?_) (fun i d u e1 eu=> ?_)
  ·simpa using this
  ·rw [lh,List.getElem?_map,Option.map_eq_some_iff]at e1
   obtain⟨d0,e1,rfl⟩:=e1
   have hi:=(List.getElem?_eq_some_iff.1 e1).1
   refine⟨vs[i]'(by omega), ?_⟩
   show(if M.mu o=M.mu o then vs[0+i]? else _)=_
   rw [if_pos rfl,Nat.zero_add]
   exact Array.getElem?_eq_getElem _
  ·rw [lh,List.getElem?_map,Option.map_eq_some_iff]at e1
   obtain⟨d0,e1,rfl⟩:=e1
   have ET:(if M.mu o=M.mu o then vs[0+i]? else M.G (M.mu o) (0+i))=some u:=eu
   rw [if_pos rfl,Nat.zero_add]at ET
   exact((nk i d0 u e1 ET).fg n m).mono RA
theorem aA.goK {P:Program} {f:FuncId} {res:List (Nat×Option (Bool×Nat))} {body:AC} {args:List D} {s:St} {d:D} {s':St} {nt:Nat} (n m:Nat) (hn:s.av.length≤n) (hm:s.ax.length≤m) (h0:Has P f nt res body) (hl:Nat.ble args.length nt=true)
 (h : ∀ (B:fO) (Q:Exit→Tm→St→Prop),B.s=s→ku n m res d s'=Q→jq P B nt body Q (lO 0 args) s):aA P f args s d s':=by
 obtain⟨fn,hf,hc⟩:=h0
 refine ef.Nk (ef.intro (Q:=fun d1 s1=>Wk d1 d∧gv s1.av s'.av∧s1.ax=s'.ax) hf hc (Nat.le_of_ble_eq_true hl) fun B hB=>(gP (h B _ hB rfl)).mono fun e tm s1 hr=> ?_) fun d1 s1 ⟨h1,h2,h3⟩=>⟨d,s',h1,h2,h3,rfl,rfl⟩
 subst hB
 cases e with
 | normal=>obtain⟨l,h1,h2,h3,h4⟩:=hr;exact⟨l,h1,_,_,hn,hm,h2,h3,h4⟩
 | ret=>obtain⟨l,h1,h2,h3,h4⟩:=hr;exact⟨l,h1,_,_,hn,hm,h2,h3,h4⟩
 | exit id=>exact hr.elim
 | goto l=>exact hr.elim
 | panic ch=>exact hr.elim
 | outgrown=>exact hr.elim
end Go.Abs

/-! MirLex -/

namespace Go.Abs
def se (c:UInt8):Bool:=decide ((c.toNat:Int)≥97) && decide ((c.toNat:Int)≤122)
def uM (c:UInt8):Bool:=decide ((c.toNat:Int)≥48) && decide ((c.toNat:Int)≤57)
def isB (c:UInt8):Bool:=(c.toNat:Int)==32 || (c.toNat:Int)==9 || (c.toNat:Int)==10 || (c.toNat:Int)==13
def mw:aE→Nat
 | []=>0
 | c::r=>if se c || uM c then mw r+1 else 0
def RB:aE→Nat
 | []=>0
 | c::r=>if uM c then RB r+1 else 0
def Hs:aE→Nat
 | []=>0
 | c::r=>if(c.toNat:Int) != 10 then Hs r+1 else 0
def isWord (s:aE):Bool:=
 s == [103,108,111,98,97,108] || s == [112,114,111,99] || s == [118,97,114] || s == [114,101,102] || s == [105,102] || s == [101,108,115,101] || s == [119,104,105,108,101] || s == [98,114,101,97,107] || s == [99,111,110,116,105,110,117,101] || s == [114,101,116,117,114,110] || s == [103,111,116,111] || s == [114,101,97,100] || s == [112,114,105,110,116]
def UK (s:aE):Bool:=s == [61,61] || s == [33,61] || s == [60,61] || s == [62,61] || s == [38,38] || s == [124,124]
def N5 (c:UInt8):Bool:=
 (c.toNat:Int)==40 || (c.toNat:Int)==41 || (c.toNat:Int)==123 || (c.toNat:Int)==125 || (c.toNat:Int)==44 || (c.toNat:Int)==59 || (c.toNat:Int)==58 || (c.toNat:Int)==61 ||
 (c.toNat:Int)==33 || (c.toNat:Int)==60 || (c.toNat:Int)==62 || (c.toNat:Int)==43 || (c.toNat:Int)==45 || (c.toNat:Int)==42 || (c.toNat:Int)==47 || (c.toNat:Int)==37
def N6:aE→Nat
 | []=>0
 | [c]=>if N5 c then 1 else 0
 | c::d::_=>if UK [c,d]then 2 else if N5 c then 1 else 0
def Ht:Int→aE→Option Int
 | n,[]=>some n
 | n,c::r=>if n > (9223372036854775807 - ((c.toNat:Int) - 48)) / 10 then none else Ht (n*10+((c.toNat:Int) - 48)) r
def Z8 (pos:Nat):aE→nq ⊕ Int
 | []=> .inr 2
 | c::r=>
  if se c then
   let s:=(c::r).take (mw (c::r))
   if s.length > 8 then .inr 4 else .inl ⟨if isWord s then 3 else 1,s,0,pos⟩
  else if uM c then
   let s:=(c::r).take (RB (c::r))
   if s.length > 1∧(c.toNat:Int)=48 then .inr 2 else
   match Ht 0 s with
   | some n=> .inl ⟨2,s,n,pos⟩
   | none=> .inr 4
  else
   if N6 (c::r)=0 then .inr 2 else .inl ⟨4,(c::r).take (N6 (c::r)),0,pos⟩
def Hu:Nat→Nat→aE→List nq→List nq×Int×Int
 | 0,_,_,_=>([],0,0)
 | _+1,pos,[],out=>(out++ [⟨0,[],0,pos⟩],0,0)
 | n+1,pos,c::r,out=>
  if isB c then Hu n (pos+1) r out
  else if(c.toNat:Int)==35 then Hu n (pos+Hs (c::r)) ((c::r).drop (Hs (c::r))) out
  else match Z8 pos (c::r)with
   | .inr e=>([],e,pos)
   | .inl t=>if out.length=2000 then([],4,pos)else Hu n (pos+t.text.length) ((c::r).drop t.text.length) (out++ [t])
def tj (text:aE):List nq×Int×Int:=if text.length > 100000 then([],4,0)else Hu (text.length+1) 0 text []
end Go.Abs

/-! MirMay -/

namespace Go.Abs
def qN:aE→Bool
 | []=>true
 | c::r=>if !(se c) && !(uM c)then false else qN r
def isName:aE→Bool
 | []=>false
 | c::r=>if decide (((r.length+1:Nat):Int) > 8) || !(se c)then false else if qN r then !(isWord (c::r))else false
def kH (op:Int):Int:=if op==1 || op==2 then 0 else if op==3 || op==4 then 1 else if decide (op≥5) && decide (op≤17)then 2 else -1
mutual
def Ex.form:Ex→Bool
 | ⟨op,n,name,kids⟩=>
  if kH op != (kids.length:Int) || (op != 1 && n != 0) || decide (n<0) || !((op==2) == !(name == [])) || (!(name == []) && !(isName name))then false else Ex.mI kids
def Ex.mI:List Ex→Bool
 | []=>true
 | x::l=>if !(Ex.form x)then false else Ex.mI l
end
mutual
def Ex.texts:Ex→Prop
 | ⟨_,_,name,kids⟩=>name.length<4611686018427387904∧Ex.rp kids
def Ex.rp:List Ex→Prop
 | []=>True
 | x::l=>x.texts∧Ex.rp l
end
theorem Ex.yJ {x:Ex} : ∀ {l:List Ex},Ex.rp l→x∈l→x.texts
 | y::l,h,m=>by
  rcases List.mem_cons.1 m with rfl | m
  ·exact h.1
  ·exact Ex.yJ h.2 m
theorem Ex.AR {op n:Int} {name:aE} {kids:List Ex} (h:Ex.texts ⟨op,n,name,kids⟩) {y:Ex} (m:y∈kids):y.texts:=Ex.yJ h.2 m
def Ex.may (x:Ex):Bool:=decide (((min x.depth 21:Nat):Int)≤20) && x.form
def Ex.none (x:Ex):Bool:=x.op==0 && x.n==0 && x.name == [] && (x.kids.length:Int)==0
def dg:List aE→Bool
 | []=>true
 | s::l=>if !(isName s)then false else dg l
def Ar.may (a:Ar):Bool:=if a.ref then isName a.name && a.x.none else a.name == [] && a.x.may
def Ar.dK:List Ar→Bool
 | []=>true
 | a::l=>if !(a.may)then false else Ar.dK l
def Sm.vP (s:Sm):Bool:=s.kind==1 || s.kind==3 || s.kind==5 || s.kind==6 || (s.kind==9 && s.has)
def Sm.hasName (s:Sm):Bool:=s.kind==1 || s.kind==2 || s.kind==10
def Sm.pZ (s:Sm):Bool:=s.kind==4
def Sm.one (s:Sm):Bool:=
 if decide (s.kind<1) || decide (s.kind > 10) || !(dg s.labels) || (s.vP && !(s.x.may)) || (!(s.vP) && !(s.x.none)) || (s.has && s.kind != 9)then false
 else if(s.hasName && !(isName s.name)) || (!(s.hasName) && !(s.name == []) && !(s.pZ && isName s.name))then false
 else if !(s.pZ == !(s.proc == [])) || (s.pZ && !(isName s.proc)) || (!(s.pZ) && decide ((s.args.length:Int) > 0))then false
 else if !(Ar.dK s.args)then false
 else((s.bk.length:Int)==0 || s.kind==5 || s.kind==6) && ((s.aY.length:Int)==0 || s.kind==5)
structure It where
 s:Sm
 deep:Int
 bX:Int
 aY:Bool
mutual
def fR (deep bX:Int) (aY:Bool) (out:List It):Sm→List It
 | ⟨id,kind,labels,name,proc,x,has,args,bk,e⟩=>
  if decide (deep≤12)then cZ (deep+1) id true (cZ (deep+1) id false (out++ [⟨⟨id,kind,labels,name,proc,x,has,args,bk,e⟩,deep,bX,aY⟩]) bk) e
  else out++ [⟨⟨id,kind,labels,name,proc,x,has,args,bk,e⟩,deep,bX,aY⟩]
def cZ (deep bX:Int) (aY:Bool) (out:List It):List Sm→List It
 | []=>out
 | s::l=>if decide ((out.length:Int)≤200)then cZ deep bX aY (fR deep bX aY out s) l else out
end
def Pc.flat (f:Pc):List It:=cZ 1 0 false [] f.body
def allM (out:List It):List Pc→List It
 | []=>out
 | f::l=>if decide (((out++f.flat).length:Int) > 200)then out++f.flat else allM (out++f.flat) l
def Pg.all (p:Pg):List It:=allM [] p.procs
def Pm.dK:List Pm→Bool
 | []=>true
 | a::l=>if !(isName a.name)then false else Pm.dK l
def Pc.jQ:List Pc→Bool
 | []=>true
 | f::l=>
  if !(isName f.name) || decide ((f.params.length:Int) > 8) || decide ((f.vars.length:Int) > 16) || !(dg f.vars) || !(dg f.fin)then false
  else if !(Pm.dK f.params)then false else Pc.jQ l
def It.dK (n:Nat):List It→Bool
 | []=>true
 | i::l=>if i.s.id != ((n+1:Nat):Int) || decide (i.deep > 12) || !(i.s.one)then false else It.dK (n+1) l
def Pg.may (p:Pg):Bool:=
 if decide ((p.globals.length:Int) > 16) || decide ((p.procs.length:Int) > 16) || !(dg p.globals)then false
 else if !(Pc.jQ p.procs)then false
 else if decide ((p.all.length:Int) > 200)then false else It.dK 0 p.all
end Go.Abs

/-! Prs -/

namespace Go.Abs
open Go.Proofs
@[go_sem] def ag5 (r:Rd):List D:= [.slice .shared 4 (r.l.map gZ), .int .i64 r.i, .int .i64 r.code, .int .i64 r.CX, .int .i64 r.n]
end Go.Abs

/-! Lex1 -/

namespace Go.Abs
set_option maxRecDepth 8000
open Go.Proofs
theorem pe (c:UInt8) (s:St):aA Tryz.prog oz [.int .u8 (c.toNat:Int)] s (.bool (se c)) s:=by
 refine aA.pure ?_ rfl rfl s
 generalize h:se c=b
 unfold se at h
 unfold S0
 refine aA.go zO rfl fun B Q hB hQ=> ?_
 have⟨hD,hF,hJ,hP⟩:=bI
 repeat' (first
 | simp only [go_sem,hD,hF,hJ,hP]
 | (with_reducible first | refine aJ fun hc=> ?_ | refine aK fun hc=> ?_ | refine aL (fun hc=> ?_) fun hc=> ?_) <;> (try simp only [hc,bs, ↓reduceIte]at h) <;> try simp only [hc]
 | (with_reducible refine ay hQ ?_;exact bT)
 | (cases h;done))
theorem zW (c:UInt8) (s:St):aA Tryz.prog sM [.int .u8 (c.toNat:Int)] s (.bool (uM c)) s:=by
 refine aA.pure ?_ rfl rfl s
 generalize h:uM c=b
 unfold uM at h
 unfold S0
 refine aA.go BF rfl fun B Q hB hQ=> ?_
 have⟨hD,hF,hJ,hP⟩:=bI
 repeat' (first
 | simp only [go_sem,hD,hF,hJ,hP]
 | (with_reducible first | refine aJ fun hc=> ?_ | refine aK fun hc=> ?_ | refine aL (fun hc=> ?_) fun hc=> ?_) <;> (try simp only [hc,bs, ↓reduceIte]at h) <;> try simp only [hc]
 | (with_reducible refine ay hQ ?_;exact bT)
 | (cases h;done))
theorem RC (t:aE) (s:St):aA Tryz.prog tU [.str t] s (.bool (isWord t)) s:=by
 refine aA.pure ?_ rfl rfl s
 generalize h:isWord t=b
 unfold isWord at h
 unfold S0
 refine aA.go Dg rfl fun B Q hB hQ=> ?_
 have⟨hD,hF,hJ,hP⟩:=bI
 repeat' (first
 | simp only [go_sem,hD,hF,hJ,hP]
 | (with_reducible first | refine aJ fun hc=> ?_ | refine aK fun hc=> ?_ | refine aL (fun hc=> ?_) fun hc=> ?_) <;> (try simp only [hc,bs, ↓reduceIte]at h) <;> try simp only [hc]
 | (with_reducible refine ay hQ ?_;exact bT)
 | (cases h;done))
theorem UL {text:aE} {pos:Nat} (hl:text.length<4611686018427387904) (s:St):aA Tryz.prog vF [.str text, .int .i64 (pos:Int)] s (.int .i64 ((pos+mw (text.drop pos):Nat):Int)) s:=by
 refine aA.pure ?_ rfl rfl s
 unfold S0
 refine aA.go Es rfl fun B Q hB hQ=> ?_
 have⟨hD,hF,hJ,hP⟩:=bI
 repeat' (first
 | simp only [go_sem,hD,hF,hJ,hP]
 | (with_reducible first | refine aJ fun hc=> ?_ | refine aK fun hc=> ?_ | refine aL (fun hc=> ?_) fun hc=> ?_) <;> (try simp only [hc,bs, ↓reduceIte]at h) <;> try simp only [hc]
 | (with_reducible refine ay hQ ?_;exact bT)
 | (cases h;done))
 refine cV 0 0 (bj.ind (ι:=aE×Nat) (fun i=>text.drop i.2=i.1∧i.2+mw i.1=pos+mw (text.drop pos)) (fun i=>i.1.length)
  (fun i=> [(0, .str text),(1, .int .i64 (i.2:Int))]) (fun i=>⟨[],[]⟩) ?_ (text.drop pos,pos) ⟨rfl,rfl⟩)
 rintro⟨rest,k⟩ ⟨h1,h2⟩ IH
 dsimp only at h1 h2
 cases rest with
 | nil=>
  have hD:=drop_nil h1
  simp only [mw,Nat.add_zero]at h2
  rw [← h2]at hQ
  repeat' (first
 | simp only [go_sem,hD,hF,hJ,hP]
 | (with_reducible first | refine aJ fun hc=> ?_ | refine aK fun hc=> ?_ | refine aL (fun hc=> ?_) fun hc=> ?_) <;> (try simp only [hc,bs, ↓reduceIte]at h) <;> try simp only [hc]
 | (with_reducible refine ay hQ ?_;exact bT)
 | (cases h;done))
 | cons c rest=>
  obtain⟨hF,g2,hD,g4⟩:=drop_cons h1
  have hJ:k<4611686018427387904:=by omega
  cases hb:(se c || uM c)
  ·simp only [mw,hb,Bool.false_eq_true, ↓reduceIte,Nat.add_zero]at h2
   rw [← h2]at hQ
   simp only [Bool.or_eq_false_iff]at hb
   repeat' (first
 | simp only [go_sem,hD,hF,hJ,hP,hb.1,hb.2]
 | (with_reducible refine CU (pe _ _) ?_)
 | (with_reducible refine CU (zW _ _) ?_)
 | (with_reducible first | refine aJ fun hc=> ?_ | refine aK fun hc=> ?_ | refine aL (fun hc=> ?_) fun hc=> ?_) <;> (try simp only [hc,bs, ↓reduceIte]at h) <;> try simp only [hc]
 | (with_reducible refine ay hQ ?_;(try cases h);simp only [az,aB,bc,bd,go_sem,hD,hF,hJ,hP,hb.1,hb.2];try exact br)
 | (cases h;done))
  ·simp only [mw,hb, ↓reduceIte]at h2
   cases yp:se c
   ·rw [yp,Bool.false_or]at hb
    repeat' (first
 | simp only [go_sem,hD,hF,hJ,hP,hb,yp]
 | (with_reducible refine CU (pe _ _) ?_)
 | (with_reducible refine CU (zW _ _) ?_)
 | (with_reducible first | refine aJ fun hc=> ?_ | refine aK fun hc=> ?_ | refine aL (fun hc=> ?_) fun hc=> ?_) <;> (try simp only [hc,bs, ↓reduceIte]at h) <;> try simp only [hc]
 | (with_reducible refine ay hQ ?_;(try cases h);simp only [az,aB,bc,bd,go_sem,hD,hF,hJ,hP,hb,yp];try exact br)
 | (cases h;done))
    refine cV 0 0 (IH (rest,k+1) ⟨g2,by dsimp only;omega⟩ (Nat.lt_succ_self _))
   ·repeat' (first
 | simp only [go_sem,hD,hF,hJ,hP,yp]
 | (with_reducible refine CU (pe _ _) ?_)
 | (with_reducible refine CU (zW _ _) ?_)
 | (with_reducible first | refine aJ fun hc=> ?_ | refine aK fun hc=> ?_ | refine aL (fun hc=> ?_) fun hc=> ?_) <;> (try simp only [hc,bs, ↓reduceIte]at h) <;> try simp only [hc]
 | (with_reducible refine ay hQ ?_;(try cases h);simp only [az,aB,bc,bd,go_sem,hD,hF,hJ,hP,yp];try exact br)
 | (cases h;done))
    refine cV 0 0 (IH (rest,k+1) ⟨g2,by dsimp only;omega⟩ (Nat.lt_succ_self _))
def agc (s:aE):Int×Bool:=match Ht 0 s with | some n=>(n,true) | none=>(0,false)
end Go.Abs

/-! Lex2 -/

namespace Go.Abs
open Go.Proofs
def Z9 (f:Int×Int):List D:= [.int .i64 f.1, .int .i64 f.2]
def UM (text:aE) (out:List nq) (pos:Nat):Tm:= [(0, .str text),(3, .ptr 0 0),(4, .slice (.tok 0) 4 (out.map gZ)),(5, .ptr 1 0),(6, .int .i64 (pos:Int))]
def UN (out:List nq):St:=⟨[[.int .i64 0, .int .i64 0],[.junk, .junk, .junk, .junk]],[some out.length]⟩
attribute [go_sem] UM UN Z9
end Go.Abs

/-! RefLex1 -/

namespace Go.Abs
set_option maxRecDepth 8000
open Go.Proofs
theorem Dj (c:UInt8) (s:St):aA Tryz.prog oB [.int .u8 (c.toNat:Int)] s (.bool (se c)) s:=by
 refine aA.pure ?_ rfl rfl s
 generalize h:se c=b
 unfold se at h
 unfold S0
 refine aA.go zS rfl fun B Q hB hQ=> ?_
 have⟨hD,hF,hJ,hP⟩:=bI
 repeat' (first
 | simp only [go_sem,hD,hF,hJ,hP]
 | (with_reducible first | refine aJ fun hc=> ?_ | refine aK fun hc=> ?_ | refine aL (fun hc=> ?_) fun hc=> ?_) <;> (try simp only [hc,bs, ↓reduceIte]at h) <;> try simp only [hc]
 | (with_reducible refine ay hQ ?_;exact bT)
 | (cases h;done))
theorem L0 (c:UInt8) (s:St):aA Tryz.prog rj [.int .u8 (c.toNat:Int)] s (.bool (uM c)) s:=by
 refine aA.pure ?_ rfl rfl s
 generalize h:uM c=b
 unfold uM at h
 unfold S0
 refine aA.go zT rfl fun B Q hB hQ=> ?_
 have⟨hD,hF,hJ,hP⟩:=bI
 repeat' (first
 | simp only [go_sem,hD,hF,hJ,hP]
 | (with_reducible first | refine aJ fun hc=> ?_ | refine aK fun hc=> ?_ | refine aL (fun hc=> ?_) fun hc=> ?_) <;> (try simp only [hc,bs, ↓reduceIte]at h) <;> try simp only [hc]
 | (with_reducible refine ay hQ ?_;exact bT)
 | (cases h;done))
theorem Pl (s:St):aA Tryz.prog rl [] s (.slice .shared 1 [[.str [103,108,111,98,97,108]],[.str [112,114,111,99]],[.str [118,97,114]],[.str [114,101,102]],[.str [105,102]],[.str [101,108,115,101]],[.str [119,104,105,108,101]],[.str [98,114,101,97,107]],[.str [99,111,110,116,105,110,117,101]],[.str [114,101,116,117,114,110]],[.str [103,111,116,111]],[.str [114,101,97,100]],[.str [112,114,105,110,116]]]) s:=by
 refine aA.pure ?_ rfl rfl s
 unfold S0
 refine aA.go zV rfl fun B Q hB hQ=> ?_
 have⟨hD,hF,hJ,hP⟩:=bI
 repeat' (first
 | simp only [go_sem,hD,hF,hJ,hP]
 | (with_reducible first | refine aJ fun hc=> ?_ | refine aK fun hc=> ?_ | refine aL (fun hc=> ?_) fun hc=> ?_) <;> (try simp only [hc,bs, ↓reduceIte]at h) <;> try simp only [hc]
 | (with_reducible refine ay hQ ?_;exact bT)
 | (cases h;done))
def wG (s:aE):Bool:=
 [103,108,111,98,97,108] == s || [112,114,111,99] == s || [118,97,114] == s || [114,101,102] == s || [105,102] == s || [101,108,115,101] == s || [119,104,105,108,101] == s || [98,114,101,97,107] == s || [99,111,110,116,105,110,117,101] == s || [114,101,116,117,114,110] == s || [103,111,116,111] == s || [114,101,97,100] == s || [112,114,105,110,116] == s
theorem Hv (s:aE):wG s=isWord s:=by
 have e : ∀ a:aE,(a==s)=(s==a):=fun a=>BEq.comm
 simp only [wG,isWord,e]
theorem Pn (text:aE) (s:St):aA Tryz.prog sN [.str text] s (.bool (isWord text)) s:=by
 refine aA.pure ?_ rfl rfl s
 rw [← Hv]
 generalize h:wG text=p
 unfold wG at h
 unfold S0
 refine aA.go BG rfl fun B Q hB hQ=> ?_
 have⟨hD,hF,hJ,hP⟩:=bI
 repeat' (first
 | simp only [go_sem,hD,hF,hJ,hP,Int.cast_ofNat_Int,dt,Int.reduceAdd,Int.reduceLT,Int.reduceNeg,decide_true,decide_false,Int.reduceToNat]
 | (with_reducible refine CU (Pl _) ?_)
 | (with_reducible refine bj.tP ?_)
 | (with_reducible first | refine aJ fun hc=> ?_ | refine aK fun hc=> ?_ | refine aL (fun hc=> ?_) fun hc=> ?_) <;> (try simp only [hc,bs, ↓reduceIte]at h) <;> try simp only [hc]
 | (with_reducible refine ay hQ ?_;(try cases h);simp only [az,aB,bc,bd,go_sem,hD,hF,hJ,hP,Int.cast_ofNat_Int,dt,Int.reduceAdd,Int.reduceLT,Int.reduceNeg,decide_true,decide_false,Int.reduceToNat];try exact br)
 | (cases h;done))
end Go.Abs

/-! Prs2 -/

namespace Go.Abs
open Go.Proofs
def OpR (p:Int×Int):Prop:=0≤p.2∧p.2≤6
end Go.Abs

/-! Ref1 -/

namespace Go.Abs
open Go.Proofs
@[go_sem] def ag6 (z:D) (r:Rd):List D:= [.slice .shared 4 (r.l.map gZ), .int .i64 r.i, .int .i64 r.code, .int .i64 r.CX,z]
class Cell (z:D):Prop where
 ok:D.ok 0 0 z=true
 fg : ∀ n m,D.fg n m z=z
instance (n:Int):Cell (.int .i64 n):=⟨rfl,fun _ _=>rfl⟩
instance:Cell .junk:=⟨rfl,fun _ _=>rfl⟩
theorem Po (z:D) [h:Cell z] (n m:Nat):D.fg n m z=z:=h.fg n m
attribute [go_sem] Po
def Rd.isO (text:aE) (r:Rd):Option Bool:=if r.good then r.is text else some false
end Go.Abs

/-! Ref2 -/

namespace Go.Abs
open Go.Proofs
def RE (s:aE):Int×Int:=
 if [42] == s then(6,5)else if [47] == s then(6,6)else if [37] == s then(6,7)else if [43] == s then(5,8)else if [45] == s then(5,9)
 else if [60] == s then(4,10)else if [60,61] == s then(4,11)else if [62] == s then(4,12)else if [62,61] == s then(4,13)
 else if [61,61] == s then(3,14)else if [33,61] == s then(3,15)else if [38,38] == s then(2,16)else if [124,124] == s then(1,17)else(0,0)
def BZ (p:Int×Int):Prop:=(p.2==0)=(p.1==0)
end Go.Abs

/-! Ref3 -/

namespace Go.Abs
set_option maxRecDepth 8000
open Go.Proofs
theorem RF : ∀ (gE:Nat),gE<1000000→∀ x:Ex,x.size<4611686018427387904→∀ s:St,aA Tryz.prog nu [.agg (bB x), .int .i64 (gE:Int)] s (.int .i64 ((min x.depth (gE+1):Nat):Int)) s:=by
 intro gE
 induction gE with
 | zero=>
  rintro _ ⟨op,m,name,kids⟩ hx s
  refine aA.pure ?_ (by simp [D.bN,D.ok,iA]) rfl s
  have hz:((0:Int)==0)=true:=rfl
  have e:min (Ex.depth ⟨op,m,name,kids⟩) (0+1)=1:=by simp only [Ex.depth];omega
  rw [e]
  unfold S0
  refine aA.go uK rfl fun B Q hB hQ=> ?_
  have⟨hD,hF,hJ,hP⟩:=bI
  repeat' (first
 | simp only [go_sem,hD,hF,hJ,hP,hz]
 | (with_reducible first | refine aJ fun hc=> ?_ | refine aK fun hc=> ?_ | refine aL (fun hc=> ?_) fun hc=> ?_) <;> (try simp only [hc,bs, ↓reduceIte]at h) <;> try simp only [hc]
 | (with_reducible refine ay hQ ?_;(try cases h);simp only [az,aB,bc,bd,go_sem,hD,hF,hJ,hP,hz];try exact br)
 | (cases h;done))
 | succ gE ih=>
  rintro ag7 ⟨op,m,name,kids⟩ hx s
  refine aA.pure ?_ (by simp [D.bN,D.ok,iA]) rfl s
  have hlen:kids.length<4611686018427387904:=by simp only [Ex.size]at hx;have:=Ex.dc kids;omega
  have hk : ∀ y∈kids,∀ s,aA Tryz.prog nu [.agg (bB y), .int .i64 (gE:Int)] s (.int .i64 ((min y.depth (gE+1):Nat):Int)) s:=fun y hy s=>
   ih (by omega) y (by simp only [Ex.size]at hx;have:=Ex.bS hy;omega) s
  have hz:(((gE+1:Nat):Int)==0)=false:=by simp;omega
  have w1:IntKind.wrap .i64 (((gE+1:Nat):Int) - 1)=(gE:Int):=by rw [dt] <;> omega
  unfold S0
  refine aA.go uK rfl fun B Q hB hQ=> ?_
  have⟨hD,hF,hJ,hP⟩:=bI
  repeat' (first
 | simp only [go_sem,hD,hF,hJ,hP,hz]
 | (with_reducible first | refine aJ fun hc=> ?_ | refine aK fun hc=> ?_ | refine aL (fun hc=> ?_) fun hc=> ?_) <;> (try simp only [hc,bs, ↓reduceIte]at h) <;> try simp only [hc]
 | (with_reducible refine ay hQ ?_;(try cases h);simp only [az,aB,bc,bd,go_sem,hD,hF,hJ,hP,hz];try exact br)
 | (cases h;done))
  refine cV 1 0 (bj.ind (ι:=List Ex×Nat×Nat) (fun i=>kids.drop i.2.1=i.1∧i.2.2≤gE+1∧min (max i.2.2 (Ex.iO i.1)) (gE+1)=min (Ex.iO kids) (gE+1)) (fun i=>i.1.length)
   (fun i=> [(1, .int .i64 ((gE+1:Nat):Int)),(2, .ptr 0 0),(5, .int .i64 (i.2.2:Int)),(6, .int .i64 (i.2.1:Int))]) (fun i=>⟨[bB ⟨op,m,name,kids⟩],[]⟩) ?_ (kids,0,0) ⟨rfl,Nat.zero_le _,by simp⟩)
  rintro⟨rest,k,d⟩ ⟨h1,h2,h3⟩ IH
  dsimp only at h1 h2 h3
  have hd:min (Ex.depth ⟨op,m,name,kids⟩) (gE+1+1)=min (Ex.iO kids) (gE+1)+1:=by simp only [Ex.depth];omega
  rw [hd, ← h3]at hQ
  have w2:IntKind.wrap .i64 ((d:Int)+1)=((d+1:Nat):Int):=by rw [dt] <;> omega
  by_cases aho:d<gE+1
  ·have c2:decide ((d:Int)<((gE+1:Nat):Int))=true:=by simp;omega
   cases rest with
   | nil=>
    have hD:=drop_nil h1
    simp only [Ex.iO,Nat.max_zero]at hQ
    have e:min d (gE+1)=d:=by omega
    rw [e]at hQ
    repeat' (first
 | simp only [go_sem,hD,hF,hJ,hP,c2,w2]
 | (with_reducible first | refine aJ fun hc=> ?_ | refine aK fun hc=> ?_ | refine aL (fun hc=> ?_) fun hc=> ?_) <;> (try simp only [hc,bs, ↓reduceIte]at h) <;> try simp only [hc]
 | (with_reducible refine ay hQ ?_;(try cases h);simp only [az,aB,bc,bd,go_sem,hD,hF,hJ,hP,c2,w2];try exact br)
 | (cases h;done))
   | cons y rest=>
    obtain⟨hF,g2,hD,g4⟩:=drop_cons h1
    have hy:=hk y (List.mem_of_getElem? hF)
    simp only [Ex.iO]at h3
    have bm:k<4611686018427387904:=by omega
    by_cases hgt:min y.depth (gE+1) > d
    ·have c3:decide (((min y.depth (gE+1):Nat):Int) > (d:Int))=true:=by simp only [decide_eq_true_eq];omega
     repeat' (first
 | simp only [go_sem,hD,hF,hJ,hP,c2,w1,c3]
 | (with_reducible refine CU (hy _) ?_)
 | (with_reducible first | refine aJ fun hc=> ?_ | refine aK fun hc=> ?_ | refine aL (fun hc=> ?_) fun hc=> ?_) <;> (try simp only [hc,bs, ↓reduceIte]at h) <;> try simp only [hc]
 | (with_reducible refine ay hQ ?_;(try cases h);simp only [az,aB,bc,bd,go_sem,hD,hF,hJ,hP,c2,w1,c3];try exact br)
 | (cases h;done))
     refine cd 1 0 ?_ ?_ (IH (rest,k+1,min y.depth (gE+1)) ⟨g2,by dsimp only;omega,by dsimp only;omega⟩ (Nat.lt_succ_self _))
     ·(simp only [go_sem,hD,hF,hJ,hP,au bm];try exact aZ)
     ·(simp only [go_sem,hD,hF,hJ,hP,au bm];try exact aZ)
    ·have c3:decide (((min y.depth (gE+1):Nat):Int) > (d:Int))=false:=by simp only [decide_eq_false_iff_not];omega
     repeat' (first
 | simp only [go_sem,hD,hF,hJ,hP,c2,w1,c3]
 | (with_reducible refine CU (hy _) ?_)
 | (with_reducible first | refine aJ fun hc=> ?_ | refine aK fun hc=> ?_ | refine aL (fun hc=> ?_) fun hc=> ?_) <;> (try simp only [hc,bs, ↓reduceIte]at h) <;> try simp only [hc]
 | (with_reducible refine ay hQ ?_;(try cases h);simp only [az,aB,bc,bd,go_sem,hD,hF,hJ,hP,c2,w1,c3];try exact br)
 | (cases h;done))
     refine cd 1 0 ?_ ?_ (IH (rest,k+1,d) ⟨g2,h2,by dsimp only;omega⟩ (Nat.lt_succ_self _))
     ·(simp only [go_sem,hD,hF,hJ,hP,au bm];try exact aZ)
     ·(simp only [go_sem,hD,hF,hJ,hP,au bm];try exact aZ)
  ·have c2:decide ((d:Int)<((gE+1:Nat):Int))=false:=by simp;omega
   have e:min (max d (Ex.iO rest)) (gE+1)=d:=by omega
   rw [e]at hQ
   cases rest with
   | nil=>
    have hD:=drop_nil h1
    repeat' (first
 | simp only [go_sem,hD,hF,hJ,hP,c2,w2]
 | (with_reducible first | refine aJ fun hc=> ?_ | refine aK fun hc=> ?_ | refine aL (fun hc=> ?_) fun hc=> ?_) <;> (try simp only [hc,bs, ↓reduceIte]at h) <;> try simp only [hc]
 | (with_reducible refine ay hQ ?_;(try cases h);simp only [az,aB,bc,bd,go_sem,hD,hF,hJ,hP,c2,w2];try exact br)
 | (cases h;done))
   | cons y rest=>
    obtain⟨hF,g2,hD,g4⟩:=drop_cons h1
    repeat' (first
 | simp only [go_sem,hD,hF,hJ,hP,c2,w2]
 | (with_reducible first | refine aJ fun hc=> ?_ | refine aK fun hc=> ?_ | refine aL (fun hc=> ?_) fun hc=> ?_) <;> (try simp only [hc,bs, ↓reduceIte]at h) <;> try simp only [hc]
 | (with_reducible refine ay hQ ?_;(try cases h);simp only [az,aB,bc,bd,go_sem,hD,hF,hJ,hP,c2,w2];try exact br)
 | (cases h;done))
end Go.Abs

/-! RefMay1 -/

namespace Go.Abs
set_option maxRecDepth 8000
open Go.Proofs
theorem pf (text:aE) (hl:text.length<4611686018427387904) (s:St):aA Tryz.prog gB [.str text] s (.bool (isName text)) s:=by
 refine aA.pure ?_ rfl rfl s
 unfold S0
 cases text with
 | nil=>
  have e:(([] : aE) == [])=true:=rfl
  refine aA.go uJ rfl fun B Q hB hQ=> ?_
  have⟨hD,hF,hJ,hP⟩:=bI
  repeat' (first
 | simp only [go_sem,hD,hF,hJ,hP,e,isName]
 | (with_reducible first | refine aJ fun hc=> ?_ | refine aK fun hc=> ?_ | refine aL (fun hc=> ?_) fun hc=> ?_) <;> (try simp only [hc,bs, ↓reduceIte]at h) <;> try simp only [hc]
 | (with_reducible refine ay hQ ?_;(try cases h);simp only [az,aB,bc,bd,go_sem,hD,hF,hJ,hP,e,isName];try exact br)
 | (cases h;done))
 | cons c r=>
  have e:((c::r) == [])=false:=rfl
  generalize h:isName (c::r)=p
  simp only [isName]at h
  refine aA.go uJ rfl fun B Q hB hQ=> ?_
  have⟨hD,hF,hJ,hP⟩:=bI
  repeat' (first
 | simp only [go_sem,hD,hF,hJ,hP,e]
 | (with_reducible refine CU (Dj _ _) ?_)
 | (with_reducible first | refine aJ fun hc=> ?_ | refine aK fun hc=> ?_ | refine aL (fun hc=> ?_) fun hc=> ?_) <;> (try simp only [hc,bs, ↓reduceIte]at h) <;> try simp only [hc]
 | (with_reducible refine ay hQ ?_;(try cases h);simp only [az,aB,bc,bd,go_sem,hD,hF,hJ,hP,e];try exact br)
 | (cases h;done))
  refine cV 0 0 (bj.ind (ι:=aE×Nat) (fun i=>(c::r).drop i.2=i.1∧(if qN i.1 then !(isWord (c::r))else false)=p) (fun i=>i.1.length)
   (fun i=> [(0, .str (c::r)),(3, .int .i64 (i.2:Int))]) (fun i=>⟨[],[]⟩) ?_ (r,1) ⟨rfl,h⟩)
  rintro⟨rest,k⟩ ⟨h1,h⟩ IH
  dsimp only at h1 h
  cases rest with
  | nil=>
   have hD:=drop_nil h1
   simp only [List.length_cons]at hD
   simp only [qN, ↓reduceIte]at h
   repeat' (first
 | simp only [go_sem,hD,hF,hJ,hP]
 | (with_reducible refine CU (Pn _ _) ?_)
 | (with_reducible first | refine aJ fun hc=> ?_ | refine aK fun hc=> ?_ | refine aL (fun hc=> ?_) fun hc=> ?_) <;> (try simp only [hc,bs, ↓reduceIte]at h) <;> try simp only [hc]
 | (with_reducible refine ay hQ ?_;exact bT)
 | (cases h;done))
  | cons d rest=>
   obtain⟨hF,g2,hD,g4⟩:=drop_cons h1
   simp only [List.length_cons]at hD
   have hJ:k<4611686018427387904:=by omega
   simp only [qN]at h
   repeat' (first
 | simp only [go_sem,hD,hF,hJ,hP]
 | (with_reducible refine CU (Dj _ _) ?_)
 | (with_reducible refine CU (L0 _ _) ?_)
 | (with_reducible first | refine aJ fun hc=> ?_ | refine aK fun hc=> ?_ | refine aL (fun hc=> ?_) fun hc=> ?_) <;> (try simp only [hc,bs, ↓reduceIte]at h) <;> try simp only [hc]
 | (with_reducible refine ay hQ ?_;(try cases h);simp only [az,aB,bc,bd,go_sem,hD,hF,hJ,hP];repeat' (first | exact Ok.out | with_reducible refine bO ?_ ?_ | (simp;done)))
 | (cases h;done))
   all_goals
    refine cV 0 0 (IH (rest,k+1) ⟨g2,h⟩ (Nat.lt_succ_self _))
theorem Pp (op:Int) (s:St):aA Tryz.prog rk [.int .i64 op] s (.int .i64 (kH op)) s:=by
 refine aA.pure ?_ rfl rfl s
 unfold S0
 generalize h:kH op=p
 unfold kH at h
 refine aA.go zU rfl fun B Q hB hQ=> ?_
 have⟨hD,hF,hJ,hP⟩:=bI
 repeat' (first
 | simp only [go_sem,hD,hF,hJ,hP]
 | (with_reducible first | refine aJ fun hc=> ?_ | refine aK fun hc=> ?_ | refine aL (fun hc=> ?_) fun hc=> ?_) <;> (try simp only [hc,bs, ↓reduceIte]at h) <;> try simp only [hc]
 | (with_reducible refine ay hQ ?_;exact bT)
 | (cases h;done))
theorem uc {l:List aE} (hl:l.length<4611686018427387904) (hs : ∀ t∈l,t.length<4611686018427387904) (s:St):aA Tryz.prog kE [.slice .shared 1 (l.map encStr)] s (.bool (dg l)) s:=by
 refine aA.pure ?_ (by simp [D.bN,D.ok,dk,Tag.ok]) rfl s
 unfold S0
 generalize h:dg l=p
 refine aA.go zP rfl fun B Q hB hQ=> ?_
 have⟨hD,hF,hJ,hP⟩:=bI
 repeat' (first
 | simp only [go_sem,hD,hF,hJ,hP]
 | (with_reducible first | refine aJ fun hc=> ?_ | refine aK fun hc=> ?_ | refine aL (fun hc=> ?_) fun hc=> ?_) <;> (try simp only [hc,bs, ↓reduceIte]at h) <;> try simp only [hc]
 | (with_reducible refine ay hQ ?_;exact bT)
 | (cases h;done))
 refine cV 0 0 (bj.ind (ι:=List aE×Nat) (fun i=>l.drop i.2=i.1∧dg i.1=p) (fun i=>i.1.length)
  (fun i=> [(5, .slice .shared 1 (l.map encStr)),(6, .int .i64 (l.length:Int)),(7, .int .i64 (i.2:Int))]) (fun i=>⟨[],[]⟩) ?_ (l,0) ⟨rfl,h⟩)
 rintro⟨rest,k⟩ ⟨h1,h⟩ IH
 dsimp only at h1 h
 cases rest with
 | nil=>
  have hD:=drop_nil h1
  simp only [dg]at h
  repeat' (first
 | simp only [go_sem,hD,hF,hJ,hP]
 | (with_reducible first | refine aJ fun hc=> ?_ | refine aK fun hc=> ?_ | refine aL (fun hc=> ?_) fun hc=> ?_) <;> (try simp only [hc,bs, ↓reduceIte]at h) <;> try simp only [hc]
 | (with_reducible refine ay hQ ?_;exact bT)
 | (cases h;done))
 | cons t rest=>
  obtain⟨hF,g2,hD,g4⟩:=drop_cons h1
  have hJ:k<4611686018427387904:=by omega
  have hn:=pf t (hs t (List.mem_of_getElem? hF))
  simp only [dg]at h
  repeat' (first
 | simp only [go_sem,hD,hF,hJ,hP]
 | (with_reducible refine CU (hn _) ?_)
 | (with_reducible first | refine aJ fun hc=> ?_ | refine aK fun hc=> ?_ | refine aL (fun hc=> ?_) fun hc=> ?_) <;> (try simp only [hc,bs, ↓reduceIte]at h) <;> try simp only [hc]
 | (with_reducible refine ay hQ ?_;exact bT)
 | (cases h;done))
  refine cV 0 0 (IH (rest,k+1) ⟨g2,h⟩ (Nat.lt_succ_self _))
theorem RG : ∀ (n:Nat) (x:Ex),x.size≤n→x.size<4611686018427387904→x.texts→∀ s:St,aA Tryz.prog nw [.agg (bB x)] s (.bool x.form) s:=by
 intro n
 induction n with
 | zero=>rintro⟨op,m,name,kids⟩ h;simp only [Ex.size]at h;omega
 | succ n ih=>
  rintro⟨op,m,name,kids⟩ h hx ht s
  refine aA.pure ?_ (by simp [D.bN,D.ok,iA]) rfl s
  have hlen:kids.length<4611686018427387904:=by simp only [Ex.size]at hx;have:=Ex.dc kids;omega
  have hk : ∀ y∈kids,∀ s,aA Tryz.prog nw [.agg (bB y)] s (.bool y.form) s:=fun y hy s=>
   ih y (by simp only [Ex.size]at h;have:=Ex.bS hy;omega) (by simp only [Ex.size]at hx;have:=Ex.bS hy;omega) (Ex.AR ht hy) s
  have hn:=pf name ht.1
  unfold S0
  generalize h:Ex.form ⟨op,m,name,kids⟩=p
  simp only [Ex.form]at h
  refine aA.go BE rfl fun B Q hB hQ=> ?_
  have⟨hD,hF,hJ,hP⟩:=bI
  repeat' (first
 | simp only [go_sem,hD,hF,hJ,hP]
 | (with_reducible refine CU (Pp _ _) ?_)
 | (with_reducible refine CU (hn _) ?_)
 | (with_reducible first | refine aJ fun hc=> ?_ | refine aK fun hc=> ?_ | refine aL (fun hc=> ?_) fun hc=> ?_) <;> (try simp only [hc,bs, ↓reduceIte]at h) <;> try simp only [hc]
 | (with_reducible refine ay hQ ?_;(try cases h);simp only [az,aB,bc,bd,go_sem,hD,hF,hJ,hP];repeat' (first | exact Ok.out | with_reducible refine bO ?_ ?_ | (simp;done)))
 | (cases h;done))
  all_goals
   refine cV 1 0 (bj.ind (ι:=List Ex×Nat) (fun i=>kids.drop i.2=i.1∧Ex.mI i.1=p) (fun i=>i.1.length)
    (fun i=> [(1, .ptr 0 0),(48, .int .i64 (kids.length:Int)),(49, .int .i64 (i.2:Int))]) (fun i=>⟨[bB ⟨op,m,name,kids⟩],[]⟩) ?_ (kids,0) ⟨rfl,h⟩)
   rintro⟨rest,k⟩ ⟨h1,h⟩ IH
   dsimp only at h1 h
   cases rest with
   | nil=>
    have hD:=drop_nil h1
    simp only [Ex.mI]at h
    repeat' (first
 | simp only [go_sem,hD,hF,hJ,hP]
 | (with_reducible first | refine aJ fun hc=> ?_ | refine aK fun hc=> ?_ | refine aL (fun hc=> ?_) fun hc=> ?_) <;> (try simp only [hc,bs, ↓reduceIte]at h) <;> try simp only [hc]
 | (with_reducible refine ay hQ ?_;exact bT)
 | (cases h;done))
   | cons y rest=>
    obtain⟨hF,g2,hD,g4⟩:=drop_cons h1
    have hy:=hk y (List.mem_of_getElem? hF)
    have hJ:k<4611686018427387904:=by omega
    simp only [Ex.mI]at h
    repeat' (first
 | simp only [go_sem,hD,hF,hJ,hP]
 | (with_reducible refine CU (hy _) ?_)
 | (with_reducible first | refine aJ fun hc=> ?_ | refine aK fun hc=> ?_ | refine aL (fun hc=> ?_) fun hc=> ?_) <;> (try simp only [hc,bs, ↓reduceIte]at h) <;> try simp only [hc]
 | (with_reducible refine ay hQ ?_;exact bT)
 | (cases h;done))
    refine cV 1 0 (IH (rest,k+1) ⟨g2,h⟩ (Nat.lt_succ_self _))
theorem vQ {x:Ex} (hx:x.size<4611686018427387904) (ht:x.texts) (s:St):aA Tryz.prog kD [.agg (bB x)] s (.bool x.may) s:=by
 refine aA.pure ?_ (by simp [D.bN,D.ok,iA]) rfl s
 have hd:=fun s=>RF 20 (by decide) x hx s
 have c20:((20:Nat):Int)=20:=rfl
 rw [c20]at hd
 have hf:=RG _ x (Nat.le_refl _) hx ht
 unfold S0
 generalize h:Ex.may x=p
 unfold Ex.may at h
 refine aA.go xJ rfl fun B Q hB hQ=> ?_
 have⟨hD,hF,hJ,hP⟩:=bI
 repeat' (first
 | simp only [go_sem,hD,hF,hJ,hP]
 | (with_reducible refine CU (hd _) ?_)
 | (with_reducible refine CU (hf _) ?_)
 | (with_reducible first | refine aJ fun hc=> ?_ | refine aK fun hc=> ?_ | refine aL (fun hc=> ?_) fun hc=> ?_) <;> (try simp only [hc,bs, ↓reduceIte]at h) <;> try simp only [hc]
 | (with_reducible refine ay hQ ?_;exact bT)
 | (cases h;done))
theorem Jp (x:Ex) (s:St):aA Tryz.prog pG [.agg (bB x)] s (.bool x.none) s:=by
 refine aA.pure ?_ (by simp [D.bN,D.ok,iA]) rfl s
 unfold S0
 generalize h:Ex.none x=p
 unfold Ex.none at h
 refine aA.go BH rfl fun B Q hB hQ=> ?_
 have⟨hD,hF,hJ,hP⟩:=bI
 repeat' (first
 | simp only [go_sem,hD,hF,hJ,hP]
 | (with_reducible first | refine aJ fun hc=> ?_ | refine aK fun hc=> ?_ | refine aL (fun hc=> ?_) fun hc=> ?_) <;> (try simp only [hc,bs, ↓reduceIte]at h) <;> try simp only [hc]
 | (with_reducible refine ay hQ ?_;exact bT)
 | (cases h;done))
theorem UO {a:Ar} (hx:a.x.size<4611686018427387904) (ht:a.x.texts) (hn:a.name.length<4611686018427387904) (s:St):aA Tryz.prog tW [.agg (dG a)] s (.bool a.may) s:=by
 refine aA.pure ?_ (by simp [D.bN,D.ok,CW]) rfl s
 have hm:=vQ hx ht
 have h1:=pf a.name hn
 unfold S0
 generalize h:Ar.may a=p
 simp only [Ar.may]at h
 refine aA.go Di rfl fun B Q hB hQ=> ?_
 have⟨hD,hF,hJ,hP⟩:=bI
 repeat' (first
 | simp only [go_sem,hD,hF,hJ,hP]
 | (with_reducible refine CU (hm _) ?_)
 | (with_reducible refine CU (h1 _) ?_)
 | (with_reducible refine CU (Jp _ _) ?_)
 | (with_reducible first | refine aJ fun hc=> ?_ | refine aK fun hc=> ?_ | refine aL (fun hc=> ?_) fun hc=> ?_) <;> (try simp only [hc,bs, ↓reduceIte]at h) <;> try simp only [hc]
 | (with_reducible refine ay hQ ?_;exact bT)
 | (cases h;done))
end Go.Abs

/-! RefMay2 -/

namespace Go.Abs
set_option maxRecDepth 8000
open Go.Proofs
structure Sm.gI (s:Sm):Prop where
 V3 : ∀ t∈s.labels,t.length<4611686018427387904
 RH:s.labels.length<4611686018427387904
 name:s.name.length<4611686018427387904
 proc:s.proc.length<4611686018427387904
 x:s.x.size<4611686018427387904
 xt:s.x.texts
 RI:s.args.length<4611686018427387904
 arg : ∀ a∈s.args,a.x.size<4611686018427387904∧a.x.texts∧a.name.length<4611686018427387904
section
variable {v:Sm} {B:fO} {Q:Exit→Tm→St→Prop} {p:Bool}
theorem UP (hf:v.gI) (hB:B.s = ⟨[],[]⟩) (hQ:ku 0 0 [(2,none)] (.bool p) ⟨[],[]⟩=Q)
 (h:(if !(Ar.dK v.args)then false else((v.bk.length:Int)==0 || v.kind==5 || v.kind==6) && ((v.aY.length:Int)==0 || v.kind==5))=p) :
 Sem Tryz.prog B 178 Rt Q [(1, .ptr 0 0)] ⟨[bp v],[]⟩:=by
 have ag8:=hf.RI
 have L1:=fun a ha s=>UO (hf.arg a ha).1 (hf.arg a ha).2.1 (hf.arg a ha).2.2 s
 have⟨hD,hF,hJ,hP⟩:=bI
 refine gP ?_
 repeat' (first
 | simp only [go_sem,hD,hF,hJ,hP]
 | (with_reducible first | refine aJ fun hc=> ?_ | refine aK fun hc=> ?_ | refine aL (fun hc=> ?_) fun hc=> ?_) <;> (try simp only [hc,bs, ↓reduceIte]at h) <;> try simp only [hc]
 | (with_reducible refine ay hQ ?_;exact bT)
 | (cases h;done))
 refine cV 1 0 (bj.ind (ι:=List Ar×Nat) (fun i=>v.args.drop i.2=i.1∧(if !(Ar.dK i.1)then false else((v.bk.length:Int)==0 || v.kind==5 || v.kind==6) && ((v.aY.length:Int)==0 || v.kind==5))=p) (fun i=>i.1.length)
  (fun i=> [(1, .ptr 0 0),(143, .slice .shared 6 (v.args.map dG)),(144, .int .i64 (v.args.length:Int)),(145, .int .i64 (i.2:Int))]) (fun i=>⟨[bp v],[]⟩) ?_ (v.args,0) ⟨rfl,h⟩)
 rintro⟨rest,k⟩ ⟨h1,h⟩ IH
 dsimp only at h1 h
 cases rest with
 | nil=>
  have hD:=drop_nil h1
  simp only [Ar.dK,Bool.not_true,Bool.false_eq_true, ↓reduceIte]at h
  repeat' (first
 | simp only [go_sem,hD,hF,hJ,hP]
 | (with_reducible first | refine aJ fun hc=> ?_ | refine aK fun hc=> ?_ | refine aL (fun hc=> ?_) fun hc=> ?_) <;> (try simp only [hc,bs, ↓reduceIte]at h) <;> try simp only [hc]
 | (with_reducible refine ay hQ ?_;(try cases h);simp only [az,aB,bc,bd,go_sem,hD,hF,hJ,hP];repeat' (first | exact Ok.out | with_reducible refine bO ?_ ?_ | (simp;done)))
 | (cases h;done))
  all_goals
   simp only [*]
   exact Ok.out
 | cons a rest=>
  obtain⟨hF,g2,hD,g4⟩:=drop_cons h1
  have ha:=L1 a (List.mem_of_getElem? hF)
  have hJ:k<4611686018427387904:=by omega
  simp only [Ar.dK]at h
  repeat' (first
 | simp only [go_sem,hD,hF,hJ,hP]
 | (with_reducible refine CU (ha _) ?_)
 | (with_reducible first | refine aJ fun hc=> ?_ | refine aK fun hc=> ?_ | refine aL (fun hc=> ?_) fun hc=> ?_) <;> (try simp only [hc,bs, ↓reduceIte]at h) <;> try simp only [hc]
 | (with_reducible refine ay hQ ?_;exact bT)
 | (cases h;done))
  refine cV 1 0 (IH (rest,k+1) ⟨g2,h⟩ (Nat.lt_succ_self _))
theorem UQ {cl:Bool} (hf:v.gI) (hB:B.s = ⟨[],[]⟩) (hQ:ku 0 0 [(2,none)] (.bool p) ⟨[],[]⟩=Q)
 (h:(if !(cl == !(v.proc == [])) || (cl && !(isName v.proc)) || (!cl && decide ((v.args.length:Int) > 0))then false
  else if !(Ar.dK v.args)then false else((v.bk.length:Int)==0 || v.kind==5 || v.kind==6) && ((v.aY.length:Int)==0 || v.kind==5))=p) :
 Sem Tryz.prog B 178 Ru Q [(1, .ptr 0 0),(5, .bool cl)] ⟨[bp v],[]⟩:=by
 have UR:=pf v.proc hf.proc
 have⟨hD,hF,hJ,hP⟩:=bI
 refine Sem.kX ?_
 repeat' (first
 | simp only [go_sem,hD,hF,hJ,hP]
 | (with_reducible refine CU (UR _) ?_)
 | (with_reducible first | refine aJ fun hc=> ?_ | refine aK fun hc=> ?_ | refine aL (fun hc=> ?_) fun hc=> ?_) <;> (try simp only [hc,bs, ↓reduceIte]at h) <;> try simp only [hc]
 | (with_reducible refine ay hQ ?_;(try cases h);simp only [az,aB,bc,bd,go_sem,hD,hF,hJ,hP];repeat' (first | exact Ok.out | with_reducible refine bO ?_ ?_ | (simp;done)))
 | (cases h;done))
 all_goals
  refine Sem.re _ _ 1 0 (by rw [hB];exact lQ rfl) (by rw [hB];exact lQ rfl) ?_ ?_ (UP hf hB hQ h)
  ·(simp only [go_sem,hD,hF,hJ,hP];repeat' (first | exact Ok.out | with_reducible refine bO ?_ ?_))
  ·(simp only [go_sem,hD,hF,hJ,hP];repeat' (first | exact Ok.out | with_reducible refine bO ?_ ?_))
theorem US {hn cl:Bool} (hf:v.gI) (hB:B.s = ⟨[],[]⟩) (hQ:ku 0 0 [(2,none)] (.bool p) ⟨[],[]⟩=Q)
 (h:(if(hn && !(isName v.name)) || (!hn && !(v.name == []) && !(cl && isName v.name))then false
  else if !(cl == !(v.proc == [])) || (cl && !(isName v.proc)) || (!cl && decide ((v.args.length:Int) > 0))then false
  else if !(Ar.dK v.args)then false else((v.bk.length:Int)==0 || v.kind==5 || v.kind==6) && ((v.aY.length:Int)==0 || v.kind==5))=p) :
 Sem Tryz.prog B 178 Rv Q [(1, .ptr 0 0),(4, .bool hn),(5, .bool cl)] ⟨[bp v],[]⟩:=by
 have Fj:=pf v.name hf.name
 have⟨hD,hF,hJ,hP⟩:=bI
 have k:=@UQ v B Q p cl hf hB hQ
 cases cl
 all_goals
  refine Sem.kX ?_
  repeat' (first
 | simp only [go_sem,hD,hF,hJ,hP]
 | (with_reducible refine CU (Fj _) ?_)
 | (with_reducible first | refine aJ fun hc=> ?_ | refine aK fun hc=> ?_ | refine aL (fun hc=> ?_) fun hc=> ?_) <;> (try simp only [hc,bs, ↓reduceIte]at h) <;> try simp only [hc]
 | (with_reducible refine ay hQ ?_;(try cases h);simp only [az,aB,bc,bd,go_sem,hD,hF,hJ,hP];repeat' (first | exact Ok.out | with_reducible refine bO ?_ ?_ | (simp;done)))
 | (cases h;done))
 all_goals
  refine Sem.re _ _ 1 0 (by rw [hB];exact lQ rfl) (by rw [hB];exact lQ rfl) ?_ ?_ (k (by simpa only [bs, ↓reduceIte]using h))
  ·(simp only [go_sem,hD,hF,hJ,hP];repeat' (first | exact Ok.out | with_reducible refine bO ?_ ?_))
  ·(simp only [go_sem,hD,hF,hJ,hP];repeat' (first | exact Ok.out | with_reducible refine bO ?_ ?_))
theorem UT {hx hn cl:Bool} (hf:v.gI) (hB:B.s = ⟨[],[]⟩) (hQ:ku 0 0 [(2,none)] (.bool p) ⟨[],[]⟩=Q)
 (h:(if decide (v.kind<1) || decide (v.kind > 10) || !(dg v.labels) || (hx && !(v.x.may)) || (!hx && !(v.x.none)) || (v.has && v.kind != 9)then false
  else if(hn && !(isName v.name)) || (!hn && !(v.name == []) && !(cl && isName v.name))then false
  else if !(cl == !(v.proc == [])) || (cl && !(isName v.proc)) || (!cl && decide ((v.args.length:Int) > 0))then false
  else if !(Ar.dK v.args)then false else((v.bk.length:Int)==0 || v.kind==5 || v.kind==6) && ((v.aY.length:Int)==0 || v.kind==5))=p) :
 Sem Tryz.prog B 178 Rw Q [(1, .ptr 0 0),(3, .bool hx),(4, .bool hn),(5, .bool cl)] ⟨[bp v],[]⟩:=by
 have hns:=fun s=>uc hf.RH hf.V3 s
 have hm:=vQ hf.x hf.xt
 have⟨hD,hF,hJ,hP⟩:=bI
 refine Sem.kX ?_
 repeat' (first
 | simp only [go_sem,hD,hF,hJ,hP]
 | (with_reducible refine CU (hns _) ?_)
 | (with_reducible refine CU (hm _) ?_)
 | (with_reducible refine CU (Jp _ _) ?_)
 | (with_reducible first | refine aJ fun hc=> ?_ | refine aK fun hc=> ?_ | refine aL (fun hc=> ?_) fun hc=> ?_) <;> (try simp only [hc,bs, ↓reduceIte]at h) <;> try simp only [hc]
 | (with_reducible refine ay hQ ?_;(try cases h);simp only [az,aB,bc,bd,go_sem,hD,hF,hJ,hP];repeat' (first | exact Ok.out | with_reducible refine bO ?_ ?_ | (simp;done)))
 | (cases h;done))
 all_goals
  refine Sem.re _ _ 1 0 (by rw [hB];exact lQ rfl) (by rw [hB];exact lQ rfl) ?_ ?_ (US hf hB hQ h)
  ·(simp only [go_sem,hD,hF,hJ,hP];repeat' (first | exact Ok.out | with_reducible refine bO ?_ ?_))
  ·(simp only [go_sem,hD,hF,hJ,hP];repeat' (first | exact Ok.out | with_reducible refine bO ?_ ?_))
theorem UU {hx hn:Bool} (hf:v.gI) (hB:B.s = ⟨[],[]⟩) (hQ:ku 0 0 [(2,none)] (.bool p) ⟨[],[]⟩=Q) (ex:v.vP=hx) (en:v.hasName=hn) (h:v.one=p) :
 Sem Tryz.prog B 178 Rx Q [(1, .ptr 0 0),(3, .bool hx),(4, .bool hn)] ⟨[bp v],[]⟩:=by
 unfold Sm.one at h
 rw [ex,en]at h
 have⟨hD,hF,hJ,hP⟩:=bI
 refine Sem.kX ?_
 repeat' (first
 | simp only [go_sem,hD,hF,hJ,hP]
 | (with_reducible first | refine aJ fun hc=> ?_ | refine aK fun hc=> ?_ | refine aL (fun hc=> ?_) fun hc=> ?_) <;> (try simp only [hc,bs, ↓reduceIte]at h) <;> try simp only [hc]
 | (with_reducible refine ay hQ ?_;exact bT)
 | (cases h;done))
 refine Sem.re _ _ 1 0 (by rw [hB];exact lQ rfl) (by rw [hB];exact lQ rfl) ?_ ?_ (UT hf hB hQ h)
 ·(simp only [go_sem,hD,hF,hJ,hP,Sm.pZ];repeat' (first | exact Ok.out | with_reducible refine bO ?_ ?_))
 ·(simp only [go_sem,hD,hF,hJ,hP,Sm.pZ];repeat' (first | exact Ok.out | with_reducible refine bO ?_ ?_))
theorem UW {hx:Bool} (hf:v.gI) (hB:B.s = ⟨[],[]⟩) (hQ:ku 0 0 [(2,none)] (.bool p) ⟨[],[]⟩=Q) (ex:v.vP=hx) (hp:v.one=p) :
 Sem Tryz.prog B 178 Ry Q [(1, .ptr 0 0),(3, .bool hx)] ⟨[bp v],[]⟩:=by
 generalize h:v.hasName=hn
 have hn:=h
 unfold Sm.hasName at h
 have⟨hD,hF,hJ,hP⟩:=bI
 refine Sem.kX ?_
 repeat' (first
 | simp only [go_sem,hD,hF,hJ,hP]
 | (with_reducible first | refine aJ fun hc=> ?_ | refine aK fun hc=> ?_ | refine aL (fun hc=> ?_) fun hc=> ?_) <;> (try simp only [hc,bs, ↓reduceIte]at h) <;> try simp only [hc]
 | (with_reducible refine ay hQ ?_;(try cases h);simp only [az,aB,bc,bd,go_sem,hD,hF,hJ,hP];repeat' (first | exact Ok.out | with_reducible refine bO ?_ ?_ | (simp;done)))
 | (cases h;done))
 all_goals
  refine Sem.re _ _ 1 0 (by rw [hB];exact lQ rfl) (by rw [hB];exact lQ rfl) ?_ ?_ (UU hf hB hQ ex hn hp)
  ·(simp only [go_sem,hD,hF,hJ,hP,h];repeat' (first | exact Ok.out | with_reducible refine bO ?_ ?_))
  ·(simp only [go_sem,hD,hF,hJ,hP,h];repeat' (first | exact Ok.out | with_reducible refine bO ?_ ?_))
theorem UX (hf:v.gI) (hB:B.s = ⟨[],[]⟩) (hQ:ku 0 0 [(2,none)] (.bool p) ⟨[],[]⟩=Q) (hp:v.one=p) :
 Sem Tryz.prog B 178 Rz Q [(1, .ptr 0 0)] ⟨[bp v],[]⟩:=by
 generalize h:v.vP=hx
 have ex:=h
 unfold Sm.vP at h
 have⟨hD,hF,hJ,hP⟩:=bI
 refine Sem.kX ?_
 repeat' (first
 | simp only [go_sem,hD,hF,hJ,hP]
 | (with_reducible first | refine aJ fun hc=> ?_ | refine aK fun hc=> ?_ | refine aL (fun hc=> ?_) fun hc=> ?_) <;> (try simp only [hc,bs, ↓reduceIte]at h) <;> try simp only [hc]
 | (with_reducible refine ay hQ ?_;(try cases h);simp only [az,aB,bc,bd,go_sem,hD,hF,hJ,hP];repeat' (first | exact Ok.out | with_reducible refine bO ?_ ?_ | (simp;done)))
 | (cases h;done))
 all_goals
  refine Sem.re _ _ 1 0 (by rw [hB];exact lQ rfl) (by rw [hB];exact lQ rfl) ?_ ?_ (UW hf hB hQ ex hp)
  ·(simp only [go_sem,hD,hF,hJ,hP,h];repeat' (first | exact Ok.out | with_reducible refine bO ?_ ?_))
  ·(simp only [go_sem,hD,hF,hJ,hP,h];repeat' (first | exact Ok.out | with_reducible refine bO ?_ ?_))
end
theorem aA.V4 {P:Program} {f:FuncId} {nt:Nat} {res:List (Nat×Option (Bool×Nat))} {body:AC} {args:List D} {s:St} {d:D} {s':St} (h0:Has P f nt res body) (hl:Nat.ble args.length nt=true)
 (h : ∀ (B:fO) (Q:Exit→Tm→St→Prop),B.s=s→ku s.av.length s.ax.length res d s'=Q→Sem P B nt body Q (lO 0 args) s):aA P f args s d s':=by
 obtain⟨fn,hf,hc⟩:=h0
 exact aA.intro ⟨fn,hf,hc⟩ (Nat.le_of_ble_eq_true hl) fun B hB=>h B _ hB rfl
theorem UY {v:Sm} (hf:v.gI) (s:St):aA Tryz.prog tV [.agg (bp v)] s (.bool v.one) s:=by
 refine aA.pure ?_ (by simp [D.bN,D.ok,qh]) rfl s
 unfold S0
 refine aA.V4 Dh rfl fun B Q hB hQ=> ?_
 have⟨hD,hF,hJ,hP⟩:=bI
 refine Sem.kX ?_
 repeat' (first
 | simp only [go_sem,hD,hF,hJ,hP]
 | (with_reducible first | refine aJ fun hc=> ?_ | refine aK fun hc=> ?_ | refine aL (fun hc=> ?_) fun hc=> ?_) <;> (try simp only [hc,bs, ↓reduceIte]at h) <;> try simp only [hc]
 | (with_reducible refine ay hQ ?_;exact bT)
 | (cases h;done))
 refine Sem.re _ _ 1 0 (by rw [hB];exact lQ rfl) (by rw [hB];exact lQ rfl) ?_ ?_ (UX hf hB hQ rfl)
 ·(simp only [go_sem,hD,hF,hJ,hP];repeat' (first | exact Ok.out | with_reducible refine bO ?_ ?_))
 ·(simp only [go_sem,hD,hF,hJ,hP];repeat' (first | exact Ok.out | with_reducible refine bO ?_ ?_))
end Go.Abs

/-! Flat1 -/

namespace Go.Abs
set_option maxRecDepth 8000
open Go.Proofs
def fc (i:Im):List D:= [.int .i64 i.s.id, .int .i64 i.s.kind, .slice .shared 1 (i.s.labels.map encStr), .str i.s.name, .str i.s.proc,
 .int .i64 i.s.x.op, .int .i64 i.s.x.n, .str i.s.x.name, .slice .shared 4 (i.s.x.kids.map bB), .bool i.s.has, .slice .shared 6 (i.s.args.map dG), .slice .shared 13 (i.s.bk.map bp), .slice .shared 13 (i.s.aY.map bp), .int .i64 i.proc, .int .i64 i.up, .int .i64 i.next, .int .i64 i.loop]
def jR (n:Int):List D:= [.int .i64 n]
theorem L2 (i:Im):D.bN 0 0 (fc i)=true:=by simp [fc,D.bN,D.ok,Tag.ok,dk,NG,G8,qK]
theorem BW (l:List Im):D.jb 0 0 (l.map fc)=true:=fX L2 l
theorem N7 (n m:Nat) (l:List Im):D.iM n m (l.map fc)=l.map fc:=ky L2 n m l
theorem UZ (n m:Nat) (i:Im):D.fV n m (fc i)=fc i:=gw n m _ (L2 i)
theorem U0 (x:Im):(fc x).length=17:=nd rfl
theorem Pq (x:Im):List.take 17 (fc x)=fc x:=nd rfl
theorem RJ (x:Im):List.drop 17 (fc x) = []:=nd rfl
theorem RK (x:Im):List.take 13 (fc x)=bp x.s:=by simp only [fc,cY];rfl
theorem L3 (x:Im):(fc x)[0]? = some (.int .i64 x.s.id):=nd rfl
theorem L4 (x:Im):(fc x)[1]? = some (.int .i64 x.s.kind):=nd rfl
theorem L5 (x:Im):(fc x)[4]? = some (.str x.s.proc):=nd rfl
theorem Jq (x:Im):(fc x)[13]? = some (.int .i64 x.proc):=nd rfl
theorem Jr (x:Im):(fc x)[14]? = some (.int .i64 x.up):=nd rfl
theorem Js (x:Im):(fc x)[15]? = some (.int .i64 x.next):=nd rfl
theorem Jt (x:Im):(fc x)[16]? = some (.int .i64 x.loop):=nd rfl
theorem Hw (s:Sm) (a b c d:Int):fc ⟨s,a,b,c,d⟩ = [.int .i64 s.id, .int .i64 s.kind, .slice .shared 1 (s.labels.map encStr), .str s.name, .str s.proc,
 .int .i64 s.x.op, .int .i64 s.x.n, .str s.x.name, .slice .shared 4 (s.x.kids.map bB), .bool s.has, .slice .shared 6 (s.args.map dG), .slice .shared 13 (s.bk.map bp), .slice .shared 13 (s.aY.map bp), .int .i64 a, .int .i64 b, .int .i64 c, .int .i64 d]:=nd rfl
theorem N8 (n:Int):D.bN 0 0 (jR n)=true:=rfl
theorem vR (l:List Int):D.jb 0 0 (l.map jR)=true:=fX N8 l
theorem Ju (n m:Nat) (l:List Int):D.iM n m (l.map jR)=l.map jR:=ky N8 n m l
attribute [go_sem] N7 UZ U0 Pq RJ RK L3 L4 L5 Jq Jr Js Jt Ju jR
theorem RL : ∀ n,n<1000000000→∀ v:Sm,v.size≤n→aA Tryz.prog j8 [.agg (bp v)] S0 (.int .i64 (v.im:Int)) S0:=by
 intro n
 induction n with
 | zero=>intro _ v h;obtain⟨_,_,_,_,_,_,_,_,_,_⟩:=v;simp only [Sm.size]at h;omega
 | succ n ih=>
 intro hn v hv
 have eg:Sm.aP v.bk≤n∧Sm.aP v.aY≤n∧v.im=1+Sm.gS v.bk+Sm.gS v.aY:=by
  obtain⟨_,_,_,_,_,_,_,_,_,_⟩:=v
  simp only [Sm.size]at hv;exact⟨by dsimp only;omega,by dsimp only;omega,rfl⟩
 obtain⟨h1,h2,h3⟩:=eg
 have c1:=mj v.bk
 have c2:=mj v.aY
 have l1:=Sm.dc v.bk
 have l2:=Sm.dc v.aY
 have hk : ∀ y,y∈v.bk∨y∈v.aY→∀ s,aA Tryz.prog j8 [.agg (bp y)] s (.int .i64 (y.im:Int)) s:=fun y hy s=>
  (ih (by omega) y (by rcases hy with hy | hy <;> (have:=Sm.bS hy;omega))).pure (by simp only [D.bN,D.ok,qh];rfl) rfl s
 rw [h3]
 unfold S0
 refine aA.go BD rfl fun B Q hB hQ=> ?_
 have⟨hD,hF,hJ,hP⟩:=bI
 repeat' (first
 | simp only [go_sem,hD,hF,hJ,hP]
 | (with_reducible refine ay hQ ?_;simp only [az,aB,Option.some.injEq,exists_eq_left',go_sem,hD,hF,hJ,hP];repeat' (first | exact Ok.out | with_reducible refine bO ?_ ?_ | (simp;done))))
 refine cV 1 0 (bj.ind (ι:=List Sm×Nat×Nat) (fun i=>v.bk.drop i.2.1=i.1∧i.2.2+Sm.gS i.1=1+Sm.gS v.bk) (fun i=>i.1.length)
  (fun i=> [(1, .ptr 0 0),(3, .int .i64 (i.2.2:Int)),(9, .slice .shared 13 (v.bk.map bp)),(10, .int .i64 (v.bk.length:Int)),(11, .int .i64 (i.2.1:Int))]) (fun i=>⟨[bp v],[]⟩) ?_ (v.bk,0,1) ⟨rfl,rfl⟩)
 rintro⟨rest,k,c⟩ ⟨g1,g2⟩ IH
 dsimp only at g1 g2
 cases rest with
 | cons y rest=>
  obtain⟨hF,g3,hD,g4⟩:=drop_cons g1
  have hy:=hk y (.inl (List.mem_of_getElem? hF))
  simp only [Sm.gS]at g2
  have hcy:=xB y
  have M4:=Sm.bS (List.mem_of_getElem? hF)
  have w1:IntKind.wrap .i64 ((k:Int)+1)=((k+1:Nat):Int):=by rw [dt] <;> omega
  have w2:IntKind.wrap .i64 ((c:Int)+(y.im:Int))=((c+y.im:Nat):Int):=by rw [dt] <;> omega
  repeat' (first
 | simp only [go_sem,hD,hF,hJ,hP,w1,w2]
 | (with_reducible refine CU (hy _) ?_)
 | (with_reducible refine ay hQ ?_;simp only [az,aB,Option.some.injEq,exists_eq_left',go_sem,hD,hF,hJ,hP];repeat' (first | exact Ok.out | with_reducible refine bO ?_ ?_ | (simp;done))))
  refine cV 1 0 (IH (rest,k+1,c+y.im) ⟨g3,by dsimp only;omega⟩ (Nat.lt_succ_self _))
 | nil=>
  have hD:=drop_nil g1
  simp only [Sm.gS,Nat.add_zero]at g2
  subst g2
  repeat' (first
 | simp only [go_sem,hD,hF,hJ,hP]
 | (with_reducible refine ay hQ ?_;simp only [az,aB,Option.some.injEq,exists_eq_left',go_sem,hD,hF,hJ,hP];repeat' (first | exact Ok.out | with_reducible refine bO ?_ ?_ | (simp;done))))
  refine cV 1 0 (bj.ind (ι:=List Sm×Nat×Nat) (fun i=>v.aY.drop i.2.1=i.1∧i.2.2+Sm.gS i.1=1+Sm.gS v.bk+Sm.gS v.aY) (fun i=>i.1.length)
   (fun i=> [(1, .ptr 0 0),(3, .int .i64 (i.2.2:Int)),(21, .slice .shared 13 (v.aY.map bp)),(22, .int .i64 (v.aY.length:Int)),(23, .int .i64 (i.2.1:Int))]) (fun i=>⟨[bp v],[]⟩) ?_ (v.aY,0,1+Sm.gS v.bk) ⟨rfl,rfl⟩)
  rintro⟨rest,k,c⟩ ⟨g1,g2⟩ IH
  dsimp only at g1 g2
  cases rest with
  | cons y rest=>
   obtain⟨hF,g3,hD,g4⟩:=drop_cons g1
   have hy:=hk y (.inr (List.mem_of_getElem? hF))
   simp only [Sm.gS]at g2
   have hcy:=xB y
   have M4:=Sm.bS (List.mem_of_getElem? hF)
   have w1:IntKind.wrap .i64 ((k:Int)+1)=((k+1:Nat):Int):=by rw [dt] <;> omega
   have w2:IntKind.wrap .i64 ((c:Int)+(y.im:Int))=((c+y.im:Nat):Int):=by rw [dt] <;> omega
   repeat' (first
 | simp only [go_sem,hD,hF,hJ,hP,w1,w2]
 | (with_reducible refine CU (hy _) ?_)
 | (with_reducible refine ay hQ ?_;simp only [az,aB,Option.some.injEq,exists_eq_left',go_sem,hD,hF,hJ,hP];repeat' (first | exact Ok.out | with_reducible refine bO ?_ ?_ | (simp;done))))
   refine cV 1 0 (IH (rest,k+1,c+y.im) ⟨g3,by dsimp only;omega⟩ (Nat.lt_succ_self _))
  | nil=>
   have hD:=drop_nil g1
   simp only [Sm.gS,Nat.add_zero]at g2
   subst g2
   repeat' (first
 | simp only [go_sem,hD,hF,hJ,hP]
 | (with_reducible refine ay hQ ?_;simp only [az,aB,Option.some.injEq,exists_eq_left',go_sem,hD,hF,hJ,hP];repeat' (first | exact Ok.out | with_reducible refine bO ?_ ?_ | (simp;done))))
theorem RM {v:Sm} (h:v.size<1000000000) (s:St):aA Tryz.prog j8 [.agg (bp v)] s (.int .i64 (v.im:Int)) s:=
 (RL v.size h v (Nat.le_refl _)).pure (by simp only [D.bN,D.ok,qh];rfl) rfl s
end Go.Abs

/-! Flat2 -/

namespace Go.Abs
set_option maxRecDepth 8000
open Go.Proofs
abbrev gi (g ps:D) (L:List Im) (lo hi:List Int):List D:= [g,ps, .slice (.tok 0) 17 (L.map fc), .slice (.tok 1) 1 (lo.map jR), .slice (.tok 2) 1 (hi.map jR)]
abbrev L6 (proc up next loop:Int):List D:= [.int .i64 0, .int .i64 0, .slice .full 0 [], .str [], .str [], .int .i64 0, .int .i64 0, .str [], .slice .full 0 [], .bool false, .slice .full 0 [], .slice .full 0 [], .slice .full 0 [], .int .i64 proc, .int .i64 up, .int .i64 next, .int .i64 loop]
theorem aA.U1 {P:Program} {f:Nat} {args:List D} {g ps:D} {L L':List Im} {lo hi Ax gO:List Int} {a b c a' b' c':Option Nat}
 (h:aA P f (.ptr 0 0::args) ⟨[gi g ps L lo hi],[a,b,c]⟩ (.tuple []) ⟨[gi g ps L' Ax gO],[a',b',c']⟩)
 (ha:D.bN 0 0 args=true) (hg:D.ok 0 0 g=true) (hp:D.ok 0 0 ps=true)
 {s:St} {o:Nat} (ho:s.av[o]? = some (gi g ps L lo hi)) (ht:s.ax = [a,b,c]):aA P f (.ptr o 0::args) s (.tuple []) ⟨s.av.set o (gi g ps L' Ax gO),[a',b',c']⟩:=by
 have hr : ∀ (L:List Im) (lo hi:List Int),D.fF [o] [0,1,2] (gi g ps L lo hi)=gi g ps L lo hi:=fun L lo hi=>by
  simp [D.fF,D.dD,Tag.dD,o9 _ _ _ hg,o9 _ _ _ hp,kQ _ _ _ (BW L),kQ _ _ _ (vR lo),kQ _ _ _ (vR hi)]
 have hk : ∀ (L:List Im) (lo hi:List Int),D.bN 1 3 (gi g ps L lo hi)=true:=fun L lo hi=>by
  simp [D.bN,D.ok,Tag.ok,zw (Nat.zero_le 1) (Nat.zero_le 3) _ hg,zw (Nat.zero_le 1) (Nat.zero_le 3) _ hp,nR (Nat.zero_le 1) (Nat.zero_le 3) _ (BW L),nR (Nat.zero_le 1) (Nat.zero_le 3) _ (vR lo),nR (Nat.zero_le 1) (Nat.zero_le 3) _ (vR hi)]
 refine ef.frame [o] [0,1,2] h (by simp) (by decide) (by simpa using (List.getElem?_eq_some_iff.1 ho).1) (by rw [ht];simp) rfl (fun i o' ds e1 e2=> ?_) rfl (fun i t' e1=> ?_)
  (by simp [D.fF,D.dD,fG _ _ _ ha])
  (by simp [D.bN,D.ok,iI (Nat.zero_le 1) (Nat.zero_le 3) _ ha]) ?_
 ·cases i with
  | zero=>simp only [List.getElem?_cons_zero,Option.some.injEq]at e1 e2;subst e1;subst e2;exact⟨by rw [hr];exact ho,hk L lo hi⟩
  | succ i=>simp at e1
 ·rw [ht]
  match i,e1 with
  | 0,e1=>simp at e1;subst e1;rfl
  | 1,e1=>simp at e1;subst e1;rfl
  | 2,e1=>simp at e1;subst e1;rfl
  | i+3,e1=>simp at e1
 ·rintro _ _ ⟨rfl,rfl⟩
  refine⟨by simp [D.back,D.dD,D.fF], ?_⟩
  have:=hr L' Ax gO
  simp [St.back,jo,jE,this,ht]
abbrev N9 (N:Nat):Prop:=∀ (l:List Sm) (proc up next loop:Int) (out:List Im) (g ps:D) (lo hi:List Int) (b c:Option Nat),Sm.aP l<N→out.length+Sm.gS l<1000000000→D.ok 0 0 g=true→D.ok 0 0 ps=true→
 ∀ {s:St} {o:Nat},s.av[o]? = some (gi g ps out lo hi)→s.ax = [some out.length,b,c]→
 aA Tryz.prog ij [.ptr o 0, .slice .shared 13 (l.map bp), .agg (L6 proc up next loop)] s (.tuple []) ⟨s.av.set o (gi g ps (Im.rows proc up next loop out l) lo hi),[some (Im.rows proc up next loop out l).length,b,c]⟩
theorem U2 {N:Nat} (ih:N9 N) {l:List Sm} {proc up next loop:Int} {out:List Im} {g ps:D} {lo hi:List Int} {b c:Option Nat} (hs:Sm.aP l<N+1) (hc:out.length+Sm.gS l<1000000000) (hg:D.ok 0 0 g=true) (hp:D.ok 0 0 ps=true) (hN:N<1000000000) :
 aA Tryz.prog ij [.ptr 0 0, .slice .shared 13 (l.map bp), .agg (L6 proc up next loop)] ⟨[gi g ps out lo hi],[some out.length,b,c]⟩ (.tuple []) ⟨[gi g ps (Im.rows proc up next loop out l) lo hi],[some (Im.rows proc up next loop out l).length,b,c]⟩:=by
 obtain⟨R,hR⟩ : ∃ R,R=Im.rows proc up next loop out l:=⟨_,rfl⟩
 have hlR:R.length=out.length+Sm.gS l:=by rw [hR,fq]
 rw [← hR]
 have k1 : ∀ n m,D.fg n m g=g:=fun n m=>G6 n m _ hg
 have k2 : ∀ n m,D.fg n m ps=ps:=fun n m=>G6 n m _ hp
 refine aA.go vO rfl fun B Q hB hQ=> ?_
 have⟨hD,hF,hJ,hP⟩:=bI
 repeat' (first
 | simp only [go_sem,hD,hF,hJ,hP,k1,k2]
 | (with_reducible first | refine aJ fun hc=> ?_ | refine aK fun hc=> ?_ | refine aL (fun hc=> ?_) fun hc=> ?_) <;> (try simp only [hc,bs, ↓reduceIte]at h) <;> try simp only [hc]
 | (with_reducible refine ay hQ ?_;simp only [az,aB,bc,bd,go_sem,hD,hF,hJ,hP,k1,k2];repeat' (first | exact Ok.out | with_reducible refine bO ?_ ?_ | (simp;done))))
 refine cd 2 3 ?_ ?_ (bj.ind (ι:=List Sm×Nat×List Im) (fun i=>l.drop i.2.1=i.1∧Im.rows proc up next loop i.2.2 i.1=R∧i.2.2.length+Sm.gS i.1=out.length+Sm.gS l) (fun i=>i.1.length)
  (fun i=> [(0, .ptr 0 0),(1, .slice .shared 13 (l.map bp)),(5, .ptr 1 0),(11, .slice .shared 13 (l.map bp)),(12, .int .i64 (l.length:Int)),(13, .int .i64 (i.2.1:Int))]) (fun i=>⟨[gi g ps i.2.2 lo hi,L6 proc up next loop],[some i.2.2.length,b,c]⟩) ?_ (l,0,out) ⟨rfl,hR.symm,rfl⟩)
 ·(simp only [go_sem,hD,hF,hJ,hP,k1,k2];try exact aZ)
 ·(simp only [go_sem,hD,hF,hJ,hP,k1,k2];try exact aZ)
 rintro⟨rest,k,bh⟩ ⟨h1,h2,h3⟩ IH
 dsimp only at h1 h2 h3
 have hlen:l.length<1000000000:=by have:=Sm.dc l;omega
 cases rest with
 | nil=>
  have hD:=drop_nil h1
  simp only [Im.rows]at h2
  subst h2
  repeat' (first
 | simp only [go_sem,hD,hF,hJ,hP,k1,k2]
 | (with_reducible first | refine aJ fun hc=> ?_ | refine aK fun hc=> ?_ | refine aL (fun hc=> ?_) fun hc=> ?_) <;> (try simp only [hc,bs, ↓reduceIte]at h) <;> try simp only [hc]
 | (with_reducible refine ay hQ ?_;simp only [az,aB,bc,bd,go_sem,hD,hF,hJ,hP,k1,k2];repeat' (first | exact Ok.out | with_reducible refine bO ?_ ?_ | (simp;done))))
 | cons v rest=>
  obtain⟨hF,g2,hD,g4⟩:=drop_cons h1
  have bm:k<4611686018427387904:=by omega
  have hv:=Sm.bS (List.mem_of_getElem? hF)
  have ma:Sm.aP v.bk<N∧Sm.aP v.aY<N∧v.im=1+Sm.gS v.bk+Sm.gS v.aY:=by
   obtain⟨_,_,_,_,_,_,_,_,_,_⟩:=v
   simp only [Sm.size]at hv
   exact⟨by dsimp only;omega,by dsimp only;omega,rfl⟩
  obtain⟨yn,Cj,hv3⟩:=ma
  simp only [Sm.gS]at h3
  simp only [Im.rows,Im.Re]at h2
  have hJ:(bh.length+1)*241≤bf:=by unfold bf;omega
  have EU:IntKind.wrap .i64 ((bh.length:Int)+1)=(bh.length:Int)+1:=dt (by omega) (by omega)
  have sf:IntKind.wrap .i64 ((k:Int)+1)=((k+1:Nat):Int):=by rw [dt] <;> omega
  have Oa:IntKind.wrap .i64 ((bh.length:Int)+1+(v.im:Int))=(bh.length:Int)+1+(v.im:Int):=dt (by omega) (by omega)
  have eg:=fun s=>RM (v:=v) (by omega) s
  simp only [cY]at eg
  have H6:rest.length=l.length - (k+1):=by rw [← g2,List.length_drop]
  by_cases ag9:k+1<l.length
  ·have d1:decide (((k+1:Nat):Int)<(l.length:Int))=true:=by simp;omega
   have e1:(rest.length=0)=False:=by simp;intro h;rw [h]at H6;simp at H6;omega
   by_cases Jv:v.kind=6
   ·have d2:(v.kind==6)=true:=by simp [Jv]
    simp only [e1,d2, ↓reduceIte,Bool.false_eq_true]at h2
    have f1:=fun {s:St} {o:Nat}=>@ih v.bk proc ((bh.length:Int)+1) ((bh.length:Int)+1) ((bh.length:Int)+1) (bh++ [⟨v,proc,up,((bh.length:Int)+1+(v.im:Int)),loop⟩]) g ps lo hi b c yn (by simp;omega) hg hp s o
    have f2:=fun {s:St} {o:Nat}=>@ih v.aY proc ((bh.length:Int)+1) ((bh.length:Int)+1) ((bh.length:Int)+1) _ g ps lo hi b c Cj (by rw [fq proc ((bh.length:Int)+1) ((bh.length:Int)+1) ((bh.length:Int)+1) (bh++ [⟨v,proc,up,((bh.length:Int)+1+(v.im:Int)),loop⟩]) v.bk];simp;omega) hg hp s o
    have hl:(Im.rows proc ((bh.length:Int)+1) ((bh.length:Int)+1) ((bh.length:Int)+1) (Im.rows proc ((bh.length:Int)+1) ((bh.length:Int)+1) ((bh.length:Int)+1) (bh++ [⟨v,proc,up,((bh.length:Int)+1+(v.im:Int)),loop⟩]) v.bk) v.aY).length=bh.length+v.im:=by rw [fq,fq];simp;omega
    simp only [gi,List.map_append,List.map_cons,List.map_nil,Hw,List.length_append,List.length_cons,List.length_nil]at f1
    repeat' (first
 | simp only [go_sem,hD,hF,hJ,hP,k1,k2,EU,sf,Oa,d1,d2,cY]
 | (with_reducible refine CU (eg _) ?_)
 | (with_reducible refine CU (f1 (by with_unfolding_all rfl) (by with_unfolding_all rfl)) ?_)
 | (with_reducible refine CU (f2 (by with_unfolding_all rfl) (by with_unfolding_all rfl)) ?_)
 | (with_reducible refine ay hQ ?_;simp only [az,aB,bc,bd,go_sem,hD,hF,hJ,hP];repeat' (first | exact Ok.out | with_reducible refine bO ?_ ?_ | (simp;done))))
    refine cd 2 3 ?_ ?_ (IH (rest,k+1,_) ⟨g2,h2,by dsimp only;rw [hl];omega⟩ (Nat.lt_succ_self _))
    ·(simp only [go_sem,hD,hF,hJ,hP,sf,k1,k2];try exact aZ)
    ·(simp only [go_sem,hD,hF,hJ,hP,sf,k1,k2];try exact aZ)
   ·have d2:(v.kind==6)=false:=by simp [Jv]
    simp only [e1,d2, ↓reduceIte,Bool.false_eq_true]at h2
    have f1:=fun {s:St} {o:Nat}=>@ih v.bk proc ((bh.length:Int)+1) ((bh.length:Int)+1+(v.im:Int)) loop (bh++ [⟨v,proc,up,((bh.length:Int)+1+(v.im:Int)),loop⟩]) g ps lo hi b c yn (by simp;omega) hg hp s o
    have f2:=fun {s:St} {o:Nat}=>@ih v.aY proc ((bh.length:Int)+1) ((bh.length:Int)+1+(v.im:Int)) loop _ g ps lo hi b c Cj (by rw [fq proc ((bh.length:Int)+1) ((bh.length:Int)+1+(v.im:Int)) loop (bh++ [⟨v,proc,up,((bh.length:Int)+1+(v.im:Int)),loop⟩]) v.bk];simp;omega) hg hp s o
    have hl:(Im.rows proc ((bh.length:Int)+1) ((bh.length:Int)+1+(v.im:Int)) loop (Im.rows proc ((bh.length:Int)+1) ((bh.length:Int)+1+(v.im:Int)) loop (bh++ [⟨v,proc,up,((bh.length:Int)+1+(v.im:Int)),loop⟩]) v.bk) v.aY).length=bh.length+v.im:=by rw [fq,fq];simp;omega
    simp only [gi,List.map_append,List.map_cons,List.map_nil,Hw,List.length_append,List.length_cons,List.length_nil]at f1
    repeat' (first
 | simp only [go_sem,hD,hF,hJ,hP,k1,k2,EU,sf,Oa,d1,d2,cY]
 | (with_reducible refine CU (eg _) ?_)
 | (with_reducible refine CU (f1 (by with_unfolding_all rfl) (by with_unfolding_all rfl)) ?_)
 | (with_reducible refine CU (f2 (by with_unfolding_all rfl) (by with_unfolding_all rfl)) ?_)
 | (with_reducible refine ay hQ ?_;simp only [az,aB,bc,bd,go_sem,hD,hF,hJ,hP];repeat' (first | exact Ok.out | with_reducible refine bO ?_ ?_ | (simp;done))))
    refine cd 2 3 ?_ ?_ (IH (rest,k+1,_) ⟨g2,h2,by dsimp only;rw [hl];omega⟩ (Nat.lt_succ_self _))
    ·(simp only [go_sem,hD,hF,hJ,hP,sf,k1,k2];try exact aZ)
    ·(simp only [go_sem,hD,hF,hJ,hP,sf,k1,k2];try exact aZ)
  ·have d1:decide (((k+1:Nat):Int)<(l.length:Int))=false:=by simp;omega
   have e1:(rest.length=0)=True:=by simp only [eq_iff_iff,iff_true];omega
   by_cases Jv:v.kind=6
   ·have d2:(v.kind==6)=true:=by simp [Jv]
    simp only [e1,d2, ↓reduceIte,Bool.false_eq_true]at h2
    have f1:=fun {s:St} {o:Nat}=>@ih v.bk proc ((bh.length:Int)+1) ((bh.length:Int)+1) ((bh.length:Int)+1) (bh++ [⟨v,proc,up,next,loop⟩]) g ps lo hi b c yn (by simp;omega) hg hp s o
    have f2:=fun {s:St} {o:Nat}=>@ih v.aY proc ((bh.length:Int)+1) ((bh.length:Int)+1) ((bh.length:Int)+1) _ g ps lo hi b c Cj (by rw [fq proc ((bh.length:Int)+1) ((bh.length:Int)+1) ((bh.length:Int)+1) (bh++ [⟨v,proc,up,next,loop⟩]) v.bk];simp;omega) hg hp s o
    have hl:(Im.rows proc ((bh.length:Int)+1) ((bh.length:Int)+1) ((bh.length:Int)+1) (Im.rows proc ((bh.length:Int)+1) ((bh.length:Int)+1) ((bh.length:Int)+1) (bh++ [⟨v,proc,up,next,loop⟩]) v.bk) v.aY).length=bh.length+v.im:=by rw [fq,fq];simp;omega
    simp only [gi,List.map_append,List.map_cons,List.map_nil,Hw,List.length_append,List.length_cons,List.length_nil]at f1
    repeat' (first
 | simp only [go_sem,hD,hF,hJ,hP,k1,k2,EU,sf,Oa,d1,d2,cY]
 | (with_reducible refine CU (eg _) ?_)
 | (with_reducible refine CU (f1 (by with_unfolding_all rfl) (by with_unfolding_all rfl)) ?_)
 | (with_reducible refine CU (f2 (by with_unfolding_all rfl) (by with_unfolding_all rfl)) ?_)
 | (with_reducible refine ay hQ ?_;simp only [az,aB,bc,bd,go_sem,hD,hF,hJ,hP];repeat' (first | exact Ok.out | with_reducible refine bO ?_ ?_ | (simp;done))))
    refine cd 2 3 ?_ ?_ (IH (rest,k+1,_) ⟨g2,h2,by dsimp only;rw [hl];omega⟩ (Nat.lt_succ_self _))
    ·(simp only [go_sem,hD,hF,hJ,hP,sf,k1,k2];try exact aZ)
    ·(simp only [go_sem,hD,hF,hJ,hP,sf,k1,k2];try exact aZ)
   ·have d2:(v.kind==6)=false:=by simp [Jv]
    simp only [e1,d2, ↓reduceIte,Bool.false_eq_true]at h2
    have f1:=fun {s:St} {o:Nat}=>@ih v.bk proc ((bh.length:Int)+1) next loop (bh++ [⟨v,proc,up,next,loop⟩]) g ps lo hi b c yn (by simp;omega) hg hp s o
    have f2:=fun {s:St} {o:Nat}=>@ih v.aY proc ((bh.length:Int)+1) next loop _ g ps lo hi b c Cj (by rw [fq proc ((bh.length:Int)+1) next loop (bh++ [⟨v,proc,up,next,loop⟩]) v.bk];simp;omega) hg hp s o
    have hl:(Im.rows proc ((bh.length:Int)+1) next loop (Im.rows proc ((bh.length:Int)+1) next loop (bh++ [⟨v,proc,up,next,loop⟩]) v.bk) v.aY).length=bh.length+v.im:=by rw [fq,fq];simp;omega
    simp only [gi,List.map_append,List.map_cons,List.map_nil,Hw,List.length_append,List.length_cons,List.length_nil]at f1
    repeat' (first
 | simp only [go_sem,hD,hF,hJ,hP,k1,k2,EU,sf,Oa,d1,d2,cY]
 | (with_reducible refine CU (eg _) ?_)
 | (with_reducible refine CU (f1 (by with_unfolding_all rfl) (by with_unfolding_all rfl)) ?_)
 | (with_reducible refine CU (f2 (by with_unfolding_all rfl) (by with_unfolding_all rfl)) ?_)
 | (with_reducible refine ay hQ ?_;simp only [az,aB,bc,bd,go_sem,hD,hF,hJ,hP];repeat' (first | exact Ok.out | with_reducible refine bO ?_ ?_ | (simp;done))))
    refine cd 2 3 ?_ ?_ (IH (rest,k+1,_) ⟨g2,h2,by dsimp only;rw [hl];omega⟩ (Nat.lt_succ_self _))
    ·(simp only [go_sem,hD,hF,hJ,hP,sf,k1,k2];try exact aZ)
    ·(simp only [go_sem,hD,hF,hJ,hP,sf,k1,k2];try exact aZ)
theorem Pr : ∀ N,N<1000000000→N9 N:=by
 intro N
 induction N with
 | zero=>exact fun _ l proc up next loop out g ps lo hi b c h=>absurd h (Nat.not_lt_zero _)
 | succ N ih=>
  intro h l proc up next loop out g ps lo hi b c hs hc hg hp s o ho ht
  exact(U2 (ih (by omega)) hs hc hg hp (by omega)).U1 (by simp [D.bN,D.ok,Tag.ok,qK,D.jb]) hg hp ho ht
end Go.Abs

/-! Flat3 -/

namespace Go.Abs
set_option maxRecDepth 8000
open Go.Proofs
def jy (p:Pg):List D:= [.slice .shared 1 (p.globals.map encStr), .slice .shared 5 (p.procs.map bV), .slice .shared 17 (p.fQ.L.map fc), .slice .shared 1 (p.fQ.lo.map jR), .slice .shared 1 (p.fQ.hi.map jR)]
theorem Dk (p:Pg):jy p = [.slice .shared 1 (p.globals.map encStr), .slice .shared 5 (p.procs.map bV), .slice .shared 17 (p.fQ.L.map fc), .slice .shared 1 (p.fQ.lo.map jR), .slice .shared 1 (p.fQ.hi.map jR)]:=nd rfl
theorem zY (p:Pg):D.bN 0 0 (jy p)=true:=by simp [jy,D.bN,D.ok,Tag.ok,dk,BV,BW,vR]
theorem Jw (p:Pg):bP p = [.slice .shared 1 (p.globals.map encStr), .slice .shared 5 (p.procs.map bV)]:=nd rfl
theorem U3 {p:Pg} (hs:Pc.aP p.procs<1000000000):aA Tryz.prog kY [.agg (bP p)] S0 (.ptr 1 0) ⟨[bP p,gi (.slice .shared 1 (p.globals.map encStr)) (.slice .shared 5 (p.procs.map bV)) p.fQ.L p.fQ.lo p.fQ.hi],[some p.fQ.L.length,some p.fQ.lo.length,some p.fQ.hi.length]⟩:=by
 have hlen:p.procs.length<1000000000:=by have:=Pc.dc p.procs;omega
 obtain⟨R,hR⟩ : ∃ R,R=p.fQ:=⟨_,rfl⟩
 have V5:=hR
 unfold Pg.fQ at V5
 unfold S0
 rw [Jw, ← hR]
 refine aA.goK 2 3 (Nat.zero_le _) (Nat.zero_le _) Db rfl fun B Q hB hQ=> ?_
 have⟨hD,hF,hJ,hP⟩:=bI
 repeat' (first
 | simp only [go_sem,hD,hF,hJ,hP,Jw]
 | (with_reducible refine ay hQ ?_;simp only [az,aB,Option.some.injEq,exists_eq_left',go_sem,hD,hF,hJ,hP];repeat' (first | exact Ok.out | with_reducible refine bO ?_ ?_ | (simp;done))))
 refine bj.K1 1 2 17 rfl rfl ?_
 simp only [go_sem,hD,hF,hJ,hP]
 refine bj.K1 1 3 1 rfl rfl ?_
 simp only [go_sem,hD,hF,hJ,hP]
 refine bj.K1 1 4 1 rfl rfl ?_
 simp only [go_sem,hD,hF,hJ,hP]
 refine cd 2 3 ?_ ?_ (bj.ind (ι:=List Pc×Nat×Sh×Nat×Nat) (fun i=>p.procs.drop i.2.1=i.1∧Sh.go i.2.1 i.2.2.1 i.1=R∧i.2.2.1.L.length+Pc.aP i.1≤Pc.aP p.procs∧i.2.2.1.lo.length=i.2.1∧i.2.2.1.hi.length=i.2.1∧i.2.2.2.1=i.2.2.1.lo.length∧i.2.2.2.2=i.2.2.1.hi.length) (fun i=>i.1.length)
  (fun i=> [(1, .ptr 0 0),(3, .ptr 1 0),(10, .slice .shared 5 (p.procs.map bV)),(11, .int .i64 (p.procs.length:Int)),(12, .int .i64 (i.2.1:Int))]) (fun i=>⟨[[.slice .shared 1 (p.globals.map encStr), .slice .shared 5 (p.procs.map bV)],gi (.slice .shared 1 (p.globals.map encStr)) (.slice .shared 5 (p.procs.map bV)) i.2.2.1.L i.2.2.1.lo i.2.2.1.hi],[some i.2.2.1.L.length,some i.2.2.2.1,some i.2.2.2.2]⟩) ?_ (p.procs,0,⟨[],[],[]⟩,0,0) ⟨rfl,V5.symm,by simp,rfl,rfl,rfl,rfl⟩)
 ·(simp only [go_sem,hD,hF,hJ,hP,gi];try exact aZ)
 ·(simp only [go_sem,hD,hF,hJ,hP,gi];try exact aZ)
 rintro⟨rest,k,h,n1,n2⟩ ⟨h1,h2,h3,h4,h5,h6,h7⟩ IH
 dsimp only at h1 h2 h3 h4 h5 h6 h7
 subst h6 h7
 cases rest with
 | nil=>
  have hD:=drop_nil h1
  simp only [Sh.go]at h2
  rw [← h2]at hQ
  repeat' (first
 | simp only [go_sem,hD,hF,hJ,hP,gi]
 | (with_reducible refine ay hQ ?_;simp only [az,aB,Option.some.injEq,exists_eq_left',go_sem,hD,hF,hJ,hP];repeat' (first | exact Ok.out | with_reducible refine bO ?_ ?_ | (simp;done))))
 | cons f rest=>
  obtain⟨hF,g2,hD,g4⟩:=drop_cons h1
  have bm:k<4611686018427387904:=by omega
  simp only [Pc.aP,Pc.size]at h3
  simp only [Sh.go]at h2
  have c1:=mj f.body
  have hJ:(h.lo.length+1)*9≤bf:=by unfold bf;omega
  have aae:(h.hi.length+1)*9≤bf:=by unfold bf;omega
  have EU:IntKind.wrap .i64 ((h.L.length:Int)+1)=(h.L.length:Int)+1:=dt (by omega) (by omega)
  have hl:(Im.rows (k:Int) 0 (-1) 0 h.L f.body).length=h.L.length+Sm.gS f.body:=fq ..
  have sf:IntKind.wrap .i64 (((Im.rows (k:Int) 0 (-1) 0 h.L f.body).length:Int)+1)=((Im.rows (k:Int) 0 (-1) 0 h.L f.body).length:Int)+1:=dt (by omega) (by omega)
  have hr:=fun {s:St} {o:Nat}=>@Pr (Sm.aP f.body+1) (by omega) f.body (k:Int) 0 (-1) 0 h.L (.slice .shared 1 (p.globals.map encStr)) (.slice .shared 5 (p.procs.map bV)) (h.lo++ [(h.L.length:Int)+1]) h.hi (some (h.lo.length+1)) (some h.hi.length) (Nat.lt_succ_self _) (by omega) (by simp [D.ok,Tag.ok,dk]) (by simp [D.ok,Tag.ok,BV]) s o
  simp only [gi,List.map_append,List.map_cons,List.map_nil,jR]at hr
  repeat' (first
 | simp only [go_sem,hD,hF,hJ,hP,EU,sf,aae,gi]
 | (with_reducible refine CU (hr (by with_unfolding_all rfl) (by with_unfolding_all rfl)) ?_)
 | (with_reducible refine ay hQ ?_;simp only [az,aB,Option.some.injEq,exists_eq_left',go_sem,hD,hF,hJ,hP];repeat' (first | exact Ok.out | with_reducible refine bO ?_ ?_ | (simp;done))))
  refine cd 2 3 ?_ ?_ (IH (rest,k+1,⟨Im.rows (k:Int) 0 (-1) 0 h.L f.body,h.lo++ [(h.L.length:Int)+1],h.hi++ [((Im.rows (k:Int) 0 (-1) 0 h.L f.body).length:Int)+1]⟩,_,_) ⟨g2,h2,by dsimp only;rw [hl];omega,by simp [h4],by simp [h5],by simp,by simp⟩ (Nat.lt_succ_self _))
  ·(simp only [go_sem,hD,hF,hJ,hP,gi,au bm,List.map_append,List.map_cons,List.map_nil,jR];try exact aZ)
  ·(simp only [go_sem,hD,hF,hJ,hP,gi,au bm,List.map_append,List.map_cons,List.map_nil,jR];try exact aZ)
theorem BX {p:Pg} (hs:Pc.aP p.procs<1000000000) (s:St):aA Tryz.prog kY [.agg (bP p)] s (.dE (jy p) 0) s:=by
 refine aA.pure ?_ (by simp only [D.bN,D.ok,ie];rfl) (by simp only [D.ok,zY]) s
 have h:=(U3 hs).u9 (n:=0) (m:=0) rfl (Nat.le_refl _) (Nat.zero_le _) (Nat.le_refl _)
 simpa [D.fV,D.fg,Tag.fg,Jl,NH,N7,Ju,St.cut,jy,S0]using h
end Go.Abs

/-! Sl1 -/

namespace Go.Abs
set_option maxRecDepth 8000
open Go.Proofs
def lJ (x:aE) (k:Int):List aE→Int
 | []=> -1
 | s::l=>if x==s then k else lJ x (k+1) l
def dV (l:List aE) (x:aE):Bool:=decide (lJ x 0 l≥0)
def j9 {α:Type} (b:α→Bool) (k:Int):List α→Int
 | []=> -1
 | s::l=>if b s then k else j9 b (k+1) l
theorem EV (x:aE) : ∀ (l:List aE) (k:Int),0≤k→(lJ x k l≥0↔x∈l)
 | [],k,h=>by simp [lJ]
 | s::l,k,h=>by
  by_cases e:x=s
  ·simp [lJ,e];omega
  ·have e':(x==s)=false:=by simp [e]
   simp only [lJ,e',Bool.false_eq_true,if_false,List.mem_cons,e,false_or]
   exact EV x l (k+1) (by omega)
theorem ju (l:List aE) (x:aE):dV l x=true↔x∈l:=by
 simp only [dV,decide_eq_true_eq];exact EV x l 0 (Int.le_refl 0)
theorem zZ {α:Type} (b:α→Bool) : ∀ (l:List α) (k:Int),0≤k→(j9 b k l≥0↔l.any b=true)
 | [],k,h=>by simp [j9]
 | s::l,k,h=>by
  by_cases e:b s=true
  ·simp [j9,e];omega
  ·have e':b s=false:=by simpa using e
   simp only [j9,e',Bool.false_eq_true,if_false,List.any_cons,Bool.or_eq_true,false_or]
   exact zZ b l (k+1) (by omega)
theorem EW {l:List aE} (hl:l.length<4611686018427387904) (x:aE) (s:St):aA Tryz.prog gx [.slice .shared 1 (l.map encStr), .str x] s (.int .i64 (lJ x 0 l)) s:=by
 refine aA.pure ?_ (by simp [D.bN,D.ok,Tag.ok,dk]) rfl s
 generalize h:lJ x 0 l=p
 unfold S0
 refine aA.go rF rfl fun B Q hB hQ=> ?_
 have⟨hD,hF,hJ,hP⟩:=bI
 repeat' (first
 | simp only [go_sem,hD,hF,hJ,hP]
 | (with_reducible first | refine aJ fun hc=> ?_ | refine aK fun hc=> ?_ | refine aL (fun hc=> ?_) fun hc=> ?_) <;> (try simp only [hc,bs, ↓reduceIte]at h) <;> try simp only [hc]
 | (with_reducible refine ay hQ ?_;(try cases h);simp only [az,aB,bc,bd,go_sem,hD,hF,hJ,hP];repeat' (first | exact Ok.out | with_reducible refine bO ?_ ?_ | (simp;done))))
 refine cV 0 0 (bj.ind (ι:=List aE×Nat) (fun i=>l.drop i.2=i.1∧lJ x (i.2:Int) i.1=p) (fun i=>i.1.length)
  (fun i=> [(0, .slice .shared 1 (l.map encStr)),(1, .str x),(7, .int .i64 (l.length:Int)),(8, .int .i64 (i.2:Int))]) (fun i=>⟨[],[]⟩) ?_ (l,0) ⟨rfl,h⟩)
 rintro⟨rest,k⟩ ⟨h1,h⟩ IH
 dsimp only at h1 h
 cases rest with
 | nil=>
  have hD:=drop_nil h1
  simp only [lJ]at h
  repeat' (first
 | simp only [go_sem,hD,hF,hJ,hP]
 | (with_reducible first | refine aJ fun hc=> ?_ | refine aK fun hc=> ?_ | refine aL (fun hc=> ?_) fun hc=> ?_) <;> (try simp only [hc,bs, ↓reduceIte]at h) <;> try simp only [hc]
 | (with_reducible refine ay hQ ?_;(try cases h);simp only [az,aB,bc,bd,go_sem,hD,hF,hJ,hP];repeat' (first | exact Ok.out | with_reducible refine bO ?_ ?_ | (simp;done))))
 | cons a rest=>
  obtain⟨hF,g2,hD,g4⟩:=drop_cons h1
  have bm:k<4611686018427387904:=by omega
  simp only [lJ]at h
  repeat' (first
 | simp only [go_sem,hD,hF,hJ,hP]
 | (with_reducible first | refine aJ fun hc=> ?_ | refine aK fun hc=> ?_ | refine aL (fun hc=> ?_) fun hc=> ?_) <;> (try simp only [hc,bs, ↓reduceIte]at h) <;> try simp only [hc]
 | (with_reducible refine ay hQ ?_;(try cases h);simp only [az,aB,bc,bd,go_sem,hD,hF,hJ,hP];repeat' (first | exact Ok.out | with_reducible refine bO ?_ ?_ | (simp;done))))
  refine cd 0 0 ?_ ?_ (IH (rest,k+1) ⟨g2,h⟩ (Nat.lt_succ_self _))
  ·(simp only [go_sem,hD,hF,hJ,hP,au bm];try exact aZ)
  ·(simp only [go_sem,hD,hF,hJ,hP,au bm];try exact aZ)
theorem yK {l:List aE} (hl:l.length<4611686018427387904) (x:aE) (s:St):aA Tryz.prog cA [.slice .shared 1 (l.map encStr), .str x] s (.bool (dV l x)) s:=by
 refine aA.pure ?_ (by simp [D.bN,D.ok,Tag.ok,dk]) rfl s
 have hi:=fun s=>EW hl x s
 unfold S0
 refine aA.go qs rfl fun B Q hB hQ=> ?_
 have⟨hD,hF,hJ,hP⟩:=bI
 repeat' (first
 | simp only [go_sem,hD,hF,hJ,hP,dV]
 | (with_reducible refine CU (hi _) ?_)
 | (with_reducible first | refine aJ fun hc=> ?_ | refine aK fun hc=> ?_ | refine aL (fun hc=> ?_) fun hc=> ?_) <;> (try simp only [hc,bs, ↓reduceIte]at h) <;> try simp only [hc]
 | (with_reducible refine ay hQ ?_;simp only [az,aB,bc,bd,go_sem,hD,hF,hJ,hP,dV];repeat' (first | exact Ok.out | with_reducible refine bO ?_ ?_ | (simp;done))))
theorem aA.Dl {P:Program} {f:Nat} {d d':D} {r:List D} {s s':St} {x:D} (h:aA P f (d'::r) s x s') (hw:Wk d d'):aA P f (d::r) s x s':=ef.Cu (.cons hw (kr.refl r)) h
theorem iV {l:List aE} (hl:l.length<4611686018427387904) (x:aE) (g:Tag) (s:St):aA Tryz.prog cA [.slice g 1 (l.map encStr), .str x] s (.bool (dV l x)) s:=
 (yK hl x s).Dl (Wk.shared _ _ _)
theorem Dm (x:aE) (z:Nat) (g:Tag) (s:St):aA Tryz.prog cA [.slice g z [], .str x] s (.bool false) s:=
 (yK (l:= []) (by simp) x s).Dl (Wk.nil _ _ _)
theorem vS {l:List aE} (hl:l.length<4611686018427387904) {f:Nat} {row:List D} {b:aE→Bool} (qC:D.bN 0 0 row=true) (he:enters Tryz.prog f=true)
 (hb : ∀ x∈l,aA Tryz.prog f ([.str x]++ [.ptr 0 0]) ⟨[row],[]⟩ (.bool (b x)) ⟨[row],[]⟩) :
 aA Tryz.prog iT [.slice .shared 1 (l.map encStr), .fA f [.ptr 0 0]] ⟨[row],[]⟩ (.int .i64 (j9 b 0 l)) ⟨[row],[]⟩:=by
 generalize h:j9 b 0 l=p
 have k1 : ∀ n m,D.fV n m row=row:=fun n m=>gw n m _ qC
 refine aA.go pY rfl fun B Q hB hQ=> ?_
 have⟨hD,hF,hJ,hP⟩:=bI
 repeat' (first
 | simp only [go_sem,hD,hF,hJ,hP,k1]
 | (with_reducible first | refine aJ fun hc=> ?_ | refine aK fun hc=> ?_ | refine aL (fun hc=> ?_) fun hc=> ?_) <;> (try simp only [hc,bs, ↓reduceIte]at h) <;> try simp only [hc]
 | (with_reducible refine ay hQ ?_;(try cases h);simp only [az,aB,bc,bd,go_sem,hD,hF,hJ,hP,k1];repeat' (first | exact Ok.out | with_reducible refine bO ?_ ?_ | (simp;done))))
 refine cd 1 0 ?_ ?_ (bj.ind (ι:=List aE×Nat) (fun i=>l.drop i.2=i.1∧j9 b (i.2:Int) i.1=p) (fun i=>i.1.length)
  (fun i=> [(0, .slice .shared 1 (l.map encStr)),(1, .fA f [.ptr 0 0]),(7, .int .i64 (l.length:Int)),(8, .int .i64 (i.2:Int))]) (fun i=>⟨[row],[]⟩) ?_ (l,0) ⟨rfl,h⟩)
 ·(simp only [go_sem,hD,hF,hJ,hP,k1];try exact aZ)
 ·(simp only [go_sem,hD,hF,hJ,hP,k1];try exact aZ)
 rintro⟨rest,k⟩ ⟨h1,h⟩ IH
 dsimp only at h1 h
 cases rest with
 | nil=>
  have hD:=drop_nil h1
  simp only [j9]at h
  repeat' (first
 | simp only [go_sem,hD,hF,hJ,hP,k1]
 | (with_reducible first | refine aJ fun hc=> ?_ | refine aK fun hc=> ?_ | refine aL (fun hc=> ?_) fun hc=> ?_) <;> (try simp only [hc,bs, ↓reduceIte]at h) <;> try simp only [hc]
 | (with_reducible refine ay hQ ?_;(try cases h);simp only [az,aB,bc,bd,go_sem,hD,hF,hJ,hP,k1];repeat' (first | exact Ok.out | with_reducible refine bO ?_ ?_ | (simp;done))))
 | cons a rest=>
  obtain⟨hF,g2,hD,g4⟩:=drop_cons h1
  have bm:k<4611686018427387904:=by omega
  have RN:=hb a (List.mem_of_getElem? hF)
  simp only [j9]at h
  repeat' (first
 | simp only [go_sem,hD,hF,hJ,hP,k1]
 | (with_reducible refine CV.use (he) (RN) ?_)
 | (with_reducible first | refine aJ fun hc=> ?_ | refine aK fun hc=> ?_ | refine aL (fun hc=> ?_) fun hc=> ?_) <;> (try simp only [hc,bs, ↓reduceIte]at h) <;> try simp only [hc]
 | (with_reducible refine ay hQ ?_;(try cases h);simp only [az,aB,bc,bd,go_sem,hD,hF,hJ,hP,k1];repeat' (first | exact Ok.out | with_reducible refine bO ?_ ?_ | (simp;done))))
  refine cd 1 0 ?_ ?_ (IH (rest,k+1) ⟨g2,h⟩ (Nat.lt_succ_self _))
  ·(simp only [go_sem,hD,hF,hJ,hP,k1,au bm];try exact aZ)
  ·(simp only [go_sem,hD,hF,hJ,hP,k1,au bm];try exact aZ)
theorem vT {P:Program} {g f:Nat} {row:List D} {rows:List (List D)} {z:Nat} {d:D} (h:aA P g [.slice .shared z rows, .fA f [.ptr 0 0]] ⟨[row],[]⟩ d ⟨[row],[]⟩) (qC:D.bN 0 0 row=true) (hw:D.jb 0 0 rows=true) (hd:D.ok 0 0 d=true) {s:St} {o:Nat} (ho:s.av[o]? = some row) :
 aA P g [.slice .shared z rows, .fA f [.ptr o 0]] s d s:=by
 refine ef.frame [o] [] h (by simp) List.nodup_nil (by simpa using (List.getElem?_eq_some_iff.1 ho).1) (by simp) rfl (fun i o' ds e1 e2=> ?_) rfl (by simp) (by simp [D.fF,D.dD,Tag.dD,kQ _ _ _ hw])
  (by simp [D.bN,D.ok,Tag.ok,nR (Nat.zero_le 1) (Nat.le_refl 0) _ hw]) ?_
 ·cases i with
  | zero=>simp at e1 e2;subst e1;subst e2;exact⟨by rw [fG _ _ _ qC];exact ho,iI (Nat.zero_le 1) (Nat.le_refl 0) _ qC⟩
  | succ i=>simp at e1
 ·rintro _ _ ⟨rfl,rfl⟩
  refine⟨o9 _ _ _ hd, ?_⟩
  have:s.av.set o row=s.av:=by
   apply List.ext_getElem?
   intro i
   rw [List.getElem?_set]
   split
   ·rename_i e;subst e;rw [ho];split
    ·rfl
    ·rename_i hh;exact absurd (List.getElem?_eq_some_iff.1 ho).1 hh
   ·rfl
  simp [St.back,jo,fG _ _ _ qC,this]
theorem tn {l:List aE} (hl:l.length<4611686018427387904) {f:Nat} {row:List D} {b:aE→Bool} (qC:D.bN 0 0 row=true) (he:enters Tryz.prog f=true)
 (hb : ∀ x∈l,aA Tryz.prog f ([.str x]++ [.ptr 0 0]) ⟨[row],[]⟩ (.bool (b x)) ⟨[row],[]⟩) :
 aA Tryz.prog eW [.slice .shared 1 (l.map encStr), .fA f [.ptr 0 0]] ⟨[row],[]⟩ (.bool (l.any b)) ⟨[row],[]⟩:=by
 have k1 : ∀ n m,D.fV n m row=row:=fun n m=>gw n m _ qC
 have hi:=vS hl qC he hb
 have e:decide (j9 b 0 l≥0)=l.any b:=by
  have:=zZ b l 0 (Int.le_refl 0)
  cases hh:l.any b <;> simp_all
 refine aA.go oE rfl fun B Q hB hQ=> ?_
 have⟨hD,hF,hJ,hP⟩:=bI
 repeat' (first
 | simp only [go_sem,hD,hF,hJ,hP,k1,e]
 | (with_reducible refine CU (hi) ?_)
 | (with_reducible first | refine aJ fun hc=> ?_ | refine aK fun hc=> ?_ | refine aL (fun hc=> ?_) fun hc=> ?_) <;> (try simp only [hc,bs, ↓reduceIte]at h) <;> try simp only [hc]
 | (with_reducible refine ay hQ ?_;simp only [az,aB,bc,bd,go_sem,hD,hF,hJ,hP,k1,e];repeat' (first | exact Ok.out | with_reducible refine bO ?_ ?_ | (simp;done))))
theorem tp {l:List aE} (hl:l.length<4611686018427387904) {f:Nat} {row:List D} {b:aE→Bool} (qC:D.bN 0 0 row=true) (he:enters Tryz.prog f=true)
 (hb : ∀ x∈l,aA Tryz.prog f ([.str x]++ [.ptr 0 0]) ⟨[row],[]⟩ (.bool (b x)) ⟨[row],[]⟩) {s:St} {o:Nat} (ho:s.av[o]? = some row) :
 aA Tryz.prog eW [.slice .shared 1 (l.map encStr), .fA f [.ptr o 0]] s (.bool (l.any b)) s:=
 vT (tn hl qC he hb) qC (dk l) rfl ho
theorem rr {l:List Pc} (hl:l.length<4611686018427387904) {f:Nat} {row:List D} {b:Pc→Bool} (qC:D.bN 0 0 row=true) (he:enters Tryz.prog f=true)
 (hb : ∀ x∈l,aA Tryz.prog f ([.agg (bV x)]++ [.ptr 0 0]) ⟨[row],[]⟩ (.bool (b x)) ⟨[row],[]⟩) :
 aA Tryz.prog e7 [.slice .shared 5 (l.map bV), .fA f [.ptr 0 0]] ⟨[row],[]⟩ (.int .i64 (j9 b 0 l)) ⟨[row],[]⟩:=by
 generalize h:j9 b 0 l=p
 have k1 : ∀ n m,D.fV n m row=row:=fun n m=>gw n m _ qC
 refine aA.go oS rfl fun B Q hB hQ=> ?_
 have⟨hD,hF,hJ,hP⟩:=bI
 repeat' (first
 | simp only [go_sem,hD,hF,hJ,hP,k1]
 | (with_reducible first | refine aJ fun hc=> ?_ | refine aK fun hc=> ?_ | refine aL (fun hc=> ?_) fun hc=> ?_) <;> (try simp only [hc,bs, ↓reduceIte]at h) <;> try simp only [hc]
 | (with_reducible refine ay hQ ?_;(try cases h);simp only [az,aB,bc,bd,go_sem,hD,hF,hJ,hP,k1];repeat' (first | exact Ok.out | with_reducible refine bO ?_ ?_ | (simp;done))))
 refine cd 1 0 ?_ ?_ (bj.ind (ι:=List Pc×Nat) (fun i=>l.drop i.2=i.1∧j9 b (i.2:Int) i.1=p) (fun i=>i.1.length)
  (fun i=> [(0, .slice .shared 5 (l.map bV)),(1, .fA f [.ptr 0 0]),(7, .int .i64 (l.length:Int)),(8, .int .i64 (i.2:Int))]) (fun i=>⟨[row],[]⟩) ?_ (l,0) ⟨rfl,h⟩)
 ·(simp only [go_sem,hD,hF,hJ,hP,k1];try exact aZ)
 ·(simp only [go_sem,hD,hF,hJ,hP,k1];try exact aZ)
 rintro⟨rest,k⟩ ⟨h1,h⟩ IH
 dsimp only at h1 h
 cases rest with
 | nil=>
  have hD:=drop_nil h1
  simp only [j9]at h
  repeat' (first
 | simp only [go_sem,hD,hF,hJ,hP,k1]
 | (with_reducible first | refine aJ fun hc=> ?_ | refine aK fun hc=> ?_ | refine aL (fun hc=> ?_) fun hc=> ?_) <;> (try simp only [hc,bs, ↓reduceIte]at h) <;> try simp only [hc]
 | (with_reducible refine ay hQ ?_;(try cases h);simp only [az,aB,bc,bd,go_sem,hD,hF,hJ,hP,k1];repeat' (first | exact Ok.out | with_reducible refine bO ?_ ?_ | (simp;done))))
 | cons a rest=>
  obtain⟨hF,g2,hD,g4⟩:=drop_cons h1
  have bm:k<4611686018427387904:=by omega
  have RN:=hb a (List.mem_of_getElem? hF)
  simp only [j9]at h
  repeat' (first
 | simp only [go_sem,hD,hF,hJ,hP,k1]
 | (with_reducible refine CV.use (he) (RN) ?_)
 | (with_reducible first | refine aJ fun hc=> ?_ | refine aK fun hc=> ?_ | refine aL (fun hc=> ?_) fun hc=> ?_) <;> (try simp only [hc,bs, ↓reduceIte]at h) <;> try simp only [hc]
 | (with_reducible refine ay hQ ?_;(try cases h);simp only [az,aB,bc,bd,go_sem,hD,hF,hJ,hP,k1];repeat' (first | exact Ok.out | with_reducible refine bO ?_ ?_ | (simp;done))))
  refine cd 1 0 ?_ ?_ (IH (rest,k+1) ⟨g2,h⟩ (Nat.lt_succ_self _))
  ·(simp only [go_sem,hD,hF,hJ,hP,k1,au bm];try exact aZ)
  ·(simp only [go_sem,hD,hF,hJ,hP,k1,au bm];try exact aZ)
theorem uX {l:List Pc} (hl:l.length<4611686018427387904) {f:Nat} {row:List D} {b:Pc→Bool} (qC:D.bN 0 0 row=true) (he:enters Tryz.prog f=true)
 (hb : ∀ x∈l,aA Tryz.prog f ([.agg (bV x)]++ [.ptr 0 0]) ⟨[row],[]⟩ (.bool (b x)) ⟨[row],[]⟩) :
 aA Tryz.prog fy [.slice .shared 5 (l.map bV), .fA f [.ptr 0 0]] ⟨[row],[]⟩ (.bool (l.any b)) ⟨[row],[]⟩:=by
 have k1 : ∀ n m,D.fV n m row=row:=fun n m=>gw n m _ qC
 have hi:=rr hl qC he hb
 have e:decide (j9 b 0 l≥0)=l.any b:=by
  have:=zZ b l 0 (Int.le_refl 0)
  cases hh:l.any b <;> simp_all
 refine aA.go nT rfl fun B Q hB hQ=> ?_
 have⟨hD,hF,hJ,hP⟩:=bI
 repeat' (first
 | simp only [go_sem,hD,hF,hJ,hP,k1,e]
 | (with_reducible refine CU (hi) ?_)
 | (with_reducible first | refine aJ fun hc=> ?_ | refine aK fun hc=> ?_ | refine aL (fun hc=> ?_) fun hc=> ?_) <;> (try simp only [hc,bs, ↓reduceIte]at h) <;> try simp only [hc]
 | (with_reducible refine ay hQ ?_;simp only [az,aB,bc,bd,go_sem,hD,hF,hJ,hP,k1,e];repeat' (first | exact Ok.out | with_reducible refine bO ?_ ?_ | (simp;done))))
end Go.Abs

/-! MirFlat2 -/

namespace Go.Abs
mutual
def Sm.pre:Sm→List Sm
 | ⟨id,kind,labels,name,pc,x,has,args,bk,aY⟩=>⟨id,kind,labels,name,pc,x,has,args,bk,aY⟩::(Sm.fi bk++Sm.fi aY)
def Sm.fi:List Sm→List Sm
 | []=> []
 | s::l=>s.pre++Sm.fi l
end
def Pg.pre (p:Pg):List Sm:=(p.procs.map fun f=>Sm.fi f.body).flatten
mutual
theorem Ps (proc up next loop:Int) (out:List Im) : ∀ s:Sm,∃ e:List Im,Im.one proc up next loop out s=out++e∧e.map Im.s=s.pre
 | ⟨id,kind,labels,name,pc,x,has,args,bk,aY⟩=>by
  simp only [Im.one,Sm.pre]
  obtain⟨e1,h1,k1⟩:=ud proc ((out.length:Int)+1) (if kind==6 then(out.length:Int)+1 else next) (if kind==6 then(out.length:Int)+1 else loop) (out++ [⟨⟨id,kind,labels,name,pc,x,has,args,bk,aY⟩,proc,up,next,loop⟩]) bk
  obtain⟨e2,h2,k2⟩:=ud proc ((out.length:Int)+1) (if kind==6 then(out.length:Int)+1 else next) (if kind==6 then(out.length:Int)+1 else loop) (Im.rows proc ((out.length:Int)+1) (if kind==6 then(out.length:Int)+1 else next) (if kind==6 then(out.length:Int)+1 else loop) (out++ [⟨⟨id,kind,labels,name,pc,x,has,args,bk,aY⟩,proc,up,next,loop⟩]) bk) aY
  refine⟨⟨⟨id,kind,labels,name,pc,x,has,args,bk,aY⟩,proc,up,next,loop⟩::(e1++e2), ?_, ?_⟩
  ·rw [h2,h1];simp
  ·simp [k1,k2]
theorem ud (proc up next loop:Int) (out:List Im) : ∀ l:List Sm,∃ e:List Im,Im.rows proc up next loop out l=out++e∧e.map Im.s=Sm.fi l
 | []=>⟨[],by simp [Im.rows],rfl⟩
 | s::l=>by
  simp only [Im.rows,Sm.fi]
  obtain⟨e1,h1,k1⟩:=Ps proc up (if l.length=0 then next else(out.length:Int)+1+(s.im:Int)) loop out s
  obtain⟨e2,h2,k2⟩:=ud proc up next loop (Im.one proc up (if l.length=0 then next else(out.length:Int)+1+(s.im:Int)) loop out s) l
  refine⟨e1++e2, ?_,by simp [k1,k2]⟩
  rw [h2,h1];simp
end
theorem Jx : ∀ (l:List Pc) (n:Nat) (h:Sh),h.lo.length=n→h.hi.length=n→
 ∃ e lo hi,Sh.go n h l = ⟨h.L++e,h.lo++lo,h.hi++hi⟩∧e.map Im.s=(l.map fun f=>Sm.fi f.body).flatten∧lo.length=l.length∧hi.length=l.length∧
  ∀ (i:Nat) (f:Pc),l[i]? = some f→∃ a b e' HS:List Im,lo[i]? = some (((h.L++a).length:Int)+1)∧hi[i]? = some (((h.L++a++b).length:Int)+1)∧b.map Im.s=Sm.fi f.body∧e=a++b++e'
 | [],n,h,hl,hh=>⟨[],[],[],by simp [Sh.go],rfl,rfl,rfl,fun i f h=>by simp at h⟩
 | f::l,n,h,hl,hh=>by
  simp only [Sh.go]
  obtain⟨e1,h1,k1⟩:=ud (n:Int) 0 (-1) 0 h.L f.body
  obtain⟨e2,lo,hi,h2,k2,h3,h4,h5⟩:=Jx l (n+1) ⟨Im.rows (n:Int) 0 (-1) 0 h.L f.body,h.lo++ [(h.L.length:Int)+1],h.hi++ [((Im.rows (n:Int) 0 (-1) 0 h.L f.body).length:Int)+1]⟩ (by simp [hl]) (by simp [hh])
  refine⟨e1++e2,((h.L.length:Int)+1)::lo,(((Im.rows (n:Int) 0 (-1) 0 h.L f.body).length:Int)+1)::hi, ?_,by simp [k1,k2],by simp [h3],by simp [h4],fun i g gO=> ?_⟩
  ·rw [h2,h1];simp
  ·cases i with
   | zero=>
    simp only [List.getElem?_cons_zero,Option.some.injEq]at gO
    subst gO
    exact⟨[],e1,e2,[],by simp,by rw [h1];simp,k1,by simp⟩
   | succ i=>
    simp only [List.getElem?_cons_succ]at gO
    obtain⟨a,b,e',HS,g1,g2,g3,g4⟩:=h5 i g gO
    refine⟨e1++a,b,e',HS, ?_, ?_,g3,by rw [g4];simp⟩
    ·rw [List.getElem?_cons_succ,g1,h1];simp
    ·rw [List.getElem?_cons_succ,g2,h1];simp
theorem sg (p:Pg):p.fQ.L.map Im.s=p.pre∧∀ (i:Nat) (f:Pc),p.procs[i]? = some f→∃ a b e:List Im,p.fQ.lo[i]? = some ((a.length:Int)+1)∧p.fQ.hi[i]? = some (((a++b).length:Int)+1)∧b.map Im.s=Sm.fi f.body∧p.fQ.L=a++b++e:=by
 obtain⟨e,lo,hi,h1,h2,h3,h4,h5⟩:=Jx p.procs 0 ⟨[],[],[]⟩ rfl rfl
 unfold Pg.fQ
 rw [h1]
 refine⟨by simpa [Pg.pre]using h2,fun i f hf=> ?_⟩
 obtain⟨a,b,e',_,g1,g2,g3,g4⟩:=h5 i f hf
 exact⟨a,b,e',by simpa using g1,by simpa using g2,g3,by simpa using g4⟩
end Go.Abs

/-! Sl2 -/

namespace Go.Abs
set_option maxRecDepth 8000
open Go.Proofs
def Pg.at (p:Pg) (name:aE):Int:=j9 (fun f:Pc=>f.name==name) 0 p.procs
theorem Pt (name:aE) (f:Pc):aA Tryz.prog jx ([.agg (bV f)]++ [.ptr 0 0]) ⟨[[.str name]],[]⟩ (.bool (f.name==name)) ⟨[[.str name]],[]⟩:=by
 show aA Tryz.prog jx [.agg (bV f), .ptr 0 0] _ _ _
 refine aA.go tg rfl fun B Q hB hQ=> ?_
 have⟨hD,hF,hJ,hP⟩:=bI
 repeat' (first
 | simp only [go_sem,hD,hF,hJ,hP]
 | (with_reducible refine ay hQ ?_;simp only [az,aB,Option.some.injEq,exists_eq_left',go_sem,hD,hF,hJ,hP];repeat' (first | exact Ok.out | with_reducible refine bO ?_ ?_ | (simp;done))))
theorem Jy {p:Pg} (hs:p.procs.length<4611686018427387904) (name:aE) (s:St):aA Tryz.prog ko [.dE (jy p) 0, .str name] s (.int .i64 (p.at name)) s:=by
 refine aA.pure ?_ (by simp [D.bN,D.ok,zY]) rfl s
 have hi:=fun {s:St} {o:Nat} (ho:s.av[o]? = some [.str name])=>vT (rr (l:=p.procs) (f:=jx) (row:= [.str name]) (b:=fun f:Pc=>f.name==name) hs rfl (by with_unfolding_all rfl) (fun x _=>Pt name x)) rfl (BV _) rfl ho
 have gO:=fun {s:St} {o:Nat} (ho:s.av[o]? = some [.str name])=>(show aA Tryz.prog e7 [.slice .shared 5 (p.procs.map bV), .fA 86 [.ptr o 0]] s (.int .i64 (p.at name)) s from hi ho)
 unfold S0
 rw [Dk]
 refine aA.go uW rfl fun B Q hB hQ=> ?_
 have⟨hD,hF,hJ,hP⟩:=bI
 repeat' (first
 | simp only [go_sem,hD,hF,hJ,hP]
 | (with_reducible refine CU (gO (by with_unfolding_all rfl)) ?_)
 | (with_reducible refine ay hQ ?_;simp only [az,aB,Option.some.injEq,exists_eq_left',go_sem,hD,hF,hJ,hP];repeat' (first | exact Ok.out | with_reducible refine bO ?_ ?_ | (simp;done))))
theorem Jz : ∀ (l:List Pc) (n:Nat) (h:Sh),(Sh.go n h l).L.length≤h.L.length+Pc.aP l
 | [],n,h=>by simp [Sh.go]
 | f::l,n,h=>by
  simp only [Sh.go]
  refine Nat.le_trans (Jz l _ _) ?_
  have:=fq (n:Int) 0 (-1) 0 h.L f.body
  have:=mj f.body
  simp only [Pc.aP,Pc.size];omega
theorem sh (p:Pg):p.fQ.L.length≤Pc.aP p.procs:=by have:=Jz p.procs 0 ⟨[],[],[]⟩;simpa [Pg.fQ]using this
theorem L7 {p:Pg} {i:Nat} {f:Pc} (hf:p.procs[i]? = some f) (hs:Pc.aP p.procs<1000000000) : ∃ it:List Im,it.map Im.s=Sm.fi f.body∧∀ s,aA Tryz.prog jP [.dE (jy p) 0, .int .i64 (i:Int)] s (.slice .shared 17 (it.map fc)) s:=by
 obtain⟨a,b,e,h1,h2,h3,h4⟩:=(sg p).2 i f hf
 refine⟨b,h3,fun s=> ?_⟩
 refine aA.pure ?_ (by simp [D.bN,D.ok,zY]) (by simp [D.ok,Tag.ok,BW]) s
 have hL:p.fQ.L.length<1000000000:=Nat.lt_of_le_of_lt (sh p) hs
 have l1:(i:Int)<(p.fQ.lo.length:Int):=by have:=(List.getElem?_eq_some_iff.1 h1).1;omega
 have l2:(i:Int)<(p.fQ.hi.length:Int):=by have:=(List.getElem?_eq_some_iff.1 h2).1;omega
 have vU:a.length+b.length≤p.fQ.L.length:=by rw [h4];simp
 have w1:IntKind.wrap .i64 ((a.length:Int)+1 - 1)=(a.length:Int):=by rw [show(a.length:Int)+1 - 1=(a.length:Int) by omega];exact dt (by omega) (by omega)
 have w2:IntKind.wrap .i64 (((a.length+b.length:Nat):Int)+1 - 1)=((a.length+b.length:Nat):Int):=by rw [show((a.length+b.length:Nat):Int)+1 - 1=((a.length+b.length:Nat):Int) by omega];exact dt (by omega) (by omega)
 have c1:((a.length:Int)≤((a.length+b.length:Nat):Int))=True:=by simp only [eq_iff_iff,iff_true];omega
 have c2:(((a.length+b.length:Nat):Int)≤(p.fQ.L.length:Int))=True:=by simp only [eq_iff_iff,iff_true];omega
 have hb:List.drop a.length (List.take (a.length+b.length) (List.map fc p.fQ.L))=List.map fc b:=by rw [h4];simp [List.map_append,List.take_append,List.drop_append]
 unfold S0
 rw [Dk]
 refine aA.go wP rfl fun B Q hB hQ=> ?_
 have⟨hD,hF,hJ,hP⟩:=bI
 repeat' (first
 | simp only [go_sem,hD,hF,hJ,hP,h1,h2,w1,w2,c1,c2,or_true,true_and,and_self,ite_self,Int.toNat_natCast,hb]
 | (with_reducible refine ay hQ ?_;simp only [az,aB,Option.some.injEq,exists_eq_left',go_sem,hD,hF,hJ,hP];repeat' (first | exact Ok.out | with_reducible refine bO ?_ ?_ | (simp;done))))
end Go.Abs

/-! TMay1 -/

namespace Go.Abs
set_option maxRecDepth 8000
open Go.Proofs
theorem AS {r:aE} : qN r=true↔mw r=r.length:=by
 induction r with
 | nil=>simp [qN,mw]
 | cons c r ih=>
  simp only [qN,mw]
  cases h1:se c <;> cases h2:uM c <;> simp [ih]
theorem vV (t:aE) (hl:t.length<4611686018427387904) (s:St):aA Tryz.prog kZ [.str t] s (.bool (isName t)) s:=by
 refine aA.pure ?_ rfl rfl s
 have hr:=fun s=>UL (pos:=0) hl s
 simp only [List.drop_zero,Nat.zero_add]at hr
 unfold S0
 cases t with
 | nil=>
  have z:decide (((0:Nat):Int)<1)=true:=rfl
  have z':decide ((0:Int)<1)=true:=rfl
  have e:isName [] = false:=rfl
  rw [e]
  refine aA.go kG rfl fun B Q hB hQ=> ?_
  have⟨hD,hF,hJ,hP⟩:=bI
  repeat' (first
 | simp only [go_sem,hD,hF,hJ,hP,z,z']
 | (with_reducible first | refine aJ fun hc=> ?_ | refine aK fun hc=> ?_ | refine aL (fun hc=> ?_) fun hc=> ?_) <;> (try simp only [hc,bs, ↓reduceIte]at h) <;> try simp only [hc]
 | (with_reducible refine ay hQ ?_;(try cases h);simp only [az,aB,bc,bd,go_sem,hD,hF,hJ,hP,z,z'];try exact br)
 | (cases h;replace h:=hr;clear hr;(try simp only [bs, ↓reduceIte]at h))
 | (cases h;done))
 | cons c r=>
  have l1:decide (((r.length+1:Nat):Int)<1)=false:=by simp;omega
  generalize h:isName (c::r)=p
  simp only [isName]at h
  cases hL:se c
  ·simp only [hL,Bool.not_false,Bool.or_true, ↓reduceIte]at h
   subst h
   by_cases c8:decide (((r.length+1:Nat):Int) > 8)=true
   ·refine aA.go kG rfl fun B Q hB hQ=> ?_
    have⟨hD,hF,hJ,hP⟩:=bI
    repeat' (first
 | simp only [go_sem,hD,hF,hJ,hP,l1,c8]
 | (with_reducible first | refine aJ fun hc=> ?_ | refine aK fun hc=> ?_ | refine aL (fun hc=> ?_) fun hc=> ?_) <;> (try simp only [hc,bs, ↓reduceIte]at h) <;> try simp only [hc]
 | (with_reducible refine ay hQ ?_;(try cases h);simp only [az,aB,bc,bd,go_sem,hD,hF,hJ,hP,l1,c8];try exact br)
 | (cases h;replace h:=hr;clear hr;(try simp only [bs, ↓reduceIte]at h))
 | (cases h;done))
   ·have c8:decide (((r.length+1:Nat):Int) > 8)=false:=by simpa using c8
    refine aA.go kG rfl fun B Q hB hQ=> ?_
    have⟨hD,hF,hJ,hP⟩:=bI
    repeat' (first
 | simp only [go_sem,hD,hF,hJ,hP,l1,c8,hL]
 | (with_reducible refine CU (pe _ _) ?_)
 | (with_reducible first | refine aJ fun hc=> ?_ | refine aK fun hc=> ?_ | refine aL (fun hc=> ?_) fun hc=> ?_) <;> (try simp only [hc,bs, ↓reduceIte]at h) <;> try simp only [hc]
 | (with_reducible refine ay hQ ?_;(try cases h);simp only [az,aB,bc,bd,go_sem,hD,hF,hJ,hP,l1,c8,hL];try exact br)
 | (cases h;replace h:=hr;clear hr;(try simp only [bs, ↓reduceIte]at h))
 | (cases h;done))
  ·simp only [hL,Bool.not_true,Bool.or_false]at h
   by_cases c8:decide (((r.length+1:Nat):Int) > 8)=true
   ·simp only [c8, ↓reduceIte]at h
    subst h
    refine aA.go kG rfl fun B Q hB hQ=> ?_
    have⟨hD,hF,hJ,hP⟩:=bI
    repeat' (first
 | simp only [go_sem,hD,hF,hJ,hP,l1,c8]
 | (with_reducible first | refine aJ fun hc=> ?_ | refine aK fun hc=> ?_ | refine aL (fun hc=> ?_) fun hc=> ?_) <;> (try simp only [hc,bs, ↓reduceIte]at h) <;> try simp only [hc]
 | (with_reducible refine ay hQ ?_;(try cases h);simp only [az,aB,bc,bd,go_sem,hD,hF,hJ,hP,l1,c8];try exact br)
 | (cases h;replace h:=hr;clear hr;(try simp only [bs, ↓reduceIte]at h))
 | (cases h;done))
   ·have c8:decide (((r.length+1:Nat):Int) > 8)=false:=by simpa using c8
    simp only [c8,Bool.false_eq_true, ↓reduceIte]at h
    have dF:mw (c::r)=mw r+1:=by simp [mw,hL]
    cases hn:qN r
    ·simp only [hn,Bool.false_eq_true, ↓reduceIte]at h
     have:mw r≠r.length:=fun e=>by rw [AS.2 e]at hn;cases hn
     have e:(((mw (c::r):Nat):Int)==((r.length+1:Nat):Int))=false:=by rw [dF];simp;omega
     subst h
     refine aA.go kG rfl fun B Q hB hQ=> ?_
     have⟨hD,hF,hJ,hP⟩:=bI
     repeat' (first
 | simp only [go_sem,hD,hF,hJ,hP,l1,c8,hL,e]
 | (with_reducible refine CU (pe _ _) ?_)
 | (with_reducible refine CU (hr _) ?_)
 | (with_reducible first | refine aJ fun hc=> ?_ | refine aK fun hc=> ?_ | refine aL (fun hc=> ?_) fun hc=> ?_) <;> (try simp only [hc,bs, ↓reduceIte]at h) <;> try simp only [hc]
 | (with_reducible refine ay hQ ?_;(try cases h);simp only [az,aB,bc,bd,go_sem,hD,hF,hJ,hP,l1,c8,hL,e];try exact br)
 | (cases h;replace h:=hr;clear hr;(try simp only [bs, ↓reduceIte]at h))
 | (cases h;done))
    ·simp only [hn, ↓reduceIte]at h
     have:=AS.1 hn
     have e:(((mw (c::r):Nat):Int)==((r.length+1:Nat):Int))=true:=by rw [dF];simp;omega
     subst h
     refine aA.go kG rfl fun B Q hB hQ=> ?_
     have⟨hD,hF,hJ,hP⟩:=bI
     repeat' (first
 | simp only [go_sem,hD,hF,hJ,hP,l1,c8,hL,e]
 | (with_reducible refine CU (pe _ _) ?_)
 | (with_reducible refine CU (hr _) ?_)
 | (with_reducible refine CU (RC _ _) ?_)
 | (with_reducible first | refine aJ fun hc=> ?_ | refine aK fun hc=> ?_ | refine aL (fun hc=> ?_) fun hc=> ?_) <;> (try simp only [hc,bs, ↓reduceIte]at h) <;> try simp only [hc]
 | (with_reducible refine ay hQ ?_;(try cases h);simp only [az,aB,bc,bd,go_sem,hD,hF,hJ,hP,l1,c8,hL,e];try exact br)
 | (cases h;replace h:=hr;clear hr;(try simp only [bs, ↓reduceIte]at h))
 | (cases h;done))
theorem EX (op:Int) (s:St):aA Tryz.prog sP [.int .i64 op] s (.int .i64 (kH op)) s:=by
 refine aA.pure ?_ rfl rfl s
 unfold S0
 generalize h:kH op=p
 unfold kH at h
 refine aA.go BJ rfl fun B Q hB hQ=> ?_
 have⟨hD,hF,hJ,hP⟩:=bI
 repeat' (first
 | simp only [go_sem,hD,hF,hJ,hP]
 | (with_reducible first | refine aJ fun hc=> ?_ | refine aK fun hc=> ?_ | refine aL (fun hc=> ?_) fun hc=> ?_) <;> (try simp only [hc,bs, ↓reduceIte]at h) <;> try simp only [hc]
 | (with_reducible refine ay hQ ?_;exact bT)
 | (cases h;done))
theorem uf {l:List aE} (hl:l.length<4611686018427387904) (hs : ∀ t∈l,t.length<4611686018427387904) (s:St):aA Tryz.prog kA [.slice .shared 1 (l.map encStr)] s (.bool (dg l)) s:=by
 refine aA.pure ?_ (by simp [D.bN,D.ok,dk,Tag.ok]) rfl s
 unfold S0
 generalize h:dg l=p
 refine aA.go zK rfl fun B Q hB hQ=> ?_
 have⟨hD,hF,hJ,hP⟩:=bI
 repeat' (first
 | simp only [go_sem,hD,hF,hJ,hP]
 | (with_reducible first | refine aJ fun hc=> ?_ | refine aK fun hc=> ?_ | refine aL (fun hc=> ?_) fun hc=> ?_) <;> (try simp only [hc,bs, ↓reduceIte]at h) <;> try simp only [hc]
 | (with_reducible refine ay hQ ?_;exact bT)
 | (cases h;done))
 refine cV 0 0 (bj.ind (ι:=List aE×Nat) (fun i=>l.drop i.2=i.1∧dg i.1=p) (fun i=>i.1.length)
  (fun i=> [(5, .slice .shared 1 (l.map encStr)),(6, .int .i64 (l.length:Int)),(7, .int .i64 (i.2:Int))]) (fun i=>⟨[],[]⟩) ?_ (l,0) ⟨rfl,h⟩)
 rintro⟨rest,k⟩ ⟨h1,h⟩ IH
 dsimp only at h1 h
 cases rest with
 | nil=>
  have hD:=drop_nil h1
  simp only [dg]at h
  repeat' (first
 | simp only [go_sem,hD,hF,hJ,hP]
 | (with_reducible first | refine aJ fun hc=> ?_ | refine aK fun hc=> ?_ | refine aL (fun hc=> ?_) fun hc=> ?_) <;> (try simp only [hc,bs, ↓reduceIte]at h) <;> try simp only [hc]
 | (with_reducible refine ay hQ ?_;exact bT)
 | (cases h;done))
 | cons t rest=>
  obtain⟨hF,g2,hD,g4⟩:=drop_cons h1
  have hJ:k<4611686018427387904:=by omega
  have hn:=vV t (hs t (List.mem_of_getElem? hF))
  simp only [dg]at h
  repeat' (first
 | simp only [go_sem,hD,hF,hJ,hP]
 | (with_reducible refine CU (hn _) ?_)
 | (with_reducible first | refine aJ fun hc=> ?_ | refine aK fun hc=> ?_ | refine aL (fun hc=> ?_) fun hc=> ?_) <;> (try simp only [hc,bs, ↓reduceIte]at h) <;> try simp only [hc]
 | (with_reducible refine ay hQ ?_;exact bT)
 | (cases h;done))
  refine cV 0 0 (IH (rest,k+1) ⟨g2,h⟩ (Nat.lt_succ_self _))
mutual
def Ex.dp (left:Int):Ex→Bool
 | ⟨op,n,name,kids⟩=>
  if decide (left<1) || (kids.length:Int) != kH op then false
  else if op==1 then decide (n≥0) && name == []
  else if op==2 then n==0 && isName name
  else if n != 0 || !(name == [])then false
  else Ex.yL (left - 1) kids
def Ex.yL (left:Int):List Ex→Bool
 | []=>true
 | x::l=>if !(Ex.dp left x)then false else Ex.yL left l
end
theorem Pu : ∀ (m:Nat) (x:Ex),x.size≤m→x.size<4611686018427387904→x.texts→∀ left:Int,0≤left→left≤100→∀ s:St,aA Tryz.prog ny [.agg (bB x), .int .i64 left] s (.bool (x.dp left)) s:=by
 intro m
 induction m with
 | zero=>rintro⟨op,v,name,kids⟩ h;simp only [Ex.size]at h;omega
 | succ m ih=>
  rintro⟨op,v,name,kids⟩ h hx ht left h0 ahp s
  refine aA.pure ?_ (by simp [D.bN,D.ok,iA]) rfl s
  have hlen:kids.length<4611686018427387904:=by simp only [Ex.size]at hx;have:=Ex.dc kids;omega
  have hn:=vV name ht.1
  generalize hp:Ex.dp left ⟨op,v,name,kids⟩=p
  simp only [Ex.dp]at hp
  unfold S0
  by_cases JA:left<1
  ·have d1:decide (left<1)=true:=by simpa using JA
   simp only [d1,Bool.true_or, ↓reduceIte]at hp
   subst hp
   refine aA.go uL rfl fun B Q hB hQ=> ?_
   have⟨hD,hF,hJ,hP⟩:=bI
   repeat' (first
 | simp only [go_sem,hD,hF,hJ,hP,d1]
 | (with_reducible refine CU (EX _ _) ?_)
 | (with_reducible refine CU (hn _) ?_)
 | (with_reducible first | refine aJ fun hc=> ?_ | refine aK fun hc=> ?_ | refine aL (fun hc=> ?_) fun hc=> ?_) <;> (try simp only [hc,bs, ↓reduceIte]at h) <;> try simp only [hc]
 | (with_reducible refine ay hQ ?_;(try cases h);simp only [az,aB,bc,bd,go_sem,hD,hF,hJ,hP,d1];try exact br)
 | (cases h;done))
  ·have d1:decide (left<1)=false:=by simpa using JA
   have w1:IntKind.wrap .i64 (left - 1)=left - 1:=dt (by omega) (by omega)
   have hk : ∀ y∈kids,∀ s,aA Tryz.prog ny [.agg (bB y), .int .i64 (left - 1)] s (.bool (y.dp (left - 1))) s:=fun y hy s=>
    ih y (by simp only [Ex.size]at h;have:=Ex.bS hy;omega) (by simp only [Ex.size]at hx;have:=Ex.bS hy;omega) (Ex.AR ht hy) (left - 1) (by omega) (by omega) s
   simp only [d1,Bool.false_or]at hp
   have h:=hp
   clear hp
   refine aA.go uL rfl fun B Q hB hQ=> ?_
   have⟨hD,hF,hJ,hP⟩:=bI
   repeat' (first
 | simp only [go_sem,hD,hF,hJ,hP,d1]
 | (with_reducible refine CU (EX _ _) ?_)
 | (with_reducible refine CU (hn _) ?_)
 | (with_reducible first | refine aJ fun hc=> ?_ | refine aK fun hc=> ?_ | refine aL (fun hc=> ?_) fun hc=> ?_) <;> (try simp only [hc,bs, ↓reduceIte]at h) <;> try simp only [hc]
 | (with_reducible refine ay hQ ?_;(try cases h);simp only [az,aB,bc,bd,go_sem,hD,hF,hJ,hP,d1];repeat' (first | exact Ok.out | with_reducible refine bO ?_ ?_ | (simp;done)))
 | (cases h;done))
   all_goals
    refine cV 1 0 (bj.ind (ι:=List Ex×Nat) (fun i=>kids.drop i.2=i.1∧Ex.yL (left - 1) i.1=p) (fun i=>i.1.length)
     (fun i=> [(1, .int .i64 left),(49, .slice .shared 4 (kids.map bB)),(50, .int .i64 (kids.length:Int)),(51, .int .i64 (i.2:Int))]) (fun i=>⟨[bB ⟨op,v,name,kids⟩],[]⟩) ?_ (kids,0) ⟨rfl,h⟩)
    rintro⟨rest,k⟩ ⟨h1,h⟩ IH
    dsimp only at h1 h
    cases rest with
    | nil=>
     have hD:=drop_nil h1
     simp only [Ex.yL]at h
     repeat' (first
 | simp only [go_sem,hD,hF,hJ,hP]
 | (with_reducible first | refine aJ fun hc=> ?_ | refine aK fun hc=> ?_ | refine aL (fun hc=> ?_) fun hc=> ?_) <;> (try simp only [hc,bs, ↓reduceIte]at h) <;> try simp only [hc]
 | (with_reducible refine ay hQ ?_;exact bT)
 | (cases h;done))
    | cons y rest=>
     obtain⟨hF,g2,hD,g4⟩:=drop_cons h1
     have hy:=hk y (List.mem_of_getElem? hF)
     have hJ:k<4611686018427387904:=by omega
     simp only [Ex.yL]at h
     repeat' (first
 | simp only [go_sem,hD,hF,hJ,hP,w1]
 | (with_reducible refine CU (hy _) ?_)
 | (with_reducible first | refine aJ fun hc=> ?_ | refine aK fun hc=> ?_ | refine aL (fun hc=> ?_) fun hc=> ?_) <;> (try simp only [hc,bs, ↓reduceIte]at h) <;> try simp only [hc]
 | (with_reducible refine ay hQ ?_;(try cases h);simp only [az,aB,bc,bd,go_sem,hD,hF,hJ,hP,w1];try exact br)
 | (cases h;done))
     refine cV 1 0 (IH (rest,k+1) ⟨g2,h⟩ (Nat.lt_succ_self _))
end Go.Abs

/-! TMay2 -/

namespace Go.Abs
set_option maxRecDepth 8000
open Go.Proofs
theorem yM {x:Ex} (hx:x.size<4611686018427387904) (ht:x.texts) (s:St):aA Tryz.prog mF [.agg (bB x)] s (.bool (x.dp 20)) s:=by
 refine aA.pure ?_ (by simp [D.bN,D.ok,iA]) rfl s
 have hd:=fun s=>Pu _ x (Nat.le_refl _) hx ht 20 (by omega) (by omega) s
 unfold S0
 refine aA.go xK rfl fun B Q hB hQ=> ?_
 have⟨hD,hF,hJ,hP⟩:=bI
 repeat' (first
 | simp only [go_sem,hD,hF,hJ,hP]
 | (with_reducible refine CU (hd _) ?_)
 | (with_reducible first | refine aJ fun hc=> ?_ | refine aK fun hc=> ?_ | refine aL (fun hc=> ?_) fun hc=> ?_) <;> (try simp only [hc,bs, ↓reduceIte]at h) <;> try simp only [hc]
 | (with_reducible refine ay hQ ?_;exact bT)
 | (cases h;done))
theorem Pv (x:Ex) (s:St):aA Tryz.prog sO [.agg (bB x)] s (.bool x.none) s:=by
 refine aA.pure ?_ (by simp [D.bN,D.ok,iA]) rfl s
 unfold S0
 generalize h:Ex.none x=p
 unfold Ex.none at h
 refine aA.go BI rfl fun B Q hB hQ=> ?_
 have⟨hD,hF,hJ,hP⟩:=bI
 repeat' (first
 | simp only [go_sem,hD,hF,hJ,hP]
 | (with_reducible first | refine aJ fun hc=> ?_ | refine aK fun hc=> ?_ | refine aL (fun hc=> ?_) fun hc=> ?_) <;> (try simp only [hc,bs, ↓reduceIte]at h) <;> try simp only [hc]
 | (with_reducible refine ay hQ ?_;exact bT)
 | (cases h;done))
def p6 (t:aE) (is:Bool):Bool:=(is && isName t) || (!is && t == [])
theorem xL (t:aE) (is:Bool) (hl:t.length<4611686018427387904) (s:St):aA Tryz.prog mn [.str t, .bool is] s (.bool (p6 t is)) s:=by
 refine aA.pure ?_ rfl rfl s
 have hn:=vV t hl
 unfold S0
 generalize h:p6 t is=p
 unfold p6 at h
 refine aA.go zQ rfl fun B Q hB hQ=> ?_
 have⟨hD,hF,hJ,hP⟩:=bI
 repeat' (first
 | simp only [go_sem,hD,hF,hJ,hP]
 | (with_reducible refine CU (hn _) ?_)
 | (with_reducible first | refine aJ fun hc=> ?_ | refine aK fun hc=> ?_ | refine aL (fun hc=> ?_) fun hc=> ?_) <;> (try simp only [hc,bs, ↓reduceIte]at h) <;> try simp only [hc]
 | (with_reducible refine ay hQ ?_;exact bT)
 | (cases h;done))
def ry (x:Ex) (is:Bool):Bool:=(is && x.dp 20) || (!is && x.none)
theorem EY {x:Ex} (is:Bool) (hx:x.size<4611686018427387904) (ht:x.texts) (s:St):aA Tryz.prog oA [.agg (bB x), .bool is] s (.bool (ry x is)) s:=by
 refine aA.pure ?_ (by simp [D.bN,D.ok,iA]) rfl s
 have hm:=yM hx ht
 unfold S0
 generalize h:ry x is=p
 unfold ry at h
 refine aA.go zR rfl fun B Q hB hQ=> ?_
 have⟨hD,hF,hJ,hP⟩:=bI
 repeat' (first
 | simp only [go_sem,hD,hF,hJ,hP]
 | (with_reducible refine CU (hm _) ?_)
 | (with_reducible refine CU (Pv _ _) ?_)
 | (with_reducible first | refine aJ fun hc=> ?_ | refine aK fun hc=> ?_ | refine aL (fun hc=> ?_) fun hc=> ?_) <;> (try simp only [hc,bs, ↓reduceIte]at h) <;> try simp only [hc]
 | (with_reducible refine ay hQ ?_;exact bT)
 | (cases h;done))
def mJ:List Ar→Bool
 | []=>true
 | a::l=>if !(p6 a.name a.ref) || !(ry a.x !a.ref)then false else mJ l
theorem L8 {l:List Ar} (hl:l.length<4611686018427387904) (hs : ∀ a∈l,a.x.size<4611686018427387904∧a.x.texts∧a.name.length<4611686018427387904) (s:St) :
 aA Tryz.prog qn [.slice .shared 6 (l.map dG)] s (.bool (mJ l)) s:=by
 refine aA.pure ?_ (by simp [D.bN,D.ok,G8,Tag.ok]) rfl s
 unfold S0
 generalize h:mJ l=p
 refine aA.go yI rfl fun B Q hB hQ=> ?_
 have⟨hD,hF,hJ,hP⟩:=bI
 repeat' (first
 | simp only [go_sem,hD,hF,hJ,hP]
 | (with_reducible first | refine aJ fun hc=> ?_ | refine aK fun hc=> ?_ | refine aL (fun hc=> ?_) fun hc=> ?_) <;> (try simp only [hc,bs, ↓reduceIte]at h) <;> try simp only [hc]
 | (with_reducible refine ay hQ ?_;exact bT)
 | (cases h;done))
 refine cV 0 0 (bj.ind (ι:=List Ar×Nat) (fun i=>l.drop i.2=i.1∧mJ i.1=p) (fun i=>i.1.length)
  (fun i=> [(5, .slice .shared 6 (l.map dG)),(6, .int .i64 (l.length:Int)),(7, .int .i64 (i.2:Int))]) (fun i=>⟨[],[]⟩) ?_ (l,0) ⟨rfl,h⟩)
 rintro⟨rest,k⟩ ⟨h1,h⟩ IH
 dsimp only at h1 h
 cases rest with
 | nil=>
  have hD:=drop_nil h1
  simp only [mJ]at h
  repeat' (first
 | simp only [go_sem,hD,hF,hJ,hP]
 | (with_reducible first | refine aJ fun hc=> ?_ | refine aK fun hc=> ?_ | refine aL (fun hc=> ?_) fun hc=> ?_) <;> (try simp only [hc,bs, ↓reduceIte]at h) <;> try simp only [hc]
 | (with_reducible refine ay hQ ?_;exact bT)
 | (cases h;done))
 | cons a rest=>
  obtain⟨hF,g2,hD,g4⟩:=drop_cons h1
  have hJ:k<4611686018427387904:=by omega
  obtain⟨a1,a2,a3⟩:=hs a (List.mem_of_getElem? hF)
  have hn:=fun b s=>xL a.name b a3 s
  have hw:=fun b s=>EY b a1 a2 s
  simp only [mJ]at h
  repeat' (first
 | simp only [go_sem,hD,hF,hJ,hP]
 | (with_reducible refine CU (hn _ _) ?_)
 | (with_reducible refine CU (hw _ _) ?_)
 | (with_reducible first | refine aJ fun hc=> ?_ | refine aK fun hc=> ?_ | refine aL (fun hc=> ?_) fun hc=> ?_) <;> (try simp only [hc,bs, ↓reduceIte]at h) <;> try simp only [hc]
 | (with_reducible refine ay hQ ?_;exact bT)
 | (cases h;done))
  refine cV 0 0 (IH (rest,k+1) ⟨g2,h⟩ (Nat.lt_succ_self _))
def Sm.flags (s:Sm):Option (Bool×Bool×Bool×Bool×Bool×Bool):=
 if s.kind==1 then some (true,false,true,s.has,false,false)
 else if s.kind==2 || s.kind==10 then some (true,false,false,s.has,false,false)
 else if s.kind==3 then some (false,false,true,s.has,false,false)
 else if s.kind==4 then some (!(s.name == []),true,false,s.has,false,false)
 else if s.kind==5 then some (false,false,true,s.has,true,true)
 else if s.kind==6 then some (false,false,true,s.has,true,false)
 else if s.kind==9 then some (false,false,s.has,false,false,false)
 else if s.kind==7 || s.kind==8 then some (false,false,false,s.has,false,false)
 else none
def Sm.BY (s:Sm) (nm pr x:Bool):Bool:=if !(p6 s.name nm) || !(p6 s.proc pr) || !(ry s.x x)then false else mJ s.args
def Sm.B0 (s:Sm) (f:Bool×Bool×Bool×Bool×Bool×Bool):Bool:=
 if f.2.2.2.1 || (!f.2.2.2.2.1 && decide ((s.bk.length:Int) > 0)) || (!f.2.2.2.2.2 && decide ((s.aY.length:Int) > 0)) || (!(s.kind==4) && decide ((s.args.length:Int) > 0))then false
 else s.BY f.1 f.2.1 f.2.2.1
def Sm.fields (s:Sm):Bool:=match s.flags with
 | none=>false
 | some f=>s.B0 f
section
variable {v:Sm} {B:fO} {Q:Exit→Tm→St→Prop} {p:Bool}
theorem Ma {nm pr x:Bool} (hf:v.gI) (hB:B.s = ⟨[],[]⟩) (hQ:ku 0 0 [(2,none)] (.bool p) ⟨[],[]⟩=Q) (h:v.BY nm pr x=p) :
 Sem Tryz.prog B 93 Rp Q [(1, .ptr 0 0),(3, .bool nm),(4, .bool pr),(5, .bool x)] ⟨[bp v],[]⟩:=by
 have h1:=fun b s=>xL v.name b hf.name s
 have h2:=fun b s=>xL v.proc b hf.proc s
 have h3:=fun b s=>EY b hf.x hf.xt s
 have h4:=fun s=>L8 hf.RI hf.arg s
 unfold Sm.BY at h
 have⟨hD,hF,hJ,hP⟩:=bI
 refine gP ?_
 repeat' (first
 | simp only [go_sem,hD,hF,hJ,hP]
 | (with_reducible refine CU (h1 _ _) ?_)
 | (with_reducible refine CU (h2 _ _) ?_)
 | (with_reducible refine CU (h3 _ _) ?_)
 | (with_reducible refine CU (h4 _) ?_)
 | (with_reducible first | refine aJ fun hc=> ?_ | refine aK fun hc=> ?_ | refine aL (fun hc=> ?_) fun hc=> ?_) <;> (try simp only [hc,bs, ↓reduceIte]at h) <;> try simp only [hc]
 | (with_reducible refine ay hQ ?_;exact bT)
 | (cases h;done))
theorem Mb {nm pr x has th ot ar:Bool} (hf:v.gI) (hB:B.s = ⟨[],[]⟩) (hQ:ku 0 0 [(2,none)] (.bool p) ⟨[],[]⟩=Q) (e:(v.kind==4)=ar) (h:v.B0 (nm,pr,x,has,th,ot)=p) :
 Sem Tryz.prog B 93 Rq Q [(1, .ptr 0 0),(3, .bool nm),(4, .bool pr),(5, .bool x),(6, .bool has),(7, .bool th),(8, .bool ot),(9, .bool ar)] ⟨[bp v],[]⟩:=by
 simp only [Sm.B0,e]at h
 have⟨hD,hF,hJ,hP⟩:=bI
 refine Sem.kX ?_
 repeat' (first
 | simp only [go_sem,hD,hF,hJ,hP]
 | (with_reducible first | refine aJ fun hc=> ?_ | refine aK fun hc=> ?_ | refine aL (fun hc=> ?_) fun hc=> ?_) <;> (try simp only [hc,bs, ↓reduceIte]at h) <;> try simp only [hc]
 | (with_reducible refine ay hQ ?_;(try cases h);simp only [az,aB,bc,bd,go_sem,hD,hF,hJ,hP];repeat' (first | exact Ok.out | with_reducible refine bO ?_ ?_ | (simp;done)))
 | (cases h;done))
 all_goals
  refine Sem.re _ _ 1 0 (by rw [hB];exact lQ rfl) (by rw [hB];exact lQ rfl) ?_ ?_ (Ma hf hB hQ h)
  ·(simp only [go_sem,hD,hF,hJ,hP];repeat' (first | exact Ok.out | with_reducible refine bO ?_ ?_))
  ·(simp only [go_sem,hD,hF,hJ,hP];repeat' (first | exact Ok.out | with_reducible refine bO ?_ ?_))
theorem Mc {ar:Bool} (hf:v.gI) (hB:B.s = ⟨[],[]⟩) (hQ:ku 0 0 [(2,none)] (.bool p) ⟨[],[]⟩=Q) (e:(v.kind==4)=ar) (h:v.fields=p) :
 Sem Tryz.prog B 93 LZ Q [(1, .ptr 0 0),(3, .bool false),(4, .bool false),(5, .bool false),(6, .bool v.has),(7, .bool false),(8, .bool false),(9, .bool ar)] ⟨[bp v],[]⟩:=by
 simp only [Sm.fields,Sm.flags]at h
 have⟨hD,hF,hJ,hP⟩:=bI
 refine Sem.kX ?_
 repeat' (first
 | simp only [go_sem,hD,hF,hJ,hP]
 | (with_reducible first | refine aJ fun hc=> ?_ | refine aK fun hc=> ?_ | refine aL (fun hc=> ?_) fun hc=> ?_) <;> (try simp only [hc,bs, ↓reduceIte]at h) <;> try simp only [hc]
 | (with_reducible refine ay hQ ?_;(try cases h);simp only [az,aB,bc,bd,go_sem,hD,hF,hJ,hP];repeat' (first | exact Ok.out | with_reducible refine bO ?_ ?_ | (simp;done)))
 | (cases h;done))
 all_goals
  refine Sem.re _ _ 1 0 (by rw [hB];exact lQ rfl) (by rw [hB];exact lQ rfl) ?_ ?_ (Mb hf hB hQ e h)
  ·(simp only [go_sem,hD,hF,hJ,hP];repeat' (first | exact Ok.out | with_reducible refine bO ?_ ?_))
  ·(simp only [go_sem,hD,hF,hJ,hP];repeat' (first | exact Ok.out | with_reducible refine bO ?_ ?_))
end
theorem Md {v:Sm} (hf:v.gI) (s:St):aA Tryz.prog qm [.agg (bp v)] s (.bool v.fields) s:=by
 refine aA.pure ?_ (by simp [D.bN,D.ok,qh]) rfl s
 unfold S0
 refine aA.V4 yH rfl fun B Q hB hQ=> ?_
 have⟨hD,hF,hJ,hP⟩:=bI
 refine Sem.seq (b:=Rs) (gP ?_)
 repeat' (first
 | simp only [go_sem,hD,hF,hJ,hP]
 | (with_reducible first | refine aJ fun hc=> ?_ | refine aK fun hc=> ?_ | refine aL (fun hc=> ?_) fun hc=> ?_) <;> (try simp only [hc,bs, ↓reduceIte]at h) <;> try simp only [hc]
 | (with_reducible refine ay hQ ?_;exact bT)
 | (cases h;done))
 refine Sem.seq (b:=Rr) (gP ?_)
 repeat' (first
 | simp only [go_sem,hD,hF,hJ,hP]
 | (with_reducible first | refine aJ fun hc=> ?_ | refine aK fun hc=> ?_ | refine aL (fun hc=> ?_) fun hc=> ?_) <;> (try simp only [hc,bs, ↓reduceIte]at h) <;> try simp only [hc]
 | (with_reducible refine ay hQ ?_;exact bT)
 | (cases h;done))
 refine Sem.seq (b:=LZ) (gP ?_)
 repeat' (first
 | simp only [go_sem,hD,hF,hJ,hP]
 | (with_reducible first | refine aJ fun hc=> ?_ | refine aK fun hc=> ?_ | refine aL (fun hc=> ?_) fun hc=> ?_) <;> (try simp only [hc,bs, ↓reduceIte]at h) <;> try simp only [hc]
 | (with_reducible refine ay hQ ?_;exact bT)
 | (cases h;done))
 refine Sem.re _ _ 1 0 (by rw [hB];exact lQ rfl) (by rw [hB];exact lQ rfl) ?_ ?_ (Mc hf hB hQ rfl rfl)
 ·(simp only [go_sem,hD,hF,hJ,hP];repeat' (first | exact Ok.out | with_reducible refine bO ?_ ?_))
 ·(simp only [go_sem,hD,hF,hJ,hP];repeat' (first | exact Ok.out | with_reducible refine bO ?_ ?_))
end Go.Abs

/-! RefMay3 -/

namespace Go.Abs
set_option maxRecDepth 8000
open Go.Proofs
def ew (i:It):List D:= [.int .i64 i.s.id, .int .i64 i.s.kind, .slice .shared 1 (i.s.labels.map encStr), .str i.s.name, .str i.s.proc,
 .int .i64 i.s.x.op, .int .i64 i.s.x.n, .str i.s.x.name, .slice .shared 4 (i.s.x.kids.map bB), .bool i.s.has, .slice .shared 6 (i.s.args.map dG), .slice .shared 13 (i.s.bk.map bp), .slice .shared 13 (i.s.aY.map bp), .int .i64 i.deep, .int .i64 i.bX, .bool i.aY]
theorem Me (i:It):D.bN 0 0 (ew i)=true:=by simp [ew,D.bN,D.ok,Tag.ok,dk,NG,G8,qK]
theorem yN (l:List It):D.jb 0 0 (l.map ew)=true:=fX Me l
theorem U4 (n m:Nat) (l:List It):D.iM n m (l.map ew)=l.map ew:=ky Me n m l
theorem U5 (n m:Nat) (i:It):D.fV n m (ew i)=ew i:=gw n m _ (Me i)
theorem U6 (x:It):(ew x).length=16:=nd rfl
theorem RP (x:It):List.take 13 (ew x)=bp x.s:=by simp only [ew,cY];rfl
theorem Mf (x:It):(ew x)[0]? = some (.int .i64 x.s.id):=nd rfl
theorem JB (x:It):(ew x)[13]? = some (.int .i64 x.deep):=nd rfl
theorem z6 (s:Sm) (d n:Int) (e:Bool):ew ⟨s,d,n,e⟩ = [.int .i64 s.id, .int .i64 s.kind, .slice .shared 1 (s.labels.map encStr), .str s.name, .str s.proc,
 .int .i64 s.x.op, .int .i64 s.x.n, .str s.x.name, .slice .shared 4 (s.x.kids.map bB), .bool s.has, .slice .shared 6 (s.args.map dG), .slice .shared 13 (s.bk.map bp), .slice .shared 13 (s.aY.map bp), .int .i64 d, .int .i64 n, .bool e]:=nd rfl
attribute [go_sem] U4 U5 U6 RP Mf JB
theorem Dn (deep bX:Int) (aY:Bool) (out:List It) (s:Sm) :
 fR deep bX aY out s=if decide (deep≤12)then cZ (deep+1) s.id true (cZ (deep+1) s.id false (out++ [⟨s,deep,bX,aY⟩]) s.bk) s.aY else out++ [⟨s,deep,bX,aY⟩]:=by
 cases s;simp only [fR]
mutual
theorem JC (deep bX:Int) (aY:Bool) (out:List It) (h:out.length≤200) : ∀ s:Sm,(fR deep bX aY out s).length≤201
 | ⟨id,kind,labels,name,proc,x,has,args,bk,e⟩=>by
  simp only [fR]
  have h1:(out++ [(⟨⟨id,kind,labels,name,proc,x,has,args,bk,e⟩,deep,bX,aY⟩:It)]).length≤201:=by simp;omega
  split
  ·exact jd _ _ _ _ (jd _ _ _ _ h1 bk) e
  ·exact h1
theorem jd (deep bX:Int) (aY:Bool) (out:List It) (h:out.length≤201) : ∀ l:List Sm,(cZ deep bX aY out l).length≤201
 | []=>by simpa only [cZ]using h
 | s::l=>by
  simp only [cZ]
  split
  ·rename_i hc
   simp only [decide_eq_true_eq]at hc
   exact jd deep bX aY _ (JC _ _ _ _ (by omega) s) l
  ·exact h
end
abbrev JD (N:Nat):Prop:=∀ (l:List Sm) (deep bX:Int) (aY:Bool) (out:List It),Sm.aP l<N→0≤deep→deep≤13→out.length≤201→∀ {s:St} {t:Nat},s.ax[t]? = some (some out.length)→
 aA Tryz.prog j7 [.slice .shared 13 (l.map bp), .int .i64 deep, .int .i64 bX, .bool aY, .slice (.tok t) 16 (out.map ew)] s (.slice (.tok t) 16 ((cZ deep bX aY out l).map ew)) ⟨s.av,s.ax.set t (some (cZ deep bX aY out l).length)⟩
theorem RQ {N:Nat} (hN:N<4611686018427387904) (ih:JD N) {l:List Sm} {deep bX:Int} {aY:Bool} {out:List It} (hs:Sm.aP l<N+1) (AT:0≤deep) (hd:deep≤13) (ho:out.length≤201) :
 aA Tryz.prog j7 [.slice .shared 13 (l.map bp), .int .i64 deep, .int .i64 bX, .bool aY, .slice (.tok 0) 16 (out.map ew)] ⟨[],[some out.length]⟩ (.slice (.tok 0) 16 ((cZ deep bX aY out l).map ew)) ⟨[],[some (cZ deep bX aY out l).length]⟩:=by
 generalize hR:cZ deep bX aY out l=R
 refine aA.go uI rfl fun B Q hB hQ=> ?_
 have⟨hD,hF,hJ,hP⟩:=bI
 repeat' (first
 | simp only [go_sem,hD,hF,hJ,hP]
 | (with_reducible first | refine aJ fun hc=> ?_ | refine aK fun hc=> ?_ | refine aL (fun hc=> ?_) fun hc=> ?_) <;> (try simp only [hc,bs, ↓reduceIte]at h) <;> try simp only [hc]
 | (with_reducible refine ay hQ ?_;exact bT)
 | (cases h;done))
 refine cV 0 1 (bj.ind (ι:=List Sm×Nat×List It×Nat) (fun i=>l.drop i.2.1=i.1∧cZ deep bX aY i.2.2.1 i.1=R∧i.2.2.1.length≤201∧i.2.2.2=i.2.2.1.length) (fun i=>i.1.length)
  (fun i=> [(0, .slice .shared 13 (l.map bp)),(1, .int .i64 deep),(2, .int .i64 bX),(3, .bool aY),(4, .slice (.tok 0) 16 (i.2.2.1.map ew)),(11, .int .i64 (i.2.1:Int))]) (fun i=>⟨[],[some i.2.2.2]⟩) ?_ (l,0,out,out.length) ⟨rfl,hR,ho,rfl⟩)
 rintro⟨rest,k,out,n⟩ ⟨h1,h2,h3,h4⟩ IH
 dsimp only at h1 h2 h3 h4
 subst h4
 have hlen:l.length<4611686018427387904:=by have:=Sm.dc l;omega
 cases rest with
 | nil=>
  have hD:=drop_nil h1
  simp only [cZ]at h2
  subst h2
  repeat' (first
 | simp only [go_sem,hD,hF,hJ,hP]
 | (with_reducible first | refine aJ fun hc=> ?_ | refine aK fun hc=> ?_ | refine aL (fun hc=> ?_) fun hc=> ?_) <;> (try simp only [hc,bs, ↓reduceIte]at h) <;> try simp only [hc]
 | (with_reducible refine ay hQ ?_;exact bT)
 | (cases h;done))
 | cons v rest=>
  obtain⟨hF,g2,hD,g4⟩:=drop_cons h1
  have bm:k<4611686018427387904:=by omega
  have hv:=Sm.bS (List.mem_of_getElem? hF)
  have ma:Sm.aP v.bk<N∧Sm.aP v.aY<N:=by
   obtain⟨_,_,_,_,_,_,_,_,_,_⟩:=v
   simp only [Sm.size]at hv ⊢;omega
  simp only [cZ]at h2
  by_cases hc:out.length≤200
  ·have c1:decide ((out.length:Int)≤200)=true:=by simp;omega
   simp only [c1, ↓reduceIte,Dn]at h2
   have hJ:(out.length+1)*233≤bf:=by unfold bf;omega
   have lM:(out++ [(⟨v,deep,bX,aY⟩:It)]).length≤201:=by simp;omega
   have hw:IntKind.wrap .i64 (deep+1)=deep+1:=dt (by omega) (by omega)
   by_cases aaf:deep≤12
   ·have c2:decide (deep≤12)=true:=by simp;omega
    simp only [c2, ↓reduceIte]at h2
    have f1:=fun {s:St} {t:Nat} (ht:s.ax[t]? = some (some (out++ [(⟨v,deep,bX,aY⟩:It)]).length))=>ih v.bk (deep+1) v.id false _ ma.1 (by omega) (by omega) lM ht
    have f2:=fun {s:St} {t:Nat} (ht:s.ax[t]? = some (some (cZ (deep+1) v.id false (out++ [(⟨v,deep,bX,aY⟩:It)]) v.bk).length))=>ih v.aY (deep+1) v.id true _ ma.2 (by omega) (by omega) (jd _ _ _ _ lM _) ht
    simp only [List.map_append,List.map_cons,List.map_nil,z6,List.length_append,List.length_cons,List.length_nil]at f1
    repeat' (first
 | simp only [go_sem,hD,hF,hJ,hP,c1,c2,hw,cY]
 | (with_reducible refine CU (f1 (by with_unfolding_all rfl)) ?_)
 | (with_reducible refine CU (f2 (by with_unfolding_all rfl)) ?_)
 | (with_reducible first | refine aJ fun hc=> ?_ | refine aK fun hc=> ?_ | refine aL (fun hc=> ?_) fun hc=> ?_) <;> (try simp only [hc,bs, ↓reduceIte]at h) <;> try simp only [hc]
 | (with_reducible refine ay hQ ?_;(try cases h);simp only [az,aB,bc,bd,go_sem,hD,hF,hJ,hP,c1,c2,hw,cY];try exact br)
 | (cases h;done))
    refine cd 0 1 ?_ ?_ (IH (rest,k+1,_,_) ⟨g2,h2,jd _ _ _ _ (jd _ _ _ _ lM _) _,rfl⟩ (Nat.lt_succ_self _))
    ·(simp only [go_sem,hD,hF,hJ,hP,au bm];try exact aZ)
    ·(simp only [go_sem,hD,hF,hJ,hP,au bm];try exact aZ)
   ·have c2:decide (deep≤12)=false:=by simp;omega
    simp only [c2,Bool.false_eq_true, ↓reduceIte]at h2
    repeat' (first
 | simp only [go_sem,hD,hF,hJ,hP,c1,c2,cY]
 | (with_reducible first | refine aJ fun hc=> ?_ | refine aK fun hc=> ?_ | refine aL (fun hc=> ?_) fun hc=> ?_) <;> (try simp only [hc,bs, ↓reduceIte]at h) <;> try simp only [hc]
 | (with_reducible refine ay hQ ?_;(try cases h);simp only [az,aB,bc,bd,go_sem,hD,hF,hJ,hP,c1,c2,cY];try exact br)
 | (cases h;done))
    refine cd 0 1 ?_ ?_ (IH (rest,k+1,out++ [⟨v,deep,bX,aY⟩],out.length+1) ⟨g2,h2,lM,by simp⟩ (Nat.lt_succ_self _))
    ·(simp only [go_sem,hD,hF,hJ,hP,au bm,z6,List.map_append,List.map_cons,List.map_nil];try exact aZ)
    ·(simp only [go_sem,hD,hF,hJ,hP,au bm,z6,List.map_append,List.map_cons,List.map_nil];try exact aZ)
  ·have c1:decide ((out.length:Int)≤200)=false:=by simp;omega
   simp only [c1,Bool.false_eq_true, ↓reduceIte]at h2
   subst h2
   repeat' (first
 | simp only [go_sem,hD,hF,hJ,hP,c1]
 | (with_reducible first | refine aJ fun hc=> ?_ | refine aK fun hc=> ?_ | refine aL (fun hc=> ?_) fun hc=> ?_) <;> (try simp only [hc,bs, ↓reduceIte]at h) <;> try simp only [hc]
 | (with_reducible refine ay hQ ?_;(try cases h);simp only [az,aB,bc,bd,go_sem,hD,hF,hJ,hP,c1];try exact br)
 | (cases h;done))
theorem Mg : ∀ N,N<4611686018427387904→JD N:=by
 intro N
 induction N with
 | zero=>exact fun _ l deep bX aY out h=>absurd h (Nat.not_lt_zero _)
 | succ N ih=>
  intro h l deep bX aY out hs AT hd ho s t ht
  exact(RQ (by omega) (ih (by omega)) hs AT hd ho).FU (pre:= [_,_,_,_]) (post:= []) (by simp [D.bN,D.ok,Tag.ok,qK]) rfl (yN out) (yN _) ht
theorem Mh {l:List Sm} (hs:Sm.aP l<4611686018427387000) (s:St) :
 aA Tryz.prog j7 [.slice .shared 13 (l.map bp), .int .i64 1, .int .i64 0, .bool false, .slice .full 0 []] s (.slice .shared 16 ((cZ 1 0 false [] l).map ew)) s:=by
 refine aA.pure ?_ (by simp [D.bN,D.ok,Tag.ok,qK,D.jb]) (by simp [D.ok,Tag.ok,yN]) s
 obtain⟨N,hN⟩ : ∃ N,N=Sm.aP l:=⟨_,rfl⟩
 have ih:=Mg N (by omega)
 replace hs:Sm.aP l<N+1∧N<4611686018427387000:=by omega
 obtain⟨hs,hN⟩:=hs
 generalize hR:cZ 1 0 false [] l=R
 obtain⟨deep,Hx⟩ : ∃ d:Int,d=1:=⟨_,rfl⟩
 obtain⟨bX,Mi⟩ : ∃ d:Int,d=0:=⟨_,rfl⟩
 obtain⟨aY,Mj⟩ : ∃ d:Bool,d=false:=⟨_,rfl⟩
 rw [← Hx, ← Mi, ← Mj]at hR
 rw [← Hx, ← Mi, ← Mj]
 have AT:0≤deep:=by omega
 have hd:deep≤13:=by omega
 clear Hx Mi Mj
 have ho:([] : List It).length≤201:=Nat.zero_le _
 unfold S0
 refine aA.go uI rfl fun B Q hB hQ=> ?_
 have⟨hD,hF,hJ,hP⟩:=bI
 repeat' (first
 | simp only [go_sem,hD,hF,hJ,hP]
 | (with_reducible first | refine aJ fun hc=> ?_ | refine aK fun hc=> ?_ | refine aL (fun hc=> ?_) fun hc=> ?_) <;> (try simp only [hc,bs, ↓reduceIte]at h) <;> try simp only [hc]
 | (with_reducible refine ay hQ ?_;exact bT)
 | (cases h;done))
 refine bj.mh 4 16 rfl ?_
 simp only [go_sem,hD,hF,hJ,hP]
 refine cV 0 1 (bj.ind (ι:=List Sm×Nat×List It×Nat) (fun i=>l.drop i.2.1=i.1∧cZ deep bX aY i.2.2.1 i.1=R∧i.2.2.1.length≤201∧i.2.2.2=i.2.2.1.length) (fun i=>i.1.length)
  (fun i=> [(0, .slice .shared 13 (l.map bp)),(1, .int .i64 deep),(2, .int .i64 bX),(3, .bool aY),(4, .slice (.tok 0) 16 (i.2.2.1.map ew)),(11, .int .i64 (i.2.1:Int))]) (fun i=>⟨[],[some i.2.2.2]⟩) ?_ (l,0,[],0) ⟨rfl,hR,ho,rfl⟩)
 rintro⟨rest,k,out,n⟩ ⟨h1,h2,h3,h4⟩ IH
 dsimp only at h1 h2 h3 h4
 subst h4
 have hlen:l.length<4611686018427387904:=by have:=Sm.dc l;omega
 cases rest with
 | nil=>
  have hD:=drop_nil h1
  simp only [cZ]at h2
  subst h2
  repeat' (first
 | simp only [go_sem,hD,hF,hJ,hP]
 | (with_reducible first | refine aJ fun hc=> ?_ | refine aK fun hc=> ?_ | refine aL (fun hc=> ?_) fun hc=> ?_) <;> (try simp only [hc,bs, ↓reduceIte]at h) <;> try simp only [hc]
 | (with_reducible refine ay hQ ?_;exact bT)
 | (cases h;done))
 | cons v rest=>
  obtain⟨hF,g2,hD,g4⟩:=drop_cons h1
  have bm:k<4611686018427387904:=by omega
  have hv:=Sm.bS (List.mem_of_getElem? hF)
  have ma:Sm.aP v.bk<N∧Sm.aP v.aY<N:=by
   obtain⟨_,_,_,_,_,_,_,_,_,_⟩:=v
   simp only [Sm.size]at hv ⊢;omega
  simp only [cZ]at h2
  by_cases hc:out.length≤200
  ·have c1:decide ((out.length:Int)≤200)=true:=by simp;omega
   simp only [c1, ↓reduceIte,Dn]at h2
   have hJ:(out.length+1)*233≤bf:=by unfold bf;omega
   have lM:(out++ [(⟨v,deep,bX,aY⟩:It)]).length≤201:=by simp;omega
   have hw:IntKind.wrap .i64 (deep+1)=deep+1:=dt (by omega) (by omega)
   by_cases aaf:deep≤12
   ·have c2:decide (deep≤12)=true:=by simp;omega
    simp only [c2, ↓reduceIte]at h2
    have f1:=fun {s:St} {t:Nat} (ht:s.ax[t]? = some (some (out++ [(⟨v,deep,bX,aY⟩:It)]).length))=>ih v.bk (deep+1) v.id false _ ma.1 (by omega) (by omega) lM ht
    have f2:=fun {s:St} {t:Nat} (ht:s.ax[t]? = some (some (cZ (deep+1) v.id false (out++ [(⟨v,deep,bX,aY⟩:It)]) v.bk).length))=>ih v.aY (deep+1) v.id true _ ma.2 (by omega) (by omega) (jd _ _ _ _ lM _) ht
    simp only [List.map_append,List.map_cons,List.map_nil,z6,List.length_append,List.length_cons,List.length_nil]at f1
    repeat' (first
 | simp only [go_sem,hD,hF,hJ,hP,c1,c2,hw,cY]
 | (with_reducible refine CU (f1 (by with_unfolding_all rfl)) ?_)
 | (with_reducible refine CU (f2 (by with_unfolding_all rfl)) ?_)
 | (with_reducible first | refine aJ fun hc=> ?_ | refine aK fun hc=> ?_ | refine aL (fun hc=> ?_) fun hc=> ?_) <;> (try simp only [hc,bs, ↓reduceIte]at h) <;> try simp only [hc]
 | (with_reducible refine ay hQ ?_;(try cases h);simp only [az,aB,bc,bd,go_sem,hD,hF,hJ,hP,c1,c2,hw,cY];try exact br)
 | (cases h;done))
    refine cd 0 1 ?_ ?_ (IH (rest,k+1,_,_) ⟨g2,h2,jd _ _ _ _ (jd _ _ _ _ lM _) _,rfl⟩ (Nat.lt_succ_self _))
    ·(simp only [go_sem,hD,hF,hJ,hP,au bm];try exact aZ)
    ·(simp only [go_sem,hD,hF,hJ,hP,au bm];try exact aZ)
   ·have c2:decide (deep≤12)=false:=by simp;omega
    simp only [c2,Bool.false_eq_true, ↓reduceIte]at h2
    repeat' (first
 | simp only [go_sem,hD,hF,hJ,hP,c1,c2,cY]
 | (with_reducible first | refine aJ fun hc=> ?_ | refine aK fun hc=> ?_ | refine aL (fun hc=> ?_) fun hc=> ?_) <;> (try simp only [hc,bs, ↓reduceIte]at h) <;> try simp only [hc]
 | (with_reducible refine ay hQ ?_;(try cases h);simp only [az,aB,bc,bd,go_sem,hD,hF,hJ,hP,c1,c2,cY];try exact br)
 | (cases h;done))
    refine cd 0 1 ?_ ?_ (IH (rest,k+1,out++ [⟨v,deep,bX,aY⟩],out.length+1) ⟨g2,h2,lM,by simp⟩ (Nat.lt_succ_self _))
    ·(simp only [go_sem,hD,hF,hJ,hP,au bm,z6,List.map_append,List.map_cons,List.map_nil];try exact aZ)
    ·(simp only [go_sem,hD,hF,hJ,hP,au bm,z6,List.map_append,List.map_cons,List.map_nil];try exact aZ)
  ·have c1:decide ((out.length:Int)≤200)=false:=by simp;omega
   simp only [c1,Bool.false_eq_true, ↓reduceIte]at h2
   subst h2
   repeat' (first
 | simp only [go_sem,hD,hF,hJ,hP,c1]
 | (with_reducible first | refine aJ fun hc=> ?_ | refine aK fun hc=> ?_ | refine aL (fun hc=> ?_) fun hc=> ?_) <;> (try simp only [hc,bs, ↓reduceIte]at h) <;> try simp only [hc]
 | (with_reducible refine ay hQ ?_;(try cases h);simp only [az,aB,bc,bd,go_sem,hD,hF,hJ,hP,c1];try exact br)
 | (cases h;done))
theorem yO {f:Pc} (hs:Sm.aP f.body<4611686018427387000) (s:St):aA Tryz.prog ly [.agg (bV f)] s (.slice .shared 16 (f.flat.map ew)) s:=by
 refine aA.pure ?_ (by simp only [D.bN,D.ok,rb];rfl) (by simp [D.ok,Tag.ok,yN]) s
 have h:=fun s=>Mh hs s
 unfold S0
 refine aA.go Bv rfl fun B Q hB hQ=> ?_
 have⟨hD,hF,hJ,hP⟩:=bI
 repeat' (first
 | simp only [go_sem,hD,hF,hJ,hP,Pc.flat]
 | (with_reducible refine CU (h _) ?_)
 | (with_reducible first | refine aJ fun hc=> ?_ | refine aK fun hc=> ?_ | refine aL (fun hc=> ?_) fun hc=> ?_) <;> (try simp only [hc,bs, ↓reduceIte]at h) <;> try simp only [hc]
 | (with_reducible refine ay hQ ?_;(try cases h);simp only [az,aB,bc,bd,go_sem,hD,hF,hJ,hP,Pc.flat];try exact br)
 | (cases h;done))
end Go.Abs

/-! RefMay4 -/

namespace Go.Abs
set_option maxRecDepth 8000
open Go.Proofs
theorem Pc.rz (f:Pc):f.flat.length≤201:=jd _ _ _ _ (Nat.zero_le _) _
theorem U7 {p:Pg} (hs:Pc.aP p.procs<4611686018427387000) (s:St):aA Tryz.prog tT [.agg (bP p)] s (.slice .shared 16 (p.all.map ew)) s:=by
 refine aA.pure ?_ (by simp only [D.bN,D.ok,ie];rfl) (by simp [D.ok,Tag.ok,yN]) s
 have hlen:p.procs.length<4611686018427387904:=by have:=Pc.dc p.procs;omega
 generalize hR:p.all=R
 unfold Pg.all at hR
 unfold S0
 refine aA.go Dc rfl fun B Q hB hQ=> ?_
 have⟨hD,hF,hJ,hP⟩:=bI
 repeat' (first
 | simp only [go_sem,hD,hF,hJ,hP]
 | (with_reducible first | refine aJ fun hc=> ?_ | refine aK fun hc=> ?_ | refine aL (fun hc=> ?_) fun hc=> ?_) <;> (try simp only [hc,bs, ↓reduceIte]at h) <;> try simp only [hc]
 | (with_reducible refine ay hQ ?_;exact bT)
 | (cases h;done))
 refine bj.mh 3 16 rfl ?_
 simp only [go_sem,hD,hF,hJ,hP]
 refine cV 1 1 (bj.ind (ι:=List Pc×Nat×List It×Nat) (fun i=>p.procs.drop i.2.1=i.1∧allM i.2.2.1 i.1=R∧i.2.2.1.length≤200∧i.2.2.2=i.2.2.1.length) (fun i=>i.1.length)
  (fun i=> [(1, .ptr 0 0),(3, .slice (.tok 0) 16 (i.2.2.1.map ew)),(7, .slice .shared 5 (p.procs.map bV)),(8, .int .i64 (p.procs.length:Int)),(9, .int .i64 (i.2.1:Int))]) (fun i=>⟨[bP p],[some i.2.2.2]⟩) ?_ (p.procs,0,[],0) ⟨rfl,hR,Nat.zero_le _,rfl⟩)
 rintro⟨rest,k,out,n⟩ ⟨h1,h,h3,h4⟩ IH
 dsimp only at h1 h h3 h4
 subst h4
 cases rest with
 | nil=>
  have hD:=drop_nil h1
  simp only [allM]at h
  subst h
  repeat' (first
 | simp only [go_sem,hD,hF,hJ,hP]
 | (with_reducible first | refine aJ fun hc=> ?_ | refine aK fun hc=> ?_ | refine aL (fun hc=> ?_) fun hc=> ?_) <;> (try simp only [hc,bs, ↓reduceIte]at h) <;> try simp only [hc]
 | (with_reducible refine ay hQ ?_;exact bT)
 | (cases h;done))
 | cons f rest=>
  obtain⟨hF,g2,hD,g4⟩:=drop_cons h1
  have bm:k<4611686018427387904:=by omega
  have hf:=Pc.bS (List.mem_of_getElem? hF)
  have hb:Sm.aP f.body<4611686018427387000:=by simp only [Pc.size]at hf;omega
  have kd:=fun s=>yO hb s
  have ahq:=f.rz
  have hJ:(out.length+f.flat.length)*233≤bf:=by unfold bf;omega
  simp only [allM,List.length_append]at h
  have cU:=fun(o:List (List D))=>xA (size:=16) (bytes:=232) (t:=0) (rows:=out.map ew) (new:=f.flat.map ew) (g:= .shared) (s:=⟨o,[some out.length]⟩) (by simpa using hJ) (by simp)
  repeat' (first
 | simp only [go_sem,hD,hF,hJ,hP,cU]
 | (with_reducible refine CU (kd _) ?_)
 | (with_reducible first | refine aJ fun hc=> ?_ | refine aK fun hc=> ?_ | refine aL (fun hc=> ?_) fun hc=> ?_) <;> (try simp only [hc,bs, ↓reduceIte]at h) <;> try simp only [hc]
 | (with_reducible refine ay hQ ?_;(try cases h);simp only [az,aB,bc,bd,go_sem,hD,hF,hJ,hP,cU];try exact br)
 | (cases h;done))
  refine cd 1 1 ?_ ?_ (IH (rest,k+1,out++f.flat,out.length+f.flat.length) ⟨g2,h,by rename_i hc;simp only [decide_eq_false_iff_not]at hc;simp only [List.length_append];omega,by simp⟩ (Nat.lt_succ_self _))
  ·(simp only [go_sem,hD,hF,hJ,hP,au bm];try exact aZ)
  ·(simp only [go_sem,hD,hF,hJ,hP,au bm];try exact aZ)
structure Pg.gI (p:Pg):Prop where
 sz:p.size<4611686018427387000
 z7 : ∀ t∈p.globals,t.length<4611686018427387904
 jQ : ∀ f∈p.procs,f.name.length<4611686018427387904∧(∀ t∈f.vars,t.length<4611686018427387904)∧(∀ t∈f.fin,t.length<4611686018427387904)∧∀ a∈f.params,a.name.length<4611686018427387904
 items : ∀ i∈p.all,i.s.gI
theorem Dp : ∀ (l:List Pc) (out:List It),out.length≤200→(allM out l).length≤401
 | [],out,h=>by simp only [allM];omega
 | f::l,out,h=>by
  have:=f.rz
  simp only [allM]
  split
  ·simp;omega
  ·rename_i hc
   exact Dp l _ (by simp only [decide_eq_true_eq]at hc;omega)
theorem Oc {p:Pg} (hf:p.gI) (s:St):aA Tryz.prog qM [.agg (bP p)] s (.bool p.may) s:=by
 refine aA.pure ?_ (by simp only [D.bN,D.ok,ie];rfl) rfl s
 obtain⟨eg,oW,Dq,RR⟩:=hf
 have mO:Pc.aP p.procs<4611686018427387000:=by simp only [Pg.size]at eg;omega
 have Hy:p.globals.length<4611686018427387904:=by simp only [Pg.size]at eg;omega
 have U8:p.procs.length<4611686018427387904:=by have:=Pc.dc p.procs;omega
 have hg:=fun s=>uc Hy oW s
 have Cz:=fun s=>U7 mO s
 have np:p.all.length≤401:=Dp _ _ (Nat.zero_le _)
 unfold S0
 generalize h:p.may=R
 unfold Pg.may at h
 refine aA.go Df rfl fun B Q hB hQ=> ?_
 have⟨hD,hF,hJ,hP⟩:=bI
 repeat' (first
 | simp only [go_sem,hD,hF,hJ,hP]
 | (with_reducible refine CU (hg _) ?_)
 | (with_reducible first | refine aJ fun hc=> ?_ | refine aK fun hc=> ?_ | refine aL (fun hc=> ?_) fun hc=> ?_) <;> (try simp only [hc,bs, ↓reduceIte]at h) <;> try simp only [hc]
 | (with_reducible refine ay hQ ?_;exact bT)
 | (cases h;done))
 refine cV 1 0 (bj.ind (ι:=List Pc×Nat) (fun i=>p.procs.drop i.2=i.1∧(if !(Pc.jQ i.1)then false else if decide ((p.all.length:Int) > 200)then false else It.dK 0 p.all)=R) (fun i=>i.1.length)
  (fun i=> [(1, .ptr 0 0),(26, .slice .shared 5 (p.procs.map bV)),(27, .int .i64 (p.procs.length:Int)),(28, .int .i64 (i.2:Int))]) (fun i=>⟨[bP p],[]⟩) ?_ (p.procs,0) ⟨rfl,h⟩)
 rintro⟨rest,k⟩ ⟨h1,h⟩ IH
 dsimp only at h1 h
 cases rest with
 | nil=>
  have hD:=drop_nil h1
  simp only [Pc.jQ,Bool.not_true,Bool.false_eq_true, ↓reduceIte]at h
  repeat' (first
 | simp only [go_sem,hD,hF,hJ,hP]
 | (with_reducible refine CU (Cz _) ?_)
 | (with_reducible first | refine aJ fun hc=> ?_ | refine aK fun hc=> ?_ | refine aL (fun hc=> ?_) fun hc=> ?_) <;> (try simp only [hc,bs, ↓reduceIte]at h) <;> try simp only [hc]
 | (with_reducible refine ay hQ ?_;exact bT)
 | (cases h;done))
  clear IH
  refine cV 1 0 (bj.ind (ι:=List It×Nat) (fun i=>p.all.drop i.2=i.1∧It.dK i.2 i.1=R) (fun i=>i.1.length)
   (fun i=> [(1, .ptr 0 0),(7, .slice .shared 16 (p.all.map ew)),(79, .int .i64 (p.all.length:Int)),(80, .int .i64 (i.2:Int))]) (fun i=>⟨[bP p],[]⟩) ?_ (p.all,0) ⟨rfl,h⟩)
  rintro⟨rest,k⟩ ⟨h1,h⟩ IH
  dsimp only at h1 h
  cases rest with
  | nil=>
   have hD:=drop_nil h1
   simp only [It.dK]at h
   repeat' (first
 | simp only [go_sem,hD,hF,hJ,hP]
 | (with_reducible first | refine aJ fun hc=> ?_ | refine aK fun hc=> ?_ | refine aL (fun hc=> ?_) fun hc=> ?_) <;> (try simp only [hc,bs, ↓reduceIte]at h) <;> try simp only [hc]
 | (with_reducible refine ay hQ ?_;exact bT)
 | (cases h;done))
  | cons i rest=>
   obtain⟨hF,g2,hD,g4⟩:=drop_cons h1
   have hi:=fun s=>UY (RR i (List.mem_of_getElem? hF)) s
   have hJ:k<4611686018427387904:=by omega
   simp only [It.dK]at h
   repeat' (first
 | simp only [go_sem,hD,hF,hJ,hP,au hJ]
 | (with_reducible refine CU (hi _) ?_)
 | (with_reducible first | refine aJ fun hc=> ?_ | refine aK fun hc=> ?_ | refine aL (fun hc=> ?_) fun hc=> ?_) <;> (try simp only [hc,bs, ↓reduceIte]at h) <;> try simp only [hc]
 | (with_reducible refine ay hQ ?_;(try cases h);simp only [az,aB,bc,bd,go_sem,hD,hF,hJ,hP,au hJ];try exact br)
 | (cases h;done))
   refine cd 1 0 ?_ ?_ (IH (rest,k+1) ⟨g2,h⟩ (Nat.lt_succ_self _))
   ·(simp only [go_sem,hD,hF,hJ,hP,au hJ];try exact aZ)
   ·(simp only [go_sem,hD,hF,hJ,hP,au hJ];try exact aZ)
 | cons f rest=>
  obtain⟨hF,g2,hD,g4⟩:=drop_cons h1
  have bm:k<4611686018427387904:=by omega
  have si:=Pc.bS (List.mem_of_getElem? hF)
  simp only [Pc.size]at si
  obtain⟨sj,RS,RT,RU⟩:=Dq f (List.mem_of_getElem? hF)
  have hn:=pf f.name sj
  have hv:=fun s=>uc (by omega) RS s
  have he:=fun s=>uc (by omega) RT s
  simp only [Pc.jQ]at h
  repeat' (first
 | simp only [go_sem,hD,hF,hJ,hP]
 | (with_reducible refine CU (hn _) ?_)
 | (with_reducible refine CU (hv _) ?_)
 | (with_reducible refine CU (he _) ?_)
 | (with_reducible first | refine aJ fun hc=> ?_ | refine aK fun hc=> ?_ | refine aL (fun hc=> ?_) fun hc=> ?_) <;> (try simp only [hc,bs, ↓reduceIte]at h) <;> try simp only [hc]
 | (with_reducible refine ay hQ ?_;exact bT)
 | (cases h;done))
  refine cV 1 0 (bj.ind (ι:=List Pm×Nat) (fun i=>f.params.drop i.2=i.1∧(if !(if !(Pm.dK i.1)then false else Pc.jQ rest)then false else if decide ((p.all.length:Int) > 200)then false else It.dK 0 p.all)=R) (fun i=>i.1.length)
   (fun i=> [(1, .ptr 0 0),(26, .slice .shared 5 (p.procs.map bV)),(27, .int .i64 (p.procs.length:Int)),(28, .int .i64 (k:Int)),(61, .slice .shared 2 (f.params.map fW)),(62, .int .i64 (f.params.length:Int)),(63, .int .i64 (i.2:Int))]) (fun i=>⟨[bP p],[]⟩) ?_ (f.params,0) ⟨rfl,h⟩)
  rintro⟨ug,j⟩ ⟨j1,h⟩ tq
  dsimp only at j1 h
  cases ug with
  | nil=>
   have hD:=drop_nil j1
   simp only [Pm.dK,Bool.not_true,Bool.false_eq_true, ↓reduceIte]at h
   repeat' (first
 | simp only [go_sem,hD,hF,hJ,hP]
 | (with_reducible first | refine aJ fun hc=> ?_ | refine aK fun hc=> ?_ | refine aL (fun hc=> ?_) fun hc=> ?_) <;> (try simp only [hc,bs, ↓reduceIte]at h) <;> try simp only [hc]
 | (with_reducible refine ay hQ ?_;exact bT)
 | (cases h;done))
   refine cd 1 0 ?_ ?_ (IH (rest,k+1) ⟨g2,h⟩ (Nat.lt_succ_self _))
   ·(simp only [go_sem,hD,hF,hJ,hP,au bm];try exact aZ)
   ·(simp only [go_sem,hD,hF,hJ,hP,au bm];try exact aZ)
  | cons a ug=>
   obtain⟨hF,b2,hD,b4⟩:=drop_cons j1
   have AU:j<4611686018427387904:=by omega
   have ha:=pf a.name (RU a (List.mem_of_getElem? hF))
   simp only [Pm.dK]at h
   repeat' (first
 | simp only [go_sem,hD,hF,hJ,hP]
 | (with_reducible refine CU (ha _) ?_)
 | (with_reducible first | refine aJ fun hc=> ?_ | refine aK fun hc=> ?_ | refine aL (fun hc=> ?_) fun hc=> ?_) <;> (try simp only [hc,bs, ↓reduceIte]at h) <;> try simp only [hc]
 | (with_reducible refine ay hQ ?_;exact bT)
 | (cases h;done))
   refine cd 1 0 ?_ ?_ (tq (ug,j+1) ⟨b2,h⟩ (Nat.lt_succ_self _))
   ·(simp only [go_sem,hD,hF,hJ,hP,au AU];try exact aZ)
   ·(simp only [go_sem,hD,hF,hJ,hP,au AU];try exact aZ)
end Go.Abs

/-! TMay3 -/

namespace Go.Abs
set_option maxRecDepth 8000
open Go.Proofs
def gate (nest:Int) (len n:Nat) (r:Bool×Nat):Bool×Nat:=if decide (nest > 12) && decide ((len:Int) > 0)then(false,n)else r
mutual
def Sm.ng (nest:Int) (n:Nat):Sm→Bool×Nat
 | ⟨id,kind,labels,name,proc,x,has,args,bk,aY⟩=>
  if decide (((n+1:Nat):Int) > 200) || id != ((n+1:Nat):Int) || !(dg labels) || !(Sm.fields ⟨id,kind,labels,name,proc,x,has,args,bk,aY⟩)then(false,n+1)
  else if !(gate (nest+1) bk.length (n+1) (Sm.dZ (nest+1) (n+1) bk)).1 then(false,(gate (nest+1) bk.length (n+1) (Sm.dZ (nest+1) (n+1) bk)).2)
  else gate (nest+1) aY.length (gate (nest+1) bk.length (n+1) (Sm.dZ (nest+1) (n+1) bk)).2 (Sm.dZ (nest+1) (gate (nest+1) bk.length (n+1) (Sm.dZ (nest+1) (n+1) bk)).2 aY)
def Sm.dZ (nest:Int) (n:Nat):List Sm→Bool×Nat
 | []=>(true,n)
 | s::l=>if !(Sm.ng nest n s).1 then(false,(Sm.ng nest n s).2)else Sm.dZ nest (Sm.ng nest n s).2 l
end
def Sm.fj (nest:Int) (n:Nat) (l:List Sm):Bool×Nat:=gate nest l.length n (Sm.dZ nest n l)
theorem z8 (nest:Int) (n:Nat) (s:Sm):Sm.ng nest n s =
 if decide (((n+1:Nat):Int) > 200) || s.id != ((n+1:Nat):Int) || !(dg s.labels) || !(s.fields)then(false,n+1)
 else if !(Sm.fj (nest+1) (n+1) s.bk).1 then(false,(Sm.fj (nest+1) (n+1) s.bk).2)
 else Sm.fj (nest+1) (Sm.fj (nest+1) (n+1) s.bk).2 s.aY:=by
 cases s;simp only [Sm.ng,Sm.fj];rfl
mutual
def Sm.pH:Sm→Prop
 | ⟨id,kind,labels,name,proc,x,has,args,bk,aY⟩=>Sm.gI ⟨id,kind,labels,name,proc,x,has,args,bk,aY⟩∧Sm.gy bk∧Sm.gy aY
def Sm.gy:List Sm→Prop
 | []=>True
 | s::l=>s.pH∧Sm.gy l
end
theorem xM (s:Sm):s.pH↔s.gI∧Sm.gy s.bk∧Sm.gy s.aY:=by cases s;simp only [Sm.pH]
theorem yP {s:Sm} : ∀ {l:List Sm},Sm.gy l→s∈l→s.pH
 | y::l,h,m=>by
  simp only [Sm.gy]at h
  rcases List.mem_cons.1 m with rfl | m
  ·exact h.1
  ·exact yP h.2 m
mutual
theorem Pw (nest:Int) (n:Nat) : ∀ s:Sm,n≤201→(Sm.ng nest n s).2≤202∧((Sm.ng nest n s).1=true→(Sm.ng nest n s).2≤200)
 | ⟨id,kind,labels,name,proc,x,has,args,bk,aY⟩,hn=>by
  simp only [Sm.ng]
  split
  ·exact⟨by dsimp only;omega,fun h=>by cases h⟩
  rename_i hc
  simp only [Bool.or_eq_true,decide_eq_true_eq,not_or]at hc
  have uN:n+1≤200:=by omega
  have g1 : ∀ (nest:Int) (l:List Sm) (m:Nat),m≤200→(Sm.dZ nest m l).2≤202∧((Sm.dZ nest m l).1=true→(Sm.dZ nest m l).2≤200)→
   (gate nest l.length m (Sm.dZ nest m l)).2≤202∧((gate nest l.length m (Sm.dZ nest m l)).1=true→(gate nest l.length m (Sm.dZ nest m l)).2≤200):=by
   intro nest l m hm h
   unfold gate
   split
   ·exact⟨by dsimp only;omega,fun h=>by cases h⟩
   ·exact h
  have h1:=g1 (nest+1) bk (n+1) uN (wH (nest+1) (n+1) bk uN)
  split
  ·exact⟨h1.1,fun h=>by cases h⟩
  rename_i P1
  have h2:=h1.2 (by simpa using P1)
  exact g1 (nest+1) aY _ h2 (wH (nest+1) _ aY h2)
theorem wH (nest:Int) (n:Nat) : ∀ l:List Sm,n≤200→(Sm.dZ nest n l).2≤202∧((Sm.dZ nest n l).1=true→(Sm.dZ nest n l).2≤200)
 | [],hn=>by simp only [Sm.dZ];exact⟨by omega,fun _=>hn⟩
 | s::l,hn=>by
  simp only [Sm.dZ]
  have h1:=Pw nest n s (by omega)
  split
  ·exact⟨h1.1,fun h=>by cases h⟩
  rename_i hc
  exact wH nest _ l (h1.2 (by simpa using hc))
end
theorem Aa {nest:Int} {n:Nat} {l:List Sm} (hn:n≤200):(Sm.fj nest n l).2≤202∧((Sm.fj nest n l).1=true→(Sm.fj nest n l).2≤200):=by
 unfold Sm.fj gate
 split
 ·exact⟨by dsimp only;omega,fun h=>by cases h⟩
 ·exact wH nest n l hn
theorem Px : ∀ (m:Nat) (l:List Sm),Sm.aP l≤m→Sm.aP l<4611686018427387000→Sm.gy l→∀ (nest:Int) (n:Nat),0≤nest→nest≤13→n≤200→
 aA Tryz.prog iB [.ptr 0 0, .slice .shared 13 (l.map bp), .int .i64 nest] ⟨[[.int .i64 n]],[]⟩ (.bool (Sm.fj nest n l).1) ⟨[[.int .i64 (Sm.fj nest n l).2]],[]⟩:=by
 intro m
 induction m with
 | zero=>
  intro l h hs hf nest n h0 h13 hn
  cases l with
  | nil=>
   have d1:decide ((0:Int) > 0)=false:=rfl
   have e:Sm.fj nest n [] = (true,n):=by simp [Sm.fj,gate,Sm.dZ]
   have z:decide ((0:Int)<0)=false:=rfl
   rw [e]
   refine aA.go oF rfl fun B Q hB hQ=> ?_
   have⟨hD,hF,hJ,hP⟩:=bI
   repeat' (first
 | simp only [go_sem,hD,hF,hJ,hP,d1,z]
 | (with_reducible refine bj.tP ?_)
 | (with_reducible first | refine aJ fun hc=> ?_ | refine aK fun hc=> ?_ | refine aL (fun hc=> ?_) fun hc=> ?_) <;> (try simp only [hc,bs, ↓reduceIte]at h) <;> try simp only [hc]
 | (with_reducible refine ay hQ ?_;(try cases h);simp only [az,aB,bc,bd,go_sem,hD,hF,hJ,hP,d1,z];try exact br)
 | (cases h;done))
  | cons s l=>simp only [Sm.aP]at h;omega
 | succ m ih=>
  intro l h hs hf nest n h0 h13 hn
  generalize hR:Sm.fj nest n l=R
  have hlen:=Sm.dc l
  unfold Sm.fj gate at hR
  have h:=hR
  refine aA.go oF rfl fun B Q hB hQ=> ?_
  have⟨hD,hF,hJ,hP⟩:=bI
  repeat' (first
 | simp only [go_sem,hD,hF,hJ,hP]
 | (with_reducible first | refine aJ fun hc=> ?_ | refine aK fun hc=> ?_ | refine aL (fun hc=> ?_) fun hc=> ?_) <;> (try simp only [hc,bs, ↓reduceIte]at h) <;> try simp only [hc]
 | (with_reducible refine ay hQ ?_;(try cases h);simp only [az,aB,bc,bd,go_sem,hD,hF,hJ,hP];repeat' (first | exact Ok.out | with_reducible refine bO ?_ ?_ | (simp;done)))
 | (cases h;done))
  all_goals
   have U9:l≠ []→nest≤12:=by
    intro eI
    have:l.length≠0:=by simpa using eI
    simp_all <;> omega
   refine cV 1 0 (bj.ind (ι:=List Sm×Nat×Nat) (fun i=>l.drop i.2.1=i.1∧Sm.dZ nest i.2.2 i.1=R∧i.2.2≤200) (fun i=>i.1.length)
    (fun i=> [(0, .ptr 0 0),(2, .int .i64 nest),(16, .slice .shared 13 (l.map bp)),(17, .int .i64 (l.length:Int)),(18, .int .i64 (i.2.1:Int))]) (fun i=>⟨[[.int .i64 (i.2.2:Int)]],[]⟩) ?_ (l,0,n) ⟨rfl,h,hn⟩)
   rintro⟨rest,k,j⟩ ⟨h1,h,hj⟩ IH
   dsimp only at h1 h hj
   cases rest with
   | nil=>
    have hD:=drop_nil h1
    simp only [Sm.dZ]at h
    repeat' (first
 | simp only [go_sem,hD,hF,hJ,hP]
 | (with_reducible first | refine aJ fun hc=> ?_ | refine aK fun hc=> ?_ | refine aL (fun hc=> ?_) fun hc=> ?_) <;> (try simp only [hc,bs, ↓reduceIte]at h) <;> try simp only [hc]
 | (with_reducible refine ay hQ ?_;exact bT)
 | (cases h;done))
   | cons s rest=>
    obtain⟨hF,g2,hD,g4⟩:=drop_cons h1
    have hJ:k<4611686018427387904:=by omega
    have lD:=List.mem_of_getElem? hF
    have eg:=Sm.bS lD
    have ahr:=U9 (by rintro rfl;simp at lD)
    obtain⟨q4,hft,hfe⟩:=(xM s).1 (yP hf lD)
    have aag:Sm.aP s.bk<s.size∧Sm.aP s.aY<s.size:=by cases s;simp only [Sm.size];omega
    have w1:IntKind.wrap .i64 ((j:Int)+1)=((j+1:Nat):Int):=by rw [dt] <;> omega
    have w2:IntKind.wrap .i64 (nest+1)=nest+1:=dt (by omega) (by omega)
    have c1:=fun s=>uf q4.RH q4.V3 s
    have c2:=fun s=>Md q4 s
    simp only [Sm.dZ,z8]at h
    by_cases AU:j+1≤200
    ·have r1:=Aa (nest:=nest+1) (l:=s.bk) AU
     have c3:=fun s' ho=>(ih s.bk (by omega) (by omega) hft (nest+1) (j+1) (by omega) (by omega) AU).KH (s:=s') (o:=0) (by simp [D.bN,D.ok,qK,Tag.ok]) rfl rfl rfl ho
     by_cases uO:(Sm.fj (nest+1) (j+1) s.bk).1=true
     ·have c4:=fun s' ho=>(ih s.aY (by omega) (by omega) hfe (nest+1) _ (by omega) (by omega) (r1.2 uO)).KH (s:=s') (o:=0) (by simp [D.bN,D.ok,qK,Tag.ok]) rfl rfl rfl ho
      have r2:=Aa (nest:=nest+1) (l:=s.aY) (r1.2 uO)
      simp only [uO]at c3
      simp only [uO,Bool.not_true,Bool.false_eq_true, ↓reduceIte]at h
      repeat' (first
 | simp only [go_sem,hD,hF,hJ,hP,w1,w2,uO]
 | (with_reducible refine CU (c1 _) ?_)
 | (with_reducible refine CU (c2 _) ?_)
 | (with_reducible refine CU (c3 _ rfl) ?_)
 | (with_reducible refine CU (c4 _ rfl) ?_)
 | (with_reducible first | refine aJ fun hc=> ?_ | refine aK fun hc=> ?_ | refine aL (fun hc=> ?_) fun hc=> ?_) <;> (try simp only [hc,bs, ↓reduceIte]at h) <;> try simp only [hc]
 | (with_reducible refine ay hQ ?_;(try cases h);simp only [az,aB,bc,bd,go_sem,hD,hF,hJ,hP,w1,w2,uO];try exact br)
 | (cases h;done))
      refine cV 1 0 (IH (rest,k+1,(Sm.fj (nest+1) (Sm.fj (nest+1) (j+1) s.bk).2 s.aY).2) ⟨g2,h,r2.2 (by assumption)⟩ (Nat.lt_succ_self _))
     ·have uO:(Sm.fj (nest+1) (j+1) s.bk).1=false:=by simpa using uO
      simp only [uO]at c3
      simp only [uO,Bool.not_false, ↓reduceIte]at h
      repeat' (first
 | simp only [go_sem,hD,hF,hJ,hP,w1,w2,uO]
 | (with_reducible refine CU (c1 _) ?_)
 | (with_reducible refine CU (c2 _) ?_)
 | (with_reducible refine CU (c3 _ rfl) ?_)
 | (with_reducible first | refine aJ fun hc=> ?_ | refine aK fun hc=> ?_ | refine aL (fun hc=> ?_) fun hc=> ?_) <;> (try simp only [hc,bs, ↓reduceIte]at h) <;> try simp only [hc]
 | (with_reducible refine ay hQ ?_;(try cases h);simp only [az,aB,bc,bd,go_sem,hD,hF,hJ,hP,w1,w2,uO];try exact br)
 | (cases h;done))
    ·have d1:decide (((j+1:Nat):Int) > 200)=true:=by simp;omega
     simp only [d1,Bool.true_or,Bool.not_false, ↓reduceIte]at h
     repeat' (first
 | simp only [go_sem,hD,hF,hJ,hP,w1,w2,d1]
 | (with_reducible refine CU (c1 _) ?_)
 | (with_reducible refine CU (c2 _) ?_)
 | (with_reducible first | refine aJ fun hc=> ?_ | refine aK fun hc=> ?_ | refine aL (fun hc=> ?_) fun hc=> ?_) <;> (try simp only [hc,bs, ↓reduceIte]at h) <;> try simp only [hc]
 | (with_reducible refine ay hQ ?_;(try cases h);simp only [az,aB,bc,bd,go_sem,hD,hF,hJ,hP,w1,w2,d1];try exact br)
 | (cases h;done))
end Go.Abs

/-! TMay4 -/

namespace Go.Abs
set_option maxRecDepth 8000
open Go.Proofs
def Pc.dZ (n:Nat):List Pc→Bool
 | []=>true
 | f::l=>
  if decide ((f.params.length:Int) > 8) || decide ((f.vars.length:Int) > 16) || !(isName f.name) || !(dg f.vars) || !(dg f.fin)then false
  else if !(Pm.dK f.params)then false
  else if !(Sm.fj 1 n f.body).1 then false
  else Pc.dZ (Sm.fj 1 n f.body).2 l
def Pg.Ab (p:Pg):Bool:=
 if decide ((p.globals.length:Int) > 16) || decide ((p.procs.length:Int) > 16) || !(dg p.globals)then false
 else Pc.dZ 0 p.procs
structure Pg.yQ (p:Pg):Prop where
 sz:p.size<4611686018427387000
 z7 : ∀ t∈p.globals,t.length<4611686018427387904
 jQ : ∀ f∈p.procs,f.name.length<4611686018427387904∧(∀ t∈f.vars,t.length<4611686018427387904)∧(∀ t∈f.fin,t.length<4611686018427387904)∧∀ a∈f.params,a.name.length<4611686018427387904
 body : ∀ f∈p.procs,Sm.gy f.body
theorem RV {p:Pg} (hf:p.yQ) (s:St):aA Tryz.prog tQ [.agg (bP p)] s (.bool p.Ab) s:=by
 refine aA.pure ?_ (by simp only [D.bN,D.ok,ie];rfl) rfl s
 obtain⟨eg,oW,Dq,FA⟩:=hf
 have mO:Pc.aP p.procs<4611686018427387000:=by simp only [Pg.size]at eg;omega
 have Hy:p.globals.length<4611686018427387904:=by simp only [Pg.size]at eg;omega
 have U8:p.procs.length<4611686018427387904:=by have:=Pc.dc p.procs;omega
 have hg:=fun s=>uf Hy oW s
 unfold S0
 generalize h:p.Ab=R
 unfold Pg.Ab at h
 refine aA.go Da rfl fun B Q hB hQ=> ?_
 have⟨hD,hF,hJ,hP⟩:=bI
 repeat' (first
 | simp only [go_sem,hD,hF,hJ,hP]
 | (with_reducible refine CU (hg _) ?_)
 | (with_reducible first | refine aJ fun hc=> ?_ | refine aK fun hc=> ?_ | refine aL (fun hc=> ?_) fun hc=> ?_) <;> (try simp only [hc,bs, ↓reduceIte]at h) <;> try simp only [hc]
 | (with_reducible refine ay hQ ?_;exact bT)
 | (cases h;done))
 refine cV 2 0 (bj.ind (ι:=List Pc×Nat×Nat) (fun i=>p.procs.drop i.2.1=i.1∧Pc.dZ i.2.2 i.1=R∧i.2.2≤200) (fun i=>i.1.length)
  (fun i=> [(1, .ptr 0 0),(3, .ptr 1 0),(27, .slice .shared 5 (p.procs.map bV)),(28, .int .i64 (p.procs.length:Int)),(29, .int .i64 (i.2.1:Int))]) (fun i=>⟨[bP p,[.int .i64 (i.2.2:Int)]],[]⟩) ?_ (p.procs,0,0) ⟨rfl,h,Nat.zero_le _⟩)
 rintro⟨rest,k,n⟩ ⟨h1,h,hn⟩ IH
 dsimp only at h1 h hn
 cases rest with
 | nil=>
  have hD:=drop_nil h1
  simp only [Pc.dZ]at h
  repeat' (first
 | simp only [go_sem,hD,hF,hJ,hP]
 | (with_reducible first | refine aJ fun hc=> ?_ | refine aK fun hc=> ?_ | refine aL (fun hc=> ?_) fun hc=> ?_) <;> (try simp only [hc,bs, ↓reduceIte]at h) <;> try simp only [hc]
 | (with_reducible refine ay hQ ?_;exact bT)
 | (cases h;done))
 | cons f rest=>
  obtain⟨hF,g2,hD,g4⟩:=drop_cons h1
  have bm:k<4611686018427387904:=by omega
  have lD:=List.mem_of_getElem? hF
  have si:=Pc.bS lD
  simp only [Pc.size]at si
  obtain⟨sj,RS,RT,RU⟩:=Dq f lD
  have xc:=vV f.name sj
  have hv:=fun s=>uf (by omega) RS s
  have he:=fun s=>uf (by omega) RT s
  have hb:=fun s' o ho=>(Px _ f.body (Nat.le_refl _) (by omega) (FA f lD) 1 n (by omega) (by omega) hn).KH (s:=s') (o:=o) (by simp [D.bN,D.ok,qK,Tag.ok]) rfl rfl rfl ho
  have hle:=Aa (nest:=1) (l:=f.body) hn
  simp only [Pc.dZ]at h
  repeat' (first
 | simp only [go_sem,hD,hF,hJ,hP]
 | (with_reducible refine CU (xc _) ?_)
 | (with_reducible refine CU (hv _) ?_)
 | (with_reducible refine CU (he _) ?_)
 | (with_reducible first | refine aJ fun hc=> ?_ | refine aK fun hc=> ?_ | refine aL (fun hc=> ?_) fun hc=> ?_) <;> (try simp only [hc,bs, ↓reduceIte]at h) <;> try simp only [hc]
 | (with_reducible refine ay hQ ?_;exact bT)
 | (cases h;done))
  refine cV 3 0 (bj.ind (ι:=List Pm×Nat) (fun i=>f.params.drop i.2=i.1∧(if !(Pm.dK i.1)then false else if !(Sm.fj 1 n f.body).1 then false else Pc.dZ (Sm.fj 1 n f.body).2 rest)=R) (fun i=>i.1.length)
   (fun i=> [(1, .ptr 0 0),(3, .ptr 1 0),(5, .ptr 2 0),(27, .slice .shared 5 (p.procs.map bV)),(28, .int .i64 (p.procs.length:Int)),(29, .int .i64 (k:Int)),(62, .slice .shared 2 (f.params.map fW)),(63, .int .i64 (f.params.length:Int)),(64, .int .i64 (i.2:Int))]) (fun i=>⟨[bP p,[.int .i64 (n:Int)],bV f],[]⟩) ?_ (f.params,0) ⟨rfl,h⟩)
  rintro⟨ug,j⟩ ⟨j1,h⟩ tq
  dsimp only at j1 h
  cases ug with
  | nil=>
   have hD:=drop_nil j1
   simp only [Pm.dK,Bool.not_true,Bool.false_eq_true, ↓reduceIte]at h
   repeat' (first
 | simp only [go_sem,hD,hF,hJ,hP]
 | (with_reducible refine CU (hb _ _ rfl) ?_)
 | (with_reducible first | refine aJ fun hc=> ?_ | refine aK fun hc=> ?_ | refine aL (fun hc=> ?_) fun hc=> ?_) <;> (try simp only [hc,bs, ↓reduceIte]at h) <;> try simp only [hc]
 | (with_reducible refine ay hQ ?_;exact bT)
 | (cases h;done))
   refine cd 2 0 ?_ ?_ (IH (rest,k+1,(Sm.fj 1 n f.body).2) ⟨g2,h,hle.2 (by assumption)⟩ (Nat.lt_succ_self _))
   ·(simp only [go_sem,hD,hF,hJ,hP,au bm];try exact aZ)
   ·(simp only [go_sem,hD,hF,hJ,hP,au bm];try exact aZ)
  | cons a ug=>
   obtain⟨hF,b2,hD,b4⟩:=drop_cons j1
   have AU:j<4611686018427387904:=by omega
   have ha:=vV a.name (RU a (List.mem_of_getElem? hF))
   simp only [Pm.dK]at h
   repeat' (first
 | simp only [go_sem,hD,hF,hJ,hP]
 | (with_reducible refine CU (ha _) ?_)
 | (with_reducible first | refine aJ fun hc=> ?_ | refine aK fun hc=> ?_ | refine aL (fun hc=> ?_) fun hc=> ?_) <;> (try simp only [hc,bs, ↓reduceIte]at h) <;> try simp only [hc]
 | (with_reducible refine ay hQ ?_;exact bT)
 | (cases h;done))
   refine cd 3 0 ?_ ?_ (tq (ug,j+1) ⟨b2,h⟩ (Nat.lt_succ_self _))
   ·(simp only [go_sem,hD,hF,hJ,hP,au AU];try exact aZ)
   ·(simp only [go_sem,hD,hF,hJ,hP,au AU];try exact aZ)
end Go.Abs

/-! MayFine -/

namespace Go.Abs
theorem uh {s:aE} (h:isName s=true):s.length≤8:=by
 cases s with
 | nil=>simp
 | cons c r=>
  simp only [isName]at h
  split at h
  ·cases h
  ·rename_i hc
   simp only [Bool.or_eq_true,decide_eq_true_eq,not_or]at hc
   simp only [List.length_cons];omega
theorem my {t:aE} : ∀ {l:List aE},dg l=true→t∈l→isName t=true
 | s::l,h,m=>by
  simp only [dg]at h
  cases hs:isName s
  ·simp [hs]at h
  ·simp [hs]at h
   rcases List.mem_cons.1 m with rfl | m
   ·exact hs
   ·exact my h m
theorem Dr {a:Ar} : ∀ {l:List Ar},Ar.dK l=true→a∈l→a.may=true
 | s::l,h,m=>by
  simp only [Ar.dK]at h
  cases hs:s.may
  ·simp [hs]at h
  ·simp [hs]at h
   rcases List.mem_cons.1 m with rfl | m
   ·exact hs
   ·exact Dr h m
theorem AV {a:Pm} : ∀ {l:List Pm},Pm.dK l=true→a∈l→isName a.name=true
 | s::l,h,m=>by
  simp only [Pm.dK]at h
  cases hs:isName s.name
  ·simp [hs]at h
  ·simp [hs]at h
   rcases List.mem_cons.1 m with rfl | m
   ·exact hs
   ·exact AV h m
mutual
theorem yR : ∀ x:Ex,x.form=true→x.texts
 | ⟨op,n,name,kids⟩,h=>by
  simp only [Ex.form]at h
  split at h
  ·cases h
  ·rename_i hc
   refine⟨?_,xd kids h⟩
   simp only [Bool.or_eq_true,Bool.and_eq_true,Bool.not_eq_true',not_or,not_and,Bool.not_eq_false]at hc
   cases hn:(name == [])
   ·have:=uh (hc.2 hn);omega
   ·simp at hn;subst hn;simp
theorem xd : ∀ l:List Ex,Ex.mI l=true→Ex.rp l
 | [],_=>trivial
 | x::l,h=>by
  simp only [Ex.mI]at h
  cases hx:x.form
  ·simp [hx]at h
  ·simp [hx]at h
   exact⟨yR x hx,xd l h⟩
end
theorem AW {x:Ex} (h:x.may=true):x.texts:=by
 unfold Ex.may at h
 simp only [Bool.and_eq_true]at h
 exact yR x h.2
theorem yS {x:Ex} (h:x.none=true):x.texts:=by
 obtain⟨op,n,name,kids⟩:=x
 simp [Ex.none]at h
 obtain⟨⟨_,h1⟩,h2⟩:=h
 subst h1 h2
 exact⟨by simp,trivial⟩
mutual
theorem JE {deep bX:Int} {aY:Bool} {out:List It} {i:It} : ∀ s:Sm,i∈fR deep bX aY out s→i∈out∨i.s.size≤s.size
 | ⟨id,kind,labels,name,proc,x,has,args,bk,e⟩,h=>by
  simp only [fR]at h
  have key:i∈out++ [(⟨⟨id,kind,labels,name,proc,x,has,args,bk,e⟩,deep,bX,aY⟩:It)]→i∈out∨i.s.size≤(⟨id,kind,labels,name,proc,x,has,args,bk,e⟩:Sm).size:=by
   intro h
   rcases List.mem_append.1 h with h | h
   ·exact .inl h
   ·simp at h;subst h;exact .inr (Nat.le_refl _)
  split at h
  ·rcases sk e h with h | h
   ·rcases sk bk h with h | h
    ·exact key h
    ·right;simp only [Sm.size];omega
   ·right;simp only [Sm.size];omega
  ·exact key h
theorem sk {deep bX:Int} {aY:Bool} {out:List It} {i:It} : ∀ l:List Sm,i∈cZ deep bX aY out l→i∈out∨i.s.size<Sm.aP l
 | [],h=>by simp only [cZ]at h;exact .inl h
 | s::l,h=>by
  simp only [cZ]at h
  split at h
  ·rcases sk l h with h | h
   ·rcases JE s h with h | h
    ·exact .inl h
    ·right;simp only [Sm.aP];omega
   ·right;simp only [Sm.aP];omega
  ·exact .inl h
end
theorem Ds {i:It} : ∀ (l:List Pc) (out:List It),i∈allM out l→i∈out∨i.s.size<Pc.aP l
 | [],out,h=>by simp only [allM]at h;exact .inl h
 | f::l,out,h=>by
  have key:i∈out++f.flat→i∈out∨i.s.size<Pc.aP (f::l):=by
   intro h
   rcases List.mem_append.1 h with h | h
   ·exact .inl h
   ·rcases sk _ h with h | h
    ·simp at h
    ·right;simp only [Pc.aP,Pc.size];omega
  simp only [allM]at h
  split at h
  ·exact key h
  ·rcases Ds l _ h with h | h
   ·exact key h
   ·right;simp only [Pc.aP];omega
theorem yT {i:It} : ∀ (l:List It) (n:Nat),It.dK n l=true→i∈l→i.s.one=true
 | s::l,n,h,m=>by
  simp only [It.dK]at h
  split at h
  ·cases h
  ·rename_i hc
   simp only [Bool.or_eq_true,Bool.not_eq_true',not_or,Bool.not_eq_false]at hc
   rcases List.mem_cons.1 m with rfl | m
   ·exact hc.2
   ·exact yT l (n+1) h m
theorem Dt {s:Sm} (h:s.one=true) (hs:s.size<4611686018427387000):s.gI:=by
 unfold Sm.one at h
 split at h
 ·cases h
 split at h
 ·cases h
 split at h
 ·cases h
 split at h
 ·cases h
 rename_i c1 c2 c3 c4
 simp only [Bool.or_eq_true,Bool.and_eq_true,Bool.not_eq_true',not_or,not_and,Bool.not_eq_false,decide_eq_true_eq]at c1 c2 c3 c4
 obtain⟨⟨⟨⟨⟨_,_⟩,aah⟩,cx⟩,cn⟩,_⟩:=c1
 obtain⟨c21,c22⟩:=c2
 obtain⟨⟨V6,c32⟩,c33⟩:=c3
 have nm : ∀ {t:aE},isName t=true→t.length<4611686018427387904:=fun h=>by have:=uh h;omega
 have eg:1+s.labels.length+s.x.size+Ar.aP s.args≤s.size:=by cases s;simp only [Sm.size];omega
 have Cz:=Ar.dc s.args
 refine⟨fun t ht=>nm (my aah ht),by omega, ?_, ?_,by omega, ?_,by omega,fun a ha=> ?_⟩
 ·cases hn:s.hasName
  ·cases he:(s.name == [])
   ·exact nm (c22 ⟨hn,he⟩).2
   ·simp at he;rw [he];simp
  ·exact nm (c21 hn)
 ·cases Cl:s.pZ
  ·rw [Cl]at V6
   have:s.proc = []:=by simpa using V6
   rw [this];simp
  ·exact nm (c32 Cl)
 ·cases hx:s.vP
  ·exact yS (cn hx)
  ·exact AW (cx hx)
 ·have hm:=Dr c4 ha
  have EZ:=Ar.bS ha
  unfold Ar.may at hm
  split at hm
  ·simp only [Bool.and_eq_true]at hm
   exact⟨by omega,yS hm.2,nm hm.1⟩
  ·simp only [Bool.and_eq_true,beq_iff_eq]at hm
   exact⟨by omega,AW hm.2,by rw [hm.1];simp⟩
theorem AX {f:Pc} : ∀ {l:List Pc},Pc.jQ l=true→f∈l→isName f.name=true∧dg f.vars=true∧dg f.fin=true∧Pm.dK f.params=true
 | s::l,h,m=>by
  simp only [Pc.jQ]at h
  split at h
  ·cases h
  split at h
  ·cases h
  rename_i c1 c2
  simp only [Bool.or_eq_true,Bool.not_eq_true',not_or,Bool.not_eq_false]at c1 c2
  rcases List.mem_cons.1 m with rfl | m
  ·exact⟨c1.1.1.1.1,c1.1.2,c1.2,c2⟩
  ·exact AX h m
theorem Mk {p:Pg} (h:p.may=true) (hs:p.size<4611686018427387000):p.gI:=by
 unfold Pg.may at h
 split at h
 ·cases h
 split at h
 ·cases h
 split at h
 ·cases h
 rename_i c1 c2 c3
 simp only [Bool.or_eq_true,Bool.not_eq_true',not_or,Bool.not_eq_false]at c1 c2
 have nm : ∀ {t:aE},isName t=true→t.length<4611686018427387904:=fun h=>by have:=uh h;omega
 refine⟨hs,fun t ht=>nm (my c1.2 ht),fun f hf=> ?_,fun i hi=> ?_⟩
 ·obtain⟨a,b,c,d⟩:=AX c2 hf
  exact⟨nm a,fun t ht=>nm (my b ht),fun t ht=>nm (my c ht),fun t ht=>nm (AV d ht)⟩
 ·refine Dt (yT _ _ h hi) ?_
  rcases Ds _ _ hi with h1 | h1
  ·simp at h1
  ·simp only [Pg.size]at hs;omega
end Go.Abs

/-! MayEq -/

namespace Go.Abs
theorem JF {t:aE} (h:isName t=true):t≠ []:=by rintro rfl;cases h
theorem Ml (op n:Int) (name:aE) (kids:List Ex):Ex.form ⟨op,n,name,kids⟩=true↔
 kH op=(kids.length:Int)∧(op=1∨n=0)∧0≤n∧(op=2↔name≠ [])∧(name = []∨isName name=true)∧Ex.mI kids=true:=by
 simp only [Ex.form]
 split
 ·rename_i h
  simp only [Bool.or_eq_true,Bool.and_eq_true,bne_iff_ne,ne_eq,decide_eq_true_eq,Bool.not_eq_true']at h
  refine⟨fun h=>(Bool.false_ne_true h).elim,fun⟨h1,h2,h3,h4,h5,_⟩=> ?_⟩
  exfalso
  rcases h with (((h | h) | h) | h) | h
  ·exact h h1
  ·rcases h2 with h2 | h2
   ·exact h.1 h2
   ·exact h.2 h2
  ·omega
  ·by_cases h2:op=2 <;> cases name <;> simp_all
  ·rcases h5 with h5 | h5
   ·subst h5;simp at h
   ·rw [h5]at h;simp at h
 ·rename_i h
  simp only [Bool.or_eq_true,Bool.and_eq_true,bne_iff_ne,ne_eq,decide_eq_true_eq,Bool.not_eq_true',not_or,not_and,Decidable.not_not,Bool.not_eq_false]at h
  obtain⟨⟨⟨⟨h1,h2⟩,h3⟩,h4⟩,h5⟩:=h
  refine⟨fun h=>⟨h1, ?_,by omega, ?_, ?_,h⟩,fun h=>h.2.2.2.2.2⟩
  ·by_cases h:op=1
   ·exact .inl h
   ·exact .inr (h2 h)
  ·by_cases h2:op=2 <;> cases name <;> simp_all
  ·cases name with
   | nil=>exact .inl rfl
   | cons c r=>exact .inr (h5 rfl)
theorem RW (op n:Int) (name:aE) (kids:List Ex) (k:Int):Ex.dp k ⟨op,n,name,kids⟩=true↔
 1≤k∧(kids.length:Int)=kH op∧(if op=1 then 0≤n∧name = []else if op=2 then n=0∧isName name=true else n=0∧name = []∧Ex.yL (k - 1) kids=true):=by
 simp only [Ex.dp]
 split
 ·rename_i h
  simp only [Bool.or_eq_true,decide_eq_true_eq,bne_iff_ne,ne_eq]at h
  refine⟨fun h=>(Bool.false_ne_true h).elim,fun⟨h1,h2,_⟩=> ?_⟩
  rcases h with h | h
  ·omega
  ·exact(h h2).elim
 rename_i h
 simp only [Bool.or_eq_true,decide_eq_true_eq,bne_iff_ne,ne_eq,not_or,Decidable.not_not]at h
 have h1:1≤k:=by omega
 simp only [h1,h.2,true_and]
 by_cases o1:op=1
 ·subst o1
  cases name <;> simp
 ·have o1' : ¬ (op==1)=true:=by simpa using o1
  rw [if_neg o1',if_neg o1]
  by_cases o2:op=2
  ·subst o2;simp
  ·have o2' : ¬ (op==2)=true:=by simpa using o2
   rw [if_neg o2',if_neg o2]
   by_cases hn:n=0
   ·subst hn
    cases name <;> simp
   ·simp [hn]
mutual
theorem Od : ∀ (x:Ex) (k:Int),0≤k→(x.dp k=true↔(x.depth:Int)≤k∧x.form=true)
 | ⟨op,n,name,kids⟩,k,hk=>by
  rw [RW,Ml]
  have hd:Ex.depth ⟨op,n,name,kids⟩=Ex.iO kids+1:=by simp only [Ex.depth]
  rw [hd]
  by_cases h1:1≤k
  ·have ih:=JG kids (k - 1) (by omega)
   by_cases o1:op=1
   ·subst o1
    have ha:kH 1=0:=rfl
    rw [ha,if_pos rfl]
    constructor
    ·rintro⟨_,h2,h3,h4⟩
     have:kids = []:=List.eq_nil_of_length_eq_zero (by omega)
     subst this;subst h4
     simp [Ex.iO,Ex.mI,h3];omega
    ·rintro⟨h2,h3,_,h4,h5,_⟩
     refine⟨h1,h3.symm,h4, ?_⟩
     cases name
     ·rfl
     ·simp at h5
   ·rw [if_neg o1]
    by_cases o2:op=2
    ·subst o2
     have ha:kH 2=0:=rfl
     rw [ha,if_pos rfl]
     constructor
     ·rintro⟨_,h2,h3,h4⟩
      have:kids = []:=List.eq_nil_of_length_eq_zero (by omega)
      subst this;subst h3
      have:=JF h4
      simp [Ex.iO,Ex.mI,h4,this];omega
     ·rintro⟨h2,h3,h4,_,h5,h6,_⟩
      refine⟨h1,h3.symm,h4.resolve_left o1, ?_⟩
      exact h6.resolve_left (h5.1 rfl)
    ·rw [if_neg o2,ih]
     constructor
     ·rintro⟨_,h2,h3,h4,h5,h6⟩
      subst h3;subst h4
      exact⟨by omega,h2.symm, .inr rfl,Int.le_refl _,by simp [o2], .inl rfl,h6⟩
     ·rintro⟨h2,h3,h4,_,h5,h6,h7⟩
      refine⟨h1,h3.symm,h4.resolve_left o1, ?_,by omega,h7⟩
      exact Decidable.byContradiction fun h=>o2 (h5.2 h)
  ·constructor
   ·rintro⟨h,_⟩;exact(h1 h).elim
   ·rintro⟨h,_⟩;omega
theorem JG : ∀ (l:List Ex) (k:Int),0≤k→(Ex.yL k l=true↔(Ex.iO l:Int)≤k∧Ex.mI l=true)
 | [],k,hk=>by simp [Ex.yL,Ex.iO,Ex.mI,hk]
 | x::l,k,hk=>by
  have h1:=Od x k hk
  have h2:=JG l k hk
  have hd:Ex.iO (x::l)=max x.depth (Ex.iO l):=by simp only [Ex.iO]
  rw [hd]
  simp only [Ex.yL,Ex.mI]
  cases hx:Ex.dp k x
  ·simp only [Bool.not_false, ↓reduceIte,Bool.false_eq_true,false_iff,not_and]
   intro h3
   have : ¬ ((x.depth:Int)≤k∧x.form=true):=by rw [← h1,hx];simp
   have hf:x.form=false:=by
    cases hf:x.form
    ·rfl
    ·exact(this ⟨by omega,hf⟩).elim
   simp [hf]
  ·have:=h1.1 hx
   simp only [Bool.not_true,Bool.false_eq_true, ↓reduceIte,this.2,h2]
   have h3:=this.1
   refine and_congr_left fun _=> ?_
   omega
end
theorem JH (x:Ex):x.dp 20=x.may:=by
 rw [Bool.eq_iff_iff,Od x 20 (by omega)]
 unfold Ex.may
 simp only [Bool.and_eq_true,decide_eq_true_eq]
 refine and_congr_left fun _=> ?_
 omega
theorem AY (x:Ex) (b:Bool):ry x b=if b then x.may else x.none:=by
 unfold ry
 rw [JH]
 cases b <;> simp
theorem AZ (t:aE) (b:Bool):p6 t b=if b then isName t else t == []:=by
 unfold p6
 cases b <;> simp
theorem xe : ∀ l:List Ar,mJ l=Ar.dK l
 | []=>rfl
 | a::l=>by
  simp only [mJ,Ar.dK,Ar.may,AY,AZ,xe l]
  grind
theorem aai {α:Type} (l:List α):((l.length:Int)==0) = !(decide ((l.length:Int) > 0)):=by
 cases l with
 | nil=>rfl
 | cons a l=>
  have h1:(((a::l).length:Int)==0)=false:=by simp only [List.length_cons,beq_eq_false_iff_ne];omega
  have h2:decide (((a::l).length:Int) > 0)=true:=by simp only [List.length_cons,decide_eq_true_eq];omega
  rw [h1,h2];rfl
theorem yU (s:Sm):s.one=(dg s.labels && s.fields):=by
 have hk:s.kind=1∨s.kind=2∨s.kind=3∨s.kind=4∨s.kind=5∨s.kind=6∨s.kind=7∨s.kind=8∨s.kind=9∨s.kind=10∨s.kind<1∨s.kind > 10:=by omega
 unfold Sm.one Sm.fields Sm.flags Sm.vP Sm.hasName Sm.pZ
 have p1:isName [] = false:=rfl
 rcases hk with h | h | h | h | h | h | h | h | h | h | h | h
 all_goals
  simp only [h,aai,xe,AY,AZ,Sm.B0,Sm.BY]
  grind
end Go.Abs

/-! Nm1 -/

namespace Go.Abs
set_option maxRecDepth 8000
open Go.Proofs
mutual
def Ex.fT (out:List aE):Ex→List aE
 | ⟨op,_,name,kids⟩=>Ex.fe (if op==2 && !(dV out name)then out++ [name]else out) kids
def Ex.fe (out:List aE):List Ex→List aE
 | []=>out
 | x::l=>Ex.fe (Ex.fT out x) l
end
def Ex.names (x:Ex):List aE:=if x.may then x.fT []else []
mutual
theorem ka (out:List aE) : ∀ x:Ex,(Ex.fT out x).length≤out.length+x.size
 | ⟨op,n,name,kids⟩=>by
  simp only [Ex.fT,Ex.size]
  have h:=A0 (if op==2 && !(dV out name)then out++ [name]else out) kids
  refine Nat.le_trans h ?_
  split <;> simp <;> omega
theorem A0 (out:List aE) : ∀ l:List Ex,(Ex.fe out l).length≤out.length+Ex.aP l
 | []=>by simp [Ex.fe,Ex.aP]
 | x::l=>by
  simp only [Ex.fe,Ex.aP]
  have h1:=ka out x
  have h2:=A0 (Ex.fT out x) l
  omega
end
def jS (out:List aE) (x:aE):List aE:=if dV out x then out else out++ [x]
def oH (x:aE):List aE→Bool
 | []=>false
 | s::l=>if s==x then true else oH x l
theorem vX (x:aE) : ∀ l:List aE,oH x l=dV l x
 | []=>rfl
 | s::l=>by
  have h1:=ju (s::l) x
  have h2:=ju l x
  have h3:=vX x l
  simp only [oH]
  by_cases e:s=x
  ·subst e;simp only [beq_self_eq_true,if_true];exact(h1.2 List.mem_cons_self).symm
  ·have e':(s==x)=false:=by simp [e]
   simp only [e',Bool.false_eq_true,if_false,h3]
   cases ha:dV l x <;> cases hb:dV (s::l) x <;> simp_all [Ne.symm e]
theorem Mm {out:List aE} (hl:out.length<1000000000) (x:aE):aA Tryz.prog lq [.slice (.tok 0) 1 (out.map encStr), .str x] ⟨[],[some out.length]⟩ (.slice (.tok 0) 1 ((jS out x).map encStr)) ⟨[],[some (jS out x).length]⟩:=by
 rw [jS, ← vX]
 cases h:oH x out
 all_goals
  simp only [Bool.false_eq_true,if_false,if_true]
  refine aA.go sc rfl fun B Q hB hQ=> ?_
  have⟨hD,hF,hJ,hP⟩:=bI
  have hJ:(out.length+1)*17≤bf:=by unfold bf;omega
  repeat' (first
 | simp only [go_sem,hD,hF,hJ,hP]
 | (with_reducible first | refine aJ fun hc=> ?_ | refine aK fun hc=> ?_ | refine aL (fun hc=> ?_) fun hc=> ?_) <;> (try simp only [hc,bs, ↓reduceIte]at h) <;> try simp only [hc]
 | (with_reducible refine ay hQ ?_;exact bT)
 | (cases h;done))
  refine cV 0 1 (bj.ind (ι:=List aE×Nat) (fun i=>out.drop i.2=i.1∧oH x i.1=_) (fun i=>i.1.length)
   (fun i=> [(0, .slice (.tok 0) 1 (out.map encStr)),(1, .str x),(7, .slice (.tok 0) 1 (out.map encStr)),(8, .int .i64 (out.length:Int)),(9, .int .i64 (i.2:Int))]) (fun i=>⟨[],[some out.length]⟩) ?_ (out,0) ⟨rfl,h⟩)
  rintro⟨rest,k⟩ ⟨h1,h⟩ IH
  dsimp only at h1 h
  cases rest with
  | nil=>
   have hD:=drop_nil h1
   simp only [oH]at h
   repeat' (first
 | simp only [go_sem,hD,hF,hJ,hP,List.map_append,List.map_cons,List.map_nil,List.length_append,List.length_cons,List.length_nil,encStr]
 | (with_reducible first | refine aJ fun hc=> ?_ | refine aK fun hc=> ?_ | refine aL (fun hc=> ?_) fun hc=> ?_) <;> (try simp only [hc,bs, ↓reduceIte]at h) <;> try simp only [hc]
 | (with_reducible refine ay hQ ?_;(try cases h);simp only [az,aB,bc,bd,go_sem,hD,hF,hJ,hP,List.map_append,List.map_cons,List.map_nil,List.length_append,List.length_cons,List.length_nil,encStr];try exact br)
 | (cases h;done))
  | cons a rest=>
   obtain⟨hF,g2,hD,g4⟩:=drop_cons h1
   have bm:k<4611686018427387904:=by omega
   simp only [oH]at h
   repeat' (first
 | simp only [go_sem,hD,hF,hJ,hP]
 | (with_reducible first | refine aJ fun hc=> ?_ | refine aK fun hc=> ?_ | refine aL (fun hc=> ?_) fun hc=> ?_) <;> (try simp only [hc,bs, ↓reduceIte]at h) <;> try simp only [hc]
 | (with_reducible refine ay hQ ?_;exact bT)
 | (cases h;done))
   refine cd 0 1 ?_ ?_ (IH (rest,k+1) ⟨g2,h⟩ (Nat.lt_succ_self _))
   ·(simp only [go_sem,hD,hF,hJ,hP,au bm];try exact aZ)
   ·(simp only [go_sem,hD,hF,hJ,hP,au bm];try exact aZ)
theorem Mn {out:List aE} (hl:out.length<1000000000) (x:aE) {s:St} {t:Nat} (ht:s.ax[t]? = some (some out.length)):aA Tryz.prog lq [.slice (.tok t) 1 (out.map encStr), .str x] s (.slice (.tok t) 1 ((jS out x).map encStr)) ⟨s.av,s.ax.set t (some (jS out x).length)⟩:=
 (Mm hl x).FU (pre:= []) (post:= [_]) rfl rfl (dk out) (dk _) ht
abbrev JI (N:Nat):Prop:=∀ (x:Ex),x.size≤N→∀ out:List aE,out.length+x.size≤1000000000→∀ {s:St} {t:Nat},s.ax[t]? = some (some out.length)→
 aA Tryz.prog gh [.agg (bB x), .slice (.tok t) 1 (out.map encStr)] s (.slice (.tok t) 1 ((x.fT out).map encStr)) ⟨s.av,s.ax.set t (some (x.fT out).length)⟩
theorem RX {N:Nat} (ih:JI N) {op m:Int} {name:aE} {kids:List Ex} (h:Ex.size ⟨op,m,name,kids⟩≤N+1) {out:List aE} (ho:out.length+Ex.size ⟨op,m,name,kids⟩≤1000000000) :
 aA Tryz.prog gh [.agg (bB ⟨op,m,name,kids⟩), .slice (.tok 0) 1 (out.map encStr)] ⟨[],[some out.length]⟩ (.slice (.tok 0) 1 ((Ex.fT out ⟨op,m,name,kids⟩).map encStr)) ⟨[],[some (Ex.fT out ⟨op,m,name,kids⟩).length]⟩:=by
 obtain⟨R,hG⟩ : ∃ R,Ex.fT out ⟨op,m,name,kids⟩=R:=⟨_,rfl⟩
 rw [hG]
 simp only [Ex.fT]at hG
 simp only [Ex.size]at h ho
 have hlen:kids.length<1000000000:=by have:=Ex.dc kids;omega
 have hk : ∀ y∈kids,∀ out:List aE,out.length+y.size≤1000000000→∀ {s:St} {t:Nat},s.ax[t]? = some (some out.length)→
  aA Tryz.prog gh [.agg (bB y), .slice (.tok t) 1 (out.map encStr)] s (.slice (.tok t) 1 ((y.fT out).map encStr)) ⟨s.av,s.ax.set t (some (y.fT out).length)⟩:=fun y hy out ho=>
  ih y (by have:=Ex.bS hy;omega) out ho
 refine aA.go oG rfl fun B Q hB hQ=> ?_
 have⟨hD,hF,hJ,hP⟩:=bI
 have hJ:(out.length+1)*17≤bf:=by unfold bf;omega
 rcases Bool.eq_false_or_eq_true (op==2)with b1 | b1
 ·rcases Bool.eq_false_or_eq_true (dV out name)with b2 | b2
  ·simp only [b1,b2,Bool.not_true,Bool.and_false,Bool.false_eq_true,if_false]at hG
   repeat' (first
 | simp only [go_sem,hD,hF,hJ,hP,b1,b2]
 | (with_reducible refine CU (iV (l:=out) (by omega) name _ _) ?_)
 | (with_reducible refine ay hQ ?_;simp only [az,aB,Option.some.injEq,exists_eq_left',go_sem,hD,hF,hJ,hP];repeat' (first | exact Ok.out | with_reducible refine bO ?_ ?_ | (simp;done))))
   refine cV 1 1 (bj.ind (ι:=List Ex×Nat×List aE×Nat) (fun i=>kids.drop i.2.1=i.1∧Ex.fe i.2.2.1 i.1=R∧i.2.2.1.length+Ex.aP i.1≤1000000000∧i.2.2.2=i.2.2.1.length) (fun i=>i.1.length)
    (fun i=> [(1, .slice (.tok 0) 1 (i.2.2.1.map encStr)),(2, .ptr 0 0),(23, .slice .shared 4 (kids.map bB)),(24, .int .i64 (kids.length:Int)),(25, .int .i64 (i.2.1:Int))]) (fun i=>⟨[bB ⟨op,m,name,kids⟩],[some i.2.2.2]⟩) ?_ (kids,0,out,out.length) ⟨rfl,hG,by simp;omega,by simp⟩)
   rintro⟨rest,k,bh,n'⟩ ⟨h1,h2,h3,h4⟩ IH
   dsimp only at h1 h2 h3 h4
   subst h4
   cases rest with
   | nil=>
    have hD:=drop_nil h1
    simp only [Ex.fe]at h2
    subst h2
    repeat' (first
 | simp only [go_sem,hD,hF,hJ,hP]
 | (with_reducible refine ay hQ ?_;simp only [az,aB,Option.some.injEq,exists_eq_left',go_sem,hD,hF,hJ,hP];repeat' (first | exact Ok.out | with_reducible refine bO ?_ ?_ | (simp;done))))
   | cons y rest=>
    obtain⟨hF,g2,hD,g4⟩:=drop_cons h1
    have bm:k<4611686018427387904:=by omega
    simp only [Ex.fe]at h2
    simp only [Ex.aP]at h3
    have hy:=fun {s:St} {t:Nat} (ht:s.ax[t]? = some (some bh.length))=>hk y (List.mem_of_getElem? hF) bh (by omega) ht
    have hl:=ka bh y
    repeat' (first
 | simp only [go_sem,hD,hF,hJ,hP]
 | (with_reducible refine CU (hy (by with_unfolding_all rfl)) ?_)
 | (with_reducible refine ay hQ ?_;simp only [az,aB,Option.some.injEq,exists_eq_left',go_sem,hD,hF,hJ,hP];repeat' (first | exact Ok.out | with_reducible refine bO ?_ ?_ | (simp;done))))
    refine cd 1 1 ?_ ?_ (IH (rest,k+1,_,_) ⟨g2,h2,by dsimp only;omega,rfl⟩ (Nat.lt_succ_self _))
    ·(simp only [go_sem,hD,hF,hJ,hP,au bm];try exact aZ)
    ·(simp only [go_sem,hD,hF,hJ,hP,au bm];try exact aZ)
  ·simp only [b1,b2,Bool.not_false,Bool.and_true,if_true]at hG
   repeat' (first
 | simp only [go_sem,hD,hF,hJ,hP,b1,b2]
 | (with_reducible refine CU (iV (l:=out) (by omega) name _ _) ?_)
 | (with_reducible refine ay hQ ?_;simp only [az,aB,Option.some.injEq,exists_eq_left',go_sem,hD,hF,hJ,hP];repeat' (first | exact Ok.out | with_reducible refine bO ?_ ?_ | (simp;done))))
   refine cd 1 1 ?_ ?_ (bj.ind (ι:=List Ex×Nat×List aE×Nat) (fun i=>kids.drop i.2.1=i.1∧Ex.fe i.2.2.1 i.1=R∧i.2.2.1.length+Ex.aP i.1≤1000000000∧i.2.2.2=i.2.2.1.length) (fun i=>i.1.length)
    (fun i=> [(1, .slice (.tok 0) 1 (i.2.2.1.map encStr)),(2, .ptr 0 0),(23, .slice .shared 4 (kids.map bB)),(24, .int .i64 (kids.length:Int)),(25, .int .i64 (i.2.1:Int))]) (fun i=>⟨[bB ⟨op,m,name,kids⟩],[some i.2.2.2]⟩) ?_ (kids,0,(out++ [name]),(out.length+1)) ⟨rfl,hG,by simp;omega,by simp⟩)
   ·(simp only [go_sem,hD,hF,hJ,hP,List.map_append,List.map_cons,List.map_nil,List.length_append,List.length_cons,List.length_nil,encStr];try exact aZ)
   ·(simp only [go_sem,hD,hF,hJ,hP,List.map_append,List.map_cons,List.map_nil,List.length_append,List.length_cons,List.length_nil,encStr];try exact aZ)
   rintro⟨rest,k,bh,n'⟩ ⟨h1,h2,h3,h4⟩ IH
   dsimp only at h1 h2 h3 h4
   subst h4
   cases rest with
   | nil=>
    have hD:=drop_nil h1
    simp only [Ex.fe]at h2
    subst h2
    repeat' (first
 | simp only [go_sem,hD,hF,hJ,hP]
 | (with_reducible refine ay hQ ?_;simp only [az,aB,Option.some.injEq,exists_eq_left',go_sem,hD,hF,hJ,hP];repeat' (first | exact Ok.out | with_reducible refine bO ?_ ?_ | (simp;done))))
   | cons y rest=>
    obtain⟨hF,g2,hD,g4⟩:=drop_cons h1
    have bm:k<4611686018427387904:=by omega
    simp only [Ex.fe]at h2
    simp only [Ex.aP]at h3
    have hy:=fun {s:St} {t:Nat} (ht:s.ax[t]? = some (some bh.length))=>hk y (List.mem_of_getElem? hF) bh (by omega) ht
    have hl:=ka bh y
    repeat' (first
 | simp only [go_sem,hD,hF,hJ,hP]
 | (with_reducible refine CU (hy (by with_unfolding_all rfl)) ?_)
 | (with_reducible refine ay hQ ?_;simp only [az,aB,Option.some.injEq,exists_eq_left',go_sem,hD,hF,hJ,hP];repeat' (first | exact Ok.out | with_reducible refine bO ?_ ?_ | (simp;done))))
    refine cd 1 1 ?_ ?_ (IH (rest,k+1,_,_) ⟨g2,h2,by dsimp only;omega,rfl⟩ (Nat.lt_succ_self _))
    ·(simp only [go_sem,hD,hF,hJ,hP,au bm];try exact aZ)
    ·(simp only [go_sem,hD,hF,hJ,hP,au bm];try exact aZ)
 ·simp only [b1,Bool.false_and,Bool.false_eq_true,if_false]at hG
  repeat' (first
 | simp only [go_sem,hD,hF,hJ,hP,b1]
 | (with_reducible refine ay hQ ?_;simp only [az,aB,Option.some.injEq,exists_eq_left',go_sem,hD,hF,hJ,hP];repeat' (first | exact Ok.out | with_reducible refine bO ?_ ?_ | (simp;done))))
  refine cV 1 1 (bj.ind (ι:=List Ex×Nat×List aE×Nat) (fun i=>kids.drop i.2.1=i.1∧Ex.fe i.2.2.1 i.1=R∧i.2.2.1.length+Ex.aP i.1≤1000000000∧i.2.2.2=i.2.2.1.length) (fun i=>i.1.length)
   (fun i=> [(1, .slice (.tok 0) 1 (i.2.2.1.map encStr)),(2, .ptr 0 0),(23, .slice .shared 4 (kids.map bB)),(24, .int .i64 (kids.length:Int)),(25, .int .i64 (i.2.1:Int))]) (fun i=>⟨[bB ⟨op,m,name,kids⟩],[some i.2.2.2]⟩) ?_ (kids,0,out,out.length) ⟨rfl,hG,by simp;omega,by simp⟩)
  rintro⟨rest,k,bh,n'⟩ ⟨h1,h2,h3,h4⟩ IH
  dsimp only at h1 h2 h3 h4
  subst h4
  cases rest with
  | nil=>
   have hD:=drop_nil h1
   simp only [Ex.fe]at h2
   subst h2
   repeat' (first
 | simp only [go_sem,hD,hF,hJ,hP]
 | (with_reducible refine ay hQ ?_;simp only [az,aB,Option.some.injEq,exists_eq_left',go_sem,hD,hF,hJ,hP];repeat' (first | exact Ok.out | with_reducible refine bO ?_ ?_ | (simp;done))))
  | cons y rest=>
   obtain⟨hF,g2,hD,g4⟩:=drop_cons h1
   have bm:k<4611686018427387904:=by omega
   simp only [Ex.fe]at h2
   simp only [Ex.aP]at h3
   have hy:=fun {s:St} {t:Nat} (ht:s.ax[t]? = some (some bh.length))=>hk y (List.mem_of_getElem? hF) bh (by omega) ht
   have hl:=ka bh y
   repeat' (first
 | simp only [go_sem,hD,hF,hJ,hP]
 | (with_reducible refine CU (hy (by with_unfolding_all rfl)) ?_)
 | (with_reducible refine ay hQ ?_;simp only [az,aB,Option.some.injEq,exists_eq_left',go_sem,hD,hF,hJ,hP];repeat' (first | exact Ok.out | with_reducible refine bO ?_ ?_ | (simp;done))))
   refine cd 1 1 ?_ ?_ (IH (rest,k+1,_,_) ⟨g2,h2,by dsimp only;omega,rfl⟩ (Nat.lt_succ_self _))
   ·(simp only [go_sem,hD,hF,hJ,hP,au bm];try exact aZ)
   ·(simp only [go_sem,hD,hF,hJ,hP,au bm];try exact aZ)
theorem Mp : ∀ N,JI N:=by
 intro N
 induction N with
 | zero=>rintro⟨op,m,name,kids⟩ h;simp only [Ex.size]at h;omega
 | succ N ih=>
  rintro⟨op,m,name,kids⟩ h out ho s t ht
  exact(RX ih h ho).FU (pre:= [_]) (post:= []) (by simp only [D.bN,D.ok,iA];rfl) rfl (dk out) (dk _) ht
abbrev E0 (N:Nat):Prop:=∀ (x:Ex),x.size≤N→∀ out:List aE,out.length+x.size≤1000000000→∀ {s:St} {t:Nat},s.ax[t]? = some (some out.length)→
 aA Tryz.prog ix [.agg (bB x), .slice (.tok t) 1 (out.map encStr)] s (.slice (.tok t) 1 ((x.fT out).map encStr)) ⟨s.av,s.ax.set t (some (x.fT out).length)⟩
theorem Pz {N:Nat} (ih:E0 N) {op m:Int} {name:aE} {kids:List Ex} (h:Ex.size ⟨op,m,name,kids⟩≤N+1) {out:List aE} (ho:out.length+Ex.size ⟨op,m,name,kids⟩≤1000000000) :
 aA Tryz.prog ix [.agg (bB ⟨op,m,name,kids⟩), .slice (.tok 0) 1 (out.map encStr)] ⟨[],[some out.length]⟩ (.slice (.tok 0) 1 ((Ex.fT out ⟨op,m,name,kids⟩).map encStr)) ⟨[],[some (Ex.fT out ⟨op,m,name,kids⟩).length]⟩:=by
 obtain⟨R,hG⟩ : ∃ R,Ex.fT out ⟨op,m,name,kids⟩=R:=⟨_,rfl⟩
 rw [hG]
 simp only [Ex.fT]at hG
 simp only [Ex.size]at h ho
 have hlen:kids.length<1000000000:=by have:=Ex.dc kids;omega
 have hk : ∀ y∈kids,∀ out:List aE,out.length+y.size≤1000000000→∀ {s:St} {t:Nat},s.ax[t]? = some (some out.length)→
  aA Tryz.prog ix [.agg (bB y), .slice (.tok t) 1 (out.map encStr)] s (.slice (.tok t) 1 ((y.fT out).map encStr)) ⟨s.av,s.ax.set t (some (y.fT out).length)⟩:=fun y hy out ho=>
  ih y (by have:=Ex.bS hy;omega) out ho
 have mg:=fun {s:St} {t:Nat} (ht:s.ax[t]? = some (some out.length))=>Mn (out:=out) (by omega) name ht
 refine aA.go qt rfl fun B Q hB hQ=> ?_
 have⟨hD,hF,hJ,hP⟩:=bI
 have hJ:(out.length+1)*17≤bf:=by unfold bf;omega
 rcases Bool.eq_false_or_eq_true (op==2)with b1 | b1
 ·rcases Bool.eq_false_or_eq_true (dV out name)with b2 | b2
  ·simp only [b1,b2,Bool.not_true,Bool.and_false,Bool.false_eq_true,if_false]at hG
   simp only [jS,b2,if_true]at mg
   repeat' (first
 | simp only [go_sem,hD,hF,hJ,hP,b1,b2]
 | (with_reducible refine CU (mg (by with_unfolding_all rfl)) ?_)
 | (with_reducible refine ay hQ ?_;simp only [az,aB,Option.some.injEq,exists_eq_left',go_sem,hD,hF,hJ,hP];repeat' (first | exact Ok.out | with_reducible refine bO ?_ ?_ | (simp;done))))
   refine cV 1 1 (bj.ind (ι:=List Ex×Nat×List aE×Nat) (fun i=>kids.drop i.2.1=i.1∧Ex.fe i.2.2.1 i.1=R∧i.2.2.1.length+Ex.aP i.1≤1000000000∧i.2.2.2=i.2.2.1.length) (fun i=>i.1.length)
    (fun i=> [(1, .slice (.tok 0) 1 (i.2.2.1.map encStr)),(2, .ptr 0 0),(15, .int .i64 (kids.length:Int)),(16, .int .i64 (i.2.1:Int))]) (fun i=>⟨[bB ⟨op,m,name,kids⟩],[some i.2.2.2]⟩) ?_ (kids,0,out,out.length) ⟨rfl,hG,by simp;omega,by simp⟩)
   rintro⟨rest,k,bh,n'⟩ ⟨h1,h2,h3,h4⟩ IH
   dsimp only at h1 h2 h3 h4
   subst h4
   cases rest with
   | nil=>
    have hD:=drop_nil h1
    simp only [Ex.fe]at h2
    subst h2
    repeat' (first
 | simp only [go_sem,hD,hF,hJ,hP]
 | (with_reducible refine ay hQ ?_;simp only [az,aB,Option.some.injEq,exists_eq_left',go_sem,hD,hF,hJ,hP];repeat' (first | exact Ok.out | with_reducible refine bO ?_ ?_ | (simp;done))))
   | cons y rest=>
    obtain⟨hF,g2,hD,g4⟩:=drop_cons h1
    have bm:k<4611686018427387904:=by omega
    simp only [Ex.fe]at h2
    simp only [Ex.aP]at h3
    have hy:=fun {s:St} {t:Nat} (ht:s.ax[t]? = some (some bh.length))=>hk y (List.mem_of_getElem? hF) bh (by omega) ht
    have hl:=ka bh y
    repeat' (first
 | simp only [go_sem,hD,hF,hJ,hP]
 | (with_reducible refine CU (hy (by with_unfolding_all rfl)) ?_)
 | (with_reducible refine ay hQ ?_;simp only [az,aB,Option.some.injEq,exists_eq_left',go_sem,hD,hF,hJ,hP];repeat' (first | exact Ok.out | with_reducible refine bO ?_ ?_ | (simp;done))))
    refine cd 1 1 ?_ ?_ (IH (rest,k+1,_,_) ⟨g2,h2,by dsimp only;omega,rfl⟩ (Nat.lt_succ_self _))
    ·(simp only [go_sem,hD,hF,hJ,hP,au bm];try exact aZ)
    ·(simp only [go_sem,hD,hF,hJ,hP,au bm];try exact aZ)
  ·simp only [b1,b2,Bool.not_false,Bool.and_true,if_true]at hG
   simp only [jS,b2,Bool.false_eq_true,if_false,List.length_append,List.length_cons,List.length_nil]at mg
   repeat' (first
 | simp only [go_sem,hD,hF,hJ,hP,b1,b2]
 | (with_reducible refine CU (mg (by with_unfolding_all rfl)) ?_)
 | (with_reducible refine ay hQ ?_;simp only [az,aB,Option.some.injEq,exists_eq_left',go_sem,hD,hF,hJ,hP];repeat' (first | exact Ok.out | with_reducible refine bO ?_ ?_ | (simp;done))))
   refine cd 1 1 ?_ ?_ (bj.ind (ι:=List Ex×Nat×List aE×Nat) (fun i=>kids.drop i.2.1=i.1∧Ex.fe i.2.2.1 i.1=R∧i.2.2.1.length+Ex.aP i.1≤1000000000∧i.2.2.2=i.2.2.1.length) (fun i=>i.1.length)
    (fun i=> [(1, .slice (.tok 0) 1 (i.2.2.1.map encStr)),(2, .ptr 0 0),(15, .int .i64 (kids.length:Int)),(16, .int .i64 (i.2.1:Int))]) (fun i=>⟨[bB ⟨op,m,name,kids⟩],[some i.2.2.2]⟩) ?_ (kids,0,(out++ [name]),(out.length+1)) ⟨rfl,hG,by simp;omega,by simp⟩)
   ·(simp only [go_sem,hD,hF,hJ,hP,List.map_append,List.map_cons,List.map_nil,List.length_append,List.length_cons,List.length_nil,encStr];try exact aZ)
   ·(simp only [go_sem,hD,hF,hJ,hP,List.map_append,List.map_cons,List.map_nil,List.length_append,List.length_cons,List.length_nil,encStr];try exact aZ)
   rintro⟨rest,k,bh,n'⟩ ⟨h1,h2,h3,h4⟩ IH
   dsimp only at h1 h2 h3 h4
   subst h4
   cases rest with
   | nil=>
    have hD:=drop_nil h1
    simp only [Ex.fe]at h2
    subst h2
    repeat' (first
 | simp only [go_sem,hD,hF,hJ,hP]
 | (with_reducible refine ay hQ ?_;simp only [az,aB,Option.some.injEq,exists_eq_left',go_sem,hD,hF,hJ,hP];repeat' (first | exact Ok.out | with_reducible refine bO ?_ ?_ | (simp;done))))
   | cons y rest=>
    obtain⟨hF,g2,hD,g4⟩:=drop_cons h1
    have bm:k<4611686018427387904:=by omega
    simp only [Ex.fe]at h2
    simp only [Ex.aP]at h3
    have hy:=fun {s:St} {t:Nat} (ht:s.ax[t]? = some (some bh.length))=>hk y (List.mem_of_getElem? hF) bh (by omega) ht
    have hl:=ka bh y
    repeat' (first
 | simp only [go_sem,hD,hF,hJ,hP]
 | (with_reducible refine CU (hy (by with_unfolding_all rfl)) ?_)
 | (with_reducible refine ay hQ ?_;simp only [az,aB,Option.some.injEq,exists_eq_left',go_sem,hD,hF,hJ,hP];repeat' (first | exact Ok.out | with_reducible refine bO ?_ ?_ | (simp;done))))
    refine cd 1 1 ?_ ?_ (IH (rest,k+1,_,_) ⟨g2,h2,by dsimp only;omega,rfl⟩ (Nat.lt_succ_self _))
    ·(simp only [go_sem,hD,hF,hJ,hP,au bm];try exact aZ)
    ·(simp only [go_sem,hD,hF,hJ,hP,au bm];try exact aZ)
 ·simp only [b1,Bool.false_and,Bool.false_eq_true,if_false]at hG
  repeat' (first
 | simp only [go_sem,hD,hF,hJ,hP,b1]
 | (with_reducible refine ay hQ ?_;simp only [az,aB,Option.some.injEq,exists_eq_left',go_sem,hD,hF,hJ,hP];repeat' (first | exact Ok.out | with_reducible refine bO ?_ ?_ | (simp;done))))
  refine cV 1 1 (bj.ind (ι:=List Ex×Nat×List aE×Nat) (fun i=>kids.drop i.2.1=i.1∧Ex.fe i.2.2.1 i.1=R∧i.2.2.1.length+Ex.aP i.1≤1000000000∧i.2.2.2=i.2.2.1.length) (fun i=>i.1.length)
   (fun i=> [(1, .slice (.tok 0) 1 (i.2.2.1.map encStr)),(2, .ptr 0 0),(15, .int .i64 (kids.length:Int)),(16, .int .i64 (i.2.1:Int))]) (fun i=>⟨[bB ⟨op,m,name,kids⟩],[some i.2.2.2]⟩) ?_ (kids,0,out,out.length) ⟨rfl,hG,by simp;omega,by simp⟩)
  rintro⟨rest,k,bh,n'⟩ ⟨h1,h2,h3,h4⟩ IH
  dsimp only at h1 h2 h3 h4
  subst h4
  cases rest with
  | nil=>
   have hD:=drop_nil h1
   simp only [Ex.fe]at h2
   subst h2
   repeat' (first
 | simp only [go_sem,hD,hF,hJ,hP]
 | (with_reducible refine ay hQ ?_;simp only [az,aB,Option.some.injEq,exists_eq_left',go_sem,hD,hF,hJ,hP];repeat' (first | exact Ok.out | with_reducible refine bO ?_ ?_ | (simp;done))))
  | cons y rest=>
   obtain⟨hF,g2,hD,g4⟩:=drop_cons h1
   have bm:k<4611686018427387904:=by omega
   simp only [Ex.fe]at h2
   simp only [Ex.aP]at h3
   have hy:=fun {s:St} {t:Nat} (ht:s.ax[t]? = some (some bh.length))=>hk y (List.mem_of_getElem? hF) bh (by omega) ht
   have hl:=ka bh y
   repeat' (first
 | simp only [go_sem,hD,hF,hJ,hP]
 | (with_reducible refine CU (hy (by with_unfolding_all rfl)) ?_)
 | (with_reducible refine ay hQ ?_;simp only [az,aB,Option.some.injEq,exists_eq_left',go_sem,hD,hF,hJ,hP];repeat' (first | exact Ok.out | with_reducible refine bO ?_ ?_ | (simp;done))))
   refine cd 1 1 ?_ ?_ (IH (rest,k+1,_,_) ⟨g2,h2,by dsimp only;omega,rfl⟩ (Nat.lt_succ_self _))
   ·(simp only [go_sem,hD,hF,hJ,hP,au bm];try exact aZ)
   ·(simp only [go_sem,hD,hF,hJ,hP,au bm];try exact aZ)
theorem JJ : ∀ N,E0 N:=by
 intro N
 induction N with
 | zero=>rintro⟨op,m,name,kids⟩ h;simp only [Ex.size]at h;omega
 | succ N ih=>
  rintro⟨op,m,name,kids⟩ h out ho s t ht
  exact(Pz ih h ho).FU (pre:= [_]) (post:= []) (by simp only [D.bN,D.ok,iA];rfl) rfl (dk out) (dk _) ht
end Go.Abs

/-! Nm2 -/

namespace Go.Abs
set_option maxRecDepth 8000
open Go.Proofs
theorem Hz (x:aE) (s:St):aA Tryz.prog lq [.slice .full 0 [], .str x] s (.slice .shared 1 [[.str x]]) s:=by
 refine aA.pure ?_ rfl rfl s
 unfold S0
 refine aA.go sc rfl fun B Q hB hQ=> ?_
 have⟨hD,hF,hJ,hP⟩:=bI
 have hJ:17≤bf:=by unfold bf;omega
 repeat' (first
 | simp only [go_sem,hD,hF,hJ,hP,Int.lt_irrefl,decide_false]
 | (with_reducible refine bj.tP ?_)
 | (with_reducible refine ay hQ ?_;simp only [az,aB,Option.some.injEq,exists_eq_left',go_sem,hD,hF,hJ,hP];repeat' (first | exact Ok.out | with_reducible refine bO ?_ ?_ | (simp;done))))
theorem A1 {op m:Int} {name:aE} {kids:List Ex} (h:Ex.form ⟨op,m,name,kids⟩=true) (h2:(op==2)=true):kids = []:=by
 have e:op=2:=by simpa using h2
 subst e
 simp only [Ex.form]at h
 split at h
 ·cases h
 ·rename_i hh
  simp only [Bool.or_eq_true,not_or,bne_iff_ne,ne_eq,Decidable.not_not]at hh
  have:=hh.1.1.1.1
  have e:kH 2=0:=rfl
  rw [e]at this
  exact List.length_eq_zero_iff.1 (by omega)
theorem Mq {op m:Int} {name:aE} {kids:List Ex} (hf:(op==2)=true→kids = []) (ho:Ex.size ⟨op,m,name,kids⟩≤1000000000) (s:St) :
 aA Tryz.prog gh [.agg (bB ⟨op,m,name,kids⟩), .slice .full 0 []] s (.slice .shared 1 ((Ex.fT [] ⟨op,m,name,kids⟩).map encStr)) s:=by
 refine aA.pure ?_ (by simp only [D.bN,D.ok,iA];rfl) (by simp only [D.ok,Tag.ok,dk];rfl) s
 obtain⟨R,hG⟩ : ∃ R,Ex.fT [] ⟨op,m,name,kids⟩=R:=⟨_,rfl⟩
 rw [hG]
 simp only [Ex.fT]at hG
 simp only [Ex.size]at ho
 have hlen:kids.length<1000000000:=by have:=Ex.dc kids;omega
 have hk : ∀ y∈kids,∀ out:List aE,out.length+y.size≤1000000000→∀ {s:St} {t:Nat},s.ax[t]? = some (some out.length)→
  aA Tryz.prog gh [.agg (bB y), .slice (.tok t) 1 (out.map encStr)] s (.slice (.tok t) 1 ((y.fT out).map encStr)) ⟨s.av,s.ax.set t (some (y.fT out).length)⟩:=fun y hy out ho=>
  Mp y.size y (Nat.le_refl _) out ho
 unfold S0
 rcases Bool.eq_false_or_eq_true (op==2)with b1 | b1
 ·have JK:=hf b1
  subst JK
  have e:dV [] name=false:=rfl
  simp only [b1,e,Bool.not_false,Bool.and_true,if_true,Ex.fe,List.nil_append]at hG
  subst hG
  refine aA.go oG rfl fun B Q hB hQ=> ?_
  have⟨hD,hF,hJ,hP⟩:=bI
  have hJ:17≤bf:=by unfold bf;omega
  repeat' (first
 | simp only [go_sem,hD,hF,hJ,hP,b1,List.map_nil,List.map_cons,List.length_nil,encStr,Int.natCast_zero,Int.lt_irrefl,decide_false]
 | (with_reducible refine CU (Dm name _ _ _) ?_)
 | (with_reducible refine bj.tP ?_)
 | (with_reducible refine ay hQ ?_;simp only [az,aB,Option.some.injEq,exists_eq_left',go_sem,hD,hF,hJ,hP];repeat' (first | exact Ok.out | with_reducible refine bO ?_ ?_ | (simp;done))))
 ·simp only [b1,Bool.false_and,Bool.false_eq_true,if_false]at hG
  refine aA.go oG rfl fun B Q hB hQ=> ?_
  have⟨hD,hF,hJ,hP⟩:=bI
  repeat' (first
 | simp only [go_sem,hD,hF,hJ,hP,b1]
 | (with_reducible refine ay hQ ?_;simp only [az,aB,Option.some.injEq,exists_eq_left',go_sem,hD,hF,hJ,hP];repeat' (first | exact Ok.out | with_reducible refine bO ?_ ?_ | (simp;done))))
  refine bj.mh 1 1 rfl ?_
  simp only [go_sem,hD,hF,hJ,hP]
  refine cV 1 1 (bj.ind (ι:=List Ex×Nat×List aE×Nat) (fun i=>kids.drop i.2.1=i.1∧Ex.fe i.2.2.1 i.1=R∧i.2.2.1.length+Ex.aP i.1≤1000000000∧i.2.2.2=i.2.2.1.length) (fun i=>i.1.length)
   (fun i=> [(1, .slice (.tok 0) 1 (i.2.2.1.map encStr)),(2, .ptr 0 0),(23, .slice .shared 4 (kids.map bB)),(24, .int .i64 (kids.length:Int)),(25, .int .i64 (i.2.1:Int))]) (fun i=>⟨[bB ⟨op,m,name,kids⟩],[some i.2.2.2]⟩) ?_ (kids,0,[],0) ⟨rfl,hG,by simp;omega,by simp⟩)
  rintro⟨rest,k,bh,n'⟩ ⟨h1,h2,h3,h4⟩ IH
  dsimp only at h1 h2 h3 h4
  subst h4
  cases rest with
  | nil=>
   have hD:=drop_nil h1
   simp only [Ex.fe]at h2
   subst h2
   repeat' (first
 | simp only [go_sem,hD,hF,hJ,hP]
 | (with_reducible refine ay hQ ?_;simp only [az,aB,Option.some.injEq,exists_eq_left',go_sem,hD,hF,hJ,hP];repeat' (first | exact Ok.out | with_reducible refine bO ?_ ?_ | (simp;done))))
  | cons y rest=>
   obtain⟨hF,g2,hD,g4⟩:=drop_cons h1
   have bm:k<4611686018427387904:=by omega
   simp only [Ex.fe]at h2
   simp only [Ex.aP]at h3
   have hy:=fun {s:St} {t:Nat} (ht:s.ax[t]? = some (some bh.length))=>hk y (List.mem_of_getElem? hF) bh (by omega) ht
   have hl:=ka bh y
   repeat' (first
 | simp only [go_sem,hD,hF,hJ,hP]
 | (with_reducible refine CU (hy (by with_unfolding_all rfl)) ?_)
 | (with_reducible refine ay hQ ?_;simp only [az,aB,Option.some.injEq,exists_eq_left',go_sem,hD,hF,hJ,hP];repeat' (first | exact Ok.out | with_reducible refine bO ?_ ?_ | (simp;done))))
   refine cd 1 1 ?_ ?_ (IH (rest,k+1,_,_) ⟨g2,h2,by dsimp only;omega,rfl⟩ (Nat.lt_succ_self _))
   ·(simp only [go_sem,hD,hF,hJ,hP,au bm];try exact aZ)
   ·(simp only [go_sem,hD,hF,hJ,hP,au bm];try exact aZ)
theorem JL {op m:Int} {name:aE} {kids:List Ex} (hf:(op==2)=true→kids = []) (ho:Ex.size ⟨op,m,name,kids⟩≤1000000000) (s:St) :
 aA Tryz.prog ix [.agg (bB ⟨op,m,name,kids⟩), .slice .full 0 []] s (.slice .shared 1 ((Ex.fT [] ⟨op,m,name,kids⟩).map encStr)) s:=by
 refine aA.pure ?_ (by simp only [D.bN,D.ok,iA];rfl) (by simp only [D.ok,Tag.ok,dk];rfl) s
 obtain⟨R,hG⟩ : ∃ R,Ex.fT [] ⟨op,m,name,kids⟩=R:=⟨_,rfl⟩
 rw [hG]
 simp only [Ex.fT]at hG
 simp only [Ex.size]at ho
 have hlen:kids.length<1000000000:=by have:=Ex.dc kids;omega
 have hk : ∀ y∈kids,∀ out:List aE,out.length+y.size≤1000000000→∀ {s:St} {t:Nat},s.ax[t]? = some (some out.length)→
  aA Tryz.prog ix [.agg (bB y), .slice (.tok t) 1 (out.map encStr)] s (.slice (.tok t) 1 ((y.fT out).map encStr)) ⟨s.av,s.ax.set t (some (y.fT out).length)⟩:=fun y hy out ho=>
  JJ y.size y (Nat.le_refl _) out ho
 unfold S0
 rcases Bool.eq_false_or_eq_true (op==2)with b1 | b1
 ·have JK:=hf b1
  subst JK
  have e:dV [] name=false:=rfl
  simp only [b1,e,Bool.not_false,Bool.and_true,if_true,Ex.fe,List.nil_append]at hG
  subst hG
  refine aA.go qt rfl fun B Q hB hQ=> ?_
  have⟨hD,hF,hJ,hP⟩:=bI
  have hJ:17≤bf:=by unfold bf;omega
  repeat' (first
 | simp only [go_sem,hD,hF,hJ,hP,b1,List.map_nil,List.map_cons,List.length_nil,encStr,Int.natCast_zero,Int.lt_irrefl,decide_false]
 | (with_reducible refine CU (Hz name _) ?_)
 | (with_reducible refine bj.tP ?_)
 | (with_reducible refine ay hQ ?_;simp only [az,aB,Option.some.injEq,exists_eq_left',go_sem,hD,hF,hJ,hP];repeat' (first | exact Ok.out | with_reducible refine bO ?_ ?_ | (simp;done))))
 ·simp only [b1,Bool.false_and,Bool.false_eq_true,if_false]at hG
  refine aA.go qt rfl fun B Q hB hQ=> ?_
  have⟨hD,hF,hJ,hP⟩:=bI
  repeat' (first
 | simp only [go_sem,hD,hF,hJ,hP,b1]
 | (with_reducible refine ay hQ ?_;simp only [az,aB,Option.some.injEq,exists_eq_left',go_sem,hD,hF,hJ,hP];repeat' (first | exact Ok.out | with_reducible refine bO ?_ ?_ | (simp;done))))
  refine bj.mh 1 1 rfl ?_
  simp only [go_sem,hD,hF,hJ,hP]
  refine cV 1 1 (bj.ind (ι:=List Ex×Nat×List aE×Nat) (fun i=>kids.drop i.2.1=i.1∧Ex.fe i.2.2.1 i.1=R∧i.2.2.1.length+Ex.aP i.1≤1000000000∧i.2.2.2=i.2.2.1.length) (fun i=>i.1.length)
   (fun i=> [(1, .slice (.tok 0) 1 (i.2.2.1.map encStr)),(2, .ptr 0 0),(15, .int .i64 (kids.length:Int)),(16, .int .i64 (i.2.1:Int))]) (fun i=>⟨[bB ⟨op,m,name,kids⟩],[some i.2.2.2]⟩) ?_ (kids,0,[],0) ⟨rfl,hG,by simp;omega,by simp⟩)
  rintro⟨rest,k,bh,n'⟩ ⟨h1,h2,h3,h4⟩ IH
  dsimp only at h1 h2 h3 h4
  subst h4
  cases rest with
  | nil=>
   have hD:=drop_nil h1
   simp only [Ex.fe]at h2
   subst h2
   repeat' (first
 | simp only [go_sem,hD,hF,hJ,hP]
 | (with_reducible refine ay hQ ?_;simp only [az,aB,Option.some.injEq,exists_eq_left',go_sem,hD,hF,hJ,hP];repeat' (first | exact Ok.out | with_reducible refine bO ?_ ?_ | (simp;done))))
  | cons y rest=>
   obtain⟨hF,g2,hD,g4⟩:=drop_cons h1
   have bm:k<4611686018427387904:=by omega
   simp only [Ex.fe]at h2
   simp only [Ex.aP]at h3
   have hy:=fun {s:St} {t:Nat} (ht:s.ax[t]? = some (some bh.length))=>hk y (List.mem_of_getElem? hF) bh (by omega) ht
   have hl:=ka bh y
   repeat' (first
 | simp only [go_sem,hD,hF,hJ,hP]
 | (with_reducible refine CU (hy (by with_unfolding_all rfl)) ?_)
 | (with_reducible refine ay hQ ?_;simp only [az,aB,Option.some.injEq,exists_eq_left',go_sem,hD,hF,hJ,hP];repeat' (first | exact Ok.out | with_reducible refine bO ?_ ?_ | (simp;done))))
   refine cd 1 1 ?_ ?_ (IH (rest,k+1,_,_) ⟨g2,h2,by dsimp only;omega,rfl⟩ (Nat.lt_succ_self _))
   ·(simp only [go_sem,hD,hF,hJ,hP,au bm];try exact aZ)
   ·(simp only [go_sem,hD,hF,hJ,hP,au bm];try exact aZ)
theorem kI {x:Ex} (hx:x.size≤1000000000) (ht:x.texts) (s:St):aA Tryz.prog oy [.agg (bB x)] s (.slice .shared 1 (x.names.map encStr)) s:=by
 refine aA.pure ?_ (by simp only [D.bN,D.ok,iA];rfl) (by simp only [D.ok,Tag.ok,dk];rfl) s
 have hm:=fun s=>yM (x:=x) (by omega) ht s
 simp only [JH]at hm
 unfold Ex.names
 unfold S0
 cases hb:x.may
 ·simp only [hb]at hm
  simp only [Bool.false_eq_true,if_false,List.map_nil]
  refine aA.go ti rfl fun B Q hB hQ=> ?_
  have⟨hD,hF,hJ,hP⟩:=bI
  repeat' (first
 | simp only [go_sem,hD,hF,hJ,hP]
 | (with_reducible refine CU (hm _) ?_)
 | (with_reducible refine ay hQ ?_;simp only [az,aB,Option.some.injEq,exists_eq_left',go_sem,hD,hF,hJ,hP];repeat' (first | exact Ok.out | with_reducible refine bO ?_ ?_ | (simp;done))))
 ·simp only [hb]at hm
  simp only [if_true]
  have hg : ∀ s,aA Tryz.prog gh [.agg (bB x), .slice .full 0 []] s (.slice .shared 1 ((x.fT []).map encStr)) s:=by
   intro s
   obtain⟨op,m,name,kids⟩:=x
   exact Mq (fun h2=>A1 (by simp only [Ex.may,Bool.and_eq_true]at hb;exact hb.2) h2) hx s
  refine aA.go ti rfl fun B Q hB hQ=> ?_
  have⟨hD,hF,hJ,hP⟩:=bI
  repeat' (first
 | simp only [go_sem,hD,hF,hJ,hP]
 | (with_reducible refine CU (hm _) ?_)
 | (with_reducible refine CU (hg _) ?_)
 | (with_reducible refine ay hQ ?_;simp only [az,aB,Option.some.injEq,exists_eq_left',go_sem,hD,hF,hJ,hP];repeat' (first | exact Ok.out | with_reducible refine bO ?_ ?_ | (simp;done))))
theorem kJ {x:Ex} (hx:x.size≤1000000000) (ht:x.texts) (s:St):aA Tryz.prog ow [.agg (bB x)] s (.slice .shared 1 (x.names.map encStr)) s:=by
 refine aA.pure ?_ (by simp only [D.bN,D.ok,iA];rfl) (by simp only [D.ok,Tag.ok,dk];rfl) s
 have hm:=fun s=>vQ (x:=x) (by omega) ht s
 unfold Ex.names
 unfold S0
 cases hb:x.may
 ·simp only [hb]at hm
  simp only [Bool.false_eq_true,if_false,List.map_nil]
  refine aA.go tf rfl fun B Q hB hQ=> ?_
  have⟨hD,hF,hJ,hP⟩:=bI
  repeat' (first
 | simp only [go_sem,hD,hF,hJ,hP]
 | (with_reducible refine CU (hm _) ?_)
 | (with_reducible refine ay hQ ?_;simp only [az,aB,Option.some.injEq,exists_eq_left',go_sem,hD,hF,hJ,hP];repeat' (first | exact Ok.out | with_reducible refine bO ?_ ?_ | (simp;done))))
 ·simp only [hb]at hm
  simp only [if_true]
  have hg : ∀ s,aA Tryz.prog ix [.agg (bB x), .slice .full 0 []] s (.slice .shared 1 ((x.fT []).map encStr)) s:=by
   intro s
   obtain⟨op,m,name,kids⟩:=x
   exact JL (fun h2=>A1 (by simp only [Ex.may,Bool.and_eq_true]at hb;exact hb.2) h2) hx s
  refine aA.go tf rfl fun B Q hB hQ=> ?_
  have⟨hD,hF,hJ,hP⟩:=bI
  repeat' (first
 | simp only [go_sem,hD,hF,hJ,hP]
 | (with_reducible refine CU (hm _) ?_)
 | (with_reducible refine CU (hg _) ?_)
 | (with_reducible refine ay hQ ?_;simp only [az,aB,Option.some.injEq,exists_eq_left',go_sem,hD,hF,hJ,hP];repeat' (first | exact Ok.out | with_reducible refine bO ?_ ?_ | (simp;done))))
end Go.Abs

/-! Nm3 -/

namespace Go.Abs
set_option maxRecDepth 8000
open Go.Proofs
def Ar.said (out:List aE):List Ar→List aE
 | []=>out
 | a::l=>Ar.said ((if a.ref then out++ [a.name]else out)++a.x.names) l
def Sm.oI (v:Sm):List aE:=if v.kind != 10 && v.name != []then [v.name]else []
def Sm.said (v:Sm):List aE:=Ar.said (v.oI++v.x.names) v.args
theorem fp (x:Ex):x.names.length≤x.size:=by
 unfold Ex.names
 split
 ·simpa using ka [] x
 ·exact Nat.zero_le _
def Ar.rp:List Ar→Prop
 | []=>True
 | a::l=>a.x.texts∧Ar.rp l
def Sm.p7 (v:Sm):Prop:=v.x.texts∧(∀ a∈v.args,a.x.texts)∧v.x.size+Ar.aP v.args<1000000
theorem ep {l nx:List aE} {n:Nat} (hn:n=l.length) (h:l.length+nx.length≤1000000000) {g:Tag} (o:List (List D)) :
 gl 1 16 (.slice (.tok 0) 1 (l.map encStr)) (.slice g 1 (nx.map encStr)) ⟨o,[some n]⟩=some (.slice (.tok 0) 1 ((l++nx).map encStr),⟨o,[some (l++nx).length]⟩):=by
 subst hn
 have:=xA (size:=1) (bytes:=16) (t:=0) (rows:=l.map encStr) (new:=nx.map encStr) (g:=g) (s:=⟨o,[some l.length]⟩) (by simp only [List.length_map];unfold bf;omega) (by simp)
 rw [this]
 simp
theorem vY {v:Sm} (hv:v.p7) (s:St):aA Tryz.prog ov [.agg (bp v)] s (.slice .shared 1 (v.said.map encStr)) s:=by
 refine aA.pure ?_ (by simp only [D.bN,D.ok,qh];rfl) (by simp only [D.ok,Tag.ok,dk];rfl) s
 obtain⟨RY,vZ,eg⟩:=hv
 obtain⟨R,hG⟩ : ∃ R,v.said=R:=⟨_,rfl⟩
 rw [hG]
 simp only [Sm.said]at hG
 have hlen:v.args.length<1000000000:=by have:=Ar.dc v.args;omega
 have hx:=fun s=>kI (x:=v.x) (by omega) RY s
 have tr:=fp v.x
 unfold S0
 refine aA.go zI rfl fun B Q hB hQ=> ?_
 have⟨hD,hF,hJ,hP⟩:=bI
 have hJ:17≤bf:=by unfold bf;omega
 by_cases hb:(v.kind != 10 && v.name != [])=true
 ·simp only [Sm.oI,hb,if_true]at hG
  rw [Bool.and_eq_true]at hb
  obtain⟨b1,b2⟩:=hb
  have cU:=ep (l:= [v.name]) (nx:=v.x.names) (n:=1) rfl (by simp;omega) (g:= .shared)
  simp only [List.map_append,List.map_cons,List.map_nil,encStr]at cU
  have b3:(v.name == [])=false:=by simpa using b2
  repeat' (first
 | simp only [go_sem,hD,hF,hJ,hP,b1,b2,b3,cU]
 | (with_reducible refine CU (hx _) ?_)
 | (with_reducible refine ay hQ ?_;simp only [az,aB,Option.some.injEq,exists_eq_left',go_sem,hD,hF,hJ,hP];repeat' (first | exact Ok.out | with_reducible refine bO ?_ ?_ | (simp;done))))
  refine cd 1 1 ?_ ?_ (bj.ind (ι:=List Ar×Nat×List aE×Nat) (fun i=>v.args.drop i.2.1=i.1∧Ar.said i.2.2.1 i.1=R∧i.2.2.1.length+Ar.aP i.1≤2000000∧i.2.2.2=i.2.2.1.length) (fun i=>i.1.length)
   (fun i=> [(3, .slice (.tok 0) 1 (i.2.2.1.map encStr)),(1, .ptr 0 0),(25, .slice .shared 6 (v.args.map dG)),(26, .int .i64 (v.args.length:Int)),(27, .int .i64 (i.2.1:Int))]) (fun i=>⟨[bp v],[some i.2.2.2]⟩) ?_ (v.args,0,([v.name]++v.x.names),(v.x.names.length+1)) ⟨rfl,hG,by simp at tr ⊢;omega,by simp⟩)
  ·(simp only [go_sem,hD,hF,hJ,hP,List.map_append,List.map_cons,List.map_nil,encStr];try exact aZ)
  ·(simp only [go_sem,hD,hF,hJ,hP,List.map_append,List.map_cons,List.map_nil,encStr];try exact aZ)
  rintro⟨rest,k,out,n'⟩ ⟨h1,h2,h3,h4⟩ IH
  dsimp only at h1 h2 h3 h4
  subst h4
  cases rest with
  | nil=>
   have hD:=drop_nil h1
   simp only [Ar.said]at h2
   subst h2
   repeat' (first
 | simp only [go_sem,hD,hF,hJ,hP]
 | (with_reducible refine ay hQ ?_;simp only [az,aB,Option.some.injEq,exists_eq_left',go_sem,hD,hF,hJ,hP];repeat' (first | exact Ok.out | with_reducible refine bO ?_ ?_ | (simp;done))))
  | cons a rest=>
   obtain⟨hF,g2,hD,g4⟩:=drop_cons h1
   have bm:k<4611686018427387904:=by omega
   simp only [Ar.said]at h2
   simp only [Ar.aP]at h3
   have jT:=fun s=>kI (x:=a.x) (by have:=Ar.bS (List.mem_of_getElem? hF);omega) (vZ a (List.mem_of_getElem? hF)) s
   have hl:=fp a.x
   have hJ:(out.length+1)*17≤bf:=by unfold bf;omega
   rcases Bool.eq_false_or_eq_true a.ref with b1 | b1
   ·simp only [b1,if_true]at h2
    have cU:=ep (l:=out++ [a.name]) (nx:=a.x.names) (n:=out.length+1) (by simp) (by simp;omega) (g:= .shared)
    simp only [List.map_append,List.map_cons,List.map_nil,encStr]at cU
    repeat' (first
 | simp only [go_sem,hD,hF,hJ,hP,b1,cU]
 | (with_reducible refine CU (jT _) ?_)
 | (with_reducible refine ay hQ ?_;simp only [az,aB,Option.some.injEq,exists_eq_left',go_sem,hD,hF,hJ,hP];repeat' (first | exact Ok.out | with_reducible refine bO ?_ ?_ | (simp;done))))
    refine cd 1 1 ?_ ?_ (IH (rest,k+1,out++ [a.name]++a.x.names,_) ⟨g2,h2,by simp;omega,by simp <;> omega⟩ (Nat.lt_succ_self _))
    ·(simp only [go_sem,hD,hF,hJ,hP,au bm,List.map_append,List.map_cons,List.map_nil,encStr];try exact aZ)
    ·(simp only [go_sem,hD,hF,hJ,hP,au bm,List.map_append,List.map_cons,List.map_nil,encStr];try exact aZ)
   ·simp only [b1,Bool.false_eq_true,if_false]at h2
    have cU:=ep (l:=out) (nx:=a.x.names) rfl (by omega) (g:= .shared)
    repeat' (first
 | simp only [go_sem,hD,hF,hJ,hP,b1,cU]
 | (with_reducible refine CU (jT _) ?_)
 | (with_reducible refine ay hQ ?_;simp only [az,aB,Option.some.injEq,exists_eq_left',go_sem,hD,hF,hJ,hP];repeat' (first | exact Ok.out | with_reducible refine bO ?_ ?_ | (simp;done))))
    refine cd 1 1 ?_ ?_ (IH (rest,k+1,out++a.x.names,_) ⟨g2,h2,by simp;omega,by simp <;> omega⟩ (Nat.lt_succ_self _))
    ·(simp only [go_sem,hD,hF,hJ,hP,au bm];try exact aZ)
    ·(simp only [go_sem,hD,hF,hJ,hP,au bm];try exact aZ)
 ·simp only [Sm.oI,hb,Bool.false_eq_true,if_false,List.nil_append]at hG
  have oh:(v.kind != 10 && v.name != [])=false:=by simpa using hb
  obtain⟨nx,JM⟩ : ∃ nx,nx=v.x.names:=⟨_,rfl⟩
  rw [← JM]at hG tr
  simp only [← JM]at hx
  by_cases w5:nx = []
  ·subst w5
   simp only [List.map_nil]at hx
   have cU : ∀ o:List (List D),gl 1 16 (.slice .full 0 []) (.slice .shared 1 []) ⟨o,[]⟩=some (.slice .full 0 [],⟨o,[]⟩):=fun o=>by simp [gl,bf]
   have HB:(v.kind != 10)=false∨(v.kind != 10)=true∧(v.name != [])=false:=by
    cases h1:(v.kind != 10)
    ·exact .inl rfl
    ·rw [h1]at oh;exact .inr ⟨rfl,by simpa using oh⟩
   rcases HB with b1 | ⟨b1,b2⟩
   ·rcases Bool.eq_false_or_eq_true (v.name != [])with b2 | b2
    all_goals
     have b3:(v.name == []) = !(v.name != []):=by simp only [bne,Bool.not_not]
     rw [b2]at b3
     repeat' (first
 | simp only [go_sem,hD,hF,hJ,hP,b1,b2,b3,Bool.not_true,Bool.not_false,cU]
 | (with_reducible refine CU (hx _) ?_)
 | (with_reducible refine ay hQ ?_;simp only [az,aB,Option.some.injEq,exists_eq_left',go_sem,hD,hF,hJ,hP];repeat' (first | exact Ok.out | with_reducible refine bO ?_ ?_ | (simp;done))))
    all_goals
     refine bj.mh 3 1 rfl ?_
     simp only [go_sem,hD,hF,hJ,hP]
     refine cV 1 1 (bj.ind (ι:=List Ar×Nat×List aE×Nat) (fun i=>v.args.drop i.2.1=i.1∧Ar.said i.2.2.1 i.1=R∧i.2.2.1.length+Ar.aP i.1≤2000000∧i.2.2.2=i.2.2.1.length) (fun i=>i.1.length)
      (fun i=> [(3, .slice (.tok 0) 1 (i.2.2.1.map encStr)),(1, .ptr 0 0),(25, .slice .shared 6 (v.args.map dG)),(26, .int .i64 (v.args.length:Int)),(27, .int .i64 (i.2.1:Int))]) (fun i=>⟨[bp v],[some i.2.2.2]⟩) ?_ (v.args,0,[],0) ⟨rfl,hG,by simp at tr ⊢;omega,by simp⟩)
     rintro⟨rest,k,out,n'⟩ ⟨h1,h2,h3,h4⟩ IH
     dsimp only at h1 h2 h3 h4
     subst h4
     cases rest with
     | nil=>
      have hD:=drop_nil h1
      simp only [Ar.said]at h2
      subst h2
      repeat' (first
 | simp only [go_sem,hD,hF,hJ,hP]
 | (with_reducible refine ay hQ ?_;simp only [az,aB,Option.some.injEq,exists_eq_left',go_sem,hD,hF,hJ,hP];repeat' (first | exact Ok.out | with_reducible refine bO ?_ ?_ | (simp;done))))
     | cons a rest=>
      obtain⟨hF,g2,hD,g4⟩:=drop_cons h1
      have bm:k<4611686018427387904:=by omega
      simp only [Ar.said]at h2
      simp only [Ar.aP]at h3
      have jT:=fun s=>kI (x:=a.x) (by have:=Ar.bS (List.mem_of_getElem? hF);omega) (vZ a (List.mem_of_getElem? hF)) s
      have hl:=fp a.x
      have hJ:(out.length+1)*17≤bf:=by unfold bf;omega
      rcases Bool.eq_false_or_eq_true a.ref with b1 | b1
      ·simp only [b1,if_true]at h2
       have cU:=ep (l:=out++ [a.name]) (nx:=a.x.names) (n:=out.length+1) (by simp) (by simp;omega) (g:= .shared)
       simp only [List.map_append,List.map_cons,List.map_nil,encStr]at cU
       repeat' (first
 | simp only [go_sem,hD,hF,hJ,hP,b1,cU]
 | (with_reducible refine CU (jT _) ?_)
 | (with_reducible refine ay hQ ?_;simp only [az,aB,Option.some.injEq,exists_eq_left',go_sem,hD,hF,hJ,hP];repeat' (first | exact Ok.out | with_reducible refine bO ?_ ?_ | (simp;done))))
       refine cd 1 1 ?_ ?_ (IH (rest,k+1,out++ [a.name]++a.x.names,_) ⟨g2,h2,by simp;omega,by simp <;> omega⟩ (Nat.lt_succ_self _))
       ·(simp only [go_sem,hD,hF,hJ,hP,au bm,List.map_append,List.map_cons,List.map_nil,encStr];try exact aZ)
       ·(simp only [go_sem,hD,hF,hJ,hP,au bm,List.map_append,List.map_cons,List.map_nil,encStr];try exact aZ)
      ·simp only [b1,Bool.false_eq_true,if_false]at h2
       have cU:=ep (l:=out) (nx:=a.x.names) rfl (by omega) (g:= .shared)
       repeat' (first
 | simp only [go_sem,hD,hF,hJ,hP,b1,cU]
 | (with_reducible refine CU (jT _) ?_)
 | (with_reducible refine ay hQ ?_;simp only [az,aB,Option.some.injEq,exists_eq_left',go_sem,hD,hF,hJ,hP];repeat' (first | exact Ok.out | with_reducible refine bO ?_ ?_ | (simp;done))))
       refine cd 1 1 ?_ ?_ (IH (rest,k+1,out++a.x.names,_) ⟨g2,h2,by simp;omega,by simp <;> omega⟩ (Nat.lt_succ_self _))
       ·(simp only [go_sem,hD,hF,hJ,hP,au bm];try exact aZ)
       ·(simp only [go_sem,hD,hF,hJ,hP,au bm];try exact aZ)
   ·have b3:(v.name == [])=true:=by simpa using b2
    repeat' (first
 | simp only [go_sem,hD,hF,hJ,hP,b1,b2,b3,cU]
 | (with_reducible refine CU (hx _) ?_)
 | (with_reducible refine ay hQ ?_;simp only [az,aB,Option.some.injEq,exists_eq_left',go_sem,hD,hF,hJ,hP];repeat' (first | exact Ok.out | with_reducible refine bO ?_ ?_ | (simp;done))))
    refine bj.mh 3 1 rfl ?_
    simp only [go_sem,hD,hF,hJ,hP]
    refine cV 1 1 (bj.ind (ι:=List Ar×Nat×List aE×Nat) (fun i=>v.args.drop i.2.1=i.1∧Ar.said i.2.2.1 i.1=R∧i.2.2.1.length+Ar.aP i.1≤2000000∧i.2.2.2=i.2.2.1.length) (fun i=>i.1.length)
     (fun i=> [(3, .slice (.tok 0) 1 (i.2.2.1.map encStr)),(1, .ptr 0 0),(25, .slice .shared 6 (v.args.map dG)),(26, .int .i64 (v.args.length:Int)),(27, .int .i64 (i.2.1:Int))]) (fun i=>⟨[bp v],[some i.2.2.2]⟩) ?_ (v.args,0,[],0) ⟨rfl,hG,by simp at tr ⊢;omega,by simp⟩)
    rintro⟨rest,k,out,n'⟩ ⟨h1,h2,h3,h4⟩ IH
    dsimp only at h1 h2 h3 h4
    subst h4
    cases rest with
    | nil=>
     have hD:=drop_nil h1
     simp only [Ar.said]at h2
     subst h2
     repeat' (first
 | simp only [go_sem,hD,hF,hJ,hP]
 | (with_reducible refine ay hQ ?_;simp only [az,aB,Option.some.injEq,exists_eq_left',go_sem,hD,hF,hJ,hP];repeat' (first | exact Ok.out | with_reducible refine bO ?_ ?_ | (simp;done))))
    | cons a rest=>
     obtain⟨hF,g2,hD,g4⟩:=drop_cons h1
     have bm:k<4611686018427387904:=by omega
     simp only [Ar.said]at h2
     simp only [Ar.aP]at h3
     have jT:=fun s=>kI (x:=a.x) (by have:=Ar.bS (List.mem_of_getElem? hF);omega) (vZ a (List.mem_of_getElem? hF)) s
     have hl:=fp a.x
     have hJ:(out.length+1)*17≤bf:=by unfold bf;omega
     rcases Bool.eq_false_or_eq_true a.ref with b1 | b1
     ·simp only [b1,if_true]at h2
      have cU:=ep (l:=out++ [a.name]) (nx:=a.x.names) (n:=out.length+1) (by simp) (by simp;omega) (g:= .shared)
      simp only [List.map_append,List.map_cons,List.map_nil,encStr]at cU
      repeat' (first
 | simp only [go_sem,hD,hF,hJ,hP,b1,cU]
 | (with_reducible refine CU (jT _) ?_)
 | (with_reducible refine ay hQ ?_;simp only [az,aB,Option.some.injEq,exists_eq_left',go_sem,hD,hF,hJ,hP];repeat' (first | exact Ok.out | with_reducible refine bO ?_ ?_ | (simp;done))))
      refine cd 1 1 ?_ ?_ (IH (rest,k+1,out++ [a.name]++a.x.names,_) ⟨g2,h2,by simp;omega,by simp <;> omega⟩ (Nat.lt_succ_self _))
      ·(simp only [go_sem,hD,hF,hJ,hP,au bm,List.map_append,List.map_cons,List.map_nil,encStr];try exact aZ)
      ·(simp only [go_sem,hD,hF,hJ,hP,au bm,List.map_append,List.map_cons,List.map_nil,encStr];try exact aZ)
     ·simp only [b1,Bool.false_eq_true,if_false]at h2
      have cU:=ep (l:=out) (nx:=a.x.names) rfl (by omega) (g:= .shared)
      repeat' (first
 | simp only [go_sem,hD,hF,hJ,hP,b1,cU]
 | (with_reducible refine CU (jT _) ?_)
 | (with_reducible refine ay hQ ?_;simp only [az,aB,Option.some.injEq,exists_eq_left',go_sem,hD,hF,hJ,hP];repeat' (first | exact Ok.out | with_reducible refine bO ?_ ?_ | (simp;done))))
      refine cd 1 1 ?_ ?_ (IH (rest,k+1,out++a.x.names,_) ⟨g2,h2,by simp;omega,by simp <;> omega⟩ (Nat.lt_succ_self _))
      ·(simp only [go_sem,hD,hF,hJ,hP,au bm];try exact aZ)
      ·(simp only [go_sem,hD,hF,hJ,hP,au bm];try exact aZ)
  ·have cU : ∀ o:List (List D),gl 1 16 (.slice .full 0 []) (.slice .shared 1 (nx.map encStr)) ⟨o,[]⟩=some (.slice (.tok 0) 1 (nx.map encStr),⟨o,[some nx.length]⟩):=fun o=>by
    have:nx.length*17≤bf:=by unfold bf;omega
    cases nx with
    | nil=>exact absurd rfl w5
    | cons a r=>simp only [List.length_cons]at this;simp [gl,this]
   have HB:(v.kind != 10)=false∨(v.kind != 10)=true∧(v.name != [])=false:=by
    cases h1:(v.kind != 10)
    ·exact .inl rfl
    ·rw [h1]at oh;exact .inr ⟨rfl,by simpa using oh⟩
   rcases HB with b1 | ⟨b1,b2⟩
   ·rcases Bool.eq_false_or_eq_true (v.name != [])with b2 | b2
    all_goals
     have b3:(v.name == []) = !(v.name != []):=by simp only [bne,Bool.not_not]
     rw [b2]at b3
     repeat' (first
 | simp only [go_sem,hD,hF,hJ,hP,b1,b2,b3,Bool.not_true,Bool.not_false,cU]
 | (with_reducible refine CU (hx _) ?_)
 | (with_reducible refine ay hQ ?_;simp only [az,aB,Option.some.injEq,exists_eq_left',go_sem,hD,hF,hJ,hP];repeat' (first | exact Ok.out | with_reducible refine bO ?_ ?_ | (simp;done))))
    all_goals
     refine cV 1 1 (bj.ind (ι:=List Ar×Nat×List aE×Nat) (fun i=>v.args.drop i.2.1=i.1∧Ar.said i.2.2.1 i.1=R∧i.2.2.1.length+Ar.aP i.1≤2000000∧i.2.2.2=i.2.2.1.length) (fun i=>i.1.length)
      (fun i=> [(3, .slice (.tok 0) 1 (i.2.2.1.map encStr)),(1, .ptr 0 0),(25, .slice .shared 6 (v.args.map dG)),(26, .int .i64 (v.args.length:Int)),(27, .int .i64 (i.2.1:Int))]) (fun i=>⟨[bp v],[some i.2.2.2]⟩) ?_ (v.args,0,nx,_) ⟨rfl,hG,by simp at tr ⊢;omega,by simp⟩)
     rintro⟨rest,k,out,n'⟩ ⟨h1,h2,h3,h4⟩ IH
     dsimp only at h1 h2 h3 h4
     subst h4
     cases rest with
     | nil=>
      have hD:=drop_nil h1
      simp only [Ar.said]at h2
      subst h2
      repeat' (first
 | simp only [go_sem,hD,hF,hJ,hP]
 | (with_reducible refine ay hQ ?_;simp only [az,aB,Option.some.injEq,exists_eq_left',go_sem,hD,hF,hJ,hP];repeat' (first | exact Ok.out | with_reducible refine bO ?_ ?_ | (simp;done))))
     | cons a rest=>
      obtain⟨hF,g2,hD,g4⟩:=drop_cons h1
      have bm:k<4611686018427387904:=by omega
      simp only [Ar.said]at h2
      simp only [Ar.aP]at h3
      have jT:=fun s=>kI (x:=a.x) (by have:=Ar.bS (List.mem_of_getElem? hF);omega) (vZ a (List.mem_of_getElem? hF)) s
      have hl:=fp a.x
      have hJ:(out.length+1)*17≤bf:=by unfold bf;omega
      rcases Bool.eq_false_or_eq_true a.ref with b1 | b1
      ·simp only [b1,if_true]at h2
       have cU:=ep (l:=out++ [a.name]) (nx:=a.x.names) (n:=out.length+1) (by simp) (by simp;omega) (g:= .shared)
       simp only [List.map_append,List.map_cons,List.map_nil,encStr]at cU
       repeat' (first
 | simp only [go_sem,hD,hF,hJ,hP,b1,cU]
 | (with_reducible refine CU (jT _) ?_)
 | (with_reducible refine ay hQ ?_;simp only [az,aB,Option.some.injEq,exists_eq_left',go_sem,hD,hF,hJ,hP];repeat' (first | exact Ok.out | with_reducible refine bO ?_ ?_ | (simp;done))))
       refine cd 1 1 ?_ ?_ (IH (rest,k+1,out++ [a.name]++a.x.names,_) ⟨g2,h2,by simp;omega,by simp <;> omega⟩ (Nat.lt_succ_self _))
       ·(simp only [go_sem,hD,hF,hJ,hP,au bm,List.map_append,List.map_cons,List.map_nil,encStr];try exact aZ)
       ·(simp only [go_sem,hD,hF,hJ,hP,au bm,List.map_append,List.map_cons,List.map_nil,encStr];try exact aZ)
      ·simp only [b1,Bool.false_eq_true,if_false]at h2
       have cU:=ep (l:=out) (nx:=a.x.names) rfl (by omega) (g:= .shared)
       repeat' (first
 | simp only [go_sem,hD,hF,hJ,hP,b1,cU]
 | (with_reducible refine CU (jT _) ?_)
 | (with_reducible refine ay hQ ?_;simp only [az,aB,Option.some.injEq,exists_eq_left',go_sem,hD,hF,hJ,hP];repeat' (first | exact Ok.out | with_reducible refine bO ?_ ?_ | (simp;done))))
       refine cd 1 1 ?_ ?_ (IH (rest,k+1,out++a.x.names,_) ⟨g2,h2,by simp;omega,by simp <;> omega⟩ (Nat.lt_succ_self _))
       ·(simp only [go_sem,hD,hF,hJ,hP,au bm];try exact aZ)
       ·(simp only [go_sem,hD,hF,hJ,hP,au bm];try exact aZ)
   ·have b3:(v.name == [])=true:=by simpa using b2
    repeat' (first
 | simp only [go_sem,hD,hF,hJ,hP,b1,b2,b3,cU]
 | (with_reducible refine CU (hx _) ?_)
 | (with_reducible refine ay hQ ?_;simp only [az,aB,Option.some.injEq,exists_eq_left',go_sem,hD,hF,hJ,hP];repeat' (first | exact Ok.out | with_reducible refine bO ?_ ?_ | (simp;done))))
    refine cV 1 1 (bj.ind (ι:=List Ar×Nat×List aE×Nat) (fun i=>v.args.drop i.2.1=i.1∧Ar.said i.2.2.1 i.1=R∧i.2.2.1.length+Ar.aP i.1≤2000000∧i.2.2.2=i.2.2.1.length) (fun i=>i.1.length)
     (fun i=> [(3, .slice (.tok 0) 1 (i.2.2.1.map encStr)),(1, .ptr 0 0),(25, .slice .shared 6 (v.args.map dG)),(26, .int .i64 (v.args.length:Int)),(27, .int .i64 (i.2.1:Int))]) (fun i=>⟨[bp v],[some i.2.2.2]⟩) ?_ (v.args,0,nx,_) ⟨rfl,hG,by simp at tr ⊢;omega,by simp⟩)
    rintro⟨rest,k,out,n'⟩ ⟨h1,h2,h3,h4⟩ IH
    dsimp only at h1 h2 h3 h4
    subst h4
    cases rest with
    | nil=>
     have hD:=drop_nil h1
     simp only [Ar.said]at h2
     subst h2
     repeat' (first
 | simp only [go_sem,hD,hF,hJ,hP]
 | (with_reducible refine ay hQ ?_;simp only [az,aB,Option.some.injEq,exists_eq_left',go_sem,hD,hF,hJ,hP];repeat' (first | exact Ok.out | with_reducible refine bO ?_ ?_ | (simp;done))))
    | cons a rest=>
     obtain⟨hF,g2,hD,g4⟩:=drop_cons h1
     have bm:k<4611686018427387904:=by omega
     simp only [Ar.said]at h2
     simp only [Ar.aP]at h3
     have jT:=fun s=>kI (x:=a.x) (by have:=Ar.bS (List.mem_of_getElem? hF);omega) (vZ a (List.mem_of_getElem? hF)) s
     have hl:=fp a.x
     have hJ:(out.length+1)*17≤bf:=by unfold bf;omega
     rcases Bool.eq_false_or_eq_true a.ref with b1 | b1
     ·simp only [b1,if_true]at h2
      have cU:=ep (l:=out++ [a.name]) (nx:=a.x.names) (n:=out.length+1) (by simp) (by simp;omega) (g:= .shared)
      simp only [List.map_append,List.map_cons,List.map_nil,encStr]at cU
      repeat' (first
 | simp only [go_sem,hD,hF,hJ,hP,b1,cU]
 | (with_reducible refine CU (jT _) ?_)
 | (with_reducible refine ay hQ ?_;simp only [az,aB,Option.some.injEq,exists_eq_left',go_sem,hD,hF,hJ,hP];repeat' (first | exact Ok.out | with_reducible refine bO ?_ ?_ | (simp;done))))
      refine cd 1 1 ?_ ?_ (IH (rest,k+1,out++ [a.name]++a.x.names,_) ⟨g2,h2,by simp;omega,by simp <;> omega⟩ (Nat.lt_succ_self _))
      ·(simp only [go_sem,hD,hF,hJ,hP,au bm,List.map_append,List.map_cons,List.map_nil,encStr];try exact aZ)
      ·(simp only [go_sem,hD,hF,hJ,hP,au bm,List.map_append,List.map_cons,List.map_nil,encStr];try exact aZ)
     ·simp only [b1,Bool.false_eq_true,if_false]at h2
      have cU:=ep (l:=out) (nx:=a.x.names) rfl (by omega) (g:= .shared)
      repeat' (first
 | simp only [go_sem,hD,hF,hJ,hP,b1,cU]
 | (with_reducible refine CU (jT _) ?_)
 | (with_reducible refine ay hQ ?_;simp only [az,aB,Option.some.injEq,exists_eq_left',go_sem,hD,hF,hJ,hP];repeat' (first | exact Ok.out | with_reducible refine bO ?_ ?_ | (simp;done))))
      refine cd 1 1 ?_ ?_ (IH (rest,k+1,out++a.x.names,_) ⟨g2,h2,by simp;omega,by simp <;> omega⟩ (Nat.lt_succ_self _))
      ·(simp only [go_sem,hD,hF,hJ,hP,au bm];try exact aZ)
      ·(simp only [go_sem,hD,hF,hJ,hP,au bm];try exact aZ)
theorem xf {v:Sm} (hv:v.p7) (s:St):aA Tryz.prog pE [.agg (bp v)] s (.slice .shared 1 (v.said.map encStr)) s:=by
 refine aA.pure ?_ (by simp only [D.bN,D.ok,qh];rfl) (by simp only [D.ok,Tag.ok,dk];rfl) s
 obtain⟨RY,vZ,eg⟩:=hv
 obtain⟨R,hG⟩ : ∃ R,v.said=R:=⟨_,rfl⟩
 rw [hG]
 simp only [Sm.said]at hG
 have hlen:v.args.length<1000000000:=by have:=Ar.dc v.args;omega
 have hx:=fun s=>kJ (x:=v.x) (by omega) RY s
 have tr:=fp v.x
 unfold S0
 refine aA.go Bw rfl fun B Q hB hQ=> ?_
 have⟨hD,hF,hJ,hP⟩:=bI
 have hJ:17≤bf:=by unfold bf;omega
 by_cases hb:(v.kind != 10 && v.name != [])=true
 ·simp only [Sm.oI,hb,if_true]at hG
  rw [Bool.and_eq_true]at hb
  obtain⟨b1,b2⟩:=hb
  have cU:=ep (l:= [v.name]) (nx:=v.x.names) (n:=1) rfl (by simp;omega) (g:= .shared)
  simp only [List.map_append,List.map_cons,List.map_nil,encStr]at cU
  have b3:(v.name == [])=false:=by simpa using b2
  repeat' (first
 | simp only [go_sem,hD,hF,hJ,hP,b1,b2,b3,cU]
 | (with_reducible refine CU (hx _) ?_)
 | (with_reducible refine ay hQ ?_;simp only [az,aB,Option.some.injEq,exists_eq_left',go_sem,hD,hF,hJ,hP];repeat' (first | exact Ok.out | with_reducible refine bO ?_ ?_ | (simp;done))))
  refine cd 1 1 ?_ ?_ (bj.ind (ι:=List Ar×Nat×List aE×Nat) (fun i=>v.args.drop i.2.1=i.1∧Ar.said i.2.2.1 i.1=R∧i.2.2.1.length+Ar.aP i.1≤2000000∧i.2.2.2=i.2.2.1.length) (fun i=>i.1.length)
   (fun i=> [(3, .slice (.tok 0) 1 (i.2.2.1.map encStr)),(1, .ptr 0 0),(25, .slice .shared 6 (v.args.map dG)),(26, .int .i64 (v.args.length:Int)),(27, .int .i64 (i.2.1:Int))]) (fun i=>⟨[bp v],[some i.2.2.2]⟩) ?_ (v.args,0,([v.name]++v.x.names),(v.x.names.length+1)) ⟨rfl,hG,by simp at tr ⊢;omega,by simp⟩)
  ·(simp only [go_sem,hD,hF,hJ,hP,List.map_append,List.map_cons,List.map_nil,encStr];try exact aZ)
  ·(simp only [go_sem,hD,hF,hJ,hP,List.map_append,List.map_cons,List.map_nil,encStr];try exact aZ)
  rintro⟨rest,k,out,n'⟩ ⟨h1,h2,h3,h4⟩ IH
  dsimp only at h1 h2 h3 h4
  subst h4
  cases rest with
  | nil=>
   have hD:=drop_nil h1
   simp only [Ar.said]at h2
   subst h2
   repeat' (first
 | simp only [go_sem,hD,hF,hJ,hP]
 | (with_reducible refine ay hQ ?_;simp only [az,aB,Option.some.injEq,exists_eq_left',go_sem,hD,hF,hJ,hP];repeat' (first | exact Ok.out | with_reducible refine bO ?_ ?_ | (simp;done))))
  | cons a rest=>
   obtain⟨hF,g2,hD,g4⟩:=drop_cons h1
   have bm:k<4611686018427387904:=by omega
   simp only [Ar.said]at h2
   simp only [Ar.aP]at h3
   have jT:=fun s=>kJ (x:=a.x) (by have:=Ar.bS (List.mem_of_getElem? hF);omega) (vZ a (List.mem_of_getElem? hF)) s
   have hl:=fp a.x
   have hJ:(out.length+1)*17≤bf:=by unfold bf;omega
   rcases Bool.eq_false_or_eq_true a.ref with b1 | b1
   ·simp only [b1,if_true]at h2
    have cU:=ep (l:=out++ [a.name]) (nx:=a.x.names) (n:=out.length+1) (by simp) (by simp;omega) (g:= .shared)
    simp only [List.map_append,List.map_cons,List.map_nil,encStr]at cU
    repeat' (first
 | simp only [go_sem,hD,hF,hJ,hP,b1,cU]
 | (with_reducible refine CU (jT _) ?_)
 | (with_reducible refine ay hQ ?_;simp only [az,aB,Option.some.injEq,exists_eq_left',go_sem,hD,hF,hJ,hP];repeat' (first | exact Ok.out | with_reducible refine bO ?_ ?_ | (simp;done))))
    refine cd 1 1 ?_ ?_ (IH (rest,k+1,out++ [a.name]++a.x.names,_) ⟨g2,h2,by simp;omega,by simp <;> omega⟩ (Nat.lt_succ_self _))
    ·(simp only [go_sem,hD,hF,hJ,hP,au bm,List.map_append,List.map_cons,List.map_nil,encStr];try exact aZ)
    ·(simp only [go_sem,hD,hF,hJ,hP,au bm,List.map_append,List.map_cons,List.map_nil,encStr];try exact aZ)
   ·simp only [b1,Bool.false_eq_true,if_false]at h2
    have cU:=ep (l:=out) (nx:=a.x.names) rfl (by omega) (g:= .shared)
    repeat' (first
 | simp only [go_sem,hD,hF,hJ,hP,b1,cU]
 | (with_reducible refine CU (jT _) ?_)
 | (with_reducible refine ay hQ ?_;simp only [az,aB,Option.some.injEq,exists_eq_left',go_sem,hD,hF,hJ,hP];repeat' (first | exact Ok.out | with_reducible refine bO ?_ ?_ | (simp;done))))
    refine cd 1 1 ?_ ?_ (IH (rest,k+1,out++a.x.names,_) ⟨g2,h2,by simp;omega,by simp <;> omega⟩ (Nat.lt_succ_self _))
    ·(simp only [go_sem,hD,hF,hJ,hP,au bm];try exact aZ)
    ·(simp only [go_sem,hD,hF,hJ,hP,au bm];try exact aZ)
 ·simp only [Sm.oI,hb,Bool.false_eq_true,if_false,List.nil_append]at hG
  have oh:(v.kind != 10 && v.name != [])=false:=by simpa using hb
  obtain⟨nx,JM⟩ : ∃ nx,nx=v.x.names:=⟨_,rfl⟩
  rw [← JM]at hG tr
  simp only [← JM]at hx
  by_cases w5:nx = []
  ·subst w5
   simp only [List.map_nil]at hx
   have cU : ∀ o:List (List D),gl 1 16 (.slice .full 0 []) (.slice .shared 1 []) ⟨o,[]⟩=some (.slice .full 0 [],⟨o,[]⟩):=fun o=>by simp [gl,bf]
   have HB:(v.kind != 10)=false∨(v.kind != 10)=true∧(v.name != [])=false:=by
    cases h1:(v.kind != 10)
    ·exact .inl rfl
    ·rw [h1]at oh;exact .inr ⟨rfl,by simpa using oh⟩
   rcases HB with b1 | ⟨b1,b2⟩
   ·rcases Bool.eq_false_or_eq_true (v.name != [])with b2 | b2
    all_goals
     have b3:(v.name == []) = !(v.name != []):=by simp only [bne,Bool.not_not]
     rw [b2]at b3
     repeat' (first
 | simp only [go_sem,hD,hF,hJ,hP,b1,b2,b3,Bool.not_true,Bool.not_false,cU]
 | (with_reducible refine CU (hx _) ?_)
 | (with_reducible refine ay hQ ?_;simp only [az,aB,Option.some.injEq,exists_eq_left',go_sem,hD,hF,hJ,hP];repeat' (first | exact Ok.out | with_reducible refine bO ?_ ?_ | (simp;done))))
    all_goals
     refine bj.mh 3 1 rfl ?_
     simp only [go_sem,hD,hF,hJ,hP]
     refine cV 1 1 (bj.ind (ι:=List Ar×Nat×List aE×Nat) (fun i=>v.args.drop i.2.1=i.1∧Ar.said i.2.2.1 i.1=R∧i.2.2.1.length+Ar.aP i.1≤2000000∧i.2.2.2=i.2.2.1.length) (fun i=>i.1.length)
      (fun i=> [(3, .slice (.tok 0) 1 (i.2.2.1.map encStr)),(1, .ptr 0 0),(25, .slice .shared 6 (v.args.map dG)),(26, .int .i64 (v.args.length:Int)),(27, .int .i64 (i.2.1:Int))]) (fun i=>⟨[bp v],[some i.2.2.2]⟩) ?_ (v.args,0,[],0) ⟨rfl,hG,by simp at tr ⊢;omega,by simp⟩)
     rintro⟨rest,k,out,n'⟩ ⟨h1,h2,h3,h4⟩ IH
     dsimp only at h1 h2 h3 h4
     subst h4
     cases rest with
     | nil=>
      have hD:=drop_nil h1
      simp only [Ar.said]at h2
      subst h2
      repeat' (first
 | simp only [go_sem,hD,hF,hJ,hP]
 | (with_reducible refine ay hQ ?_;simp only [az,aB,Option.some.injEq,exists_eq_left',go_sem,hD,hF,hJ,hP];repeat' (first | exact Ok.out | with_reducible refine bO ?_ ?_ | (simp;done))))
     | cons a rest=>
      obtain⟨hF,g2,hD,g4⟩:=drop_cons h1
      have bm:k<4611686018427387904:=by omega
      simp only [Ar.said]at h2
      simp only [Ar.aP]at h3
      have jT:=fun s=>kJ (x:=a.x) (by have:=Ar.bS (List.mem_of_getElem? hF);omega) (vZ a (List.mem_of_getElem? hF)) s
      have hl:=fp a.x
      have hJ:(out.length+1)*17≤bf:=by unfold bf;omega
      rcases Bool.eq_false_or_eq_true a.ref with b1 | b1
      ·simp only [b1,if_true]at h2
       have cU:=ep (l:=out++ [a.name]) (nx:=a.x.names) (n:=out.length+1) (by simp) (by simp;omega) (g:= .shared)
       simp only [List.map_append,List.map_cons,List.map_nil,encStr]at cU
       repeat' (first
 | simp only [go_sem,hD,hF,hJ,hP,b1,cU]
 | (with_reducible refine CU (jT _) ?_)
 | (with_reducible refine ay hQ ?_;simp only [az,aB,Option.some.injEq,exists_eq_left',go_sem,hD,hF,hJ,hP];repeat' (first | exact Ok.out | with_reducible refine bO ?_ ?_ | (simp;done))))
       refine cd 1 1 ?_ ?_ (IH (rest,k+1,out++ [a.name]++a.x.names,_) ⟨g2,h2,by simp;omega,by simp <;> omega⟩ (Nat.lt_succ_self _))
       ·(simp only [go_sem,hD,hF,hJ,hP,au bm,List.map_append,List.map_cons,List.map_nil,encStr];try exact aZ)
       ·(simp only [go_sem,hD,hF,hJ,hP,au bm,List.map_append,List.map_cons,List.map_nil,encStr];try exact aZ)
      ·simp only [b1,Bool.false_eq_true,if_false]at h2
       have cU:=ep (l:=out) (nx:=a.x.names) rfl (by omega) (g:= .shared)
       repeat' (first
 | simp only [go_sem,hD,hF,hJ,hP,b1,cU]
 | (with_reducible refine CU (jT _) ?_)
 | (with_reducible refine ay hQ ?_;simp only [az,aB,Option.some.injEq,exists_eq_left',go_sem,hD,hF,hJ,hP];repeat' (first | exact Ok.out | with_reducible refine bO ?_ ?_ | (simp;done))))
       refine cd 1 1 ?_ ?_ (IH (rest,k+1,out++a.x.names,_) ⟨g2,h2,by simp;omega,by simp <;> omega⟩ (Nat.lt_succ_self _))
       ·(simp only [go_sem,hD,hF,hJ,hP,au bm];try exact aZ)
       ·(simp only [go_sem,hD,hF,hJ,hP,au bm];try exact aZ)
   ·have b3:(v.name == [])=true:=by simpa using b2
    repeat' (first
 | simp only [go_sem,hD,hF,hJ,hP,b1,b2,b3,cU]
 | (with_reducible refine CU (hx _) ?_)
 | (with_reducible refine ay hQ ?_;simp only [az,aB,Option.some.injEq,exists_eq_left',go_sem,hD,hF,hJ,hP];repeat' (first | exact Ok.out | with_reducible refine bO ?_ ?_ | (simp;done))))
    refine bj.mh 3 1 rfl ?_
    simp only [go_sem,hD,hF,hJ,hP]
    refine cV 1 1 (bj.ind (ι:=List Ar×Nat×List aE×Nat) (fun i=>v.args.drop i.2.1=i.1∧Ar.said i.2.2.1 i.1=R∧i.2.2.1.length+Ar.aP i.1≤2000000∧i.2.2.2=i.2.2.1.length) (fun i=>i.1.length)
     (fun i=> [(3, .slice (.tok 0) 1 (i.2.2.1.map encStr)),(1, .ptr 0 0),(25, .slice .shared 6 (v.args.map dG)),(26, .int .i64 (v.args.length:Int)),(27, .int .i64 (i.2.1:Int))]) (fun i=>⟨[bp v],[some i.2.2.2]⟩) ?_ (v.args,0,[],0) ⟨rfl,hG,by simp at tr ⊢;omega,by simp⟩)
    rintro⟨rest,k,out,n'⟩ ⟨h1,h2,h3,h4⟩ IH
    dsimp only at h1 h2 h3 h4
    subst h4
    cases rest with
    | nil=>
     have hD:=drop_nil h1
     simp only [Ar.said]at h2
     subst h2
     repeat' (first
 | simp only [go_sem,hD,hF,hJ,hP]
 | (with_reducible refine ay hQ ?_;simp only [az,aB,Option.some.injEq,exists_eq_left',go_sem,hD,hF,hJ,hP];repeat' (first | exact Ok.out | with_reducible refine bO ?_ ?_ | (simp;done))))
    | cons a rest=>
     obtain⟨hF,g2,hD,g4⟩:=drop_cons h1
     have bm:k<4611686018427387904:=by omega
     simp only [Ar.said]at h2
     simp only [Ar.aP]at h3
     have jT:=fun s=>kJ (x:=a.x) (by have:=Ar.bS (List.mem_of_getElem? hF);omega) (vZ a (List.mem_of_getElem? hF)) s
     have hl:=fp a.x
     have hJ:(out.length+1)*17≤bf:=by unfold bf;omega
     rcases Bool.eq_false_or_eq_true a.ref with b1 | b1
     ·simp only [b1,if_true]at h2
      have cU:=ep (l:=out++ [a.name]) (nx:=a.x.names) (n:=out.length+1) (by simp) (by simp;omega) (g:= .shared)
      simp only [List.map_append,List.map_cons,List.map_nil,encStr]at cU
      repeat' (first
 | simp only [go_sem,hD,hF,hJ,hP,b1,cU]
 | (with_reducible refine CU (jT _) ?_)
 | (with_reducible refine ay hQ ?_;simp only [az,aB,Option.some.injEq,exists_eq_left',go_sem,hD,hF,hJ,hP];repeat' (first | exact Ok.out | with_reducible refine bO ?_ ?_ | (simp;done))))
      refine cd 1 1 ?_ ?_ (IH (rest,k+1,out++ [a.name]++a.x.names,_) ⟨g2,h2,by simp;omega,by simp <;> omega⟩ (Nat.lt_succ_self _))
      ·(simp only [go_sem,hD,hF,hJ,hP,au bm,List.map_append,List.map_cons,List.map_nil,encStr];try exact aZ)
      ·(simp only [go_sem,hD,hF,hJ,hP,au bm,List.map_append,List.map_cons,List.map_nil,encStr];try exact aZ)
     ·simp only [b1,Bool.false_eq_true,if_false]at h2
      have cU:=ep (l:=out) (nx:=a.x.names) rfl (by omega) (g:= .shared)
      repeat' (first
 | simp only [go_sem,hD,hF,hJ,hP,b1,cU]
 | (with_reducible refine CU (jT _) ?_)
 | (with_reducible refine ay hQ ?_;simp only [az,aB,Option.some.injEq,exists_eq_left',go_sem,hD,hF,hJ,hP];repeat' (first | exact Ok.out | with_reducible refine bO ?_ ?_ | (simp;done))))
      refine cd 1 1 ?_ ?_ (IH (rest,k+1,out++a.x.names,_) ⟨g2,h2,by simp;omega,by simp <;> omega⟩ (Nat.lt_succ_self _))
      ·(simp only [go_sem,hD,hF,hJ,hP,au bm];try exact aZ)
      ·(simp only [go_sem,hD,hF,hJ,hP,au bm];try exact aZ)
  ·have cU : ∀ o:List (List D),gl 1 16 (.slice .full 0 []) (.slice .shared 1 (nx.map encStr)) ⟨o,[]⟩=some (.slice (.tok 0) 1 (nx.map encStr),⟨o,[some nx.length]⟩):=fun o=>by
    have:nx.length*17≤bf:=by unfold bf;omega
    cases nx with
    | nil=>exact absurd rfl w5
    | cons a r=>simp only [List.length_cons]at this;simp [gl,this]
   have HB:(v.kind != 10)=false∨(v.kind != 10)=true∧(v.name != [])=false:=by
    cases h1:(v.kind != 10)
    ·exact .inl rfl
    ·rw [h1]at oh;exact .inr ⟨rfl,by simpa using oh⟩
   rcases HB with b1 | ⟨b1,b2⟩
   ·rcases Bool.eq_false_or_eq_true (v.name != [])with b2 | b2
    all_goals
     have b3:(v.name == []) = !(v.name != []):=by simp only [bne,Bool.not_not]
     rw [b2]at b3
     repeat' (first
 | simp only [go_sem,hD,hF,hJ,hP,b1,b2,b3,Bool.not_true,Bool.not_false,cU]
 | (with_reducible refine CU (hx _) ?_)
 | (with_reducible refine ay hQ ?_;simp only [az,aB,Option.some.injEq,exists_eq_left',go_sem,hD,hF,hJ,hP];repeat' (first | exact Ok.out | with_reducible refine bO ?_ ?_ | (simp;done))))
    all_goals
     refine cV 1 1 (bj.ind (ι:=List Ar×Nat×List aE×Nat) (fun i=>v.args.drop i.2.1=i.1∧Ar.said i.2.2.1 i.1=R∧i.2.2.1.length+Ar.aP i.1≤2000000∧i.2.2.2=i.2.2.1.length) (fun i=>i.1.length)
      (fun i=> [(3, .slice (.tok 0) 1 (i.2.2.1.map encStr)),(1, .ptr 0 0),(25, .slice .shared 6 (v.args.map dG)),(26, .int .i64 (v.args.length:Int)),(27, .int .i64 (i.2.1:Int))]) (fun i=>⟨[bp v],[some i.2.2.2]⟩) ?_ (v.args,0,nx,_) ⟨rfl,hG,by simp at tr ⊢;omega,by simp⟩)
     rintro⟨rest,k,out,n'⟩ ⟨h1,h2,h3,h4⟩ IH
     dsimp only at h1 h2 h3 h4
     subst h4
     cases rest with
     | nil=>
      have hD:=drop_nil h1
      simp only [Ar.said]at h2
      subst h2
      repeat' (first
 | simp only [go_sem,hD,hF,hJ,hP]
 | (with_reducible refine ay hQ ?_;simp only [az,aB,Option.some.injEq,exists_eq_left',go_sem,hD,hF,hJ,hP];repeat' (first | exact Ok.out | with_reducible refine bO ?_ ?_ | (simp;done))))
     | cons a rest=>
      obtain⟨hF,g2,hD,g4⟩:=drop_cons h1
      have bm:k<4611686018427387904:=by omega
      simp only [Ar.said]at h2
      simp only [Ar.aP]at h3
      have jT:=fun s=>kJ (x:=a.x) (by have:=Ar.bS (List.mem_of_getElem? hF);omega) (vZ a (List.mem_of_getElem? hF)) s
      have hl:=fp a.x
      have hJ:(out.length+1)*17≤bf:=by unfold bf;omega
      rcases Bool.eq_false_or_eq_true a.ref with b1 | b1
      ·simp only [b1,if_true]at h2
       have cU:=ep (l:=out++ [a.name]) (nx:=a.x.names) (n:=out.length+1) (by simp) (by simp;omega) (g:= .shared)
       simp only [List.map_append,List.map_cons,List.map_nil,encStr]at cU
       repeat' (first
 | simp only [go_sem,hD,hF,hJ,hP,b1,cU]
 | (with_reducible refine CU (jT _) ?_)
 | (with_reducible refine ay hQ ?_;simp only [az,aB,Option.some.injEq,exists_eq_left',go_sem,hD,hF,hJ,hP];repeat' (first | exact Ok.out | with_reducible refine bO ?_ ?_ | (simp;done))))
       refine cd 1 1 ?_ ?_ (IH (rest,k+1,out++ [a.name]++a.x.names,_) ⟨g2,h2,by simp;omega,by simp <;> omega⟩ (Nat.lt_succ_self _))
       ·(simp only [go_sem,hD,hF,hJ,hP,au bm,List.map_append,List.map_cons,List.map_nil,encStr];try exact aZ)
       ·(simp only [go_sem,hD,hF,hJ,hP,au bm,List.map_append,List.map_cons,List.map_nil,encStr];try exact aZ)
      ·simp only [b1,Bool.false_eq_true,if_false]at h2
       have cU:=ep (l:=out) (nx:=a.x.names) rfl (by omega) (g:= .shared)
       repeat' (first
 | simp only [go_sem,hD,hF,hJ,hP,b1,cU]
 | (with_reducible refine CU (jT _) ?_)
 | (with_reducible refine ay hQ ?_;simp only [az,aB,Option.some.injEq,exists_eq_left',go_sem,hD,hF,hJ,hP];repeat' (first | exact Ok.out | with_reducible refine bO ?_ ?_ | (simp;done))))
       refine cd 1 1 ?_ ?_ (IH (rest,k+1,out++a.x.names,_) ⟨g2,h2,by simp;omega,by simp <;> omega⟩ (Nat.lt_succ_self _))
       ·(simp only [go_sem,hD,hF,hJ,hP,au bm];try exact aZ)
       ·(simp only [go_sem,hD,hF,hJ,hP,au bm];try exact aZ)
   ·have b3:(v.name == [])=true:=by simpa using b2
    repeat' (first
 | simp only [go_sem,hD,hF,hJ,hP,b1,b2,b3,cU]
 | (with_reducible refine CU (hx _) ?_)
 | (with_reducible refine ay hQ ?_;simp only [az,aB,Option.some.injEq,exists_eq_left',go_sem,hD,hF,hJ,hP];repeat' (first | exact Ok.out | with_reducible refine bO ?_ ?_ | (simp;done))))
    refine cV 1 1 (bj.ind (ι:=List Ar×Nat×List aE×Nat) (fun i=>v.args.drop i.2.1=i.1∧Ar.said i.2.2.1 i.1=R∧i.2.2.1.length+Ar.aP i.1≤2000000∧i.2.2.2=i.2.2.1.length) (fun i=>i.1.length)
     (fun i=> [(3, .slice (.tok 0) 1 (i.2.2.1.map encStr)),(1, .ptr 0 0),(25, .slice .shared 6 (v.args.map dG)),(26, .int .i64 (v.args.length:Int)),(27, .int .i64 (i.2.1:Int))]) (fun i=>⟨[bp v],[some i.2.2.2]⟩) ?_ (v.args,0,nx,_) ⟨rfl,hG,by simp at tr ⊢;omega,by simp⟩)
    rintro⟨rest,k,out,n'⟩ ⟨h1,h2,h3,h4⟩ IH
    dsimp only at h1 h2 h3 h4
    subst h4
    cases rest with
    | nil=>
     have hD:=drop_nil h1
     simp only [Ar.said]at h2
     subst h2
     repeat' (first
 | simp only [go_sem,hD,hF,hJ,hP]
 | (with_reducible refine ay hQ ?_;simp only [az,aB,Option.some.injEq,exists_eq_left',go_sem,hD,hF,hJ,hP];repeat' (first | exact Ok.out | with_reducible refine bO ?_ ?_ | (simp;done))))
    | cons a rest=>
     obtain⟨hF,g2,hD,g4⟩:=drop_cons h1
     have bm:k<4611686018427387904:=by omega
     simp only [Ar.said]at h2
     simp only [Ar.aP]at h3
     have jT:=fun s=>kJ (x:=a.x) (by have:=Ar.bS (List.mem_of_getElem? hF);omega) (vZ a (List.mem_of_getElem? hF)) s
     have hl:=fp a.x
     have hJ:(out.length+1)*17≤bf:=by unfold bf;omega
     rcases Bool.eq_false_or_eq_true a.ref with b1 | b1
     ·simp only [b1,if_true]at h2
      have cU:=ep (l:=out++ [a.name]) (nx:=a.x.names) (n:=out.length+1) (by simp) (by simp;omega) (g:= .shared)
      simp only [List.map_append,List.map_cons,List.map_nil,encStr]at cU
      repeat' (first
 | simp only [go_sem,hD,hF,hJ,hP,b1,cU]
 | (with_reducible refine CU (jT _) ?_)
 | (with_reducible refine ay hQ ?_;simp only [az,aB,Option.some.injEq,exists_eq_left',go_sem,hD,hF,hJ,hP];repeat' (first | exact Ok.out | with_reducible refine bO ?_ ?_ | (simp;done))))
      refine cd 1 1 ?_ ?_ (IH (rest,k+1,out++ [a.name]++a.x.names,_) ⟨g2,h2,by simp;omega,by simp <;> omega⟩ (Nat.lt_succ_self _))
      ·(simp only [go_sem,hD,hF,hJ,hP,au bm,List.map_append,List.map_cons,List.map_nil,encStr];try exact aZ)
      ·(simp only [go_sem,hD,hF,hJ,hP,au bm,List.map_append,List.map_cons,List.map_nil,encStr];try exact aZ)
     ·simp only [b1,Bool.false_eq_true,if_false]at h2
      have cU:=ep (l:=out) (nx:=a.x.names) rfl (by omega) (g:= .shared)
      repeat' (first
 | simp only [go_sem,hD,hF,hJ,hP,b1,cU]
 | (with_reducible refine CU (jT _) ?_)
 | (with_reducible refine ay hQ ?_;simp only [az,aB,Option.some.injEq,exists_eq_left',go_sem,hD,hF,hJ,hP];repeat' (first | exact Ok.out | with_reducible refine bO ?_ ?_ | (simp;done))))
      refine cd 1 1 ?_ ?_ (IH (rest,k+1,out++a.x.names,_) ⟨g2,h2,by simp;omega,by simp <;> omega⟩ (Nat.lt_succ_self _))
      ·(simp only [go_sem,hD,hF,hJ,hP,au bm];try exact aZ)
      ·(simp only [go_sem,hD,hF,hJ,hP,au bm];try exact aZ)
end Go.Abs

/-! MayEq2 -/

namespace Go.Abs
theorem iX : ∀ (a b:List It) (n:Nat),It.dK n (a++b)=(It.dK n a && It.dK (n+a.length) b)
 | [],b,n=>by simp [It.dK]
 | i::a,b,n=>by
  simp only [List.cons_append,It.dK,iX a b (n+1),List.length_cons]
  have:n+1+a.length=n+(a.length+1):=by omega
  rw [this]
  split <;> simp
theorem yV (n:Nat) (i:It):It.dK n [i] = true↔i.s.id=((n+1:Nat):Int)∧i.deep≤12∧i.s.one=true:=by
 simp only [It.dK]
 split
 ·rename_i h
  simp only [Bool.or_eq_true,bne_iff_ne,ne_eq,decide_eq_true_eq,Bool.not_eq_true']at h
  refine⟨fun h=>(Bool.false_ne_true h).elim,fun⟨h1,h2,h3⟩=> ?_⟩
  rcases h with (h | h) | h
  ·exact(h h1).elim
  ·omega
  ·rw [h]at h3;cases h3
 ·rename_i h
  simp only [Bool.or_eq_true,bne_iff_ne,ne_eq,decide_eq_true_eq,Bool.not_eq_true',not_or,Decidable.not_not,Bool.not_eq_false]at h
  exact⟨fun _=>⟨h.1.1,by omega,h.2⟩,fun _=>rfl⟩
mutual
theorem v7 (deep bX:Int) (aY:Bool) : ∀ (s:Sm) (out:List It),∃ new,fR deep bX aY out s=out++(⟨s,deep,bX,aY⟩::new)
 | ⟨id,kind,labels,name,proc,x,has,args,bk,e⟩,out=>by
  simp only [fR]
  split
  ·obtain⟨n1,h1⟩:=n4 (deep+1) id false bk (out++ [⟨⟨id,kind,labels,name,proc,x,has,args,bk,e⟩,deep,bX,aY⟩])
   obtain⟨n2,h2⟩:=n4 (deep+1) id true e (cZ (deep+1) id false (out++ [⟨⟨id,kind,labels,name,proc,x,has,args,bk,e⟩,deep,bX,aY⟩]) bk)
   rw [h2,h1]
   exact⟨n1++n2,by simp⟩
  ·exact⟨[],rfl⟩
theorem n4 (deep bX:Int) (aY:Bool) : ∀ (l:List Sm) (out:List It),∃ new,cZ deep bX aY out l=out++new
 | [],out=>⟨[],by simp [cZ]⟩
 | s::l,out=>by
  simp only [cZ]
  split
  ·obtain⟨n1,h1⟩:=v7 deep bX aY s out
   obtain⟨n2,h2⟩:=n4 deep bX aY l (fR deep bX aY out s)
   rw [h2,h1]
   exact⟨⟨s,deep,bX,aY⟩::n1++n2,by simp⟩
  ·exact⟨[],by simp⟩
end
theorem A2 {nest:Int} {n:Nat} {s:Sm} (h:(Sm.ng nest n s).1=true) :
 n+1≤200∧s.id=((n+1:Nat):Int)∧s.one=true∧(Sm.fj (nest+1) (n+1) s.bk).1=true∧(Sm.fj (nest+1) (Sm.fj (nest+1) (n+1) s.bk).2 s.aY).1=true∧
 (Sm.ng nest n s).2=(Sm.fj (nest+1) (Sm.fj (nest+1) (n+1) s.bk).2 s.aY).2:=by
 rw [z8]at h ⊢
 split at h
 ·cases h
 rename_i h1
 simp only [Bool.or_eq_true,bne_iff_ne,ne_eq,decide_eq_true_eq,Bool.not_eq_true',not_or,Decidable.not_not,Bool.not_eq_false]at h1
 split at h
 ·cases h
 rename_i h2
 have pR:(Sm.fj (nest+1) (n+1) s.bk).1=true:=by simpa using h2
 refine⟨by omega,h1.1.1.2, ?_,pR,h, ?_⟩
 ·rw [yU,h1.1.2,h1.2];rfl
 ·rw [if_neg (by simp only [Bool.or_eq_true,bne_iff_ne,ne_eq,decide_eq_true_eq,Bool.not_eq_true',not_or,Decidable.not_not,Bool.not_eq_false];exact h1),if_neg h2]
theorem p8 {nest:Int} {n:Nat} {l:List Sm} (h:(Sm.fj nest n l).1=true):(l = []∨nest≤12)∧Sm.fj nest n l=Sm.dZ nest n l:=by
 unfold Sm.fj gate at *
 split at h
 ·cases h
 ·rename_i hc
  rw [if_neg hc]
  refine⟨?_,rfl⟩
  simp only [Bool.and_eq_true,decide_eq_true_eq,not_and]at hc
  cases l with
  | nil=>exact .inl rfl
  | cons s l=>right;simp only [List.length_cons]at hc;omega
mutual
theorem JN : ∀ (s:Sm) (nest bX:Int) (aY:Bool) (n:Nat) (out:List It),nest≤12→out.length≤n→n≤200→(Sm.ng nest n s).1=true→
 ∃ new,fR nest bX aY out s=out++new∧It.dK n new=true∧n+new.length=(Sm.ng nest n s).2∧(Sm.ng nest n s).2≤200
 | ⟨id,kind,labels,name,proc,x,has,args,bk,e⟩,nest,bX,aY,n,out,JO,ho,hn,h=>by
  obtain⟨h1,h2,h3,h4,h5,h6⟩:=A2 h
  dsimp only at h2 h4 h5 h6
  rw [h6]
  obtain⟨g1,e1⟩:=p8 h4
  rw [e1]at h4 h5 ⊢
  obtain⟨g2,e2⟩:=p8 h5
  rw [e2]at h5 ⊢
  have mz:It.dK n [(⟨⟨id,kind,labels,name,proc,x,has,args,bk,e⟩,nest,bX,aY⟩:It)] = true:=(yV _ _).2 ⟨h2,JO,h3⟩
  obtain⟨n1,k1,k2,k3,k4⟩:=sm bk (nest+1) id false (n+1) (out++ [⟨⟨id,kind,labels,name,proc,x,has,args,bk,e⟩,nest,bX,aY⟩]) g1 (by simp;omega) h1 h4
  obtain⟨n2,j1,j2,j3,j4⟩:=sm e (nest+1) id true _ (out++ [⟨⟨id,kind,labels,name,proc,x,has,args,bk,e⟩,nest,bX,aY⟩]++n1) g2 (by simp;omega) k4 h5
  simp only [fR]
  rw [if_pos (by simpa using JO),k1,j1]
  refine⟨⟨⟨id,kind,labels,name,proc,x,has,args,bk,e⟩,nest,bX,aY⟩::(n1++n2),by simp, ?_, ?_,j4⟩
  ·have:(⟨⟨id,kind,labels,name,proc,x,has,args,bk,e⟩,nest,bX,aY⟩:It)::(n1++n2) = [⟨⟨id,kind,labels,name,proc,x,has,args,bk,e⟩,nest,bX,aY⟩]++n1++n2:=by simp
   rw [this,iX,iX,mz,Bool.true_and]
   have e3:n+([(⟨⟨id,kind,labels,name,proc,x,has,args,bk,e⟩,nest,bX,aY⟩:It)]++n1).length=(Sm.dZ (nest+1) (n+1) bk).2:=by simp;omega
   rw [e3,j2]
   have e4:n + [(⟨⟨id,kind,labels,name,proc,x,has,args,bk,e⟩,nest,bX,aY⟩:It)].length=n+1:=rfl
   rw [e4,k2];rfl
  ·simp only [List.length_cons,List.length_append];omega
theorem sm : ∀ (l:List Sm) (nest bX:Int) (aY:Bool) (n:Nat) (out:List It),(l = []∨nest≤12)→out.length≤n→n≤200→(Sm.dZ nest n l).1=true→
 ∃ new,cZ nest bX aY out l=out++new∧It.dK n new=true∧n+new.length=(Sm.dZ nest n l).2∧(Sm.dZ nest n l).2≤200
 | [],nest,bX,aY,n,out,JO,ho,hn,h=>⟨[],by simp [cZ],rfl,by simp [Sm.dZ],by simpa [Sm.dZ]using hn⟩
 | s::l,nest,bX,aY,n,out,JO,ho,hn,h=>by
  have RZ:nest≤12:=JO.resolve_left (by simp)
  simp only [Sm.dZ]at h ⊢
  split at h
  ·cases h
  rename_i hc
  rw [if_neg hc]
  obtain⟨n1,k1,k2,k3,k4⟩:=JN s nest bX aY n out RZ ho hn (by simpa using hc)
  obtain⟨n2,j1,j2,j3,j4⟩:=sm l nest bX aY _ (out++n1) (.inr RZ) (by simp;omega) k4 h
  simp only [cZ]
  rw [if_pos (by simp only [decide_eq_true_eq];omega),k1,j1]
  refine⟨n1++n2,by simp, ?_,by simp;omega,j4⟩
  rw [iX,k2,k3,j2];rfl
end
mutual
theorem JP : ∀ (s:Sm) (nest bX:Int) (aY:Bool) (n:Nat) (out new:List It),fR nest bX aY out s=out++new→It.dK n new=true→out.length≤n→n+new.length≤200→
 Sm.ng nest n s=(true,n+new.length)∧nest≤12
 | ⟨id,kind,labels,name,proc,x,has,args,bk,e⟩,nest,bX,aY,n,out,new,kd,hm,ho,hn=>by
  obtain⟨n0,h0⟩:=v7 nest bX aY ⟨id,kind,labels,name,proc,x,has,args,bk,e⟩ out
  have e0:new = ⟨⟨id,kind,labels,name,proc,x,has,args,bk,e⟩,nest,bX,aY⟩::n0:=List.append_cancel_left (kd.symm.trans h0)
  subst e0
  have Va:(⟨⟨id,kind,labels,name,proc,x,has,args,bk,e⟩,nest,bX,aY⟩:It)::n0 = [⟨⟨id,kind,labels,name,proc,x,has,args,bk,e⟩,nest,bX,aY⟩]++n0:=rfl
  rw [Va,iX,Bool.and_eq_true]at hm
  obtain⟨Dv,hm2⟩:=hm
  obtain⟨c1,c2,c3⟩:=(yV _ _).1 Dv
  dsimp only at c1 c2 c3
  simp only [List.length_cons]at hn ⊢
  have Ms:cZ (nest+1) id true (cZ (nest+1) id false (out++ [⟨⟨id,kind,labels,name,proc,x,has,args,bk,e⟩,nest,bX,aY⟩]) bk) e=out++([⟨⟨id,kind,labels,name,proc,x,has,args,bk,e⟩,nest,bX,aY⟩]++n0):=by
   simp only [fR]at kd
   rw [if_pos (by simpa using c2)]at kd
   exact kd
  obtain⟨n1,g1⟩:=n4 (nest+1) id false bk (out++ [⟨⟨id,kind,labels,name,proc,x,has,args,bk,e⟩,nest,bX,aY⟩])
  obtain⟨n2,g2⟩:=n4 (nest+1) id true e (cZ (nest+1) id false (out++ [⟨⟨id,kind,labels,name,proc,x,has,args,bk,e⟩,nest,bX,aY⟩]) bk)
  have en:n0=n1++n2:=by
   rw [g2,g1]at Ms
   simp only [List.append_assoc,List.append_cancel_left_eq]at Ms
   exact Ms.symm
  subst en
  have Mt:It.dK (n+1) (n1++n2)=true:=hm2
  rw [iX,Bool.and_eq_true]at Mt
  simp only [List.length_append]at hn ⊢
  obtain⟨r1,r2⟩:=sn bk (nest+1) id false (n+1) _ n1 g1 Mt.1 (by simp;omega) (by omega)
  obtain⟨q1,q2⟩:=sn e (nest+1) id true (n+1+n1.length) _ n2 g2 Mt.2 (by rw [g1];simp;omega) (by omega)
  refine⟨?_,c2⟩
  have gg : ∀ {l:List Sm} {m:Nat} {r:Bool×Nat},Sm.dZ (nest+1) m l=r→(l = []∨nest+1≤12)→Sm.fj (nest+1) m l=r:=by
   intro l m r h1 h2
   unfold Sm.fj gate
   rw [if_neg]
   ·exact h1
   ·simp only [Bool.and_eq_true,decide_eq_true_eq,not_and]
    rcases h2 with h2 | h2
    ·subst h2;simp
    ·omega
  have t1:=gg r1 r2
  have t2:=gg q1 q2
  rw [z8]
  dsimp only
  rw [t1]
  dsimp only
  rw [t2]
  rw [yU,Bool.and_eq_true]at c3
  rw [if_neg]
  ·simp;omega
  ·simp only [Bool.or_eq_true,bne_iff_ne,ne_eq,decide_eq_true_eq,Bool.not_eq_true',not_or,Decidable.not_not,Bool.not_eq_false]
   exact⟨⟨⟨by omega,c1⟩,c3.1⟩,c3.2⟩
theorem sn : ∀ (l:List Sm) (nest bX:Int) (aY:Bool) (n:Nat) (out new:List It),cZ nest bX aY out l=out++new→It.dK n new=true→out.length≤n→n+new.length≤200→
 Sm.dZ nest n l=(true,n+new.length)∧(l = []∨nest≤12)
 | [],nest,bX,aY,n,out,new,kd,hm,ho,hn=>by
  simp only [cZ]at kd
  have:new = []:=by simpa using kd
  subst this
  exact⟨by simp [Sm.dZ], .inl rfl⟩
 | s::l,nest,bX,aY,n,out,new,kd,hm,ho,hn=>by
  simp only [cZ]at kd
  rw [if_pos (by simp only [decide_eq_true_eq];omega)]at kd
  obtain⟨n1,g1⟩:=v7 nest bX aY s out
  obtain⟨n2,g2⟩:=n4 nest bX aY l (fR nest bX aY out s)
  have en:new=(⟨s,nest,bX,aY⟩::n1)++n2:=by
   rw [g2,g1,List.append_assoc,List.append_cancel_left_eq]at kd
   exact kd.symm
  subst en
  rw [iX,Bool.and_eq_true]at hm
  rw [List.length_append]at hn ⊢
  obtain⟨r1,r2⟩:=JP s nest bX aY n out _ g1 hm.1 ho (by omega)
  obtain⟨q1,q2⟩:=sn l nest bX aY (n+(⟨s,nest,bX,aY⟩::n1:List It).length) _ n2 g2 hm.2 (by rw [g1,List.length_append];omega) (by omega)
  refine⟨?_, .inr r2⟩
  simp only [Sm.dZ,r1,Bool.not_true,Bool.false_eq_true, ↓reduceIte,q1]
  congr 1;omega
end
theorem v8 : ∀ (l:List Pc) (out:List It),out.length≤200→(Pc.dZ out.length l=true↔Pc.jQ l=true∧∃ new,allM out l=out++new∧(out++new).length≤200∧It.dK out.length new=true)
 | [],out,ho=>by simp [Pc.dZ,Pc.jQ,allM,It.dK];exact ho
 | f::l,out,ho=>by
  have Mu : ∀ (l:List Pc) (out:List It),∃ new,allM out l=out++new:=by
   intro l
   induction l with
   | nil=>intro out;exact⟨[],by simp [allM]⟩
   | cons f l ih=>
    intro out
    simp only [allM]
    split
    ·exact⟨_,rfl⟩
    ·obtain⟨n1,h1⟩:=ih (out++f.flat)
     exact⟨f.flat++n1,by rw [h1,List.append_assoc]⟩
  simp only [Pc.dZ,Pc.jQ]
  have Vb:(decide ((f.params.length:Int) > 8) || decide ((f.vars.length:Int) > 16) || !(isName f.name) || !(dg f.vars) || !(dg f.fin))=(!(isName f.name) || decide ((f.params.length:Int) > 8) || decide ((f.vars.length:Int) > 16) || !(dg f.vars) || !(dg f.fin)):=by
   cases isName f.name <;> simp
  rw [Vb]
  split
  ·simp
  split
  ·simp
  have hg:Sm.fj 1 out.length f.body=Sm.dZ 1 out.length f.body:=by unfold Sm.fj gate;rw [if_neg (by simp)]
  rw [hg]
  constructor
  ·intro h
   split at h
   ·cases h
   rename_i hc
   obtain⟨n1,k1,k2,k3,k4⟩:=sm f.body 1 0 false out.length [] (.inr (by omega)) (by simp) ho (by simpa using hc)
   have kd:f.flat=n1:=by unfold Pc.flat;rw [k1];rfl
   rw [← k3, ← List.length_append]at h
   obtain⟨hh,n2,j1,j2,j3⟩:=(v8 l (out++n1) (by rw [List.length_append];omega)).1 h
   refine⟨hh,n1++n2, ?_,by simpa using j2, ?_⟩
   ·simp only [allM,kd]
    rw [if_neg (by simp only [List.length_append,decide_eq_true_eq];omega),j1,List.append_assoc]
   ·rw [iX,k2, ← List.length_append,j3];rfl
  ·rintro⟨hh,new,j1,j2,j3⟩
   simp only [allM]at j1
   split at j1
   ·rename_i hc
    have:new=f.flat:=(List.append_cancel_left j1).symm
    subst this
    simp only [decide_eq_true_eq]at hc
    omega
   rename_i hc
   simp only [decide_eq_true_eq]at hc
   obtain⟨n2,g2⟩:=Mu l (out++f.flat)
   have en:new=f.flat++n2:=by
    rw [g2,List.append_assoc]at j1
    exact(List.append_cancel_left j1).symm
   subst en
   rw [iX,Bool.and_eq_true]at j3
   rw [List.length_append,List.length_append]at j2
   obtain⟨r1,_⟩:=sn f.body 1 0 false out.length [] f.flat (by unfold Pc.flat;rfl) j3.1 (by simp) (by omega)
   rw [r1]
   simp only [Bool.not_true,Bool.false_eq_true, ↓reduceIte]
   rw [← List.length_append]
   exact(v8 l (out++f.flat) (by rw [List.length_append];omega)).2 ⟨hh,n2,g2,by simp;omega,by rw [List.length_append];exact j3.2⟩
theorem E1 (p:Pg):p.Ab=p.may:=by
 have h:=v8 p.procs [] (by simp)
 unfold Pg.Ab Pg.may
 split
 ·rfl
 ·have e:Pc.dZ 0 p.procs=(if !(Pc.jQ p.procs)then false else if decide ((p.all.length:Int) > 200)then false else It.dK 0 p.all):=by
   rw [Bool.eq_iff_iff]
   have h':Pc.dZ 0 p.procs=true↔_:=h
   rw [h']
   have ha:p.all=allM [] p.procs:=rfl
   constructor
   ·rintro⟨h1,new,h2,h3,h4⟩
    rw [ha,h2,h1]
    simp only [List.nil_append]at h3 ⊢
    simp only [Bool.not_true,Bool.false_eq_true, ↓reduceIte]
    rw [if_neg (by simp only [decide_eq_true_eq];omega)]
    exact h4
   ·intro h1
    cases hh:Pc.jQ p.procs
    ·rw [hh]at h1;simp at h1
    ·rw [hh]at h1
     simp only [Bool.not_true,Bool.false_eq_true, ↓reduceIte]at h1
     split at h1
     ·cases h1
     ·rename_i hc
      simp only [decide_eq_true_eq]at hc
      exact⟨rfl,p.all,by rw [ha];rfl,by simp;omega,h1⟩
  exact e
end Go.Abs

/-! Tree1 -/

namespace Go.Abs
set_option maxRecDepth 8000
open Go.Proofs
end Go.Abs

/-! Tree2 -/

namespace Go.Abs
set_option maxRecDepth 8000
open Go.Proofs
abbrev aha (b:Bool) (N:Nat):Prop:=∀ l:List Sm,Sm.aP l<N→∀ n:Nat,n+Sm.aP l<1073741824→∀ s:St,
 aA Tryz.prog Bt [.slice .shared 13 (l.map bp), .int .i64 (n:Int), .bool b] s (.tuple [.slice .shared 13 ((Sm.oo b n l).1.map bp), .int .i64 ((Sm.oo b n l).2:Int)]) s
end Go.Abs

/-! Sc1 -/

namespace Go.Abs
set_option maxRecDepth 8000
open Go.Proofs
def xN (x:aE):List aE→Bool
 | []=>false
 | s::l=>if x==s then true else xN x l
theorem Dw (x:aE) : ∀ l:List aE,xN x l=dV l x
 | []=>rfl
 | s::l=>by
  have h1:=ju (s::l) x
  have h2:=ju l x
  have h3:=Dw x l
  simp only [xN]
  by_cases e:x=s
  ·subst e;simp only [beq_self_eq_true,if_true];exact(h1.2 List.mem_cons_self).symm
  ·have e':(x==s)=false:=by simp [e]
   simp only [e',Bool.false_eq_true,if_false,h3]
   cases ha:dV l x <;> cases hb:dV (s::l) x <;> simp_all
def wa (pre:List aE):List aE→Bool
 | []=>false
 | s::l=>if dV pre s then true else wa (pre++ [s]) l
def er (l:List aE):Bool:=wa [] l
theorem A3 {l:List aE} {k:Nat} {a:aE} (h:l[k]? = some a):l.take (k+1)=l.take k++ [a]:=by rw [List.take_add_one,h];rfl
theorem xO {l:List aE} (hl:l.length<4611686018427387904) (x:aE) (g:Tag) (s:St):aA Tryz.prog kR [.slice g 1 (l.map encStr), .str x] s (.bool (dV l x)) s:=by
 refine aA.Dl (d':= .slice .shared 1 (l.map encStr)) ?_ (Wk.shared _ _ _)
 refine aA.pure ?_ (by simp [D.bN,D.ok,Tag.ok,dk]) rfl s
 rw [← vX]
 generalize h:oH x l=p
 unfold S0
 refine aA.go Er rfl fun B Q hB hQ=> ?_
 have⟨hD,hF,hJ,hP⟩:=bI
 repeat' (first
 | simp only [go_sem,hD,hF,hJ,hP]
 | (with_reducible first | refine aJ fun hc=> ?_ | refine aK fun hc=> ?_ | refine aL (fun hc=> ?_) fun hc=> ?_) <;> (try simp only [hc,bs, ↓reduceIte]at h) <;> try simp only [hc]
 | (with_reducible refine ay hQ ?_;exact bT)
 | (cases h;done))
 refine cV 0 0 (bj.ind (ι:=List aE×Nat) (fun i=>l.drop i.2=i.1∧oH x i.1=p) (fun i=>i.1.length)
  (fun i=> [(0, .slice .shared 1 (l.map encStr)),(1, .str x),(7, .int .i64 (l.length:Int)),(8, .int .i64 (i.2:Int))]) (fun i=>⟨[],[]⟩) ?_ (l,0) ⟨rfl,h⟩)
 rintro⟨rest,k⟩ ⟨h1,h⟩ IH
 dsimp only at h1 h
 cases rest with
 | nil=>
  have hD:=drop_nil h1
  simp only [oH]at h
  repeat' (first
 | simp only [go_sem,hD,hF,hJ,hP]
 | (with_reducible first | refine aJ fun hc=> ?_ | refine aK fun hc=> ?_ | refine aL (fun hc=> ?_) fun hc=> ?_) <;> (try simp only [hc,bs, ↓reduceIte]at h) <;> try simp only [hc]
 | (with_reducible refine ay hQ ?_;exact bT)
 | (cases h;done))
 | cons a rest=>
  obtain⟨hF,g2,hD,g4⟩:=drop_cons h1
  have bm:k<4611686018427387904:=by omega
  simp only [oH]at h
  repeat' (first
 | simp only [go_sem,hD,hF,hJ,hP]
 | (with_reducible first | refine aJ fun hc=> ?_ | refine aK fun hc=> ?_ | refine aL (fun hc=> ?_) fun hc=> ?_) <;> (try simp only [hc,bs, ↓reduceIte]at h) <;> try simp only [hc]
 | (with_reducible refine ay hQ ?_;exact bT)
 | (cases h;done))
  refine cd 0 0 ?_ ?_ (IH (rest,k+1) ⟨g2,h⟩ (Nat.lt_succ_self _))
  ·(simp only [go_sem,hD,hF,hJ,hP,au bm];try exact aZ)
  ·(simp only [go_sem,hD,hF,hJ,hP,au bm];try exact aZ)
theorem xP {l:List aE} (hl:l.length<4611686018427387904) (g:Tag) (s:St):aA Tryz.prog ln [.slice g 1 (l.map encStr)] s (.bool (er l)) s:=by
 refine aA.Dl (d':= .slice .shared 1 (l.map encStr)) ?_ (Wk.shared _ _ _)
 refine aA.pure ?_ (by simp [D.bN,D.ok,Tag.ok,dk]) rfl s
 generalize h:er l=p
 simp only [er]at h
 unfold S0
 refine aA.go yD rfl fun B Q hB hQ=> ?_
 have⟨hD,hF,hJ,hP⟩:=bI
 repeat' (first
 | simp only [go_sem,hD,hF,hJ,hP]
 | (with_reducible first | refine aJ fun hc=> ?_ | refine aK fun hc=> ?_ | refine aL (fun hc=> ?_) fun hc=> ?_) <;> (try simp only [hc,bs, ↓reduceIte]at h) <;> try simp only [hc]
 | (with_reducible refine ay hQ ?_;exact bT)
 | (cases h;done))
 refine cV 0 0 (bj.ind (ι:=List aE×Nat) (fun i=>l.drop i.2=i.1∧wa (l.take i.2) i.1=p) (fun i=>i.1.length)
  (fun i=> [(0, .slice .shared 1 (l.map encStr)),(5, .slice .shared 1 (l.map encStr)),(6, .int .i64 (l.length:Int)),(7, .int .i64 (i.2:Int))]) (fun i=>⟨[],[]⟩) ?_ (l,0) ⟨rfl,h⟩)
 rintro⟨rest,k⟩ ⟨h1,h⟩ IH
 dsimp only at h1 h
 cases rest with
 | nil=>
  have hD:=drop_nil h1
  simp only [wa]at h
  repeat' (first
 | simp only [go_sem,hD,hF,hJ,hP]
 | (with_reducible first | refine aJ fun hc=> ?_ | refine aK fun hc=> ?_ | refine aL (fun hc=> ?_) fun hc=> ?_) <;> (try simp only [hc,bs, ↓reduceIte]at h) <;> try simp only [hc]
 | (with_reducible refine ay hQ ?_;exact bT)
 | (cases h;done))
 | cons a rest=>
  obtain⟨hF,g2,hD,g4⟩:=drop_cons h1
  have bm:k<4611686018427387904:=by omega
  simp only [wa]at h
  have hc:=iV (l:=l.take k) (by rw [List.length_take];omega) a
  have e1:List.drop 0 (List.take k (l.map encStr))=(l.take k).map encStr:=by simp [List.map_take]
  have c1:((0:Int)≤(k:Int))=True:=by simp
  have c2:((k:Int)≤(l.length:Int))=True:=by simp only [eq_iff_iff,iff_true];omega
  have e2:List.take k (l.map encStr)=(l.take k).map encStr:=by simp [List.map_take]
  repeat' (first
 | simp only [go_sem,hD,hF,hJ,hP,e1,e2,c1,c2,or_true,true_and,and_self,ite_self,Int.toNat_natCast,List.drop_zero]
 | (with_reducible refine CU (hc _ _) ?_)
 | (with_reducible first | refine aJ fun hc=> ?_ | refine aK fun hc=> ?_ | refine aL (fun hc=> ?_) fun hc=> ?_) <;> (try simp only [hc,bs, ↓reduceIte]at h) <;> try simp only [hc]
 | (with_reducible refine ay hQ ?_;(try cases h);simp only [az,aB,bc,bd,go_sem,hD,hF,hJ,hP,e1,e2,c1,c2,or_true,true_and,and_self,ite_self,Int.toNat_natCast,List.drop_zero];try exact br)
 | (cases h;done))
  refine cd 0 0 ?_ ?_ (IH (rest,k+1) ⟨g2,by dsimp only;rw [A3 (by assumption)];exact h⟩ (Nat.lt_succ_self _))
  ·(simp only [go_sem,hD,hF,hJ,hP,au bm];try exact aZ)
  ·(simp only [go_sem,hD,hF,hJ,hP,au bm];try exact aZ)
theorem xQ {l:List aE} (hl:l.length<4611686018427387904) (g:Tag) (s:St):aA Tryz.prog kC [.slice g 1 (l.map encStr)] s (.bool (er l)) s:=by
 refine aA.Dl (d':= .slice .shared 1 (l.map encStr)) ?_ (Wk.shared _ _ _)
 refine aA.pure ?_ (by simp [D.bN,D.ok,Tag.ok,dk]) rfl s
 generalize h:er l=p
 simp only [er]at h
 unfold S0
 refine aA.go zM rfl fun B Q hB hQ=> ?_
 have⟨hD,hF,hJ,hP⟩:=bI
 repeat' (first
 | simp only [go_sem,hD,hF,hJ,hP]
 | (with_reducible first | refine aJ fun hc=> ?_ | refine aK fun hc=> ?_ | refine aL (fun hc=> ?_) fun hc=> ?_) <;> (try simp only [hc,bs, ↓reduceIte]at h) <;> try simp only [hc]
 | (with_reducible refine ay hQ ?_;exact bT)
 | (cases h;done))
 refine cV 0 0 (bj.ind (ι:=List aE×Nat) (fun i=>l.drop i.2=i.1∧wa (l.take i.2) i.1=p) (fun i=>i.1.length)
  (fun i=> [(0, .slice .shared 1 (l.map encStr)),(6, .int .i64 (l.length:Int)),(7, .int .i64 (i.2:Int))]) (fun i=>⟨[],[]⟩) ?_ (l,0) ⟨rfl,h⟩)
 rintro⟨rest,k⟩ ⟨h1,h⟩ IH
 dsimp only at h1 h
 cases rest with
 | nil=>
  have hD:=drop_nil h1
  simp only [wa]at h
  repeat' (first
 | simp only [go_sem,hD,hF,hJ,hP]
 | (with_reducible first | refine aJ fun hc=> ?_ | refine aK fun hc=> ?_ | refine aL (fun hc=> ?_) fun hc=> ?_) <;> (try simp only [hc,bs, ↓reduceIte]at h) <;> try simp only [hc]
 | (with_reducible refine ay hQ ?_;exact bT)
 | (cases h;done))
 | cons a rest=>
  obtain⟨hF,g2,hD,g4⟩:=drop_cons h1
  have bm:k<4611686018427387904:=by omega
  have JQ:=hF
  simp only [wa]at h
  repeat' (first
 | simp only [go_sem,hD,hF,hJ,hP]
 | (with_reducible first | refine aJ fun hc=> ?_ | refine aK fun hc=> ?_ | refine aL (fun hc=> ?_) fun hc=> ?_) <;> (try simp only [hc,bs, ↓reduceIte]at h) <;> try simp only [hc]
 | (with_reducible refine ay hQ ?_;exact bT)
 | (cases h;done))
  obtain⟨q,hq⟩ : ∃ q,xN a (l.take k)=q:=⟨_,rfl⟩
  rw [← Dw,hq]at h
  refine cV 0 0 (bj.ind (ι:=List aE×Nat) (fun i=>(l.take k).drop i.2=i.1∧xN a i.1=q∧i.2≤k) (fun i=>i.1.length)
   (fun i=> [(0, .slice .shared 1 (l.map encStr)),(3, .int .i64 (k:Int)),(4, .int .i64 (i.2:Int)),(6, .int .i64 (l.length:Int)),(7, .int .i64 (k:Int))]) (fun i=>⟨[],[]⟩) ?_ (l.take k,0) ⟨rfl,hq,Nat.zero_le _⟩)
  rintro⟨nK,j⟩ ⟨j1,j2,j3⟩ lW
  dsimp only at j1 j2 j3
  cases nK with
  | nil=>
   have hj:j=k:=by have:=List.drop_eq_nil_iff.1 j1;rw [List.length_take]at this;omega
   subst hj
   simp only [xN]at j2
   subst j2
   simp only [Bool.false_eq_true,if_false]at h
   repeat' (first
 | simp only [go_sem,hD,hF,hJ,hP,Int.lt_irrefl,decide_false]
 | (with_reducible first | refine aJ fun hc=> ?_ | refine aK fun hc=> ?_ | refine aL (fun hc=> ?_) fun hc=> ?_) <;> (try simp only [hc,bs, ↓reduceIte]at h) <;> try simp only [hc]
 | (with_reducible refine ay hQ ?_;(try cases h);simp only [az,aB,bc,bd,go_sem,hD,hF,hJ,hP,Int.lt_irrefl,decide_false];try exact br)
 | (cases h;done))
   refine cd 0 0 ?_ ?_ (IH (rest,j+1) ⟨g2,by dsimp only;rw [A3 JQ];exact h⟩ (Nat.lt_succ_self _))
   ·(simp only [go_sem,hD,hF,hJ,hP,au bm];try exact aZ)
   ·(simp only [go_sem,hD,hF,hJ,hP,au bm];try exact aZ)
  | cons b nK=>
   obtain⟨dN,kg,fK,yW⟩:=drop_cons j1
   have V7:j<k:=by rw [List.length_take]at yW;omega
   have fB:j<4611686018427387904:=by omega
   have xb:l[j]? = some b:=by rw [List.getElem?_take]at dN;simpa [V7]using dN
   have Oe:decide ((j:Int)<(k:Int))=true:=by simp;omega
   have hF':=xb
   simp only [xN]at j2
   cases vU:(a==b)
   ·simp only [vU,Bool.false_eq_true,if_false]at j2
    repeat' (first
 | simp only [go_sem,hD,hF,hJ,hP,Oe,xb,JQ,vU]
 | (with_reducible first | refine aJ fun hc=> ?_ | refine aK fun hc=> ?_ | refine aL (fun hc=> ?_) fun hc=> ?_) <;> (try simp only [hc,bs, ↓reduceIte]at h) <;> try simp only [hc]
 | (with_reducible refine ay hQ ?_;(try cases h);simp only [az,aB,bc,bd,go_sem,hD,hF,hJ,hP,Oe,xb,JQ,vU];try exact br)
 | (cases h;done))
    refine cd 0 0 ?_ ?_ (lW (nK,j+1) ⟨kg,j2,V7⟩ (Nat.lt_succ_self _))
    ·(simp only [go_sem,hD,hF,hJ,hP,au fB];try exact aZ)
    ·(simp only [go_sem,hD,hF,hJ,hP,au fB];try exact aZ)
   ·simp only [vU,if_true]at j2
    subst j2
    simp only [if_true]at h
    repeat' (first
 | simp only [go_sem,hD,hF,hJ,hP,Oe,xb,JQ,vU]
 | (with_reducible first | refine aJ fun hc=> ?_ | refine aK fun hc=> ?_ | refine aL (fun hc=> ?_) fun hc=> ?_) <;> (try simp only [hc,bs, ↓reduceIte]at h) <;> try simp only [hc]
 | (with_reducible refine ay hQ ?_;(try cases h);simp only [az,aB,bc,bd,go_sem,hD,hF,hJ,hP,Oe,xb,JQ,vU];try exact br)
 | (cases h;done))
end Go.Abs
