/-
  What is proved here: part 4 of the road to the claim (WpA, Cp3, Nb1, Nb2, Nb3, Nb4, Jm1, Jm2, Jm3, Rj1, Ck1, LsP, Lend, Sym, MirRun, RunTot, RunFu, RunOk, RunLo, RunNm, RunMc, RunI, Ev1, Ev2, RunC0, RunC1, RunC2, RunC3, RunC4, RunC5, RunC6, RunC7, RunSt, RunSz, RunC8).
  No conditions.
-/
import Derived.Test.YtpjadlleefgcpabGreatRnL3

set_option linter.unusedSimpArgs false
set_option linter.unusedVariables false
namespace Go.Abs
section
variable (s:St) (o g off len k z size bytes:Nat) (kk:IntKind)
theorem ak9:lQ s o g=match s.ah[o]? with|some (.int .i64 n::cells)=>if n=(g:Int)then some cells else none|_=>none:=nd rfl
theorem ahM (agg:Bool):Bb (.fU o g off) agg size s=match lQ s o g with|some cells=>(match part cells off agg size with|some d=>some (d,s)|none=>none)|none=>none:=nd rfl
theorem adK (r:List D):CM (.fU o g off) (some r) size s=match lQ s o g with
 |some cells=>if r.length=size∧off+size≤cells.length then some (.tuple [],⟨s.ah.set o (.int .i64 g::fP cells off r),s.ay⟩)else none
 |none=>none:=nd rfl
theorem ala:QJ (.fU o g off)=some (.fU o g off):=nd rfl
theorem adL:Gt (.fU o g k) off=some (.fU o g (k+off)):=nd rfl
theorem adM:z8 (.dD z o g len) (.int kk (k:Int)) size=if k<len then(if z=size then some (.fU o g (k*z))else none)else none:=by
 simp only[z8]
 by_cases h1:k<len<;>by_cases h2:z=size<;>simp[h1,h2]
theorem alb:Ih (.dD z o g len)=some (.int .i64 len):=nd rfl
theorem ahN:Ih (.eW z)=some (.int .i64 0):=nd rfl
theorem adN {s:St} {o g len z bytes:Nat} {t:Tag} {cells r:List D} (hs:s.ah[o]? = some (.int .i64 (g:Int)::cells)) (hl:cells.length=len*z) (hm:(len+1)*(bytes+1)≤bp) :
 zb z bytes (.dD z o g len) (.slice t z [r]) s=some (.dD z o (g+1) (len+1),⟨s.ah.set o (.int .i64 ((g+1:Nat):Int)::(cells++r)),s.ay⟩):=by
 have ha:lQ s o g=some cells:=by unfold lQ;rw[hs];simp
 simp only[zb,ha,List.length_singleton,hm,hl,or_true,and_self,if_true,Nat.le_refl,List.flatten_cons,List.flatten_nil,List.append_nil]
 rw[List.take_of_length_le (by omega)]
theorem F9 {z bytes:Nat} (t:Tag) (r:List D) (s:St) (hm:bytes+1≤bp):zb z bytes (.eW z) (.slice t z [r]) s=some (.dD z s.ah.length 0 1,⟨s.ah++ [.int .i64 ((0:Nat):Int)::r],s.ay⟩):=by
 simp[zb,hm]
theorem alc (n m:Nat):D.fg n m (.dD z o g len)=if o<n then .dD z o g len else .junk:=nd (by simp only[D.fg])
theorem ald (n m:Nat):D.fg n m (.fU o g off)=if o<n then .fU o g off else .junk:=nd (by simp only[D.fg])
theorem ale (n m:Nat):D.fg n m (.eW z) = .eW z:=nd (by simp only[D.fg])
theorem ahO:(D.dD z o g len).row=some [.dD z o g len]:=nd rfl
theorem ahP:(D.fU o g off).row=some [.fU o g off]:=nd rfl
theorem ahQ:(D.eW z).row=some [.eW z]:=nd rfl
end
attribute [go_sem] ak9 ahM adK ala adL adM alb ahN alc ald ale ahO ahP ahQ
theorem Wk.eW (z z':Nat):Wk (.slice .full z []) (.eW z'):=fun M s v h=>by
 cases h with
 |jy _ _ cap hc ht=>subst hc;exact .eW z' none
 |slice _ _ _ b k cap hl hs h1 h2 ht=>
  have:cap=0:=ht
  subst this
  exact .eW z' _
instance (z z':Nat):Ok (Wk (.slice .full z []) (.eW z')):=⟨Wk.eW z z'⟩
instance {a a' b b':List D} [Ok (j9 a a')] [Ok (j9 b b')] : Ok (j9 (a++b) (a'++b')):=⟨j9.append Ok.out Ok.out⟩
theorem alf (n m:Nat) (a b:List D):D.gT n m (a++b)=D.gT n m a++D.gT n m b:=nd (by simp only[lM,List.map_append])
attribute [go_sem] alf
theorem xO {α:Type} (f:α→List D) (n:Nat) (h : ∀ a,(f a).length=n) : ∀ l:List α,((l.map f).flatten).length=l.length*n
 | []=>by simp
 |a::l=>by simp[h a,xO f n h l,Nat.add_mul,Nat.add_comm]
theorem TB {α:Type} (f:α→List D) (n:Nat) (h : ∀ a,(f a).length=n) (a b:List α) (x y:α) (k:Nat) (r:List D) (hy:f y=fP (f x) k r) (hk:k+r.length≤n) :
 fP (((a++x::b).map f).flatten) (a.length*n+k) r=((a++y::b).map f).flatten:=by
 have s6:=xO f n h a
 have hx:=h x
 unfold fP
 simp only[List.map_append,List.map_cons,List.flatten_append,List.flatten_cons,hy]
 unfold fP
 have e1:((a.map f).flatten++(f x++(b.map f).flatten)).take (a.length*n+k)=(a.map f).flatten++(f x).take k:=by
  rw[List.take_append,s6,List.take_of_length_le (by omega),show a.length*n+k - a.length*n=k by omega,List.take_append_of_le_length (by omega)]
 have e2:((a.map f).flatten++(f x++(b.map f).flatten)).drop (a.length*n+k+r.length)=(f x).drop (k+r.length)++(b.map f).flatten:=by
  rw[List.drop_append,s6,List.drop_eq_nil_of_le (by omega),show a.length*n+k+r.length - a.length*n=k+r.length by omega,List.drop_append_of_le_length (by omega)]
  simp
 rw[e1,e2]
 simp only[List.append_assoc]
def xP (os:List Nat) (m:Nat) (ah:List (List D)):List Nat→List (List D)→Prop
 | [],[]=>True
 |o::l,ds::r=>ah[o]? = some (D.eQ os (List.range m) ds)∧D.bK os.length m ds=true∧xP os m ah l r
 |_,_=>False
theorem xP.get {os:List Nat} {m:Nat} {ah:List (List D)} : ∀ {l:List Nat} {r:List (List D)},xP os m ah l r→r.length=l.length∧∀ (i o:Nat) (ds:List D),l[i]? = some o→r[i]? = some ds→ah[o]? = some (D.eQ os (List.range m) ds)∧D.bK os.length m ds=true
 | [],[],_=>⟨rfl,fun i o ds h=>by simp at h⟩
 |o::l,ds::r,⟨h1,h2,h3⟩=>by
  obtain⟨g1,g2⟩:=h3.get
  refine⟨by simp[g1],fun i o' oN e1 e2=>?_⟩
  cases i with
  |zero=>simp at e1 e2;subst e1 e2;exact⟨h1,h2⟩
  |succ i=>exact g2 i o' oN (by simpa using e1) (by simpa using e2)
 | [],_::_,h=>h.elim
 |_::_,[],h=>h.elim
section
variable {P:Program} {B:gN} {nt:Nat} {a:AC} {Q:Exit→Tm→St→Prop} {tm:Tm} {s:St}
theorem bl.TC (hB:B.s = ⟨[],[]⟩) (os:List Nat) (ff:List (List D)) (bH:Tm) (tY:os.Nodup) (jS : ∀ o∈os,o<s.ah.length) (qj:xP os s.ay.length s.ah os ff) (WM:AX os (List.range s.ay.length) tm bH)
 (h:bl P B nt a Q bH ⟨ff,s.ay⟩):bl P B nt a Q tm s:=
 bl.AY os ff bH tY jS (by rw[hB];exact Nat.zero_le _) (fun i h=>by rw[hB]at h;exact absurd h (Nat.not_lt_zero _)) (fun i o _ _=>by rw[hB];exact Nat.zero_le _) qj.get.1 qj.get.2 WM h
end
section
variable (os ts:List Nat) (n m:Nat)
theorem alg (o off:Nat):D.cJ os ts (.ptr o off)=match os[o]? with|some o'=> .ptr o' off|none=> .junk:=nd (by simp only[D.cJ]<;>rfl)
theorem alh (z o g len:Nat):D.cJ os ts (.dD z o g len)=match os[o]? with|some o'=> .dD z o' g len|none=> .junk:=nd (by simp only[D.cJ]<;>rfl)
theorem adO (g:Tag) (z:Nat) (rows:List (List D)):D.cJ os ts (.slice g z rows) = .slice (g.cJ ts) z (D.o3 os ts rows):=nd (by simp only[D.cJ])
theorem ali (l:List D):D.cJ os ts (.agg l) = .agg (D.eQ os ts l):=nd (by simp only[D.cJ])
theorem ahR:D.cJ os ts .junk = .junk:=nd (by simp only[D.cJ])
theorem alj (k:IntKind) (x:Int):D.cJ os ts (.int k x) = .int k x:=nd (by simp only[D.cJ])
theorem ahS (b:Bool):D.cJ os ts (.bool b) = .bool b:=nd (by simp only[D.cJ])
theorem alk (l:List UInt8):D.cJ os ts (.str l) = .str l:=nd (by simp only[D.cJ])
theorem ahT:D.cJ os ts .eI = .eI:=nd (by simp only[D.cJ])
theorem ahU (z:Nat):D.cJ os ts (.eW z) = .eW z:=nd (by simp only[D.cJ])
theorem adP:D.eQ os ts [] = []:=nd (by simp only[D.eQ])
theorem adQ (d:D) (l:List D):D.eQ os ts (d::l)=D.cJ os ts d::D.eQ os ts l:=nd (by simp only[D.eQ])
theorem ZH:Tag.cJ ts .shared = .shared:=nd rfl
theorem ahV:Tag.cJ ts .full = .full:=nd rfl
theorem adR (o off:Nat):D.ok n m (.ptr o off)=decide (o<n):=nd (by simp only[D.ok])
theorem adS (z o g len:Nat):D.ok n m (.dD z o g len)=decide (o<n):=nd (by simp only[D.ok])
theorem WN (g:Tag) (z:Nat) (rows:List (List D)):D.ok n m (.slice g z rows)=(g.ok m && D.jd n m rows):=nd (by simp only[D.ok])
theorem adT (l:List D):D.ok n m (.agg l)=D.bK n m l:=nd (by simp only[D.ok])
theorem ZI:D.ok n m .junk=true:=nd (by simp only[D.ok])
theorem adU (k:IntKind) (x:Int):D.ok n m (.int k x)=true:=nd (by simp only[D.ok])
theorem ZJ (b:Bool):D.ok n m (.bool b)=true:=nd (by simp only[D.ok])
theorem adV (l:List UInt8):D.ok n m (.str l)=true:=nd (by simp only[D.ok])
theorem ZK:D.ok n m .eI=true:=nd (by simp only[D.ok])
theorem ZL (z:Nat):D.ok n m (.eW z)=true:=nd (by simp only[D.ok])
theorem ahW:D.bK n m [] = true:=nd (by simp only[D.bK])
theorem ahX (d:D) (l:List D):D.bK n m (d::l)=(D.ok n m d && D.bK n m l):=nd (by simp only[D.bK])
theorem TD:Tag.ok m .shared=true:=nd rfl
theorem ZM:Tag.ok m .full=true:=nd rfl
theorem adW (os:List Nat) (m:Nat) (ah:List (List D)):xP os m ah [] [] = True:=nd rfl
theorem adX (os:List Nat) (m:Nat) (ah:List (List D)) (o:Nat) (l:List Nat) (ds:List D) (r:List (List D)):xP os m ah (o::l) (ds::r)=(ah[o]? = some (D.eQ os (List.range m) ds)∧D.bK os.length m ds=true∧xP os m ah l r):=nd rfl
theorem ahY (tm:Tm):AX os ts tm [] = True:=nd rfl
theorem ahZ (tm:Tm) (k:Nat) (d:D) (r:Tm):AX os ts tm ((k,d)::r)=(tm.get k=d.cJ os ts∧d.ok os.length ts.length=true∧AX os ts tm r):=nd rfl
theorem NQ (rows:List (List D)) (h:D.jd 0 0 rows=true):D.o3 os ts rows=rows:=jT os ts rows h
theorem HO (row:List D) (h:D.bK 0 0 row=true):D.eQ os ts row=row:=fL os ts row h
theorem TE (rows:List (List D)) (h:D.jd 0 0 rows=true):D.jd n m rows=true:=nL (Nat.zero_le n) (Nat.zero_le m) rows h
theorem LH (row:List D) (h:D.bK 0 0 row=true):D.bK n m row=true:=jk (Nat.zero_le n) (Nat.zero_le m) row h
theorem AZ (p:Pg):D.eQ os ts (bJ p)=bJ p:=HO _ _ _ (jh p)
theorem Qk (p:Sm):D.eQ os ts (aS p)=aS p:=HO _ _ _ (pI p)
theorem BS (l:List Pc):D.o3 os ts (l.map bG)=l.map bG:=NQ _ _ _ (yv l)
theorem ZN (l:List Sm):D.o3 os ts (l.map aS)=l.map aS:=NQ _ _ _ (nz l)
theorem oV (l:List aF):D.o3 os ts (l.map encStr)=l.map encStr:=NQ _ _ _ (fe l)
theorem Et (p:Pc):D.eQ os ts (bG p)=bG p:=HO _ _ _ (zl p)
theorem HP (p:Pc):D.bK n m (bG p)=true:=LH _ _ _ (zl p)
theorem DQ (p:Pg):D.bK n m (bJ p)=true:=LH _ _ _ (jh p)
theorem WO (p:Sm):D.bK n m (aS p)=true:=LH _ _ _ (pI p)
theorem Eu (l:List Pc):D.jd n m (l.map bG)=true:=TE _ _ _ (yv l)
theorem adY (l:List Sm):D.jd n m (l.map aS)=true:=TE _ _ _ (nz l)
theorem uG (l:List aF):D.jd n m (l.map encStr)=true:=TE _ _ _ (fe l)
theorem HQ : ∀ l:List Pc,D.bK 0 0 ((l.map bG).flatten)=true:=fun l=>by
 have h:=yv l
 rw[GN,List.all_eq_true]at h
 rw[Al,List.all_eq_true]
 intro d hd
 obtain⟨r,hr,hd⟩:=List.mem_flatten.1 hd
 have:=h r hr
 rw[Al,List.all_eq_true]at this
 exact this d hd
theorem uH (l:List Pc):D.eQ os ts ((l.map bG).flatten)=(l.map bG).flatten:=HO _ _ _ (HQ l)
theorem w8 (l:List Pc):D.bK n m ((l.map bG).flatten)=true:=LH _ _ _ (HQ l)
theorem adZ (l:List Pc):D.gT n m ((l.map bG).flatten)=(l.map bG).flatten:=iX _ _ _ (HQ l)
end
attribute [go_sem] Et HP alg alh adO ali ahR alj ahS alk ahT ahU adP adQ ZH ahV adR adS WN adT ZI adU ZJ adV ZK ZL ahW ahX TD ZM adW adX ahY ahZ AZ Qk BS ZN oV DQ WO Eu adY uG uH w8 adZ
mutual
theorem NR (o g:Nat) (rows:List (List D)) : ∀ d,D.ok 0 0 d=true→D.gk o g rows d=d
 | .junk,_=>by simp[D.gk]
 | .int k n,_=>by simp[D.gk]
 | .bool b,_=>by simp[D.gk]
 | .str l,_=>by simp[D.gk]
 | .eI,_=>by simp[D.gk]
 | .val v,_=>by simp[D.gk]
 | .eW z,_=>by simp[D.gk]
 | .fS T o,h=>by simp[D.ok]at h
 | .gR o,h=>by simp[D.ok]at h
 | .dD z o g len,h=>by simp[D.ok]at h
 | .fU o g off,h=>by simp[D.ok]at h
 | .ptr o f,h=>by simp[D.ok]at h
 | .ie f cs,h=>by
  simp only[D.ok]at h
  simp only[D.gk,uI o g rows cs h]
 | .dN r f,h=>by
  simp only[D.ok]at h
  simp only[D.gk,uI o g rows r h]
 | .slice t z rs,h=>by
  simp only[D.ok,Bool.and_eq_true]at h
  simp only[D.gk,A0 o g rows rs h.2]
 | .agg cs,h=>by
  simp only[D.ok]at h
  simp only[D.gk,uI o g rows cs h]
 | .tuple cs,h=>by
  simp only[D.ok]at h
  simp only[D.gk,uI o g rows cs h]
theorem uI (o g:Nat) (rows:List (List D)) : ∀ l,D.bK 0 0 l=true→D.ko o g rows l=l
 | [],_=>by simp[D.ko]
 |d::r,h=>by
  simp only[D.bK,Bool.and_eq_true]at h
  simp only[D.ko,NR o g rows d h.1,uI o g rows r h.2]
theorem A0 (o g:Nat) (rows:List (List D)) : ∀ l,D.jd 0 0 l=true→D.tP o g rows l=l
 | [],_=>by simp[D.tP]
 |d::r,h=>by
  simp only[D.jd,Bool.and_eq_true]at h
  simp only[D.tP,uI o g rows d h.1,A0 o g rows r h.2]
end
section
variable (o g:Nat) (rows:List (List D)) (n m:Nat)
theorem alm (q off:Nat):D.gk o g rows (.ptr q off) = .ptr q off:=nd (by simp only[D.gk])
theorem ah0 (q h off:Nat):D.gk o g rows (.fU q h off) = .fU q h off:=nd (by simp only[D.gk])
theorem aln (z o' g' len:Nat):D.gk o g rows (.dD z o' g' len)=if o'=o∧g'=g∧len=rows.length then .slice .shared z rows else .dD z o' g' len:=nd (by simp only[D.gk])
theorem ad0 (t:Tag) (z:Nat) (rs:List (List D)):D.gk o g rows (.slice t z rs) = .slice t z (D.tP o g rows rs):=nd (by simp only[D.gk])
theorem alo (l:List D):D.gk o g rows (.agg l) = .agg (D.ko o g rows l):=nd (by simp only[D.gk])
theorem ah1:D.gk o g rows .junk = .junk:=nd (by simp only[D.gk])
theorem alp (k:IntKind) (x:Int):D.gk o g rows (.int k x) = .int k x:=nd (by simp only[D.gk])
theorem ah2 (b:Bool):D.gk o g rows (.bool b) = .bool b:=nd (by simp only[D.gk])
theorem alq (l:List UInt8):D.gk o g rows (.str l) = .str l:=nd (by simp only[D.gk])
theorem ad1:D.ko o g rows [] = []:=nd (by simp only[D.ko])
theorem ad2 (d:D) (l:List D):D.ko o g rows (d::l)=D.gk o g rows d::D.ko o g rows l:=nd (by simp only[D.ko])
theorem at7 (p:Pg):D.ko o g rows (bJ p)=bJ p:=uI _ _ _ _ (jh p)
theorem alr (l:List Pc):D.tP o g rows (l.map bG)=l.map bG:=A0 _ _ _ _ (yv l)
theorem als (l:List Sm):D.tP o g rows (l.map aS)=l.map aS:=A0 _ _ _ _ (nz l)
theorem ah3 (l:List aF):D.tP o g rows (l.map encStr)=l.map encStr:=A0 _ _ _ _ (fe l)
theorem alu (ds:List D):Ck o g rows n m ds=D.gT n m (D.ko o g rows ds):=nd rfl
theorem ah4 (tm:Tm):HN o g rows m tm [] = True:=nd rfl
theorem ah5 (tm:Tm) (k:Nat) (d:D) (r:Tm):HN o g rows m tm ((k,d)::r)=(Wk (((tm.get k).gk o g rows).fg o m) d∧HN o g rows m tm r):=nd rfl
end
attribute [go_sem] alm ah0 aln ad0 alo ah1 alp ah2 alq ad1 ad2 at7 alr als ah3 alu ah4 ah5
theorem aE.AY {P:Program} {f:FuncId} {args:List D} {d d':D} {ah ff:List (List D)} (os:List Nat) (h:aE P f args S0 d ⟨ah,[]⟩) (tY:os.Nodup) (jS : ∀ o∈os,o<ah.length) (ho:ff.length=os.length)
 (qj : ∀ (i o:Nat) (ds:List D),os[i]? = some o→ff[i]? = some ds→ah[o]? = some (D.eQ os [] ds)∧D.bK os.length 0 ds=true) (hd:d'.cJ os [] = d) (pT:d'.ok os.length 0=true):aE P f args S0 d' ⟨ff,[]⟩:=by
 intro M0 w0 gh r0 kD Ze ha
 refine(h M0 w0 gh r0 kD Ze ha).mono ?_
 rintro en w ⟨M,d1,v,s',rfl,⟨rfl,rfl⟩,e,r,hv⟩
 have r1:Rel (gn M os []) ⟨ff,[]⟩ w:=r.sub tY List.nodup_nil jS ho qj rfl (fun i t h=>by simp at h)
 have loc : ∀ (i:Nat) o,os[i]? = some o→(gn M os []).loc i=M.loc o:=fun i o h=>by simp only[gn,uq h]
 refine⟨gn M os [],d',v,_,rfl,⟨rfl,rfl⟩,⟨⟨e.le.G,Nat.zero_le _,fun o h=>absurd h (Nat.not_lt_zero _),Nat.zero_le _,fun t n' h=>absurd h (Nat.not_lt_zero _)⟩,fun b hb _ _=>e.kept b hb (fun o h=>absurd h (Nat.not_lt_zero _)) (fun t c z ⟨n,hn⟩=>by simp[S0]at hn),fun o h3 h4=>?_,
  fun t b c z ⟨n,hn⟩=>by simp at hn,e.rZ,e.size,e.os,e.tape,e.output⟩,r1, ?_⟩
 ·simp only at h4
  rw[ho]at h4
  obtain⟨q,hq⟩ : ∃ q,os[o]? = some q:=⟨_,List.getElem?_eq_getElem h4⟩
  rw[show(gn M os []).mu o=M.mu q from congrArg Prod.fst (loc o q hq)]
  exact e.rY q (.inl (Nat.zero_le _)) (jS q (List.mem_of_getElem? hq))
 ·exact RD.Bm (M:=M) (M0:=gn M os []) (s:=⟨ah,[]⟩) (s0:=⟨ff,[]⟩) rfl loc ho (fun i t h=>by simp at h) (fun i t h=>by simp at h) rfl hv _ hd pT
theorem aE.ab4 {P:Program} {f:FuncId} {args row:List D} {d:D} (h:aE P f args S0 d ⟨[row],[]⟩) (ha:D.bK 0 0 args=true) (hr:D.bK 0 0 row=true) (s:St):aE P f args s (d.cJ [s.ah.length] []) ⟨s.ah++ [row],s.ay⟩:=by
 refine bW.frame [] [] h List.nodup_nil List.nodup_nil (by simp) (by simp) rfl (by simp) rfl (by simp) (by rw[fL _ _ _ ha]) ha ?_
 rintro _ _ ⟨rfl,rfl⟩
 refine⟨by simp[D.back,kv], ?_⟩
 simp[St.back,lk,kv,fL _ _ _ hr]
end Go.Abs
namespace Go.Abs
set_option maxRecDepth 8000
open Go.Proofs
theorem NS (l:List Pc):((l.map bG).flatten).length=l.length*5:=xO bG 5 (fun f=>rfl) l
def Ev:List D:= [.junk, .junk, .junk, .junk, .junk]
abbrev LI (procs:List Pc) (k:Int):Tm:= [(3, .ptr 1 0),(4, .ptr 2 0),(5, .ptr 3 0),(14, .slice .shared 5 (procs.map bG)),(15, .int .i64 (procs.length:Int)),(16, .int .i64 k)]
abbrev nY (l:List Pc):List D:= .int .i64 ((l.length - 1:Nat):Int)::(l.map bG).flatten
theorem alv {globals:List aF} {procs:List Pc} (hp:(⟨globals,procs⟩:Pg).size<1000000) (h0:procs≠ []) {t:Sm} (ht:t.Es<10000000) {R:List Pc} (hR:procs.map (Pc.gW (gf t))=R) :
 aE Tryz.prog s9 [.agg (bJ ⟨globals,procs⟩), .agg (aS t)] S0 (.agg [.slice .shared 1 (globals.map encStr), .dD 5 4 (R.length - 1) R.length])
  ⟨[bJ ⟨globals,procs⟩,aS t,[.junk, .junk],[.junk, .junk],nY R],[]⟩:=by
 simp only[Pg.size]at hp
 have hlen:procs.length<1000000:=by have:=Pc.dJ procs;omega
 have hG:=fun s=>w7 (l:=globals) (by omega) s
 unfold S0
 refine aE.goK 5 0 (Nat.zero_le _) (Nat.zero_le _) MY rfl fun B Q hB hQ=>?_
 have⟨hD,gA,gB,gC⟩:=cd
 obtain⟨y0,TF,Np⟩ : ∃ y r,procs.drop 0=y::r:=by
  cases procs with
  |nil=>exact absurd rfl h0
  |cons y r=>exact⟨y,r,rfl⟩
 obtain⟨HR,g20,at8,g40⟩:=drop_cons Np
 have TG:decide ((0:Int)<(procs.length:Int))=true:=by simpa using at8
 have hR0:Pc.gW (gf t) y0::TF.map (Pc.gW (gf t))=R:=by
  have:procs=y0::TF:=by simpa using Np
  rw[← hR,this];rfl
 have fV:(1:Nat)*113≤bp:=by simp only[bp];omega
 have fi:=fun(tg:Tag) (r:List D) (s:St)=>F9 (z:=5) (bytes:=112) tg r s (by simp only[bp];omega)
 -- the rounds behind the first one
 have loop:bl Tryz.prog B 47 QCV (iI 0 (la (jJ Tryz.prog B 47 QD0 Q) Q)) (LI procs ((1:Nat):Int)) ⟨[bJ ⟨globals,procs⟩,aS t,[.junk, .junk],[.slice .shared 1 (globals.map encStr), .dD 5 4 0 1],nY [Pc.gW (gf t) y0]],[]⟩:=by
  refine bl.ind (ι:=List Pc×Nat×List Pc) (fun i=>procs.drop i.2.1=i.1∧i.2.1=i.2.2.length∧0<i.2.2.length∧i.2.2++i.1.map (Pc.gW (gf t))=R) (fun i=>i.1.length)
   (fun i=>LI procs (i.2.1:Int)) (fun i=>⟨[bJ ⟨globals,procs⟩,aS t,[.junk, .junk],[.slice .shared 1 (globals.map encStr), .dD 5 4 (i.2.2.length - 1) i.2.2.length],nY i.2.2],[]⟩) ?_ (TF,1,[Pc.gW (gf t) y0]) ⟨g20,rfl,Nat.zero_lt_one,hR0⟩
  rintro⟨rest,k,acc⟩ ⟨h1,h2,h3,h4⟩ IH
  dsimp only at h1 h2 h3 h4
  subst h2
  have s6:acc.length≤procs.length:=by
   have:=congrArg List.length h4
   rw[← hR]at this
   simp at this;omega
  cases rest with
  |nil=>
   have hD:=drop_nil h1
   simp only[List.map_nil,List.append_nil]at h4
   subst h4
   repeat' (first
 |simp only[go_sem,hD,gA,gB,gC]
 |(with_reducible first|refine bg fun hc=>?_|refine bh fun hc=>?_|refine bj (fun hc=>?_) fun hc=>?_)<;>(try simp only[hc,bs,↓reduceIte]at h)<;>try simp only[hc]
 |(with_reducible refine aD hQ ?_;exact fM)
 | (cases h;done))
  | cons y rest=>
   obtain⟨gA,g2,hD,g4⟩:=drop_cons h1
   have dO:=Pc.da (List.mem_of_getElem? gA)
   obtain⟨name,params,vars,body,fin⟩:=y
   simp only[Pc.size]at dO
   have hk:acc.length<4611686018427387904:=by omega
   have c1:=fun s=>w7 (l:=vars) (by omega) s
   have c2:=fun s=>w7 (l:=fin) (by omega) s
   have c3:=fun s=>WL ht (l:=body) (by omega) s
   have e2:Pc.gW (gf t) ⟨name,params,vars,body,fin⟩ = ⟨name,params,vars,Sm.kG (gf t) body,fin⟩:=rfl
   have Kc:=fun(tg:Tag) (r a b c d e f:List D) (T:List (Option Nat))=>adN (s:=⟨[a,b,c,d,nY acc,e,f],T⟩) (o:=4) (g:=acc.length - 1) (len:=acc.length) (z:=5) (bytes:=112) (t:=tg) (r:=r) rfl (NS acc) (by unfold bp;omega)
   have e3:acc.length - 1+1=acc.length:=by omega
   have e6 : ∀ f:Pc,nY (acc++ [f]) = .int .i64 (acc.length:Int)::((acc.map bG).flatten++bG f):=fun f=>by simp
   have e7 : ∀ f:Pc,(acc++ [f]).length=acc.length+1:=fun f=>by simp
   cases params with
   |nil=>
    have ha:=fun o T=>sq (size:=2) (bytes:=24) (z:=0) (z':=2) (g:= .shared) o T
    repeat' (first
 |simp only[go_sem,hD,gA,gB,gC,ha,Kc,e3]
 |(with_reducible refine CU (c1 _) ?_)
 |(with_reducible refine CU (c2 _) ?_)
 |(with_reducible refine CU (c3 _) ?_)
 |(with_reducible first|refine bg fun hc=>?_|refine bh fun hc=>?_|refine bj (fun hc=>?_) fun hc=>?_)<;>(try simp only[hc,bs,↓reduceIte]at h)<;>try simp only[hc]
 |(with_reducible refine aD hQ ?_;(try cases h);simp only[aT,aV,bD,bE,go_sem,hD,gA,gB,gC,ha,Kc,e3];try exact bX)
 | (cases h;done))
    refine dW 5 0 ?_ ?_ (IH (rest,acc.length+1,acc++ [Pc.gW (gf t) ⟨name,[],vars,body,fin⟩]) ⟨g2,by simp,by simp,by rw[← h4];simp⟩ (Nat.lt_succ_self _))
    ·(simp only[go_sem,hD,gA,gB,gC,aH hk,e2,e3,e6,e7,Nat.add_sub_cancel];try exact bO)
    ·(simp only[go_sem,hD,gA,gB,gC,aH hk,e2,e3,e6,e7,Nat.add_sub_cancel];try exact bO)
   |cons q params=>
    have ha:=fun o T=>sn (size:=2) (bytes:=24) (rows:=(q::params).map gp) (by simp) (by simp only[List.length_map];unfold bp;omega) (z:=0) (g:= .shared) o T
    generalize q::params=ps at *
    repeat' (first
 |simp only[go_sem,hD,gA,gB,gC,ha,Kc,e3]
 |(with_reducible refine CU (c1 _) ?_)
 |(with_reducible refine CU (c2 _) ?_)
 |(with_reducible refine CU (c3 _) ?_)
 |(with_reducible first|refine bg fun hc=>?_|refine bh fun hc=>?_|refine bj (fun hc=>?_) fun hc=>?_)<;>(try simp only[hc,bs,↓reduceIte]at h)<;>try simp only[hc]
 |(with_reducible refine aD hQ ?_;(try cases h);simp only[aT,aV,bD,bE,go_sem,hD,gA,gB,gC,ha,Kc,e3];try exact bX)
 | (cases h;done))
    refine dW 5 0 ?_ ?_ (IH (rest,acc.length+1,acc++ [Pc.gW (gf t) ⟨name,ps,vars,body,fin⟩]) ⟨g2,by simp,by simp,by rw[← h4];simp⟩ (Nat.lt_succ_self _))
    ·(simp only[go_sem,hD,gA,gB,gC,aH hk,e2,e3,e6,e7,Nat.add_sub_cancel];try exact bO)
    ·(simp only[go_sem,hD,gA,gB,gC,aH hk,e2,e3,e6,e7,Nat.add_sub_cancel];try exact bO)
 repeat' (first
 |simp only[go_sem,hD,gA,gB,gC]
 |(with_reducible refine CU (hG _) ?_)
 |(with_reducible first|refine bg fun hc=>?_|refine bh fun hc=>?_|refine bj (fun hc=>?_) fun hc=>?_)<;>(try simp only[hc,bs,↓reduceIte]at h)<;>try simp only[hc]
 |(with_reducible refine aD hQ ?_;exact fM)
 |(cases h;done))
 refine fj 4 0 (bl.jV (tm:=LI procs 0) (s:=⟨[bJ ⟨globals,procs⟩,aS t,[.junk, .junk],[.slice .shared 1 (globals.map encStr), .eW 5]],[]⟩) ?_)
 have dO:=Pc.da (List.mem_of_getElem? HR)
 obtain⟨name,params,vars,body,fin⟩:=y0
 simp only[Pc.size]at dO
 have c1:=fun s=>w7 (l:=vars) (by omega) s
 have c2:=fun s=>w7 (l:=fin) (by omega) s
 have c3:=fun s=>WL ht (l:=body) (by omega) s
 have e2:Pc.gW (gf t) ⟨name,params,vars,body,fin⟩ = ⟨name,params,vars,Sm.kG (gf t) body,fin⟩:=rfl
 have w1:IntKind.wrap .i64 ((0:Int)+1)=((1:Nat):Int):=rfl
 have AY:=bl.TC (P:=Tryz.prog) (a:=QCV) (Q:=iI 0 (la (jJ Tryz.prog B 47 QD0 Q) Q)) (nt:=47) (tm:=LI procs ((1:Nat):Int)) (s:=⟨[bJ ⟨globals,procs⟩,aS t,[.junk, .junk],[.slice .shared 1 (globals.map encStr), .dD 5 6 0 1],Ev,Ev,nY [Pc.gW (gf t) ⟨name,params,vars,body,fin⟩]],[]⟩)
  hB [0,1,2,3,6] _ _ (by decide) (by simp) (by simp[xP,D.eQ,D.cJ,D.bK,D.ok,Tag.cJ,Tag.ok,AZ,Qk,Et,HP,oV,DQ,WO,uG,uH,w8]) (by simp[AX,Tm.get,D.cJ,D.ok,Tag.cJ,Tag.ok,BS,Eu]) loop
 have e4:nY [⟨name,params,vars,Sm.kG (gf t) body,fin⟩] = [.int .i64 0, .str name, .slice .shared 2 (params.map gp), .slice .shared 1 (vars.map encStr), .slice .shared 13 ((Sm.kG (gf t) body).map aS), .slice .shared 1 (fin.map encStr)]:=rfl
 cases params with
 |nil=>
  have ha:=fun o T=>sq (size:=2) (bytes:=24) (z:=0) (z':=2) (g:= .shared) o T
  repeat' (first
 |simp only[go_sem,hD,gA,gB,gC,HR,TG,fV,ha,fi]
 |(with_reducible refine CU (c1 _) ?_)
 |(with_reducible refine CU (c2 _) ?_)
 |(with_reducible refine CU (c3 _) ?_)
 |(with_reducible first|refine bg fun hc=>?_|refine bh fun hc=>?_|refine bj (fun hc=>?_) fun hc=>?_)<;>(try simp only[hc,bs,↓reduceIte]at h)<;>try simp only[hc]
 |(with_reducible refine aD hQ ?_;(try cases h);simp only[aT,aV,bD,bE,go_sem,hD,gA,gB,gC,HR,TG,fV,ha,fi];try exact bX)
 |(cases h;done))
  refine dW 7 0 ?_ ?_ (AY)
  ·(simp only[go_sem,hD,gA,gB,gC,w1,e2,e4,Ev];try exact bO)
  ·(simp only[go_sem,hD,gA,gB,gC,w1,e2,e4,Ev];try exact bO)
 |cons q params=>
  have ha:=fun o T=>sn (size:=2) (bytes:=24) (rows:=(q::params).map gp) (by simp) (by simp only[List.length_map];unfold bp;omega) (z:=0) (g:= .shared) o T
  generalize q::params=ps at *
  repeat' (first
 |simp only[go_sem,hD,gA,gB,gC,HR,TG,fV,ha,fi]
 |(with_reducible refine CU (c1 _) ?_)
 |(with_reducible refine CU (c2 _) ?_)
 |(with_reducible refine CU (c3 _) ?_)
 |(with_reducible first|refine bg fun hc=>?_|refine bh fun hc=>?_|refine bj (fun hc=>?_) fun hc=>?_)<;>(try simp only[hc,bs,↓reduceIte]at h)<;>try simp only[hc]
 |(with_reducible refine aD hQ ?_;(try cases h);simp only[aT,aV,bD,bE,go_sem,hD,gA,gB,gC,HR,TG,fV,ha,fi];try exact bX)
 |(cases h;done))
  refine dW 7 0 ?_ ?_ (AY)
  ·(simp only[go_sem,hD,gA,gB,gC,w1,e2,e4,Ev];try exact bO)
  ·(simp only[go_sem,hD,gA,gB,gC,w1,e2,e4,Ev];try exact bO)
theorem alw:(⟨-1,0,[],[],[],qn,false,[],[],[]⟩:Sm).Es<10000000:=by decide
def ji:Sm:=⟨-1,0,[],[],[],qn,false,[],[],[]⟩
theorem ah6:aS ji = [.int .i64 (-1), .int .i64 0, .slice .shared 1 [], .str [], .str [], .int .i64 0, .int .i64 0, .str [], .slice .shared 4 [], .bool false, .slice .shared 6 [], .slice .shared 13 [], .slice .shared 13 []]:=rfl
theorem alx {p:Pg} (hp:p.size<1000000) (h0:p.procs≠ []) {t:Sm} (ht:t.Es<10000000) (st:St) :
 aE Tryz.prog s9 [.agg (bJ p), .agg (aS t)] st (.agg [.slice .shared 1 (p.globals.map encStr), .dD 5 st.ah.length (p.procs.length - 1) p.procs.length]) ⟨st.ah++ [nY (p.put t).procs],st.ay⟩:=by
 obtain⟨globals,procs⟩:=p
 show aE _ _ _ _ _ ⟨st.ah++ [nY (procs.map (Pc.gW (gf t)))],st.ay⟩
 have h1:=alv hp h0 ht (R:=procs.map (Pc.gW (gf t))) rfl
 have hl:(procs.map (Pc.gW (gf t))).length=procs.length:=List.length_map ..
 generalize procs.map (Pc.gW (gf t))=R at *
 rw[hl]at h1
 have h2:=aE.AY (d':= .agg [.slice .shared 1 (globals.map encStr), .dD 5 0 (procs.length - 1) procs.length]) (ff:= [nY R]) [4] h1 (by decide) (by simp) rfl (fun i o ds e1 e2=>by
  cases i with
  |zero=>
   simp only[List.getElem?_cons_zero,Option.some.injEq]at e1 e2
   subst e1 e2
   exact⟨by simp[D.eQ,D.cJ,uH,hl],by simp[D.bK,D.ok,w8]⟩
  |succ i=>simp at e1) (by simp[D.cJ,D.eQ,Tag.cJ,oV]) (by simp[D.ok,D.bK,Tag.ok,uG])
 have h3:=h2.ab4 (by simp[D.bK,D.ok,jh,pI]) (by simp[D.bK,D.ok,HQ]) st
 simpa[D.cJ,D.eQ,Tag.cJ,oV]using h3
theorem WQ {p:Pg} (hp:p.size<1000000) (h0:p.procs≠ []) (st:St) :
 aE Tryz.prog rE [.agg (bJ p)] st (.agg [.slice .shared 1 (p.globals.map encStr), .dD 5 st.ah.length (p.procs.length - 1) p.procs.length]) ⟨st.ah++ [nY (p.put ji).procs],st.ay⟩:=by
 have h1:=fun s=>alx hp h0 (t:=ji) alw s
 have h2 : ∀ s:St,aE Tryz.prog s9 [.agg (bJ p), .agg [.int .i64 (-1), .int .i64 0, .slice .full 0 [], .str [], .str [], .int .i64 0, .int .i64 0, .str [], .slice .full 0 [], .bool false, .slice .full 0 [], .slice .full 0 [], .slice .full 0 []]] s
  (.agg [.slice .shared 1 (p.globals.map encStr), .dD 5 s.ah.length (p.procs.length - 1) p.procs.length]) ⟨s.ah++ [nY (p.put ji).procs],s.ay⟩:=
  fun s=>bW.o5 (.cons (Wk.refl _) (.cons (by rw[ah6];exact Wk.agg (.cons (Wk.refl _) (.cons (Wk.refl _) (.cons (Wk.nil _ _ _) (.cons (Wk.refl _) (.cons (Wk.refl _) (.cons (Wk.refl _) (.cons (Wk.refl _) (.cons (Wk.refl _) (.cons (Wk.nil _ _ _) (.cons (Wk.refl _) (.cons (Wk.nil _ _ _) (.cons (Wk.nil _ _ _) (.cons (Wk.nil _ _ _) .nil)))))))))))))) .nil)) (h1 s)
 have key:aE Tryz.prog rE [.agg (bJ p)] S0 (.agg [.slice .shared 1 (p.globals.map encStr), .dD 5 2 (p.procs.length - 1) p.procs.length]) ⟨[bJ p,[.junk, .junk],nY (p.put ji).procs],[]⟩:=by
  unfold S0
  refine aE.goK 3 0 (Nat.zero_le _) (Nat.zero_le _) Ky rfl fun B Q hB hQ=>?_
  have⟨hD,gA,gB,gC⟩:=cd
  generalize (p.put ji).procs=R at *
  repeat' (first
 |simp only[go_sem,hD,gA,gB,gC]
 |(with_reducible refine CU (h2 _) ?_)
 |(with_reducible first|refine bg fun hc=>?_|refine bh fun hc=>?_|refine bj (fun hc=>?_) fun hc=>?_)<;>(try simp only[hc,bs,↓reduceIte]at h)<;>try simp only[hc]
 |(with_reducible refine aD hQ ?_;exact fM)
 |(cases h;done))
 generalize (p.put ji).procs=R at *
 have h3:=aE.AY (d':= .agg [.slice .shared 1 (p.globals.map encStr), .dD 5 0 (p.procs.length - 1) p.procs.length]) (ff:= [nY R]) [2] key (by decide) (by simp) rfl (fun i o ds e1 e2=>by
  cases i with
  |zero=>
   simp only[List.getElem?_cons_zero,Option.some.injEq]at e1 e2
   subst e1 e2
   exact⟨by simp[D.eQ,D.cJ,uH],by simp[D.bK,D.ok,w8]⟩
  |succ i=>simp at e1) (by simp[D.cJ,D.eQ,Tag.cJ,oV]) (by simp[D.ok,D.bK,Tag.ok,uG])
 have h4:=h3.ab4 (by simp[D.bK,D.ok,jh]) (by simp[D.bK,D.ok,HQ]) st
 simpa[D.cJ,D.eQ,Tag.cJ,oV]using h4
abbrev ab5 (N:Nat):Prop:=∀ (l:List Sm) (n:Nat),Sm.a7 l<N→n+Sm.a7 l<1000000000→∀ s:St,aE Tryz.prog kg [.slice .shared 13 (l.map aS), .int .i64 (n:Int)] s
 (.tuple [.slice .shared 13 ((Sm.cW true n l).1.map aS), .int .i64 ((Sm.cW true n l).2:Int)]) s
theorem KT {N:Nat} (hN:N<10000000) (ih:ab5 N) (l:List Sm) (n:Nat) (hl:Sm.a7 l<N+1) (hn:n+Sm.a7 l<1000000000) :
 aE Tryz.prog kg [.slice .shared 13 (l.map aS), .int .i64 (n:Int)] S0 (.tuple [.slice .shared 13 ((Sm.cW true n l).1.map aS), .int .i64 ((Sm.cW true n l).2:Int)]) S0:=by
 have hlen:l.length<10000001:=by have:=Sm.dJ l;omega
 have hle:=Sm.pE true n l
 generalize hR:Sm.cW true n l=R at *
 unfold S0
 refine aE.go EN rfl fun B Q hB hQ=>?_
 have⟨hD,gA,gB,gC⟩:=cd
 repeat' (first
 |simp only[go_sem,hD,gA,gB,gC]
 |(with_reducible first|refine bg fun hc=>?_|refine bh fun hc=>?_|refine bj (fun hc=>?_) fun hc=>?_)<;>(try simp only[hc,bs,↓reduceIte]at h)<;>try simp only[hc]
 |(with_reducible refine aD hQ ?_;exact fM)
 |(cases h;done))
 refine bl.s7 6 13 rfl ?_
 simp only[go_sem,hD,gA,gB,gC]
 refine fj 0 1 (bl.ind (ι:=List Sm×Nat×List Sm×Nat) (fun i=>l.drop i.2.1=i.1∧i.2.1=i.2.2.1.length∧(i.2.2.1++(Sm.cW true i.2.2.2 i.1).1,(Sm.cW true i.2.2.2 i.1).2)=R∧i.2.2.2+Sm.a7 i.1≤n+Sm.a7 l) (fun i=>i.1.length)
  (fun i=> [(1, .int .i64 (i.2.2.2:Int)),(6, .slice (.tok 0) 13 (i.2.2.1.map aS)),(10, .slice .shared 13 (l.map aS)),(11, .int .i64 (l.length:Int)),(12, .int .i64 (i.2.1:Int))])
  (fun i=>⟨[],[some i.2.1]⟩) ?_ (l,0,[],n) ⟨rfl,rfl,by simpa using hR,Nat.le_refl _⟩)
 rintro⟨rest,k,acc,m⟩ ⟨h1,h2,h3,h4⟩ IH
 dsimp only at h1 h2 h3 h4
 subst h2
 cases rest with
 |nil=>
  have hD:=drop_nil h1
  simp only[Sm.cW,List.append_nil]at h3
  subst h3
  repeat' (first
 |simp only[go_sem,hD,gA,gB,gC]
 |(with_reducible first|refine bg fun hc=>?_|refine bh fun hc=>?_|refine bj (fun hc=>?_) fun hc=>?_)<;>(try simp only[hc,bs,↓reduceIte]at h)<;>try simp only[hc]
 |(with_reducible refine aD hQ ?_;exact fM)
 |(cases h;done))
 |cons y rest=>
  obtain⟨gA,g2,hD,g4⟩:=drop_cons h1
  have hk:acc.length<4611686018427387904:=by omega
  have dO:y.size≤N:=by have:=Sm.da (List.mem_of_getElem? gA);omega
  obtain⟨id,kind,labels,name,proc,x,has,args,aM,aL⟩:=y
  simp only[Sm.size]at dO
  simp only[Sm.a7,Sm.size]at h4
  have fV:(acc.length+1)*209≤bp:=by simp only[bp];omega
  have JL:=fun s=>DP (v:=⟨id,kind,labels,name,proc,x,has,args,aM,aL⟩) (by dsimp only;omega) s
  simp only[Sm.bare,dL,List.map_nil]at JL
  simp only[Sm.cW,Sm.num,if_true]at h3
  have c1:=ih aM (m+1) (by omega) (by omega)
  have l1:=Sm.pE true (m+1) aM
  obtain⟨T,hT⟩ : ∃ T,Sm.cW true (m+1) aM=T:=⟨_,rfl⟩
  rw[hT]at h3 c1 l1
  have c2:=ih aL T.2 (by omega) (by omega)
  have l2:=Sm.pE true T.2 aL
  obtain⟨E,hE⟩ : ∃ E,Sm.cW true T.2 aL=E:=⟨_,rfl⟩
  rw[hE]at h3 c2 l2
  have wm:IntKind.wrap .i64 ((m:Int)+1)=((m+1:Nat):Int):=by rw[eD]<;>omega
  repeat' (first
 |simp only[go_sem,hD,gA,gB,gC,fV,wm]
 |(with_reducible refine CU (JL _) ?_)
 |(with_reducible refine CU (c1 _) ?_)
 |(with_reducible refine CU (c2 _) ?_)
 |(with_reducible first|refine bg fun hc=>?_|refine bh fun hc=>?_|refine bj (fun hc=>?_) fun hc=>?_)<;>(try simp only[hc,bs,↓reduceIte]at h)<;>try simp only[hc]
 |(with_reducible refine aD hQ ?_;(try cases h);simp only[aT,aV,bD,bE,go_sem,hD,gA,gB,gC,fV,wm];try exact bX)
 |(cases h;done))
  refine dW 0 1 ?_ ?_ (IH (rest,acc.length+1,acc++ [⟨((m+1:Nat):Int),kind,labels,name,proc,x,has,args,T.1,E.1⟩],E.2) ⟨g2,by simp,by rw[← h3];simp,by dsimp only;omega⟩ (Nat.lt_succ_self _))
  ·(simp only[go_sem,hD,gA,gB,gC,aH hk,dL];try exact bO)
  ·(simp only[go_sem,hD,gA,gB,gC,aH hk,dL];try exact bO)
theorem NU : ∀ N,N<10000000→ab5 N:=by
 intro N
 induction N with
 |zero=>intro _ l n hl;exact absurd hl (Nat.not_lt_zero _)
 |succ N ih=>
  intro hN l n hl hn s
  exact(KT (by omega) (ih (by omega)) l n hl hn).pure (by simp[D.bK,D.ok,Tag.ok,nz]) (by simp[D.bK,D.ok,Tag.ok,nz]) s
theorem TH {l:List Sm} {n:Nat} (h:Sm.a7 l<9000000) (hn:n+Sm.a7 l<1000000000) (s:St):aE Tryz.prog kg [.slice .shared 13 (l.map aS), .int .i64 (n:Int)] s
 (.tuple [.slice .shared 13 ((Sm.cW true n l).1.map aS), .int .i64 ((Sm.cW true n l).2:Int)]) s:=
 NU 9999999 (by omega) l n (by omega) hn s
mutual
def Sm.drp (id:Int):Sm→Sm
 |⟨i,kind,labels,name,proc,x,has,args,aM,aL⟩=>⟨i,kind,labels,name,proc,x,has,args,Sm.Ga id aM,Sm.Ga id aL⟩
def Sm.Ga (id:Int):List Sm→List Sm
 | []=> []
 |s::l=>if s.id==id then Sm.Ga id l else s.drp id::Sm.Ga id l
end
abbrev Gb (g:Nat) (l:List Pc):List D:= .int .i64 (g:Int)::(l.map bG).flatten
abbrev aly (len k n:Nat) (g:Nat):Tm:= [(1, .ptr 0 0),(2, .ptr 1 0),(3, .ptr 2 0),(4, .int .i64 (n:Int)),(9, .dD 5 3 g len),(10, .int .i64 (len:Int)),(11, .int .i64 (k:Int))]
theorem WR {p:Pg} (hp:p.size<1000000) (h0:p.procs≠ []) (st:St):aE Tryz.prog vS [.agg (bJ p)] st (.agg (bJ p.number)) st:=by
 refine aE.pure ?_ (by simp[D.bK,D.ok,jh]) (by simp[D.ok,jh]) st
 have A1:=fun s=>WQ hp h0 s
 obtain⟨globals,procs⟩:=p
 simp only[Pg.size]at hp
 have hlen:procs.length<1000000:=by have:=Pc.dJ procs;omega
 have nu:((⟨globals,procs⟩:Pg).put ji).procs.length=procs.length:=List.length_map ..
 have hcg:((⟨globals,procs⟩:Pg).put ji).procs=procs.map (Pc.gW (gf ji)):=rfl
 have fm:0<procs.length:=List.length_pos_iff.2 h0
 dsimp only at A1
 obtain⟨C,hC⟩ : ∃ C,((⟨globals,procs⟩:Pg).put ji).procs=C:=⟨_,rfl⟩
 rw[hC]at A1 nu hcg
 obtain⟨g,hg⟩ : ∃ g,procs.length - 1=g:=⟨_,rfl⟩
 have Kc:nY C=Gb g C:=by rw[← hg, ← nu]
 have WS:bJ (⟨globals,procs⟩:Pg) = [.slice .shared 1 (globals.map encStr), .slice .shared 5 (procs.map bG)]:=rfl
 simp only[Kc,hg,WS]at A1
 generalize hR:Pc.cW 0 procs=R
 have TI:bJ (⟨globals,procs⟩:Pg).number = [.slice .shared 1 (globals.map encStr), .slice .shared 5 (R.map bG)]:=by
  unfold Pg.number;rw[hR];rfl
 rw[TI]
 unfold S0
 refine aE.go G5 rfl fun B Q hB hQ=>?_
 have⟨hD,gA,gB,gC⟩:=cd
 have loop : ∀ (rest HS done:List Pc) (n:Nat),procs.drop done.length=rest→HS=rest.map (Pc.gW (gf ji))→done++Pc.cW n rest=R→n+Pc.a7 rest≤Pc.a7 procs→
  bl Tryz.prog B 32 QF5 (iI 0 (la (jJ Tryz.prog B 32 QFA Q) Q)) (aly procs.length done.length n g) ⟨[bJ ⟨globals,procs⟩,[.junk, .junk],[.slice .shared 1 (globals.map encStr), .dD 5 3 g procs.length],Gb g (done++HS)],[]⟩:=by
  intro rest
  induction rest with
  | nil=>
   intro HS done n h1 h2 h3 h4
   have hD:=drop_nil h1
   have:HS = []:=by simpa using h2
   subst this
   simp only[Pc.cW,List.append_nil]at h3
   subst h3
   rw[List.append_nil]
   have Ql:procs.length=(done.map bG).length:=by
    rw[List.length_map]
    have h5:=List.drop_eq_nil_iff.1 h1
    have h6:=congrArg List.length hR
    have : ∀ (l:List Pc) (n:Nat),(Pc.cW n l).length=l.length:=by
     intro l
     induction l with
     |nil=>intro n;rfl
     |cons a l ih=>intro n;simp[Pc.cW,ih]
    rw[this]at h6
    exact h6
   refine bl.TA 3 g 5 (done.map bG) [(2, .ptr 1 0),(3, .ptr 2 0),(10, .int .i64 (procs.length:Int)),(11, .int .i64 (done.length:Int))] [bJ ⟨globals,procs⟩,[.junk, .junk],[.slice .shared 1 (globals.map encStr), .slice .shared 5 (done.map bG)]]
    (by rw[hB];exact Nat.zero_le _) rfl ⟨9,_, .inl rfl⟩ (fun row hr=>by obtain⟨a,_,rfl⟩:=List.mem_map.1 hr;rfl) ?_ ?_ (bl.jV ?_)
   ·simp only [go_sem]
    repeat' (first|exact Ok.out|with_reducible refine ju ?_ ?_)
   ·show gY [Ck _ _ _ _ _ (bJ _),Ck _ _ _ _ _ [.junk, .junk],Ck _ _ _ _ _ [.slice .shared 1 _, .dD _ _ _ _]] _
    simp only[go_sem,Ql,and_self,if_true]
    exact Ok.out
   ·repeat' (first
 |simp only[go_sem,hD,gA,gB,gC]
 |(with_reducible first|refine bg fun hc=>?_|refine bh fun hc=>?_|refine bj (fun hc=>?_) fun hc=>?_)<;>(try simp only[hc,bs,↓reduceIte]at h)<;>try simp only[hc]
 |(with_reducible refine aD hQ ?_;exact fM)
 |(cases h;replace h:=hr;clear hr;(try simp only[bs,↓reduceIte]at h))
 | (cases h;done))
  | cons y rest ih=>
   intro HS done n h1 h2 h3 h4
   obtain⟨gA,g2,hD,g4⟩:=drop_cons h1
   subst h2
   have hk:done.length<4611686018427387904:=by omega
   simp only[Pc.a7,Pc.size]at h4
   simp only[Pc.cW]at h3
   have hnb:=fun s=>TH (l:=y.body) (n:=n) (by omega) (by omega) s
   have hle:=Sm.pE true n y.body
   obtain⟨b,hb⟩ : ∃ b,Sm.cW true n y.body=b:=⟨_,rfl⟩
   rw[hb]at h3 hnb hle
   have Ap:fP (((done++Pc.gW (gf ji) y::rest.map (Pc.gW (gf ji))).map bG).flatten) (done.length*5+3) [.slice .shared 13 (b.1.map aS)] =
    ((done++ {y with body:=b.1}::rest.map (Pc.gW (gf ji))).map bG).flatten:=TB bG 5 (fun f=>rfl) done _ (Pc.gW (gf ji) y) {y with body:=b.1} 3 _ rfl (by simp)
   have jj:done.length*5+3+1≤(((done++Pc.gW (gf ji) y::rest.map (Pc.gW (gf ji))).map bG).flatten).length:=by rw[NS];simp;omega
   have IH:=ih (rest.map (Pc.gW (gf ji))) (done++ [{y with body:=b.1}]) b.2 (by rw[List.length_append];exact g2) rfl (by rw[← h3];simp) (by omega)
   have e7:(done++ [{y with body:=b.1}]).length=done.length+1:=by simp
   have e8:done++ [{y with body:=b.1}]++rest.map (Pc.gW (gf ji))=done++ {y with body:=b.1}::rest.map (Pc.gW (gf ji)):=by simp
   rw[e7,e8]at IH
   generalize done++ {y with body:=b.1}::rest.map (Pc.gW (gf ji))=L2 at *
   rw[List.map_cons]
   generalize done++Pc.gW (gf ji) y::rest.map (Pc.gW (gf ji))=L1 at *
   clear ih
   refine bl.jV ?_
   repeat' (first
 |simp only[go_sem,hD,gA,gB,gC,g4,Ap,jj]
 |(with_reducible refine CU (hnb _) ?_)
 |(with_reducible first|refine bg fun hc=>?_|refine bh fun hc=>?_|refine bj (fun hc=>?_) fun hc=>?_)<;>(try simp only[hc,bs,↓reduceIte]at h)<;>try simp only[hc]
 |(with_reducible refine aD hQ ?_;(try cases h);simp only[aT,aV,bD,bE,go_sem,hD,gA,gB,gC,g4,Ap,jj];try exact bX)
 |(cases h;replace h:=hr;clear hr;(try simp only[bs,↓reduceIte]at h))
 | (cases h;done))
   refine dW 4 0 ?_ ?_ (IH)
   ·(simp only[go_sem,hD,gA,gB,gC,aH hk];try exact bO)
   ·(simp only[go_sem,hD,gA,gB,gC,aH hk];try exact bO)
 repeat' (first
 |simp only[go_sem,hD,gA,gB,gC]
 |(with_reducible refine CU (A1 _) ?_)
 |(with_reducible first|refine bg fun hc=>?_|refine bh fun hc=>?_|refine bj (fun hc=>?_) fun hc=>?_)<;>(try simp only[hc,bs,↓reduceIte]at h)<;>try simp only[hc]
 |(with_reducible refine aD hQ ?_;exact fM)
 |(cases h;replace h:=hr;clear hr;(try simp only[bs,↓reduceIte]at h))
 |(cases h;done))
 have AY:=bl.TC (P:=Tryz.prog) (a:=QF5) (Q:=iI 0 (la (jJ Tryz.prog B 32 QFA Q) Q)) (nt:=32) (tm:= [(1, .ptr 0 0),(2, .ptr 1 0),(3, .ptr 3 0),(4, .int .i64 ((0:Nat):Int)),(9, .dD 5 2 g procs.length),(10, .int .i64 (procs.length:Int)),(11, .int .i64 ((0:Nat):Int))])
  (s:=⟨[bJ ⟨globals,procs⟩,[.junk, .junk],Gb g C,[.slice .shared 1 (globals.map encStr), .dD 5 2 g procs.length]],[]⟩)
  hB [0,1,3,2] _ _ (by decide) (by simp) (by simp[xP,D.eQ,D.cJ,D.bK,D.ok,Tag.cJ,Tag.ok,AZ,Et,HP,oV,DQ,uG,uH,w8]) (by simp[AX,Tm.get,D.cJ,D.ok,Tag.cJ,Tag.ok,BS,Eu])
  (loop procs C [] 0 rfl hcg (by simpa using hR) (by simp))
 refine fj 4 0 (AY)
def Pc.drp (id:Int) (f:Pc):Pc:= {f with body:=Sm.Ga id f.body}
def Pg.drp (p:Pg) (id:Int):Pg:= {p with procs:=p.procs.map (Pc.drp id)}
abbrev aBI (id:Int) (len k:Nat) (g:Nat):Tm:= [(1, .int .i64 id),(2, .ptr 0 0),(4, .ptr 1 0),(5, .ptr 2 0),(10, .dD 5 3 g len),(11, .int .i64 (len:Int)),(12, .int .i64 (k:Int))]
def Pg.rot (p:Pg) (n:Nat):Pg:= {p with procs:=p.procs.drop n++p.procs.take n}
theorem Qm : ∀ (l:List Pc) (n:Nat) (h:Sh),h.lo.length=n→h.hi.length=n→pO h.L.length ((l.map fun f=>Sm.bZ f.body).flatten)→
 ∃ lo hi,Sh.go n h l = ⟨h.L++rr n l,h.lo++lo,h.hi++hi⟩∧lo.length=l.length∧hi.length=l.length∧
  ∀ (i:Nat) (f:Pc),l[i]? = some f→∃ a e:List Im,lo[i]? = some (((h.L++a).length:Int)+1)∧hi[i]? = some (((h.L++a++Sm.iM ((n+i:Nat):Int) 0 (-1) 0 f.body).length:Int)+1)∧rr n l=a++Sm.iM ((n+i:Nat):Int) 0 (-1) 0 f.body++e
 | [],n,h,hl,hh,_=>⟨[],[],by simp[Sh.go,rr],rfl,rfl,fun i f h=>by simp at h⟩
 | f::l,n,h,hl,hh,hi=>by
  simp only[List.map_cons,List.flatten_cons]at hi
  simp only[Sh.go,rr]
  have e1:=xM (n:Int) 0 (-1) 0 h.L f.body hi.left
  obtain⟨lo,iV,h2,h3,h4,h5⟩:=Qm l (n+1) ⟨Im.rows (n:Int) 0 (-1) 0 h.L f.body,h.lo++ [(h.L.length:Int)+1],h.hi++ [((Im.rows (n:Int) 0 (-1) 0 h.L f.body).length:Int)+1]⟩ (by simp[hl]) (by simp[hh]) (by
   show pO (Im.rows (n:Int) 0 (-1) 0 h.L f.body).length _
   rw[e1,List.length_append,F6];exact hi.right)
  refine⟨((h.L.length:Int)+1)::lo,(((Im.rows (n:Int) 0 (-1) 0 h.L f.body).length:Int)+1)::iV, ?_,by simp[h3],by simp[h4],fun i g iV=>?_⟩
  ·rw[h2,e1];simp
  ·cases i with
   |zero=>
    simp only[List.getElem?_cons_zero,Option.some.injEq]at iV
    subst iV
    exact⟨[],rr (n+1) l,by simp,by rw[e1];simp,by simp⟩
   |succ i=>
    simp only[List.getElem?_cons_succ]at iV
    obtain⟨a,e,g1,g2,g3⟩:=h5 i g iV
    have en:n+1+i=n+(i+1):=by omega
    rw[en]at g2 g3
    refine⟨Sm.iM n 0 (-1) 0 f.body++a,e, ?_, ?_,by rw[g3];simp⟩
    ·rw[List.getElem?_cons_succ,g1,e1];simp
    ·rw[List.getElem?_cons_succ,g2,e1];simp
theorem ah7 {p:Pg} (hb:p.may=true) {i:Nat} {f:Pc} (hf:p.procs[i]? = some f) (hs:Pc.a7 p.procs<1000000000) (s:St) :
 aE Tryz.prog iQ [.dN (ga p) 0, .int .i64 (i:Int)] s (.slice .shared 17 ((Sm.iM (i:Int) 0 (-1) 0 f.body).map dM)) s:=by
 obtain⟨lo,hi,h1,h2,h3,h4⟩:=Qm p.procs 0 ⟨[],[],[]⟩ rfl rfl (P9 hb)
 obtain⟨a,e,g1,g2,g3⟩:=h4 i f hf
 simp only[Nat.zero_add,List.nil_append]at g1 g2 g3 h1
 refine ag4 hs (a:=a) (e:=e) ?_ ?_ ?_ s
 ·show(Sh.go 0 ⟨[],[],[]⟩ p.procs).lo[i]? = _
  rw[h1];exact g1
 ·show(Sh.go 0 ⟨[],[],[]⟩ p.procs).hi[i]? = _
  rw[h1];exact g2
 ·show(Sh.go 0 ⟨[],[],[]⟩ p.procs).L=_
  rw[h1];exact g3
theorem aE.at9 {P:Program} {f:FuncId} {pre post:List D} {rows pR:List (List D)} {z z' k k':Nat} {b:Bool} (h:aE P f (pre++ .slice (.tok 0) z rows::post) ⟨[],[some k]⟩ (.tuple [.slice (.tok 0) z' pR, .bool b]) ⟨[],[some k']⟩)
 (hp:D.bK 0 0 pre=true) (ha:D.bK 0 0 post=true) (hw:D.jd 0 0 rows=true) (hw':D.jd 0 0 pR=true)
 {s:St} {t:Nat} (ht:s.ay[t]? = some (some k)):aE P f (pre++ .slice (.tok t) z rows::post) s (.tuple [.slice (.tok t) z' pR, .bool b]) ⟨s.ah,s.ay.set t (some k')⟩:=by
 refine bW.frame [] [t] h (by simp) (by simp) (by simp) (by simpa using (List.getElem?_eq_some_iff.1 ht).1) rfl (fun i o' ds e1 e2=>by simp at e1) rfl (fun i t' e1=>?_)
  ?_ ?_ ?_
 ·cases i with
  |zero=>simp at e1;subst e1;simp[ht]
  |succ i=>simp at e1
 ·have h1:=fL [] [t] _ hp
  have h2:=fL [] [t] _ ha
  rw[gK]at h1 h2
  simp[gK,D.cJ,Tag.cJ,h1,h2,jT _ _ _ hw]
 ·have h1:=jk (n':=0) (m':=1) (Nat.le_refl 0) (Nat.zero_le 1) _ hp
  have h2:=jk (n':=0) (m':=1) (Nat.le_refl 0) (Nat.zero_le 1) _ ha
  rw[Al]at h1 h2 ⊢
  simp only[List.length_nil,List.length_cons,List.all_append,h1,Bool.true_and,List.all_cons,h2,Bool.and_true,D.ok,Tag.ok,nL (Nat.zero_le 0) (Nat.zero_le 1) _ hw]
  rfl
 ·rintro _ _ ⟨rfl,rfl⟩
  refine⟨by simp[D.back,D.cJ,D.eQ,Tag.cJ,kv,jT _ _ _ hw'], ?_⟩
  simp[St.back,lk]
theorem ah8 {seen l:List aF} (hl:seen.length+l.length<1000000000):aE Tryz.prog rI [.slice (.tok 0) 1 (seen.map encStr), .slice .shared 1 (l.map encStr)] ⟨[],[some seen.length]⟩
 (.tuple [.slice (.tok 0) 1 ((jG seen l).1.map encStr), .bool (jG seen l).2]) ⟨[],[some (jG seen l).1.length]⟩:=by
 generalize hR:jG seen l=R
 refine aE.go KP rfl fun B Q hB hQ=>?_
 have⟨hD,gA,gB,gC⟩:=cd
 repeat' (first
 |simp only[go_sem,hD,gA,gB,gC]
 |(with_reducible refine aD hQ ?_;exact bx))
 refine fj 0 1 (bl.ind (ι:=List aF×Nat×List aF×Nat) (fun i=>l.drop i.2.1=i.1∧jG i.2.2.1 i.1=R∧i.2.2.2=i.2.2.1.length∧i.2.2.1.length+i.1.length<1000000000) (fun i=>i.1.length)
  (fun i=> [(0, .slice (.tok 0) 1 (i.2.2.1.map encStr)),(8, .slice .shared 1 (l.map encStr)),(9, .int .i64 (l.length:Int)),(10, .int .i64 (i.2.1:Int))]) (fun i=>⟨[],[some i.2.2.2]⟩) ?_ (l,0,seen,seen.length) ⟨rfl,hR,rfl,hl⟩)
 clear hR
 rintro⟨rest,k,out,n⟩ ⟨h1,h2,h3,h4⟩ IH
 dsimp only at h1 h2 h3 h4
 subst h3
 cases rest with
 |nil=>
  have hD:=drop_nil h1
  simp only[jG]at h2
  subst h2
  repeat' (first
 |simp only[go_sem,hD,gA,gB,gC]
 |(with_reducible refine aD hQ ?_;exact bx))
 | cons x rest=>
  obtain⟨gA,g2,hD,g4⟩:=drop_cons h1
  have cH:k<4611686018427387904:=by omega
  simp only[List.length_cons]at h4
  have gB:(out.length+1)*17≤bp:=by unfold bp;omega
  have JX:=fun g s=>km (l:=out) (by omega) x g s
  simp only[jG]at h2
  rcases Bool.eq_false_or_eq_true (fv out x)with c1|c1
  ·simp only [c1,if_true]at h2
   subst h2
   repeat' (first
 |simp only[go_sem,hD,gA,gB,gC,c1]
 |(with_reducible refine CU (JX _ _) ?_)
 | (with_reducible refine aD hQ ?_;exact bx))
  ·simp only [c1,Bool.false_eq_true,if_false]at h2
   repeat' (first
 |simp only[go_sem,hD,gA,gB,gC,c1]
 |(with_reducible refine CU (JX _ _) ?_)
 | (with_reducible refine aD hQ ?_;exact bx))
   refine dW 0 1 ?_ ?_ (IH (rest,k+1,out++ [x],out.length+1) ⟨g2,h2,by simp,by simp;omega⟩ (Nat.lt_succ_self _))
   ·(simp only[go_sem,hD,gA,gB,gC,aH cH,List.map_append,List.map_cons,List.map_nil,encStr];try exact bO)
   ·(simp only[go_sem,hD,gA,gB,gC,aH cH,List.map_append,List.map_cons,List.map_nil,encStr];try exact bO)
theorem WT {seen l:List aF} (hl:seen.length+l.length<1000000000) {s:St} {t:Nat} (ht:s.ay[t]? = some (some seen.length)):aE Tryz.prog rI [.slice (.tok t) 1 (seen.map encStr), .slice .shared 1 (l.map encStr)] s
 (.tuple [.slice (.tok t) 1 ((jG seen l).1.map encStr), .bool (jG seen l).2]) ⟨s.ah,s.ay.set t (some (jG seen l).1.length)⟩:=
 (ah8 hl).at9 (pre:= []) (post:= [_]) rfl (by simp[D.bK,D.ok,Tag.ok,fe]) (fe _) (fe _) ht
theorem ZO (x:Im):(dM x)[2]? = some (.slice .shared 1 (x.s.labels.map encStr)):=nd rfl
theorem WU (x:Im):(dM x)[3]? = some (.str x.s.name):=nd rfl
attribute [go_sem] ZO WU
def lE (fin:List aF) (label:aF):List Sm→Int×Bool
 | []=>if fv fin label then(-1,true)else(0,false)
 |v::l=>if fv v.labels label then(v.id,true)else lE fin label l
theorem DR (fin:List aF) (label:aF) : ∀ l:List Sm,(lE fin label l).2=fv (gy l++fin) label
 | []=>by simp only[lE,gy,List.nil_append];split<;>simp_all
 | v::l=>by
  simp only[lE,gy,List.append_assoc]
  have h:=DR fin label l
  rw[Bool.eq_iff_iff,gJ]at h
  split
  ·rename_i c
   exact((gJ _ _).2 (List.mem_append.2 (.inl ((gJ _ _).1 c)))).symm
  ·rename_i c
   have:label∉v.labels:=fun m=>c ((gJ _ _).2 m)
   rw[Bool.eq_iff_iff,h,gJ]
   exact⟨fun m=>List.mem_append.2 (.inr m),fun m=>(List.mem_append.1 m).resolve_left this⟩
theorem NV {p:Pg} {v:Sm} (ho:p.jv) {f:Pc} (hf:f∈p.procs) (hv:v∈Sm.bZ f.body):v.labels.length≤900000:=by
 have key : ∀ n:Nat,(∀ s:Sm,s.pre.length≤n→∀ v∈s.pre,v.labels.length≤s.size)∧(∀ l:List Sm,(Sm.bZ l).length≤n→∀ v∈Sm.bZ l,v.labels.length≤Sm.a7 l):=by
  intro n
  induction n with
  |zero=>
   refine⟨fun s h=>by rw[Sm.mN]at h;simp at h,fun l h v m=>?_⟩
   have:=List.eq_nil_of_length_eq_zero (Nat.le_zero.1 h)
   rw[this]at m;cases m
  | succ n ih=>
   have h1 : ∀ s:Sm,s.pre.length≤n+1→∀ v∈s.pre,v.labels.length≤s.size:=by
    intro s h v m
    rw[Sm.mN]at h m
    simp only[List.length_cons,List.length_append]at h
    obtain⟨id,kind,labels,name,proc,x,has,args,aM,aL⟩:=s
    simp only[Sm.size]
    rcases List.mem_cons.1 m with rfl|m
    ·dsimp only;omega
    ·rcases List.mem_append.1 m with m | m
     ·have:=ih.2 aM (by dsimp only at h;omega) v m;omega
     ·have:=ih.2 aL (by dsimp only at h;omega) v m;omega
   refine⟨h1,fun l=>?_⟩
   induction l with
   |nil=>intro _ v m;cases m
   |cons s l WA=>
    intro h v m
    simp only[Sm.bZ,List.length_append]at h
    simp only[Sm.bZ]at m
    simp only[Sm.a7]
    rcases List.mem_append.1 m with m|m
    ·have:=h1 s (by omega) v m;omega
    ·have:=WA (by omega) v m;omega
 have h1:=(key (Sm.bZ f.body).length).2 f.body (Nat.le_refl _) v hv
 have h2:=Pc.da hf
 have h3:=ho.procs.2.1
 simp only[Pc.size]at h2
 omega
theorem Kd {p:Pg} (ho:p.jv) {f:Pc} (hf:f∈p.procs):f.fin.length≤900000:=by
 have h2:=Pc.da hf
 have h3:=ho.procs.2.1
 simp only[Pc.size]at h2
 omega
theorem HT {p:Pg} (ho:p.jv) {f:Pc} (hf:f∈p.procs):(Sm.bZ f.body).length≤900000:=by
 rw[← BO]
 have:=oR f.body
 have h2:=Pc.da hf
 have h3:=ho.procs.2.1
 simp only[Pc.size]at h2
 omega
theorem ah9 {p:Pg} (ho:p.jv) (hb:p.may=true) {i:Nat} {f:Pc} (hf:p.procs[i]? = some f) (label:aF) (s:St) :
 aE Tryz.prog pW [.dN (ga p) 0, .int .i64 (i:Int), .str label] s (.tuple [.int .i64 (lE f.fin label (Sm.bZ f.body)).1, .bool (lE f.fin label (Sm.bZ f.body)).2]) s:=by
 refine aE.pure ?_ (by simp[D.bK,D.ok,we]) rfl s
 obtain⟨sT,sC,sB⟩:=ho.procs
 have Cg:=List.mem_of_getElem? hf
 have DA:=fun s=>ah7 hb hf (by omega) s
 have rp:=tF (i:Int) 0 (-1) 0 f.body
 have NW:=HT ho Cg
 have ry:=Kd ho Cg
 have Fh:=fun s=>tB (l:=f.fin) (by omega) label s
 have sw:i<p.procs.length:=(List.getElem?_eq_some_iff.1 hf).1
 generalize hI:Sm.iM (i:Int) 0 (-1) 0 f.body=I at *
 have hIl:I.length≤900000:=by rw[← rp,List.length_map]at NW;exact NW
 obtain⟨R,hR⟩ : ∃ R,lE f.fin label (Sm.bZ f.body)=R:=⟨_,rfl⟩
 rw[hR]
 rw[← rp]at hR
 unfold S0
 refine aE.go ER rfl fun B Q hB hQ=>?_
 have⟨hD,gA,gB,gC⟩:=cd
 repeat' (first
 |simp only[go_sem,hD,gA,gB,gC]
 |(with_reducible refine CU (DA _) ?_)
 |(with_reducible refine aD hQ ?_;exact bx))
 refine fj 0 0 (bl.ind (ι:=List Im×Nat) (fun j=>I.drop j.2=j.1∧lE f.fin label (j.1.map Im.s)=R) (fun j=>j.1.length)
  (fun j=> [(0, .dN (ga p) 0),(1, .int .i64 (i:Int)),(2, .str label),(12, .slice .shared 17 (I.map dM)),(13, .int .i64 (I.length:Int)),(14, .int .i64 (j.2:Int))]) (fun j=>⟨[],[]⟩) ?_ (I,0) ⟨rfl,hR⟩)
 clear hR
 rintro⟨rest,k⟩ ⟨h1,h2⟩ IH
 dsimp only at h1 h2
 cases rest with
 | nil=>
  have hD:=drop_nil h1
  simp only[List.map_nil,lE]at h2
  rcases Bool.eq_false_or_eq_true (fv f.fin label)with c1|c1
  ·simp only [c1,if_true]at h2
   subst h2
   repeat' (first
 |simp only[go_sem,hD,gA,gB,gC,o9,hf,c1]
 |(with_reducible refine CU (Fh _) ?_)
 | (with_reducible refine aD hQ ?_;exact bx))
  ·simp only [c1,Bool.false_eq_true,if_false]at h2
   subst h2
   repeat' (first
 |simp only[go_sem,hD,gA,gB,gC,o9,hf,c1]
 |(with_reducible refine CU (Fh _) ?_)
 |(with_reducible refine aD hQ ?_;exact bx))
 | cons a rest=>
  obtain⟨gA,g2,hD,g4⟩:=drop_cons h1
  have cH:k<4611686018427387904:=by omega
  have DB:a.s∈Sm.bZ f.body:=by rw[← rp];exact List.mem_map_of_mem (List.mem_of_getElem? gA)
  have nu:=fun s=>tB (l:=a.s.labels) (by have:=NV ho Cg DB;omega) label s
  simp only[List.map_cons,lE]at h2
  rcases Bool.eq_false_or_eq_true (fv a.s.labels label)with c1|c1
  ·simp only [c1,if_true]at h2
   subst h2
   repeat' (first
 |simp only[go_sem,hD,gA,gB,gC,c1]
 |(with_reducible refine CU (nu _) ?_)
 | (with_reducible refine aD hQ ?_;exact bx))
  ·simp only [c1,Bool.false_eq_true,if_false]at h2
   repeat' (first
 |simp only[go_sem,hD,gA,gB,gC,c1]
 |(with_reducible refine CU (nu _) ?_)
 | (with_reducible refine aD hQ ?_;exact bx))
   refine dW 0 0 ?_ ?_ (IH (rest,k+1) ⟨g2,h2⟩ (Nat.lt_succ_self _))
   ·(simp only[go_sem,hD,gA,gB,gC,aH cH];try exact bO)
   ·(simp only[go_sem,hD,gA,gB,gC,aH cH];try exact bO)
theorem ad4 {p:Pg} (ho:p.jv) (hb:p.may=true) {i:Nat} {f:Pc} (hf:p.procs[i]? = some f) (m:Im) (hm:m.proc=(i:Int)) (s:St) :
 aE Tryz.prog xx [.dN (ga p) 0, .agg (dM m)] s (.bool (kn f.labels m.s m.loop)) s:=by
 refine aE.pure ?_ (by simp[D.bK,D.ok,we,Tl]) rfl s
 have rB:=fun s=>ah9 ho hb hf m.s.name s
 have aia:=DR f.fin m.s.name (Sm.bZ f.body)
 rw[← hm]at rB
 obtain⟨A,hA⟩ : ∃ A,lE f.fin m.s.name (Sm.bZ f.body)=A:=⟨_,rfl⟩
 rw[hA]at rB aia
 obtain⟨R,hR⟩ : ∃ R,kn f.labels m.s m.loop=R:=⟨_,rfl⟩
 rw[hR]
 unfold kn Pc.labels at hR
 unfold S0
 rcases Bool.eq_false_or_eq_true (m.s.kind==7)with c1|c1
 ·simp only [c1,Bool.true_or,if_true]at hR
  subst hR
  refine aE.go qM rfl fun B Q hB hQ=>?_
  have⟨hD,gA,gB,gC⟩:=cd
  repeat' (first
 |simp only[go_sem,hD,gA,gB,gC,c1]
 |(with_reducible refine aD hQ ?_;exact bx))
 rcases Bool.eq_false_or_eq_true (m.s.kind==8)with c2|c2
 ·simp only [c1,c2,Bool.or_true,if_true]at hR
  subst hR
  refine aE.go qM rfl fun B Q hB hQ=>?_
  have⟨hD,gA,gB,gC⟩:=cd
  repeat' (first
 |simp only[go_sem,hD,gA,gB,gC,c1,c2]
 |(with_reducible refine aD hQ ?_;exact bx))
 rcases Bool.eq_false_or_eq_true (m.s.kind==10)with c3|c3
 ·simp only [c1,c2,c3,Bool.or_self,Bool.false_eq_true,if_false,if_true, ← aia]at hR
  subst hR
  refine aE.go qM rfl fun B Q hB hQ=>?_
  have⟨hD,gA,gB,gC⟩:=cd
  repeat' (first
 |simp only[go_sem,hD,gA,gB,gC,c1,c2,c3]
 |(with_reducible refine CU (rB _) ?_)
 |(with_reducible refine aD hQ ?_;exact bx))
 ·simp only [c1,c2,c3,Bool.or_self,Bool.false_eq_true,if_false]at hR
  subst hR
  refine aE.go qM rfl fun B Q hB hQ=>?_
  have⟨hD,gA,gB,gC⟩:=cd
  repeat' (first
 |simp only[go_sem,hD,gA,gB,gC,c1,c2,c3]
 |(with_reducible refine aD hQ ?_;exact bx))
end Go.Abs
namespace Go.Abs
set_option maxRecDepth 8000
open Go.Proofs
theorem ad5 {p:Pg} (h:p.jv) (mO:(p.scope.1==0)=true) (s:St):aE Tryz.prog tf [.agg (bJ p)] s (.dN (ga p) 0) s:=by
 refine aE.pure ?_ (by simp[D.bK,D.ok,jh]) (by simp[D.ok,we]) s
 obtain⟨sT,sC,sB⟩:=h.procs
 have qV:=fun s=>xK h s
 have dC:=fun s=>Ej (p:=p) (by omega) s
 have b0:(p.scope.1 != 0) = !(p.scope.1==0):=rfl
 rw[mO]at b0
 unfold S0
 refine aE.go AL rfl fun B Q hB hQ=>?_
 have⟨hD,gA,gB,gC⟩:=cd
 repeat' (first
 |simp only[go_sem,hD,gA,gB,gC,b0,Bool.not_true]
 |(with_reducible refine CU (qV _) ?_)
 |(with_reducible refine CU (dC _) ?_)
 |(with_reducible refine aD hQ ?_;exact bx))
theorem ad6 {p:Pg} (h:p.jv) (mO:(p.scope.1==0)=false) (s:St):aE Tryz.prog tf [.agg (bJ p)] s .eI s:=by
 refine aE.pure ?_ (by simp[D.bK,D.ok,jh]) rfl s
 have qV:=fun s=>xK h s
 have b0:(p.scope.1 != 0) = !(p.scope.1==0):=rfl
 rw[mO]at b0
 unfold S0
 refine aE.go AL rfl fun B Q hB hQ=>?_
 have⟨hD,gA,gB,gC⟩:=cd
 repeat' (first
 |simp only[go_sem,hD,gA,gB,gC,b0,Bool.not_false]
 |(with_reducible refine CU (qV _) ?_)
 |(with_reducible refine aD hQ ?_;exact bx))
mutual
theorem ZP {pr up next loop:Int} : ∀ (s:Sm) (m:Im),m∈s.tD pr up next loop→m.proc=pr
 | ⟨id,kind,labels,name,pc,x,has,args,aM,aL⟩,m,h=>by
  simp only[Sm.tD]at h
  rcases List.mem_cons.1 h with rfl|h
  ·rfl
  ·rcases List.mem_append.1 h with h | h
   ·exact yU aM m h
   ·exact yU aL m h
theorem yU {pr up next loop:Int} : ∀ (l:List Sm) (m:Im),m∈Sm.iM pr up next loop l→m.proc=pr
 |s::l,m,h=>by
  simp only[Sm.iM]at h
  rcases List.mem_append.1 h with h|h
  ·exact ZP s m h
  ·exact yU l m h
end
theorem zP : ∀ a b:List Sm,gy (a++b)=gy a++gy b
 | [],b=>rfl
 |v::a,b=>by simp only[List.cons_append,gy,zP a b,List.append_assoc]
mutual
theorem Ps : ∀ s:Sm,(gy s.pre).length≤s.size
 |⟨id,kind,labels,name,pc,x,has,args,aM,aL⟩=>by
  have:=tQ aM;have:=tQ aL
  simp only[Sm.pre,gy,zP,List.length_append,Sm.size];omega
theorem tQ : ∀ l:List Sm,(gy (Sm.bZ l)).length≤Sm.a7 l
 | []=>Nat.le_refl _
 |s::l=>by
  have:=Ps s;have:=tQ l
  simp only[Sm.bZ,zP,List.length_append,Sm.a7];omega
end
theorem WV (seen l:List aF):(jG seen l).1.length≤seen.length+l.length:=(J5 l seen).2
theorem ZQ {p:Pg} (h:p.jv) (s:St):aE Tryz.prog xv [.agg (bJ p)] s (.agg [.int .i64 p.jump.1, .int .i64 p.jump.2]) s:=by
 refine aE.pure ?_ (by simp[D.bK,D.ok,jh]) rfl s
 obtain⟨sT,sC,sB⟩:=h.procs
 obtain⟨R,hR⟩ : ∃ R,p.jump=R:=⟨_,rfl⟩
 rw[hR]
 unfold Pg.jump at hR
 unfold S0
 rcases Bool.eq_false_or_eq_true (p.scope.1==0)with mO|mO
 case inr=>
  have hs:=fun s=>ad6 h mO s
  simp only[mO,Bool.false_eq_true,if_false]at hR
  subst hR
  refine aE.go Ay rfl fun B Q hB hQ=>?_
  have⟨hD,gA,gB,gC⟩:=cd
  repeat' (first
 |simp only[go_sem,hD,gA,gB,gC]
 |(with_reducible refine CU (hs _) ?_)
 |(with_reducible refine aD hQ ?_;exact bx))
 have hs:=fun s=>ad5 h mO s
 have hb:=DC mO
 simp only[mO,if_true]at hR
 refine aE.go Ay rfl fun B Q hB hQ=>?_
 have⟨hD,gA,gB,gC⟩:=cd
 repeat' (first
 |simp only[go_sem,hD,gA,gB,gC]
 |(with_reducible refine CU (hs _) ?_)
 |(with_reducible refine aD hQ ?_;exact bx))
 refine fj 2 0 (bl.ind (ι:=List Pc×Nat) (fun i=>p.procs.drop i.2=i.1∧AW 7 (va i.1)=R) (fun i=>i.1.length)
  (fun i=> [(1, .ptr 0 0),(2, .ptr 1 0),(3, .dN (ga p) 0),(16, .slice .shared 5 (p.procs.map bG)),(17, .int .i64 (p.procs.length:Int)),(18, .int .i64 (i.2:Int))]) (fun i=>⟨[bJ p,[.int .i64 0, .int .i64 0]],[]⟩) ?_ (p.procs,0) ⟨rfl,hR⟩)
 clear hR
 rintro⟨rest,k⟩ ⟨h1,hR⟩ IH
 dsimp only at h1 hR
 cases rest with
 |nil=>
  have hD:=drop_nil h1
  simp only[va,AW]at hR
  subst hR
  repeat' (first
 |simp only[go_sem,hD,gA,gB,gC]
 |(with_reducible refine aD hQ ?_;exact bx))
 | cons f rest=>
  obtain⟨gA,g2,hD,g4⟩:=drop_cons h1
  have cH:k<4611686018427387904:=by omega
  have Cg:=List.mem_of_getElem? gA
  have DA:=fun s=>ah7 hb gA (by omega) s
  have rp:=tF (k:Int) 0 (-1) 0 f.body
  have sF:=Nz (k:Int) f
  have alz:=fun m=>yU (pr:=(k:Int)) (up:=0) (next:= -1) (loop:=0) f.body m
  have NW:=HT h Cg
  have ry:=Kd h Cg
  have Gc:(gy (Sm.bZ f.body)).length≤900000:=by
   have h1:=tQ f.body
   have h2:=Pc.da Cg
   simp only[Pc.size]at h2
   omega
  rw[← rp]at Gc
  generalize hI:Sm.iM (k:Int) 0 (-1) 0 f.body=I at *
  have hIl:I.length≤900000:=by rw[← rp,List.length_map]at NW;exact NW
  simp only[va, ← sF]at hR
  obtain⟨J,hJ⟩ : ∃ J,u9 f.labels f.fin [] (I.map Im.pair)=J:=⟨_,rfl⟩
  rw[hJ]at hR
  have hld:=fun(m:Im) (hm:m∈I) s=>ad4 h hb gA m (alz m hm) s
  repeat' (first
 |simp only[go_sem,hD,gA,gB,gC]
 |(with_reducible refine CU (DA _) ?_)
 | (with_reducible refine aD hQ ?_;exact bx))
  refine bl.s7 6 1 rfl ?_
  simp only[go_sem,hD,gA,gB,gC]
  refine fj 3 1 (bl.ind (ι:=List Im×Nat×List aF×Nat) (fun i=>I.drop i.2.1=i.1∧u9 f.labels f.fin i.2.2.1 (i.1.map Im.pair)=J∧i.2.2.2=i.2.2.1.length∧i.2.2.1.length+(gy (i.1.map Im.s)).length≤900000) (fun i=>i.1.length)
   (fun i=> [(1, .ptr 0 0),(2, .ptr 1 0),(3, .dN (ga p) 0),(5, .ptr 2 0),(6, .slice (.tok 0) 1 (i.2.2.1.map encStr)),(16, .slice .shared 5 (p.procs.map bG)),(17, .int .i64 (p.procs.length:Int)),(18, .int .i64 (k:Int)),
    (25, .slice .shared 17 (I.map dM)),(26, .int .i64 (I.length:Int)),(27, .int .i64 (i.2.1:Int))]) (fun i=>⟨[bJ p,[.int .i64 0, .int .i64 0],bG f],[some i.2.2.2]⟩) ?_ (I,0,[],0) ⟨rfl,hJ,rfl,by simpa using Gc⟩)
  clear hJ
  rintro⟨yN,k2,seen,n2⟩ ⟨j1,j2,j3,j4⟩ sD
  dsimp only at j1 j2 j3 j4
  subst j3
  cases yN with
  | nil=>
   have xQ:=drop_nil j1
   simp only[List.map_nil,u9]at j2
   simp only[List.map_nil,gy,List.length_nil,Nat.add_zero]at j4
   have Ke:=fun {s:St} {t:Nat} (ht:s.ay[t]? = some (some seen.length))=>WT (seen:=seen) (l:=f.fin) (by omega) ht
   obtain⟨P1,hP1⟩ : ∃ P1,jG seen f.fin=P1:=⟨_,rfl⟩
   rw[hP1]at j2 Ke
   rcases Bool.eq_false_or_eq_true P1.2 with c1|c1
   ·simp only [c1,if_true]at j2
    subst j2
    simp only at hR
    repeat' (first
 |simp only[go_sem,hD,gA,gB,gC,xQ,c1,Bool.not_true]
 |(with_reducible refine CU (Ke (by with_unfolding_all rfl)) ?_)
 | (with_reducible refine aD hQ ?_;exact bx))
    refine dW 2 0 ?_ ?_ (IH (rest,k+1) ⟨g2,hR⟩ (Nat.lt_succ_self _))
    ·(simp only[go_sem,hD,gA,gB,gC,aH cH];try exact bO)
    ·(simp only[go_sem,hD,gA,gB,gC,aH cH];try exact bO)
   ·simp only [c1,Bool.false_eq_true,if_false]at j2
    subst j2
    simp only[AW]at hR
    subst hR
    repeat' (first
 |simp only[go_sem,hD,gA,gB,gC,xQ,c1,Bool.not_false]
 |(with_reducible refine CU (Ke (by with_unfolding_all rfl)) ?_)
 | (with_reducible refine aD hQ ?_;exact bx))
  | cons m yN=>
   obtain⟨qB,j5,AS,j6⟩:=drop_cons j1
   have oU:k2<4611686018427387904:=by omega
   have Qn:=List.mem_of_getElem? qB
   have hlm:=fun s=>hld m Qn s
   simp only[List.map_cons,Im.pair,u9]at j2
   simp only[List.map_cons,gy,List.length_append]at j4
   have Ke:=fun {s:St} {t:Nat} (ht:s.ay[t]? = some (some seen.length))=>WT (seen:=seen) (l:=m.s.labels) (by omega) ht
   have hjl:=WV seen m.s.labels
   obtain⟨P1,hP1⟩ : ∃ P1,jG seen m.s.labels=P1:=⟨_,rfl⟩
   rw[hP1]at j2 Ke hjl
   rcases Bool.eq_false_or_eq_true P1.2 with c1|c1
   ·rcases Bool.eq_false_or_eq_true (kn f.labels m.s m.loop)with c2 | c2
    ·simp only [c1,c2,if_true]at j2
     repeat' (first
 |simp only[go_sem,hD,gA,gB,gC,qB,AS,c1,c2,Bool.not_true]
 |(with_reducible refine CU (Ke (by with_unfolding_all rfl)) ?_)
 |(with_reducible refine CU (hlm _) ?_)
 | (with_reducible refine aD hQ ?_;exact bx))
     refine dW 3 1 ?_ ?_ (sD (yN,k2+1,P1.1,P1.1.length) ⟨j5,j2,rfl,by dsimp only;omega⟩ (Nat.lt_succ_self _))
     ·(simp only[go_sem,hD,gA,gB,gC,aH oU];try exact bO)
     ·(simp only[go_sem,hD,gA,gB,gC,aH oU];try exact bO)
    ·simp only [c1,c2,if_true,Bool.false_eq_true,if_false]at j2
     subst j2
     simp only[AW]at hR
     subst hR
     repeat' (first
 |simp only[go_sem,hD,gA,gB,gC,qB,AS,c1,c2,Bool.not_true,Bool.not_false]
 |(with_reducible refine CU (Ke (by with_unfolding_all rfl)) ?_)
 |(with_reducible refine CU (hlm _) ?_)
 | (with_reducible refine aD hQ ?_;exact bx))
   ·simp only [c1,Bool.false_eq_true,if_false]at j2
    subst j2
    simp only[AW]at hR
    subst hR
    repeat' (first
 |simp only[go_sem,hD,gA,gB,gC,qB,AS,c1,Bool.not_false]
 |(with_reducible refine CU (Ke (by with_unfolding_all rfl)) ?_)
 |(with_reducible refine CU (hlm _) ?_)
 |(with_reducible refine aD hQ ?_;exact bx))
theorem ZR (x:It):(kF x)[2]? = some (.slice .shared 1 (x.s.labels.map encStr)):=nd rfl
theorem WW (x:It):(kF x)[14]? = some (.int .i64 x.cG):=nd rfl
attribute [go_sem] ZR WW
end Go.Abs
namespace Go.Abs
set_option maxRecDepth 8000
open Go.Proofs
def Pc.aud:List Pc→Nat
 | []=>0
 |f::l=>Sm.fR f.body+Pc.aud l
theorem ZS {p:Pg} (h:p.may=false):p.scope=(1,0):=by unfold Pg.scope;rw[h];rfl
theorem aic {p:Pg} (h:p.jv) (s:St):aE Tryz.prog zt [.agg (bJ p)] s (.agg [.int .i64 p.check.1, .int .i64 p.check.2]) s:=by
 refine aE.pure ?_ (by simp[D.bK,D.ok,jh]) rfl s
 have h1:=fun s=>Hg h.Nl s
 rw[AN]at h1
 have h2:=fun s=>xK h s
 have h3:=fun s=>No h s
 have h4:=fun s=>ZQ h s
 have h5:=fun s=>Wz h s
 obtain⟨R,hR⟩ : ∃ R,p.check=R:=⟨_,rfl⟩
 rw[hR]
 unfold Pg.check at hR
 unfold S0
 rcases Bool.eq_false_or_eq_true p.may with b0|b0
 case inr=>
  have e:((1:Int)==0)=false:=rfl
  rw[ZS b0]at hR
  simp only[e,Bool.false_eq_true,if_false]at hR
  subst hR
  refine aE.go px rfl fun B Q hB hQ=>?_
  have⟨hD,gA,gB,gC⟩:=cd
  repeat' (first
 |simp only[go_sem,hD,gA,gB,gC,b0,Bool.not_false]
 |(with_reducible refine CU (h1 _) ?_)
 |(with_reducible refine aD hQ ?_;exact bx))
 rcases Bool.eq_false_or_eq_true (p.scope.1==0)with b1|b1
 case inr=>
  simp only[b1,Bool.false_eq_true,if_false]at hR
  subst hR
  refine aE.go px rfl fun B Q hB hQ=>?_
  have⟨hD,gA,gB,gC⟩:=cd
  repeat' (first
 |simp only[go_sem,hD,gA,gB,gC,b0,b1,Bool.not_true]
 |(with_reducible refine CU (h1 _) ?_)
 |(with_reducible refine CU (h2 _) ?_)
 |(with_reducible refine aD hQ ?_;exact bx))
 simp only[b1,if_true]at hR
 rcases Bool.eq_false_or_eq_true (p.arity.1==0)with b2|b2
 case inr=>
  simp only[b2,Bool.false_eq_true,if_false]at hR
  subst hR
  refine aE.go px rfl fun B Q hB hQ=>?_
  have⟨hD,gA,gB,gC⟩:=cd
  repeat' (first
 |simp only[go_sem,hD,gA,gB,gC,b0,b1,b2,Bool.not_true]
 |(with_reducible refine CU (h1 _) ?_)
 |(with_reducible refine CU (h2 _) ?_)
 |(with_reducible refine CU (h3 _) ?_)
 |(with_reducible refine aD hQ ?_;exact bx))
 simp only[b2,if_true]at hR
 rcases Bool.eq_false_or_eq_true (p.jump.1==0)with b3|b3
 case inr=>
  simp only[b3,Bool.false_eq_true,if_false]at hR
  subst hR
  refine aE.go px rfl fun B Q hB hQ=>?_
  have⟨hD,gA,gB,gC⟩:=cd
  repeat' (first
 |simp only[go_sem,hD,gA,gB,gC,b0,b1,b2,b3,Bool.not_true]
 |(with_reducible refine CU (h1 _) ?_)
 |(with_reducible refine CU (h2 _) ?_)
 |(with_reducible refine CU (h3 _) ?_)
 |(with_reducible refine CU (h4 _) ?_)
 |(with_reducible refine aD hQ ?_;exact bx))
 simp only[b3,if_true]at hR
 subst hR
 refine aE.go px rfl fun B Q hB hQ=>?_
 have⟨hD,gA,gB,gC⟩:=cd
 repeat' (first
 |simp only[go_sem,hD,gA,gB,gC,b0,b1,b2,b3,Bool.not_true]
 |(with_reducible refine CU (h1 _) ?_)
 |(with_reducible refine CU (h2 _) ?_)
 |(with_reducible refine CU (h3 _) ?_)
 |(with_reducible refine CU (h4 _) ?_)
 |(with_reducible refine CU (h5 _) ?_)
 |(with_reducible refine aD hQ ?_;exact bx))
theorem NY {p:Pg} (h:p.jv) (s:St):aE Tryz.prog rF [.agg (bJ p)] s (.bool (p.check.1==0)) s:=by
 refine aE.pure ?_ (by simp[D.bK,D.ok,jh]) rfl s
 have h1:=fun s=>aic h s
 unfold S0
 refine aE.go Kz rfl fun B Q hB hQ=>?_
 have⟨hD,gA,gB,gC⟩:=cd
 repeat' (first
 |simp only[go_sem,hD,gA,gB,gC]
 |(with_reducible refine CU (h1 _) ?_)
 |(with_reducible refine aD hQ ?_;exact bx))
mutual
theorem alB (deep cG:Int) (aL:Bool) : ∀ s:Sm,(∀ i∈s.oB deep cG aL,i.deep≤12∧i.s.one=true)→s.DN deep
 |⟨id,kind,labels,name,proc,x,has,args,aM,e⟩,h=>by
  simp only[Sm.oB]at h
  obtain⟨h1,h2⟩:=h _ (List.mem_cons_self ..)
  exact⟨h2,h1,HU _ _ _ aM fun i m=>h i (List.mem_cons_of_mem _ (List.mem_append_left _ m)),HU _ _ _ e fun i m=>h i (List.mem_cons_of_mem _ (List.mem_append_right _ m))⟩
theorem HU (deep cG:Int) (aL:Bool) : ∀ l:List Sm,(∀ i∈Sm.qC deep cG aL l,i.deep≤12∧i.s.one=true)→Sm.zN deep l
 | [],_=>trivial
 |s::l,h=>by
  simp only[Sm.qC]at h
  exact⟨alB _ _ _ s fun i m=>h i (List.mem_append_left _ m),HU _ _ _ l fun i m=>h i (List.mem_append_right _ m)⟩
end
mutual
theorem ad7 : ∀ s:Sm,s.pre.length=s.iE
 |⟨id,kind,labels,name,proc,x,has,args,aM,e⟩=>by simp only[Sm.pre,Sm.iE,List.length_cons,List.length_append,BT aM,BT e];omega
theorem BT : ∀ l:List Sm,(Sm.bZ l).length=Sm.fR l
 | []=>rfl
 |s::l=>by simp only[Sm.bZ,Sm.fR,List.length_append,ad7 s,BT l]
end
theorem Kf : ∀ {l:List Pc},Pc.mQ l=true→∀ f∈l,isName f.name=true∧f.params.length≤8∧f.vars.length≤16∧dS f.vars=true∧dS f.fin=true∧Pm.fD f.params=true
 |a::l,h,f,m=>by
  simp only[Pc.mQ]at h
  split at h
  ·cases h
  split at h
  ·cases h
  rename_i h1 h2
  simp only[Bool.or_eq_true,Bool.not_eq_true',not_or,Bool.not_eq_false,decide_eq_true_eq]at h1 h2
  rcases List.mem_cons.1 m with rfl|m
  ·exact⟨h1.1.1.1.1,by omega,by omega,h1.1.2,h1.2,h2⟩
  ·exact Kf h f m
structure Pg.WX (p:Pg):Prop where
 rl:dS p.globals=true
 LJ:(p.globals.length:Int)≤16
 procs : ∀ f∈p.procs,f.DN
 ab7:p.procs.length≤16
 vG:Pc.vG p.procs≤200
theorem Qo : ∀ l:List Pc,(l.map fun f=>Sm.qC 1 0 false f.body).flatten.length=Pc.vG l
 | []=>rfl
 |f::l=>by
  have h:(Sm.qC 1 0 false f.body).length=Sm.fR f.body:=by rw[← BT, ← HF 1 0 false f.body,List.length_map]
  simp only[List.map_cons,List.flatten_cons,List.length_append,Qo l,Pc.vG,h]
theorem Kg : ∀ (l:List It) (n:Nat),It.fD n l=true→∀ i∈l,i.deep≤12∧i.s.one=true
 |a::l,n,h,i,m=>by
  simp only[It.fD]at h
  split at h
  ·cases h
  rename_i h1
  simp only[Bool.or_eq_true,Bool.not_eq_true',not_or,Bool.not_eq_false,decide_eq_true_eq]at h1
  rcases List.mem_cons.1 m with rfl|m
  ·exact⟨by omega,h1.2⟩
  ·exact Kg l _ h i m
theorem ad8 {p:Pg} (h:p.may=true):p.WX:=by
 obtain⟨e1,e2⟩:=adD h
 obtain⟨a1,a2⟩:=w5 h
 have a3:=Kg _ _ a2
 have ht:Pc.vG p.procs=p.all.length:=by rw[e2,Qo]
 unfold Pg.may at h
 split at h
 ·cases h
 split at h
 ·cases h
 rename_i c1 c2
 simp only[Bool.or_eq_true,Bool.not_eq_true',not_or,Bool.not_eq_false,decide_eq_true_eq]at c1 c2
 refine⟨c1.2,by omega,fun f hf=>?_,by omega,by omega⟩
 obtain⟨g1,g2,g3,g4,g5,g6⟩:=Kf c2 f hf
 refine⟨g1,⟨g6,g2⟩,⟨g4,by omega⟩,g5,HU 1 0 false f.body fun i m=>a3 i ?_⟩
 rw[e2]
 exact List.mem_flatten.2 ⟨_,List.mem_map_of_mem hf,m⟩
theorem Pg.WX.may {p:Pg} (h:p.WX):p.number.may=true:=(Ty h.rl h.LJ h.procs h.ab7 h.vG).1
mutual
theorem ZT (b:Bool) (n:Nat) : ∀ s:Sm,((Sm.num b n s).1).size=s.size
 |⟨id,kind,labels,name,proc,x,has,args,aM,e⟩=>by simp only[Sm.num,Sm.size,yV b _ aM,yV b _ e]
theorem yV (b:Bool) (n:Nat) : ∀ l:List Sm,Sm.a7 (Sm.cW b n l).1=Sm.a7 l
 | []=>rfl
 |s::l=>by simp only[Sm.cW,Sm.a7,ZT b n s,yV b _ l]
end
theorem HV : ∀ (l:List Pc) (n:Nat),Pc.a7 (Pc.cW n l)=Pc.a7 l
 | [],_=>rfl
 |f::l,n=>by simp only[Pc.cW,Pc.a7,Pc.size,yV,HV l]
theorem Pg.NZ (p:Pg):p.number.size=p.size:=by simp only[Pg.number,Pg.size,HV]
mutual
theorem aid (b c:Bool) (n:Nat) : ∀ s:Sm,((Sm.num b n s).1).cp c=s.cp c
 |⟨id,kind,labels,name,proc,x,has,args,aM,e⟩=>by simp only[Sm.num,Sm.cp,Ew b _ _ aM,Ew b _ _ e];rfl
theorem Ew (b c:Bool) (n:Nat) : ∀ l:List Sm,Sm.oH c (Sm.cW b n l).1=Sm.oH c l
 | []=>rfl
 |s::l=>by simp only[Sm.cW,Sm.oH,aid b c n s,Ew b c _ l]
end
def aue (n:Nat):List Pc→List (Pc×Pc)
 | []=> []
 |f::l=>({f with body:=(Sm.cW true n f.body).1},f)::aue (Sm.cW true n f.body).2 l
def auf (id:Int) (n:Nat):List Pc→List (Pc×Pc)
 | []=> []
 |f::l=>({f with body:=(Sm.cW true n (Sm.Ga id f.body)).1},f)::auf id (Sm.cW true n (Sm.Ga id f.body)).2 l
mutual
def D.flat:D→Bool
 | .int _ _=>true
 | .bool _=>true
 | .str _=>true
 | .tuple ds=>D.HW ds
 |_=>false
def D.HW:List D→Bool
 | []=>true
 |d::r=>d.flat && D.HW r
end
theorem Kh : ∀ {l:List D},D.HW l=true→∀ {i:Nat} {d:D},l[i]? = some d→d.flat=true
 | [],_,i,d,e=>by simp at e
 |a::l,h,i,d,e=>by
  simp only[D.HW,Bool.and_eq_true]at h
  cases i with
  |zero=>simp at e;subst e;exact h.1
  |succ i=>exact Kh h.2 (by simpa using e)
theorem RD.flat {M M':Map} {s s':St} {d:D} {v:Value} (h:RD M s d v):d.flat=true→RD M' s' d v:=by
 induction h with
 |int k n=>exact fun _=> .int k n
 |bool b=>exact fun _=> .bool b
 |str l=>exact fun _=> .str l
 |tuple ds vs hl _ ih=>exact fun hf=> .tuple ds vs hl fun i d v e1 e2=>ih i d v e1 e2 (Kh (by simpa only[D.flat]using hf) e1)
 |_=>intro hf;simp only[D.flat,Bool.false_eq_true]at hf
theorem Qp {n m:Nat} : ∀ {l:List D},D.bK n m l=true→∀ {i:Nat} {d:D},l[i]? = some d→d.ok n m=true
 | [],_,i,d,e=>by simp at e
 |a::l,h,i,d,e=>by
  simp only[D.bK,Bool.and_eq_true]at h
  cases i with
  |zero=>simp at e;subst e;exact h.1
  |succ i=>exact Qp h.2 (by simpa using e)
theorem Rel.E6 {M:Map} {s:St} {w w':World} (r:Rel M s w) (E6 : ∀ k,k<w.heap.size→w'.heap[k]? = w.heap[k]?) (hs:w.heap.size≤w'.heap.size) (h1:w'.os=w.os) (h2:w'.tape=w.tape) (h3:w'.output=w.output) :
 Rel M s w'∧Ext M s w M s w':=by
 refine⟨⟨fun p o v e=>?_,fun o ds e=>?_,r.jX,r.inj,fun t n e=>?_,r.fy,r.gL⟩,⟨Le.refl M s,fun k hk _ _=>E6 k hk,fun o h h'=>by rcases h with h|h;omega;exact(h rfl).elim,fun t b c z h e=> .inl ⟨h,c,z,e⟩,fun _ _ h=>(h rfl).elim,hs,h1,h2,h3⟩⟩
 ·obtain⟨h1,h2⟩:=r.comm p o v e
  refine⟨?_,h2⟩
  rw[← h1]
  simp only[World.cell?,E6 _ (r.CO e)]
 ·obtain⟨vs,T,h1,h2⟩:=r.obj o ds e
  exact⟨vs,T,h1.keep (E6 _ h1.lt),h2⟩
 ·rcases r.tok t n e with h | ⟨p,cap,z,vs,T,h1,h2,h3⟩
  ·exact .inl h
  ·exact .inr ⟨p,cap,z,vs,T,h1,by rw[E6 _ (k7 h2)];exact h2,h3⟩
theorem aE.aug {P:Program} {f:FuncId} {args:List D} {d:D} {s:St} {o g z:Nat} {rows:List (List D)} {k:Nat} (hk:args[k]? = some (.dD z o g rows.length)) {more:List D}
 (er:s.ah[o]? = some (.int .i64 (g:Int)::(rows.flatten++more))) (hs : ∀ row∈rows,row.length=z) (h:aE P f (D.ko o g rows args) S0 d S0) (ha:D.bK 0 0 (D.ko o g rows args)=true)
 (hd:d.flat=true):aE P f args s d s:=by
 intro M w gh r hl dO Bn
 have hD:=(List.getElem?_eq_some_iff.1 hk).1
 obtain⟨b0,auh,A,_,_,hm,_⟩:=(Bn k _ _ hk (Array.getElem?_eq_getElem (by omega))).uh
 have iW:lQ s o g=some (rows.flatten++more):=by unfold lQ;rw[er];simp
 obtain⟨us,T,cap,hh,xc,CX,aCe,hle,gD,jz⟩:=r.Ir hm iW
 have xH:o<s.ah.length:=(List.getElem?_eq_some_iff.1 er).1
 have VZ : ∀ q,M.G (M.mu o) q=none:=r.jX o xH
 let M':Map:= {M with G:=fun b q=>if b=M.mu o then us[q]? else M.G b q}
 have mF : ∀ b,b≠M.mu o→∀ q,M'.G b q=M.G b q:=fun b hb q=>if_neg hb
 have le:Le M s M' s:=⟨fun b q v hq=>by
  by_cases hb:b=M.mu o
  ·subst hb;rw[VZ]at hq;cases hq
  ·rw[mF b hb];exact hq,Nat.le_refl _,fun _ _=> .refl _,Nat.le_refl _,fun t n' _ e=>⟨n',e,Nat.le_refl _,fun _=>rfl⟩⟩
 have ix : ∀ (i:Nat) (row:List D) (j:Nat) (d:D),rows[i]? = some row→row[j]? = some d→(rows.flatten++more)[i*z+j]? = some d:=by
  have gen : ∀ (rows:List (List D)),(∀ row∈rows,row.length=z)→∀ (i:Nat) (row:List D) (j:Nat) (d:D),rows[i]? = some row→row[j]? = some d→rows.flatten[i*z+j]? = some d:=by
   intro rows
   induction rows with
   |nil=>intro _ i row j d e1;simp at e1
   | cons a rows ih=>
    intro hs i row j d e1 e2
    have s6:=hs a (List.mem_cons_self ..)
    rw[List.flatten_cons]
    cases i with
    |zero=>
     simp at e1;subst e1
     rw[Nat.zero_mul,Nat.zero_add,List.getElem?_append_left (List.getElem?_eq_some_iff.1 e2).1];exact e2
    |succ i=>
     rw[List.getElem?_append_right (by rw[Nat.add_mul];omega),s6,show(i+1)*z+j - z=i*z+j by rw[Nat.add_mul];omega]
     exact ih (fun q hq=>hs q (List.mem_cons_of_mem _ hq)) i row j d (by simpa using e1) e2
  intro i row j d e1 e2
  have:=gen rows hs i row j d e1 e2
  rw[List.getElem?_append_left (List.getElem?_eq_some_iff.1 this).1];exact this
 have g1 : ∀ (i:Nat) (row:List D) (j:Nat) (d:D),rows[i]? = some row→row[j]? = some d→∃ u,M'.G (M.mu o) (0+(i*z+j))=some u:=fun i row j d e1 e2=>by
  have hD:=(List.getElem?_eq_some_iff.1 (ix i row j d e1 e2)).1
  refine⟨us[i*z+j]'(by omega), ?_⟩
  show(if M.mu o=M.mu o then us[0+(i*z+j)]? else _)=_
  rw[if_pos rfl,Nat.zero_add]
  exact Array.getElem?_eq_getElem _
 have g2 : ∀ (i:Nat) (row:List D) (j:Nat) (d:D) (u:Value),rows[i]? = some row→row[j]? = some d→M'.G (M.mu o) (0+(i*z+j))=some u→RD M' s d u:=fun i row j d u e1 e2 eu=>by
  have Cj:(if M.mu o=M.mu o then us[0+(i*z+j)]? else M.G (M.mu o) (0+(i*z+j)))=some u:=eu
  rw[if_pos rfl,Nat.zero_add]at Cj
  exact(jz _ d u (ix i row j d e1 e2) Cj).mono le
 have r0:Rel M' S0 w:=⟨fun b q v hq=>by
  have kW:(if b=M.mu o then us[q]? else M.G b q)=some v:=hq
  by_cases hb:b=M.mu o
  ·rw [if_pos hb]at kW
   rw[hb,jo hh]
   exact⟨kW,gD v (Array.mem_of_getElem? kW)⟩
  ·rw [if_neg hb]at kW
   exact r.comm b q v kW,fun o ds e=>by simp[S0]at e,fun o h=>by simp[S0]at h,fun o _ h=>by simp[S0]at h,fun t n e=>by simp[S0]at e,
  fun t b c z o hl _ ho=>by simp[S0]at ho,fun t t' b c z c' z' hl=>by obtain⟨n,hn⟩:=hl;simp[S0]at hn⟩
 have l0:Laid M' S0 w:=fun q cs hq=>⟨(hl q cs hq).1,fun o ho=>by simp[S0]at ho,fun t c z ht=>by obtain⟨n,hn⟩:=ht;simp[S0]at hn⟩
 have a0 : ∀ (i:Nat) (d:D) (v:Value),(D.ko o g rows args)[i]? = some d→gh[i]? = some v→RD M' S0 d v:=fun i d0 v e1 e2=>by
  have pT:=Qp ha e1
  rw[nh,List.getElem?_map,Option.map_eq_some_iff]at e1
  obtain⟨d1,e1,rfl⟩:=e1
  have vA:=((Bn i d1 v e1 e2).mono le).gk (M:=M') hm xc hs g1 g2
  exact RD.Bm (M:=M') (M0:=M') (s:=s) (s0:=S0) (os:= []) (ts:= []) rfl (by simp) rfl (by simp) (by simp) rfl vA _ (sg _ _ _ pT) pT
 refine(h M' w gh r0 l0 (by rw[dO,nh,List.length_map]) a0).mono fun e w' ⟨M2,d2,v,s2,h1,⟨h2,h3⟩,hx,_,h4⟩=>?_
 subst h2 h3
 have E6 : ∀ k,k<w.heap.size→w'.heap[k]? = w.heap[k]? :=fun k hk=>hx.kept k hk (fun o ho=>by simp[S0]at ho) (fun t c z ht=>by obtain⟨n,hn⟩:=ht;simp[S0]at hn)
 obtain⟨r',e'⟩:=r.E6 E6 hx.size hx.os hx.tape hx.output
 exact⟨M,d2,v,s,h1,⟨rfl,rfl⟩,e',r',h4.flat hd⟩
section
variable {P:Program} {B:gN} {nt:Nat}
theorem bW.wD {f:FuncId} {res:List (Nat×Option (Bool×Nat))} {body:AC} {args:List D} {s:St} {R:D→St→Prop} (h0:Has P f nt res body) (hl:Nat.ble args.length nt=true)
 (h : ∀ (B:gN) (Q:Exit→Tm→St→Prop),B.s=s→XV res R=Q→jJ P B nt body Q (nV 0 args) s):bW P f args s R:=by
 obtain⟨fn,hf,hc⟩:=h0
 refine bW.K4 (bW.UX (Q:=R) hf hc (Nat.le_of_ble_eq_true hl) fun B hB=>jt (h B _ hB rfl)) fun d s1 h=>⟨d,s1,Wk.refl _,gY.refl _,rfl,h⟩
theorem iS {res:List (Nat×Option (Bool×Nat))} {R:D→St→Prop} {tm:Tm} {s:St} {e:Exit} {Q:Exit→Tm→St→Prop} (hQ:XV res R=Q) (h : ∃ l,aT res tm s=some l∧R (aV l) s) (he:e = .ret∨e = .normal:=by first|exact .inl rfl|exact .inr rfl):Q e tm s:=by
 subst hQ
 rcases he with rfl|rfl<;>exact h
def upD (R:D→St→Prop) (d:D) (s:St):Prop:=∃ d' s',Wk d d'∧gY s.ah s'.ah∧s.ay=s'.ay∧R d' s'
theorem bW.up {f:FuncId} {args:List D} {s:St} {R:D→St→Prop} (h:bW P f args s (upD R)):bW P f args s R:=
 bW.K4 h fun d s1 ⟨d',s',h1,h2,h3,h4⟩=>⟨d',s',h1,h2,h3,h4⟩
def xR (tm:Tm):Tm→Prop
 | []=>True
 |(k,d)::r=>Wk (tm.get k) d∧xR tm r
theorem xR.get {tm:Tm} : ∀ {bH:Tm},xR tm bH→∀ t,Wk (tm.get t) (bH.get t)
 | [],_,t=>Wk.junk _
 |(k,d)::r,h,t=>by
  simp only[Tm.get]
  split
  ·rename_i hk;subst hk;exact h.1
  ·exact xR.get h.2 t
theorem aie (tm:Tm):xR tm [] = True:=nd rfl
theorem aif (tm:Tm) (k:Nat) (d:D) (r:Tm):xR tm ((k,d)::r)=(Wk (tm.get k) d∧xR tm r):=nd rfl
attribute [go_sem] aie aif
theorem Holds.qX {tm bH:Tm} {s:St} {act:Act} {w:World} (ht:xR tm bH) (h:Holds B nt tm s act w):Holds B nt bH s act w:=by
 obtain⟨M,e,r,hr,h1,h2⟩:=h
 exact⟨M,e,r,fun k=>ht.get k _ _ _ (hr k),h1,h2⟩
theorem bl.qX {a:AC} {Q:Exit→Tm→St→Prop} {tm bH:Tm} {s:St} (ht:xR tm bH) (h:bl P B nt a Q bH s):bl P B nt a Q tm s:=fun c hc act w hh=>h c hc act w (hh.qX ht)
theorem lS.qX {a r:AC} {Q:Exit→Tm→St→Prop} {tm bH:Tm} {s:St} (ht:xR tm bH) (h:lS P B nt a r Q bH s):lS P B nt a r Q tm s:=fun c rest hc hr act w hh=>h c rest hc hr act w (hh.qX ht)
theorem Sem.qX {a:AC} {Q:Exit→Tm→St→Prop} {tm bH:Tm} {s:St} (ht:xR tm bH) (h:Sem P B nt a Q bH s):Sem P B nt a Q tm s:=fun c hc act w hh=>h c hc act w (hh.qX ht)
end
theorem gX {s:St} {o:Nat} {r:List D} (h:s.ah[o]? = some r):o<s.ah.length:=(List.getElem?_eq_some_iff.1 h).1
theorem Qq {s:St} {a b:Nat} {r r':List D} (h:s.ah[a]? = some r) (h':s.ah[b]? = some r') (hn:r≠r'):a≠b:=fun e=>by subst e;rw[h]at h';cases h';exact hn rfl
end Go.Abs
namespace Go.Abs
def HX (x:Int):Int:=IntKind.wrap .i64 x
def wh (b:Bool):Int:=if b then 1 else 0
def TK (op a:Int):Int×Bool:=if op==3 then(HX (0 - a),true)else if op==4 then(wh (a==0),true)else(0,false)
def TL (op a b:Int):Int×Bool:=
 if b==0 then(0,false)
 else if b == -1 then if op==7 then(0,true)else if a == -9223372036854775808 then(a,true)else(HX (0 - a),true)
 else if op==7 then(a.tmod b,true)else(HX (a.tdiv b),true)
def TN (op a b:Int):Int×Bool:=
 if op==10 then(wh (decide (a<b)),true)else if op==11 then(wh (decide (a≤b)),true)else if op==12 then(wh (decide (a > b)),true)
 else if op==13 then(wh (decide (a≥b)),true)else if op==14 then(wh (a==b),true)else if op==15 then(wh (!(a==b)),true)else(0,false)
def TO (op a b:Int):Int×Bool:=
 if op==8 then(HX (a+b),true)else if op==9 then(HX (a - b),true)else if op==5 then(HX (a*b),true)
 else if op==6 ||op==7 then TL op a b
 else if op==16 then(wh (!(a==0) && !(b==0)),true)else if op==17 then(wh (!(a==0) || !(b==0)),true)
 else TN op a b
def TP (name:aF) (names:List aF) (bT:List Int):Int:=if ja name 0 names≥0 then bT.getD (ja name 0 names).toNat 0 else 0
def LK (op:Int):List (Int×Bool)→Int×Bool
 | []=>(0,false)
 | [a]=>if a.2 then TK op a.1 else(0,false)
 |a::b::_=>if !a.2 then(0,false)else if op==16 && a.1==0 then(0,true)else if op==17 && !(a.1==0)then(1,true)else if !b.2 then(0,false)else TO op a.1 b.1
mutual
def Ex.val (names:List aF) (bT:List Int):Ex→Int×Bool
 |⟨op,n,name,kids⟩=>if op==1 then(n,true)else if op==2 then(TP name names bT,true)else LK op (Ex.TQ names bT kids)
def Ex.TQ (names:List aF) (bT:List Int):List Ex→List (Int×Bool)
 | []=> []
 |x::l=>x.val names bT::Ex.TQ names bT l
end
def Ex.bM (x:Ex) (names:List aF) (bT:List Int):Int×Bool:=if x.may then x.val names bT else(0,false)
structure Fr where
 proc:Int
 names:List aF
 vars:List Nat
 call:Int
structure Mc where
 st:List Fr
 mem:List Int
 fin:Int
 steps:Int
 reads:Int
 out:List Int
 trace:List (Int×List Int)
def Mc.event (W:List Int) (m:Mc) (id:Int) (bT:List Int):Mc:=if W.contains id then {m with trace:=m.trace++ [(id,bT)]}else m
def Mc.top (m:Mc):Fr:=m.st.headD ⟨0,[],[],0⟩
def Mc.bT (m:Mc):List Int:=m.top.vars.map fun c=>m.mem.getD c 0
def Mc.cell (m:Mc) (name:aF):Nat:=m.top.vars.getD (ja name 0 m.top.names).toNat 0
def Mc.set (m:Mc) (name:aF) (v:Int):Mc:= {m with mem:=m.mem.set (m.cell name) v}
def Mc.bM (m:Mc) (x:Ex):(Int×Bool)×Mc:=
 let r:=x.bM m.top.names m.bT
 (r,if r.2 then m else {m with fin:=4})
def Mc.open (p:Pg) (m:Mc) (i:Int) (params:List Nat) (call:Int):Int×Mc:=
 match p.procs[i.toNat]? with
 |none=>(-1,m)
 |some f=>(dY f.body (-1),{m with st:=⟨i,p.globals++f.own,List.range p.globals.length++params++(List.range f.vars.length).map (m.mem.length + ·),call⟩::m.st,mem:=m.mem++List.replicate f.vars.length 0})
def fI (L:List Im) (id:Int):Im:=L.getD (id - 1).toNat ⟨Jw,0,0,0,0⟩
def Mc.close (L:List Im) (m:Mc) (zQ:Int):Int×Mc:=
 let call:=m.top.call
 let m:= {m with st:=m.st.tail}
 if call==0 then(-1,{m with fin:=1})
 else
  let it:=fI L call
  (it.next,if it.s.name == []then m else m.set it.s.name zQ)
def Mc.jW (W:List Int) (m:Mc) (s:Sm):Int×Mc:=
 if s.has then
  let r:=m.bM s.x
  (r.1.1,if r.1.2 then r.2.event W s.id [r.1.1]else r.2)
 else(0,m.event W s.id [])
def Mc.args:List Ar→Mc→List Nat→Option (List Nat)×Mc
 | [],m,out=>(some out,m)
 | a::l,m,out=>
  if a.ref then Mc.args l m (out++ [m.cell a.name])
  else
   let r:=m.bM a.x
   if r.1.2 then Mc.args l {r.2 with mem:=r.2.mem++ [r.1.1]} (out++ [r.2.mem.length])else(none,r.2)
def Mc.call (p:Pg) (W:List Int) (m:Mc) (s:Sm):Int×Mc:=
 match Mc.args s.args m []with
 |(none,m)=>(-1,m)
 |(some l,m)=>if m.st.length > 100 then(-1,{m with fin:=5})else(m.event W s.id []).open p (p.at s.proc) l s.id
def firstM (l:List Sm) (other:Int):Int:=dY l other
def Mc.do (p:Pg) (L:List Im) (tape W:List Int) (m:Mc) (it:Im):Int×Mc:=
 let s:=it.s
 if s.kind==7 then((fI L it.loop).next,m.event W s.id [])
 else if s.kind==8 then(it.loop,m.event W s.id [])
 else if s.kind==10 then((match p.procs[it.proc.toNat]? with|some f=>(lE f.fin s.name (Sm.bZ f.body)).1|none=>0),m.event W s.id [])
 else if s.kind==2 then
  match tape[m.reads.toNat]? with
  |none=>(-1,{m with fin:=3})
  |some n=>(it.next,(({m with reads:=m.reads+1} : Mc).set s.name n).event W s.id [n])
 else
  let r:=m.bM s.x
  if r.1.2 then
   let m:=r.2.event W s.id [r.1.1]
   let n:=r.1.1
   if s.kind==1 then(it.next,m.set s.name n)
   else if s.kind==3 then(it.next,{m with out:=m.out++ [n]})
   else if s.kind==5 then(if n==0 then firstM s.aL it.next else firstM s.aM it.next,m)
   else if s.kind==6 then(if n==0 then it.next else firstM s.aM s.id,m)
   else(it.next,m)
  else(-1,r.2)
def Mc.back (L:List Im) (m:Mc) (zQ:Int):Option Int×Mc:=
 let r:=m.close L zQ
 (if r.2.fin==0 then some r.1 else none,r.2)
def Mc.next (p:Pg) (L:List Im) (tape W:List Int) (fuel:Int) (at_:Int) (m:Mc):Option Int×Mc:=
 if at_ == -1 then m.back L 0
 else if m.steps==fuel then(none,{m with fin:=2})
 else
  let m:= {m with steps:=m.steps+1}
  let it:=fI L at_
  if it.s.kind==4 then
   let r:=m.call p W it.s
   (if r.2.fin==0 then some r.1 else none,r.2)
  else if it.s.kind==9 then
   let r:=m.jW W it.s
   if r.2.fin==0 then r.2.back L r.1 else(none,r.2)
  else
   let r:=m.do p L tape W it
   (if r.2.fin==0 then some r.1 else none,r.2)
def Mc.go (p:Pg) (L:List Im) (tape W:List Int) (fuel:Int):Nat→Int→Mc→Option Mc
 | 0,_,_=>none
 |N+1,at_,m=>
  match m.next p L tape W fuel at_ with
  |(none,m)=>some m
  |(some a,m)=>Mc.go p L tape W fuel N a m
def lP (p:Pg):Mc:=⟨[],List.replicate p.globals.length 0,0,0,0,[],[]⟩
def runM (p:Pg) (tape W:List Int) (fuel:Int):Option Mc:=
 let r:=(lP p).open p (p.at gi) [] 0
 Mc.go p p.bc.L tape W fuel (2*fuel.toNat+3) r.1 r.2
theorem gw (W:List Int) (m:Mc) (id:Int) (bT:List Int):(m.event W id bT).st=m.st∧(m.event W id bT).mem=m.mem∧(m.event W id bT).fin=m.fin∧(m.event W id bT).steps=m.steps∧(m.event W id bT).reads=m.reads∧(m.event W id bT).out=m.out:=by
 unfold Mc.event;split<;>exact⟨rfl,rfl,rfl,rfl,rfl,rfl⟩
theorem kp (m:Mc) (x:Ex):(m.bM x).2.st=m.st∧(m.bM x).2.mem=m.mem∧(m.bM x).2.steps=m.steps∧(m.bM x).2.reads=m.reads∧(m.bM x).2.out=m.out∧(m.bM x).2.trace=m.trace:=by
 unfold Mc.bM;dsimp only;split<;>exact⟨rfl,rfl,rfl,rfl,rfl,rfl⟩
theorem A2 : ∀ (l:List Ar) (m:Mc) (out:List Nat),(Mc.args l m out).2.st=m.st∧(Mc.args l m out).2.steps=m.steps
 | [],m,out=>⟨rfl,rfl⟩
 | a::l,m,out=>by
  simp only[Mc.args]
  split
  ·exact A2 l m _
  ·have h:=kp m a.x
   split
   ·have:=A2 l {(m.bM a.x).2 with mem:=(m.bM a.x).2.mem++ [(m.bM a.x).1.1]} (out++ [(m.bM a.x).2.mem.length])
    exact⟨this.1.trans h.1,this.2.trans h.2.2.1⟩
   ·exact⟨h.1,h.2.2.1⟩
theorem Ey (p:Pg) (m:Mc) (i:Int) (l:List Nat) (c:Int):(m.open p i l c).2.st.length≤m.st.length+1∧(m.open p i l c).2.steps=m.steps:=by
 unfold Mc.open;split
 ·exact⟨Nat.le_succ _,rfl⟩
 ·exact⟨Nat.le_refl _,rfl⟩
theorem ad9 (p:Pg) (W:List Int) (m:Mc) (s:Sm):(m.call p W s).2.st.length≤m.st.length+1∧(m.call p W s).2.steps=m.steps:=by
 have h:=A2 s.args m []
 unfold Mc.call
 generalize Mc.args s.args m [] = r at *
 obtain⟨o,m1⟩:=r
 dsimp only at h
 cases o with
 |none=>dsimp only;rw[h.1,h.2];exact⟨Nat.le_succ _,rfl⟩
 | some l=>
  dsimp only
  split
  ·dsimp only;rw[h.1,h.2];exact⟨Nat.le_succ _,rfl⟩
  ·have h2:=Ey p (m1.event W s.id []) (p.at s.proc) l s.id
   rw[(gw ..).1,(gw ..).2.2.2.1,h.1,h.2]at h2
   exact h2
theorem N0 (W:List Int) (m:Mc) (s:Sm):(m.jW W s).2.st=m.st∧(m.jW W s).2.steps=m.steps:=by
 have h:=kp m s.x
 unfold Mc.jW
 dsimp only
 split
 ·split
  ·exact⟨(gw ..).1.trans h.1,(gw ..).2.2.2.1.trans h.2.2.1⟩
  ·exact⟨h.1,h.2.2.1⟩
 ·exact⟨(gw ..).1,(gw ..).2.2.2.1⟩
theorem ab8 (p:Pg) (L:List Im) (tape W:List Int) (m:Mc) (it:Im):(m.do p L tape W it).2.st=m.st∧(m.do p L tape W it).2.steps=m.steps:=by
 have h:=kp m it.s.x
 have e:=fun(m:Mc) id bT=>(⟨(gw W m id bT).1,(gw W m id bT).2.2.2.1⟩:(m.event W id bT).st=m.st∧(m.event W id bT).steps=m.steps)
 unfold Mc.do
 dsimp only
 repeat' split
 all_goals first
  |exact e ..
  |exact⟨rfl,rfl⟩
  |exact⟨(e ..).1.trans h.1,(e ..).2.trans h.2.2.1⟩
  |exact⟨h.1,h.2.2.1⟩
theorem ZU (L:List Im) (m:Mc) (g:Int):(m.close L g).2.st=m.st.tail∧(m.close L g).2.steps=m.steps∧(m.st = []→(m.close L g).2.fin=1):=by
 unfold Mc.close
 dsimp only
 split
 ·exact⟨rfl,rfl,fun _=>rfl⟩
 ·rename_i hc
  refine⟨by split<;>rfl,by split<;>rfl,fun e=>absurd ?_ hc⟩
  simp[Mc.top,e]
theorem back_eq {L:List Im} {m:Mc} {g:Int} {a:Int} {m':Mc} (h:m.back L g=(some a,m')):m'.st.length<m.st.length∧m'.steps=m.steps:=by
 obtain⟨h1,h2,h3⟩:=ZU L m g
 unfold Mc.back at h
 dsimp only at h
 split at h
 ·rename_i hf
  simp only[Prod.mk.injEq]at h
  rw[← h.2]
  refine⟨?_,h2⟩
  rw[h1,List.length_tail]
  cases e:m.st with
  |nil=>rw[h3 e]at hf;cases hf
  |cons x l=>simp
 ·simp at h
theorem aea {p:Pg} {L:List Im} {tape W:List Int} {fuel a a':Int} {m m':Mc} (hs:m.steps≤fuel) (h:m.next p L tape W fuel a=(some a',m')) :
 m'.steps≤fuel∧2*(fuel - m'.steps)+m'.st.length<2*(fuel - m.steps)+m.st.length:=by
 unfold Mc.next at h
 split at h
 ·have:=back_eq h;omega
 split at h
 ·simp at h
 rename_i fm
 have hD:m.steps<fuel:=by(have:m.steps≠fuel:=by simpa using fm);omega
 dsimp only at h
 split at h
 ·have h1:=ad9 p W {m with steps:=m.steps+1} (fI L a).s
  simp only[Prod.mk.injEq]at h
  rw[← h.2]
  dsimp only at h1
  omega
 split at h
 ·have h1:=N0 W {m with steps:=m.steps+1} (fI L a).s
  dsimp only at h1
  split at h
  ·have h2:=back_eq h
   rw[h1.1,h1.2]at h2
   omega
  ·simp at h
 ·have h1:=ab8 p L tape W {m with steps:=m.steps+1} (fI L a)
  simp only[Prod.mk.injEq]at h
  rw[← h.2,h1.1,h1.2]
  dsimp only
  omega
theorem Qr (p:Pg) (L:List Im) (tape W:List Int) (fuel:Int) : ∀ (N:Nat) (a:Int) (m:Mc),m.steps≤fuel→2*(fuel - m.steps)+m.st.length<N→∃ m',Mc.go p L tape W fuel N a m=some m'
 | 0,_,_,_,h=>by omega
 | N+1,a,m,hs,h=>by
  simp only[Mc.go]
  cases e:m.next p L tape W fuel a with
  | mk o m1=>
   cases o with
   |none=>exact⟨m1,rfl⟩
   |some a1=>
    have:=aea hs e
    exact Qr p L tape W fuel N a1 m1 this.1 (by omega)
theorem WY (p:Pg) (tape W:List Int) {fuel:Int} (h:0≤fuel) : ∃ m,runM p tape W fuel=some m:=by
 unfold runM
 have h1:=Ey p (lP p) (p.at gi) [] 0
 have e1:(lP p).st.length=0:=rfl
 have e2:(lP p).steps=0:=rfl
 rw[e1,e2]at h1
 exact Qr p _ tape W fuel _ _ _ (by rw[h1.2];exact h) (by rw[h1.2];omega)
structure Grow (m m':Mc):Prop where
 trace : ∃ t,m'.trace=m.trace++t
 out : ∃ t,m'.out=m.out++t
 reads:m.reads≤m'.reads
 steps:m.steps≤m'.steps
def DS (L:List Im) (a:Int):Prop:=a = -1∨(1≤a∧a≤(L.length:Int))
theorem BU {L:List Im} {a:Int} (h:DS L a) (hn:a≠ -1):fI L a∈L:=by
 rcases h with h|⟨h1,h2⟩
 ·exact absurd h hn
 ·unfold fI
  rw[List.getD_eq_getElem?_getD,List.getElem?_eq_getElem (show(a - 1).toNat<L.length by omega)]
  exact List.getElem_mem _
structure LOk (p:Pg) (L:List Im):Prop where
 id : ∀ x∈L,1≤x.s.id∧x.s.id≤(L.length:Int)
 next : ∀ x∈L,DS L x.next
 loop : ∀ x∈L,x.s.kind=7∨x.s.kind=8→1≤x.loop∧x.loop≤(L.length:Int)
 IW : ∀ x∈L,x.s.kind=10→∃ f,p.procs[x.proc.toNat]? = some f∧DS L (lE f.fin x.s.name (Sm.bZ f.body)).1
 aM : ∀ x∈L,DS L (dY x.s.aM (-1))
 aL : ∀ x∈L,DS L (dY x.s.aL (-1))
 mQ : ∀ f∈p.procs,DS L (dY f.body (-1))
def aih (L:List Im) (m:Mc):Prop:=∀ fr∈m.st,fr.call=0∨(1≤fr.call∧fr.call≤(L.length:Int))
def Told (L:List Im) (r:Option Int×Mc):Prop:=
 match r.1 with
 |some a=>DS L a∧aih L r.2∧r.2.fin=0∧(r.2.trace.length:Int)=r.2.steps
 |none=>((r.2.fin=1∨r.2.fin=2)∧(r.2.trace.length:Int)=r.2.steps)∨((r.2.fin=3∨r.2.fin=4∨r.2.fin=5)∧(r.2.trace.length:Int)+1=r.2.steps)
theorem WZ (m:Mc) (x:Ex) (h:m.fin=0):((m.bM x).1.2=true→(m.bM x).2.fin=0)∧((m.bM x).1.2=false→(m.bM x).2.fin=4):=by
 unfold Mc.bM
 dsimp only
 constructor
 ·intro e;rw[if_pos e];exact h
 ·intro e;rw[e];rfl
theorem Gd : ∀ (l:List Ar) (m:Mc) (out:List Nat),m.fin=0→(Mc.args l m out).2.trace=m.trace∧(match (Mc.args l m out).1 with|some _=>(Mc.args l m out).2.fin=0|none=>(Mc.args l m out).2.fin=4)
 | [],m,out,h=>⟨rfl,h⟩
 | a::l,m,out,h=>by
  have hw:=WZ m a.x h
  have he:=kp m a.x
  simp only[Mc.args]
  by_cases c:a.ref=true
  ·rw[if_pos c];exact Gd l m _ h
  ·rw [if_neg c]
   by_cases c2:(m.bM a.x).1.2=true
   ·rw [if_pos c2]
    obtain⟨h1,h2⟩:=Gd l {(m.bM a.x).2 with mem:=(m.bM a.x).2.mem++ [(m.bM a.x).1.1]} (out++ [(m.bM a.x).2.mem.length]) (hw.1 c2)
    exact⟨h1.trans he.2.2.2.2.2,h2⟩
   ·rw [if_neg c2]
    exact⟨he.2.2.2.2.2,hw.2 (by simpa using c2)⟩
def aCf (L:List Im) (r:Int×Mc):Prop:=
 (r.2.fin=0∧DS L r.1∧aih L r.2∧(r.2.trace.length:Int)=r.2.steps)∨((r.2.fin=3∨r.2.fin=4∨r.2.fin=5)∧(r.2.trace.length:Int)+1=r.2.steps)
def aui (m:Mc):Prop:=((m.fin=1∨m.fin=2)∧(m.trace.length:Int)=m.steps)∨((m.fin=3∨m.fin=4∨m.fin=5)∧(m.trace.length:Int)+1=m.steps)
def AtR (R:Int→Prop) (a:Int):Prop:=a = -1∨R a
theorem Ez {R:Int→Prop} {l:List Sm} {o:Int} (h : ∀ v∈Sm.bZ l,R v.id) (ho:AtR R o):AtR R (dY l o):=by
 cases l with
 |nil=>exact ho
 |cons s l=>exact .inr (h s (by rw[Sm.bZ,Sm.mN];exact List.mem_append_left _ (List.mem_cons_self ..)))
mutual
theorem aii {R:Int→Prop} (proc up next loop:Int) : ∀ s:Sm,(∀ v∈s.pre,R v.id)→AtR R next→(loop=0∨R loop)→
 ∀ x∈s.tD proc up next loop,x.proc=proc∧AtR R x.next∧(x.loop=0∨R x.loop)∧AtR R (dY x.s.aM (-1))∧AtR R (dY x.s.aL (-1))∧x.s∈s.pre
 | ⟨id,kind,labels,name,pc,x,has,args,aM,aL⟩,h,hn,hl,y,m=>by
  have wK:=h _ (by rw[Sm.mN];exact List.mem_cons_self ..)
  have h1 : ∀ v∈Sm.bZ aM,R v.id:=fun v m=>h v (by rw[Sm.mN];exact List.mem_cons_of_mem _ (List.mem_append_left _ m))
  have h2 : ∀ v∈Sm.bZ aL,R v.id:=fun v m=>h v (by rw[Sm.mN];exact List.mem_cons_of_mem _ (List.mem_append_right _ m))
  have sR:AtR R (if kind==6 then id else next):=by split;exact .inr wK;exact hn
  have oc:(if kind==6 then id else loop)=0∨R (if kind==6 then id else loop):=by split;exact .inr wK;exact hl
  rw[Sm.mN]
  simp only[Sm.tD,List.mem_cons,List.mem_append]at m
  rcases m with rfl|m|m
  ·exact⟨rfl,hn,hl,Ez h1 (.inl rfl),Ez h2 (.inl rfl),List.mem_cons_self ..⟩
  ·obtain⟨g1,g2,g3,g4,g5,g6⟩:=A3 proc id _ _ aM h1 sR oc y m
   exact⟨g1,g2,g3,g4,g5,List.mem_cons_of_mem _ (List.mem_append_left _ g6)⟩
  ·obtain⟨g1,g2,g3,g4,g5,g6⟩:=A3 proc id _ _ aL h2 sR oc y m
   exact⟨g1,g2,g3,g4,g5,List.mem_cons_of_mem _ (List.mem_append_right _ g6)⟩
theorem A3 {R:Int→Prop} (proc up next loop:Int) : ∀ l:List Sm,(∀ v∈Sm.bZ l,R v.id)→AtR R next→(loop=0∨R loop)→
 ∀ x∈Sm.iM proc up next loop l,x.proc=proc∧AtR R x.next∧(x.loop=0∨R x.loop)∧AtR R (dY x.s.aM (-1))∧AtR R (dY x.s.aL (-1))∧x.s∈Sm.bZ l
 | [],_,_,_,x,m=>by simp[Sm.iM]at m
 | s::l,h,hn,hl,x,m=>by
  simp only[Sm.bZ,List.mem_append]at h
  simp only[Sm.iM,List.mem_append]at m
  simp only[Sm.bZ,List.mem_append]
  rcases m with m|m
  ·obtain⟨g1,g2,g3,g4,g5,g6⟩:=aii proc up _ loop s (fun v m=>h v (.inl m)) (Ez (fun v m=>h v (.inr m)) hn) hl x m
   exact⟨g1,g2,g3,g4,g5, .inl g6⟩
  ·obtain⟨g1,g2,g3,g4,g5,g6⟩:=A3 proc up next loop l (fun v m=>h v (.inr m)) hn hl x m
   exact⟨g1,g2,g3,g4,g5, .inr g6⟩
end
theorem N1 {x:Im} : ∀ (l:List Pc) (k:Nat),x∈rr k l→∃ i f,l[i]? = some f∧x∈Sm.iM ((k+i:Nat):Int) 0 (-1) 0 f.body
 | [],_,h=>by simp[rr]at h
 | f::l,k,h=>by
  simp only[rr,List.mem_append]at h
  rcases h with h|h
  ·exact⟨0,f,rfl,h⟩
  ·obtain⟨i,g,h1,h2⟩:=N1 l (k+1) h
   exact⟨i+1,g,by simpa using h1,by rw[show k+(i+1)=k+1+i by omega];exact h2⟩
theorem Ge {x:Im} : ∀ (l:List Pc) (k:Nat) {i:Nat} {f:Pc},l[i]? = some f→x∈Sm.iM ((k+i:Nat):Int) 0 (-1) 0 f.body→x∈rr k l
 |f::l,k,0,g,h,m=>by simp at h;subst h;exact List.mem_append_left _ m
 |f::l,k,i+1,g,h,m=>List.mem_append_right _ (Ge l (k+1) (i:=i) (by simpa using h) (by rw[show k+1+i=k+(i+1) by omega];exact m))
theorem W0 : ∀ (l:List Pc) (k:Nat),(rr k l).map Im.s=(l.map fun f=>Sm.bZ f.body).flatten
 | [],_=>rfl
 |f::l,k=>by simp only[rr,List.map_append,tF,W0 l,List.map_cons,List.flatten_cons]
theorem Qs {R:Int→Prop} {fin:List aF} {lab:aF} : ∀ {l:List Sm},(∀ v∈l,R v.id)→(lE fin lab l).2=true→AtR R (lE fin lab l).1
 | [],_,h=>by
  simp only[lE]at h ⊢
  split at h
  ·rename_i c;rw[if_pos c];exact .inl rfl
  ·cases h
 | v::l,hv,h=>by
  simp only[lE]at h ⊢
  split
  ·exact .inr (hv v (List.mem_cons_self ..))
  ·rename_i c
   rw[if_neg c]at h
   exact Qs (fun w m=>hv w (List.mem_cons_of_mem _ m)) h
def Hm (L:List Im) (k:Int) (a:Int):Prop:=1≤a∧a≤(L.length:Int)∧(fI L a).proc=k
structure DT (p:Pg) (L:List Im) (x:Im) (f:Pc):Prop where
 self:fI L x.s.id=x∧1≤x.s.id∧x.s.id≤(L.length:Int)
 proc:p.procs[x.proc.toNat]? = some f∧0≤x.proc
 mem:x.s∈Sm.bZ f.body
 next:AtR (Hm L x.proc) x.next
 loop:x.s.kind=7∨x.s.kind=8→Hm L x.proc x.loop
 aM:AtR (Hm L x.proc) (dY x.s.aM (-1))
 aL:AtR (Hm L x.proc) (dY x.s.aL (-1))
 IW:x.s.kind=10→AtR (Hm L x.proc) (lE f.fin x.s.name (Sm.bZ f.body)).1
structure POk (p:Pg) (L:List Im):Prop where
 im : ∀ x∈L,∃ f,DT p L x f
 head : ∀ (i:Nat) (f:Pc),p.procs[i]? = some f→AtR (Hm L i) (dY f.body (-1))
theorem qD {p:Pg} (h:p.Right):POk p p.bc.L:=by
 have hL:=J4 h.may
 have hs:p.bc.L.map Im.s=p.pre:=by rw[hL,W0];rfl
 have hlen:p.bc.L.length=p.pre.length:=by rw[← hs,List.length_map]
 have self : ∀ x∈p.bc.L,fI p.bc.L x.s.id=x∧1≤x.s.id∧x.s.id≤(p.bc.L.length:Int):=fun x m=>by
  obtain⟨i,hi⟩:=List.getElem?_of_mem m
  have h1:=AR h.may (i:=i) (v:=x.s) (by rw[← hs,List.getElem?_map,hi];rfl)
  have h2:=(List.getElem?_eq_some_iff.1 hi).1
  refine⟨?_,by omega,by omega⟩
  unfold fI
  rw[h1,show(((i+1:Nat):Int) - 1).toNat=i by omega,List.getD_eq_getElem?_getD,hi];rfl
 have there : ∀ (i:Nat) (f:Pc),p.procs[i]? = some f→∀ v∈Sm.bZ f.body,Hm p.bc.L i v.id:=fun i f hf v m=>by
  rw[← tF (i:Int) 0 (-1) 0 f.body]at m
  obtain⟨x,hx,rfl⟩:=List.mem_map.1 m
  have hxL:x∈p.bc.L:=by rw[hL];exact Ge p.procs 0 hf (by simpa using hx)
  obtain⟨g1,g2,g3⟩:=self x hxL
  exact⟨g2,g3,by rw[g1];exact(A3 (R:=fun _=>True) _ 0 (-1) 0 f.body (fun _ _=>trivial) (.inl rfl) (.inl rfl) x hx).1⟩
 refine⟨fun x m=>?_,fun i f hf=>Ez (there i f hf) (.inl rfl)⟩
 have m':=m
 rw[hL]at m'
 obtain⟨i,f,h1,h2⟩:=N1 p.procs 0 m'
 have hf:=List.mem_of_getElem? h1
 rw[Nat.zero_add]at h2
 obtain⟨g1,g2,g3,g4,g5,g6⟩:=A3 (R:=Hm p.bc.L i) _ 0 (-1) 0 f.body (there i f h1) (.inl rfl) (.inl rfl) x h2
 have hl:=h.leads f hf (x.s,x.loop) (by rw[← Nz (i:Int) f];exact List.mem_map.2 ⟨x,h2,rfl⟩)
 refine⟨f,self x m,⟨by rw[g1];simpa using h1,by rw[g1];exact Int.natCast_nonneg _⟩,g6,by rw[g1];exact g2,fun hk=>?_,by rw[g1];exact g4,by rw[g1];exact g5,fun hk=>?_⟩
 ·rw [g1]
  refine g3.resolve_left fun e=>?_
  unfold kn at hl
  rw[if_pos (by rcases hk with hk|hk<;>simp[hk]),e]at hl
  cases hl
 ·rw [g1]
  refine Qs (there i f h1) ?_
  unfold kn at hl
  rw[if_neg (by simp[hk]),if_pos (by simp[hk])]at hl
  rw[DR];exact hl
theorem N2 {vars globals:List aF} {n:aF} : ∀ {l:List Pm},yJ vars globals n l≠0→n∈l.map (·.name)∨n∈vars∨n∈globals
 | [],h=>by
  simp only[yJ]at h
  split at h
  ·rename_i e;exact .inr (.inl ((gJ _ _).1 e))
  ·split at h
   ·rename_i e;exact .inr (.inr ((gJ _ _).1 e))
   ·exact absurd rfl h
 | a::l,h=>by
  simp only[yJ]at h
  split at h
  ·rename_i e;exact .inl (by simp only[List.map_cons,List.mem_cons];exact .inl (by simpa using Eq.symm (by simpa using e)))
  ·rcases N2 h with h | h
   ·exact .inl (List.mem_cons_of_mem _ h)
   ·exact .inr h
theorem ZV {p:Pg} {f:Pc} {v:Sm} (h:v.known p f p.pn=true) {n:aF} (m:n∈v.said):n∈p.globals++f.own:=by
 simp only[Sm.known,Bool.and_eq_true,Bool.not_eq_true']at h
 have h1:f.jQ p n≠0:=fun e=>by
  have:v.said.any (fun n=>f.jQ p n==0)=true:=List.any_eq_true.2 ⟨n,m,by simp[e]⟩
  rw[h.1]at this;cases this
 simp only[List.mem_append,Pc.own,Pc.qz]
 rcases N2 h1 with h2|h2|h2
 ·exact .inr (.inl h2)
 ·exact .inr (.inr h2)
 ·exact .inl h2
theorem wW {n:aF} : ∀ {l:List Ar} {out:List aF},n∈out∨(∃ a∈l,a.ref=true∧a.name=n)→n∈Ar.said out l
 | [],out,h=>by rcases h with h|⟨a,m,_⟩;exact h;cases m
 | b::l,out,h=>by
  simp only[Ar.said]
  refine wW ?_
  rcases h with h|⟨a,m,h1,h2⟩
  ·left;split<;>simp[h]
  ·rcases List.mem_cons.1 m with rfl | m
   ·left;rw[if_pos h1];simp[h2]
   ·exact .inr ⟨a,m,h1,h2⟩
theorem DU {x:aF} : ∀ {l:List aF} {k:Nat},x∈l→∃ j:Nat,ja x (k:Int) l=((k+j:Nat):Int)∧j<l.length
 | s::l,k,m=>by
  by_cases e:x=s
  ·subst e;exact⟨0,by simp[ja],by simp⟩
  ·have e':(x==s)=false:=by simp [e]
   obtain⟨j,h1,h2⟩:=DU (l:=l) (k:=k+1) ((List.mem_cons.1 m).resolve_left e)
   refine⟨j+1, ?_,by simp;omega⟩
   simp only[ja,e',Bool.false_eq_true,if_false]
   rw[show(k:Int)+1=((k+1:Nat):Int) by omega,h1];congr 1;omega
theorem EA {name:aF} {f:Pc} : ∀ {l:List Pc} {k:Nat},gQ name l=some f→∃ j:Nat,lY (fun f:Pc=>f.name==name) (k:Int) l=((k+j:Nat):Int)∧l[j]? = some f
 | g::l,k,h=>by
  simp only[gQ]at h
  by_cases e:(g.name==name)=true
  ·rw [if_pos e]at h;cases h
   exact⟨0,by simp only[lY,e,if_true,Nat.add_zero],rfl⟩
  ·have e':(g.name==name)=false:=by simpa using e
   rw[if_neg e]at h
   obtain⟨j,h1,h2⟩:=EA (l:=l) (k:=k+1) h
   refine⟨j+1, ?_,by simpa using h2⟩
   simp only[lY,e',Bool.false_eq_true,if_false]
   rw[show(k:Int)+1=((k+1:Nat):Int) by omega,h1];congr 1;omega
def Gf (p:Pg) (n:Nat) (fr:Fr):Prop:=∃ f,p.procs[fr.proc.toNat]? = some f∧0≤fr.proc∧fr.names=p.globals++f.own∧fr.vars.length=fr.names.length∧∀ c∈fr.vars,c<n
def EB (L:List Im):List Fr→Prop
 | []=>False
 | [fr]=>fr.call=0
 |fr::wE::l=>(Hm L wE.proc fr.call∧(fI L fr.call).s.kind=4)∧EB L (wE::l)
structure qE (p:Pg) (L:List Im) (a:Int) (m:Mc):Prop where
 st:EB L m.st
 fr : ∀ fr∈m.st,Gf p m.mem.length fr
 at_:AtR (Hm L m.top.proc) a
 rl:p.globals.length≤m.mem.length
theorem Gf.mono {p:Pg} {n n':Nat} {fr:Fr} (h:Gf p n fr) (hn:n≤n'):Gf p n' fr:=by
 obtain⟨f,h1,h2,h3,h4,h5⟩:=h
 exact⟨f,h1,h2,h3,h4,fun c m=>Nat.lt_of_lt_of_le (h5 c m) hn⟩
theorem EB.ne {L:List Im} {l:List Fr} (h:EB L l) : ∃ fr r,l=fr::r:=by
 cases l with
 |nil=>exact h.elim
 |cons fr r=>exact⟨fr,r,rfl⟩
theorem Mc.aeb {L:List Im} {m:Mc} (h:EB L m.st):m.top∈m.st:=by
 obtain⟨fr,r,e⟩:=h.ne
 simp[Mc.top,e]
theorem qE.of {p:Pg} {L:List Im} {a a':Int} {m m':Mc} (h:qE p L a m) (h1:m'.st=m.st) (h2:m.mem.length≤m'.mem.length) (h3:AtR (Hm L m.top.proc) a'):qE p L a' m':=by
 have ht:m'.top=m.top:=by unfold Mc.top;rw[h1]
 exact⟨by rw[h1];exact h.st,fun fr hf=>(h.fr fr (by rw[← h1];exact hf)).mono h2,by rw[ht];exact h3,Nat.le_trans h.rl h2⟩
section
variable {p:Pg} {L:List Im} {m:Mc}
theorem aec {n:aF} {k:Nat} (h:Gf p k m.top) (hn:n∈m.top.names):m.cell n<k∧∃ j:Nat,ja n 0 m.top.names=(j:Int)∧m.top.vars[j]? = some (m.cell n):=by
 obtain⟨f,h1,h2,h3,h4,h5⟩:=h
 obtain⟨j,e1,e2⟩:=DU (k:=0) hn
 have e3:ja n 0 m.top.names=(j:Int):=by simpa using e1
 have e4:m.top.vars[j]? = some (m.cell n):=by
  unfold Mc.cell
  rw[e3,Int.toNat_natCast,List.getD_eq_getElem?_getD,List.getElem?_eq_getElem (by omega)];rfl
 exact⟨h5 _ (List.mem_of_getElem? e4),j,e3,e4⟩
theorem IX {k:Nat} (hk:p.globals.length≤k) : ∀ (l:List Ar) (m:Mc) (out:List Nat),Gf p m.mem.length m.top→(∀ a∈l,a.ref=true→a.name∈m.top.names)→(∀ c∈out,c<m.mem.length)→
 m.mem.length≤(Mc.args l m out).2.mem.length∧∀ o,(Mc.args l m out).1=some o→o.length=out.length+l.length∧∀ c∈o,c<(Mc.args l m out).2.mem.length
 | [],m,out,h,_,ho=>⟨Nat.le_refl _,fun o e=>by cases e;exact⟨rfl,ho⟩⟩
 | a::l,m,out,h,hn,ho=>by
  simp only[Mc.args]
  by_cases c:a.ref=true
  ·rw [if_pos c]
   obtain⟨g1,g2⟩:=IX hk l m (out++ [m.cell a.name]) h (fun b mb=>hn b (List.mem_cons_of_mem _ mb)) fun x mx=>by
    rcases List.mem_append.1 mx with mx|mx
    ·exact ho x mx
    ·rw[List.mem_singleton.1 mx];exact(aec h (hn a (List.mem_cons_self ..) c)).1
   exact⟨g1,fun o e=>⟨by rw[(g2 o e).1];simp;omega,(g2 o e).2⟩⟩
  ·rw [if_neg c]
   have he:=kp m a.x
   by_cases c2:(m.bM a.x).1.2=true
   ·rw [if_pos c2]
    have ht:({(m.bM a.x).2 with mem:=(m.bM a.x).2.mem++ [(m.bM a.x).1.1]} : Mc).top=m.top:=by unfold Mc.top;rw[he.1]
    have hl:(m.bM a.x).2.mem.length=m.mem.length:=by rw[he.2.1]
    obtain⟨g1,g2⟩:=IX hk l {(m.bM a.x).2 with mem:=(m.bM a.x).2.mem++ [(m.bM a.x).1.1]} (out++ [(m.bM a.x).2.mem.length]) (by rw[ht];exact h.mono (by simp[hl])) (by rw[ht];exact fun b mb=>hn b (List.mem_cons_of_mem _ mb)) fun x mx=>by
     rcases List.mem_append.1 mx with mx|mx
     ·have:=ho x mx;simp[hl];omega
     ·rw[List.mem_singleton.1 mx];simp
    exact⟨Nat.le_trans (by simp[hl]) g1,fun o e=>⟨by rw[(g2 o e).1];simp;omega,(g2 o e).2⟩⟩
   ·rw [if_neg c2]
    exact⟨by rw[he.2.1];exact Nat.le_refl _,fun o e=>by cases e⟩
theorem Qt (hP:POk p L) {i:Nat} {f:Pc} (hf:p.procs[i]? = some f) {l:List Nat} {call:Int} (hl:l.length=f.params.length) (hc : ∀ c∈l,c<m.mem.length) (hg:p.globals.length≤m.mem.length)
 (Cb : ∀ fr∈m.st,Gf p m.mem.length fr) (jq:(m.st = []∧call=0)∨(EB L m.st∧Hm L m.top.proc call∧(fI L call).s.kind=4)):qE p L (m.open p (i:Int) l call).1 (m.open p (i:Int) l call).2:=by
 unfold Mc.open
 rw[Int.toNat_natCast,hf]
 dsimp only
 refine⟨?_,fun fr h=>?_,by exact hP.head i f hf,by simp;omega⟩
 ·rcases jq with ⟨h1,h2⟩ | ⟨h1,h2⟩
  ·rw[h1];exact h2
  ·obtain⟨fr,r,e⟩:=h1.ne
   dsimp only
   rw[e]at h1 ⊢
   have:m.top=fr:=by simp[Mc.top,e]
   rw[this]at h2
   exact⟨h2,h1⟩
 ·rcases List.mem_cons.1 h with rfl | h
  ·refine⟨f,by rw [Int.toNat_natCast];exact hf,Int.natCast_nonneg _,rfl,by simp [Pc.own,Pc.qz,hl],fun c m=> ?_⟩
   simp only[List.mem_append,List.mem_range,List.mem_map]at m
   simp only[List.length_append,List.length_replicate]
   rcases m with (m|m)|⟨x,m,rfl⟩
   ·omega
   ·have:=hc c m;omega
   ·omega
  ·exact(Cb fr h).mono (by simp)
theorem aed (hP:POk p L) {a:Int} (h:qE p L a m) {g:Int} {a':Int} {m':Mc} (e:m.back L g=(some a',m')):qE p L a' m':=by
 have hs:=h.st
 unfold Mc.back Mc.close at e
 dsimp only at e
 obtain⟨fr,r,es⟩:=hs.ne
 have ht:m.top=fr:=by simp[Mc.top,es]
 by_cases c:(m.top.call==0)=true
 ·rw[if_pos c]at e;cases e
 ·rw [if_neg c]at e
  rw[es]at hs
  cases r with
  |nil=>rw[ht]at c;exact absurd (beq_iff_eq.2 (show fr.call=0 from hs)) c
  | cons wE r=>
   obtain⟨⟨h1,_⟩,h2⟩:=hs
   have jf:fI L m.top.call∈L:=BU (.inr (by rw[ht];exact⟨h1.1,h1.2.1⟩)) (by have:=h1.1;rw[ht];omega)
   obtain⟨f,o⟩:=hP.im _ jf
   have ho:=o.next
   rw[show(fI L m.top.call).proc=wE.proc by rw[ht];exact h1.2.2]at ho
   rw[ht]at ho
   split at e<;>(dsimp only at e;split at e)<;>first|(cases e;done)|skip
   all_goals
    cases e
    refine⟨by simp only[Mc.set,es,List.tail_cons];exact h2,fun q hq=>?_,by simp only[Mc.set,Mc.top,es,List.tail_cons,List.headD_cons];exact ho,by simp only[Mc.set,List.length_set];exact h.rl⟩
    simp only[Mc.set,List.length_set]at hq ⊢
    exact h.fr q (by rw[es]at hq ⊢;exact List.mem_cons_of_mem _ hq)
end
theorem xS {p:Pg} (hR:p.Right) {x:Im} {f:Pc} (h:DT p p.bc.L x f) {n:aF} (m:n∈x.s.said):n∈p.globals++f.own:=
 ZV (hR.known f (List.mem_of_getElem? h.proc.1) x.s h.mem) m
theorem aee {p:Pg} (hR:p.Right) {x:Im} {f:Pc} (h:DT p p.bc.L x f) (hk:x.s.kind=4) : ∃ (j:Nat) (q:Pc),p.at x.s.proc=(j:Int)∧p.procs[j]? = some q∧x.s.args.length=q.params.length:=by
 have rp:x.s∈p.pre:=by
  simp only[Pg.pre,List.mem_flatten,List.mem_map];exact⟨_,⟨f,List.mem_of_getElem? h.proc.1,rfl⟩,h.mem⟩
 have hf:=hR.fits x.s rp (by simp[hk])
 unfold Sm.pb at hf
 simp only[Bool.and_eq_true]at hf
 cases e:p.find x.s.proc with
 |none=>rw[e]at hf;cases hf.2
 |some q=>
  rw[e]at hf
  obtain⟨j,h1,h2⟩:=EA (k:=0) e
  refine⟨j,q,by simpa[Pg.at]using h1,h2, ?_⟩
  have:=hf.2
  simp only[En]at this
  split at this
  ·rename_i h3;have:=(beq_iff_eq.1 h3);omega
  ·cases this
theorem aef {p:Pg} (hR:p.Right) {m:Mc} {W:List Int} {x:Im} {f:Pc} {a a':Int} {m':Mc} (h:qE p p.bc.L a m) (hx:DT p p.bc.L x f) (hk:x.s.kind=4) (hp:x.proc=m.top.proc) (N3:(m.call p W x.s).2.fin=0)
 (e:m.call p W x.s=(a',m')) (h0:m.fin=0):qE p p.bc.L a' m':=by
 have hP:=qD hR
 have wi:=h.fr _ (Mc.aeb h.st)
 obtain⟨f',t1,t2,t3,t4,t5⟩:=wi
 have ef:f'=f:=by have:=hx.proc.1;rw[hp,t1]at this;exact Option.some.inj this
 subst ef
 have ail : ∀ b∈x.s.args,b.ref=true→b.name∈m.top.names:=fun b mb hb=>by
  rw[t3];exact xS hR hx (wW (.inr ⟨b,mb,hb,rfl⟩))
 obtain⟨j,q,c1,c2,c3⟩:=aee hR hx hk
 have g1:=IX h.rl x.s.args m [] ⟨f',t1,t2,t3,t4,t5⟩ ail (by simp)
 have g2:=A2 x.s.args m []
 have g3:=Gd x.s.args m [] h0
 unfold Mc.call at e N3
 generalize Mc.args x.s.args m [] = r at *
 obtain⟨o,m1⟩:=r
 cases o with
 |none=>
  dsimp only at N3 g3
  rw[g3.2]at N3;cases N3
 | some l=>
  dsimp only at e N3 g1 g2 g3
  by_cases c:m1.st.length > 100
  ·rw[if_pos c]at N3;cases N3
  ·rw [if_neg c]at e
   have he:=gw W m1 x.s.id []
   have ht:(m1.event W x.s.id []).top=m.top:=by unfold Mc.top;rw[he.1,g2.1]
   have:=Qt (m:=m1.event W x.s.id []) hP c2 (l:=l) (call:=x.s.id) (by rw[(g1.2 l rfl).1,c3];simp) (by rw[he.2.1];exact(g1.2 l rfl).2) (by rw[he.2.1];exact Nat.le_trans h.rl g1.1)
    (by rw[he.1,he.2.1,g2.1];exact fun fr Cb=>(h.fr fr Cb).mono g1.1) (.inr ⟨by rw[he.1,g2.1];exact h.st,by rw[ht];exact⟨hx.self.2.1,hx.self.2.2,by rw[hx.self.1];exact hp⟩,by rw[hx.self.1];exact hk⟩)
   rw[← c1,e]at this
   exact this
theorem alC {p:Pg} (hR:p.Right) {m:Mc} {T W:List Int} {x:Im} {f:Pc} {a:Int} (h:qE p p.bc.L a m) (hx:DT p p.bc.L x f) (hp:x.proc=m.top.proc) :
 ((m.do p p.bc.L T W x).2.fin=0→qE p p.bc.L (m.do p p.bc.L T W x).1 (m.do p p.bc.L T W x).2):=by
 intro h0
 have ev : ∀ (m1:Mc) (id:Int) (bT:List Int),(m1.event W id bT).st=m1.st∧(m1.event W id bT).mem=m1.mem:=fun m1 id bT=>⟨(gw W m1 id bT).1,(gw W m1 id bT).2.1⟩
 have key : ∀ (m1:Mc) (b:Int),m1.st=m.st→m1.mem.length=m.mem.length→AtR (Hm p.bc.L x.proc) b→qE p p.bc.L b m1:=fun m1 b h1 h2 h3=>h.of h1 (Nat.le_of_eq h2.symm) (by rw[← hp];exact h3)
 have hw:=kp m x.s.x
 unfold Mc.do at h0 ⊢
 dsimp only at h0 ⊢
 by_cases c7:(x.s.kind==7)=true
 ·rw [if_pos c7]
  have hk:x.s.kind=7:=by simpa using c7
  have hl:=hx.loop (.inl hk)
  have jf:=BU (L:=p.bc.L) (a:=x.loop) (.inr ⟨hl.1,hl.2.1⟩) (by have:=hl.1;omega)
  obtain⟨g,o⟩:=(qD hR).im _ jf
  refine key _ _ (ev _ _ _).1 (by rw[(ev _ _ _).2]) ?_
  have:=o.next
  rw[hl.2.2]at this;exact this
 rw[if_neg c7]at h0 ⊢
 by_cases c8:(x.s.kind==8)=true
 ·rw [if_pos c8]
  exact key _ _ (ev _ _ _).1 (by rw[(ev _ _ _).2]) (.inr (hx.loop (.inr (by simpa using c8))))
 rw[if_neg c8]at h0 ⊢
 by_cases c10:(x.s.kind==10)=true
 ·rw [if_pos c10]
  refine key _ _ (ev _ _ _).1 (by rw[(ev _ _ _).2]) ?_
  have:=hx.IW (by simpa using c10)
  rw[hx.proc.1];exact this
 rw[if_neg c10]at h0 ⊢
 by_cases c2:(x.s.kind==2)=true
 ·rw [if_pos c2]at h0 ⊢
  split at h0
  ·cases h0
  ·rename_i n e
   exact key _ _ (ev _ _ _).1 (by rw[(ev _ _ _).2];simp[Mc.set]) hx.next
 rw[if_neg c2]at h0 ⊢
 by_cases cw:(m.bM x.s.x).1.2=true
 ·rw [if_pos cw]at h0 ⊢
  have e1:((m.bM x.s.x).2.event W x.s.id [(m.bM x.s.x).1.1]).st=m.st:=(ev _ _ _).1.trans hw.1
  have e2:((m.bM x.s.x).2.event W x.s.id [(m.bM x.s.x).1.1]).mem.length=m.mem.length:=by rw[(ev _ _ _).2,hw.2.1]
  have fo : ∀ (l:List Sm) (b:Int),AtR (Hm p.bc.L x.proc) (dY l (-1))→AtR (Hm p.bc.L x.proc) b→AtR (Hm p.bc.L x.proc) (firstM l b):=fun l b h1 h2=>by
   cases l with
   |nil=>exact h2
   |cons s l=>exact h1
  split
  ·exact key _ _ e1 (by simp only[Mc.set,List.length_set];exact e2) hx.next
  split
  ·exact key _ _ e1 e2 hx.next
  split
  ·refine key _ _ e1 e2 ?_
   split
   ·exact fo _ _ hx.aL hx.next
   ·exact fo _ _ hx.aM hx.next
  split
  ·refine key _ _ e1 e2 ?_
   split
   ·exact hx.next
   ·exact fo _ _ hx.aM (.inr ⟨hx.self.2.1,hx.self.2.2,by rw[hx.self.1]⟩)
  ·exact key _ _ e1 e2 hx.next
 ·rw [if_neg cw]at h0
  have:(m.bM x.s.x).2.fin=4:=by unfold Mc.bM;dsimp only;rw[if_neg (show ¬ (x.s.x.bM m.top.names m.bT).2=true from cw)]
  rw[this]at h0;cases h0
end Go.Abs
namespace Go.Abs
structure Lay where
 κ:List Nat
 φ:List Nat
 sd:D
 vd:D
def D.arr:D→List Nat
 | .dD _ o _ _=> [o]
 |_=> []
def Lay.own (y:Lay):List Nat:=0::(y.κ++(y.sd.arr++y.vd.arr))
def fN (o:Nat):List D:= [.ptr o 0]
def qF (κ:List Nat) (f:Fr):List D:= [.int .i64 f.proc, .slice .shared 1 (f.names.map encStr), .slice .shared 1 (f.vars.map fun c=>fN (κ.getD c 0)), .int .i64 f.call]
def iG (e:Int×List Int):List D:= [.int .i64 e.1, .slice .shared 1 (e.2.map cq)]
abbrev fX (p:Pg) (T W:List Int) (y:Lay) (m:Mc):List D:=
 [.dN (ga p) 0, .slice .shared 1 ((y.κ.take p.globals.length).map fN), .slice .shared 1 (T.map cq), .slice .shared 1 (W.map cq),y.sd,y.vd,
  .int .i64 m.fin, .int .i64 m.steps, .int .i64 m.reads, .slice (.tok 0) 1 (m.out.map cq), .slice (.tok 1) 2 (m.trace.map iG)]
def ic (n:Int):D:= .int .i64 n
def zR (o:Nat):D:= .ptr o 0
def kq (s:St) (d:D) (cs:List D):Prop:=(d = .eW 1∧cs = [])∨∃ o g more,d = .dD 1 o g cs.length∧s.ah[o]? = some (.int .i64 ((g:Nat):Int)::(cs++more))
structure Inv (p:Pg) (T W:List Int) (y:Lay) (m:Mc) (loc:List (Nat×List D)) (s:St):Prop where
 kr:s.ah[0]? = some (fX p T W y m)
 t0:s.ay[0]? = some (some m.out.length)
 t1:s.ay[1]? = some (some m.trace.length)
 len:y.κ.length=m.mem.length
 cell : ∀ (i c:Nat) (v:Int),y.κ[i]? = some c→m.mem[i]? = some v→s.ah[c]? = some [.int .i64 v]
 uJ:y.φ.length=m.st.length
 frame : ∀ (i o:Nat) (fr:Fr),y.φ[i]? = some o→m.st[i]? = some fr→s.ah[o]? = some (qF y.κ fr)∧o∉y.own∧∀ c∈fr.vars,c<m.mem.length
 stack:kq s y.sd (y.φ.reverse.map zR)
 bT : ∃ l:List Int,kq s y.vd (l.map ic)
 own:y.own.Nodup
 loc : ∀ q∈loc,s.ah[q.1]? = some q.2∧q.1∉y.own
theorem kq.lt {s:St} {d:D} {cs:List D} (h:kq s d cs) : ∀ o∈d.arr,o<s.ah.length:=by
 rcases h with ⟨rfl,_⟩|⟨o,g,more,rfl,h⟩
 ·intro o m;simp[D.arr]at m
 ·intro o' m
  have:o'=o:=by simpa[D.arr]using m
  subst this;exact gX h
theorem kq.keep {s s':St} {d:D} {cs:List D} (h:kq s d cs) (k : ∀ o∈d.arr,s'.ah[o]? = s.ah[o]?):kq s' d cs:=by
 rcases h with h|⟨o,g,more,rfl,h⟩
 ·exact .inl h
 ·exact .inr ⟨o,g,more,rfl,by rw[k o (by simp[D.arr])];exact h⟩
theorem Ki {κ e:List Nat} {fr:Fr} (h : ∀ c∈fr.vars,c<κ.length):qF (κ++e) fr=qF κ fr:=by
 unfold qF
 rw[List.map_congr_left (g:=fun c=>fN (κ.getD c 0)) fun c m=>by rw[List.getD_eq_getElem?_getD,List.getD_eq_getElem?_getD,List.getElem?_append_left (h c m)]]
section
variable {p:Pg} {T W:List Int} {y:Lay} {m:Mc} {loc:List (Nat×List D)} {s:St}
theorem Inv.vH (h:Inv p T W y m loc s) : ∀ o∈y.own,o<s.ah.length:=by
 intro o mo
 simp only[Lay.own,List.mem_cons,List.mem_append]at mo
 rcases mo with rfl|mo|mo|mo
 ·exact gX h.kr
 ·obtain⟨i,hi⟩:=List.getElem?_of_mem mo
  have hD:=(List.getElem?_eq_some_iff.1 hi).1
  exact gX (h.cell i o _ hi (List.getElem?_eq_getElem (by rw[← h.len];exact hD)))
 ·exact h.stack.lt o mo
 ·obtain⟨l,hl⟩:=h.bT
  exact hl.lt o mo
theorem Inv.wF (h:Inv p T W y m loc s):0<s.ah.length:=gX h.kr
theorem Inv.sub (h:Inv p T W y m loc s) {ain:List (Nat×List D)} (hl : ∀ q∈ain,q∈loc):Inv p T W y m ain s:= {h with loc:=fun q m=>h.loc q (hl q m)}
theorem Inv.keep (h:Inv p T W y m loc s) {s':St} (k : ∀ (o:Nat) (r:List D),s.ah[o]? = some r→s'.ah[o]? = some r) (k0:s'.ay[0]? = s.ay[0]?) (k1:s'.ay[1]? = s.ay[1]?):Inv p T W y m loc s':=by
 have ka : ∀ {d:D} {cs:List D},kq s d cs→kq s' d cs:=fun ha=>ha.keep fun o mo=>by
  rw[List.getElem?_eq_getElem (ha.lt o mo)];exact k o _ (List.getElem?_eq_getElem _)
 obtain⟨l,hl⟩:=h.bT
 exact⟨k _ _ h.kr,by rw[k0];exact h.t0,by rw[k1];exact h.t1,h.len,fun i c v h1 h2=>k _ _ (h.cell i c v h1 h2),h.uJ,fun i o fr h1 h2=>⟨k _ _ (h.frame i o fr h1 h2).1,(h.frame i o fr h1 h2).2⟩,
  ka h.stack,⟨l,ka hl⟩,h.own,fun q m=>⟨k _ _ (h.loc q m).1,(h.loc q m).2⟩⟩
theorem Inv.new (h:Inv p T W y m loc s) (row:List D):Inv p T W y m ((s.ah.length,row)::loc) ⟨s.ah++ [row],s.ay⟩:=by
 have h':=h.keep (s':=⟨s.ah++ [row],s.ay⟩) (fun o r e=>by rw[List.getElem?_append_left (gX e)];exact e) rfl rfl
 refine {h' with loc:=fun q mq=>?_}
 rcases List.mem_cons.1 mq with rfl|mq
 ·exact⟨by simp,fun mo=>Nat.lt_irrefl _ (h.vH _ mo)⟩
 ·exact h'.loc q mq
theorem Inv.ay (h:Inv p T W y m loc s) (ts:List (Option Nat)):Inv p T W y m loc ⟨s.ah,s.ay++ts⟩:=
 h.keep (fun _ _ e=>e) (List.getElem?_append_left (List.getElem?_eq_some_iff.1 h.t0).1) (List.getElem?_append_left (List.getElem?_eq_some_iff.1 h.t1).1)
theorem Inv.QO (h:Inv p T W y m loc s) {o:Nat} (ho:o∈y.own) (row:List D) {q:Nat} {r:List D} (hq:s.ah[q]? = some r) (hn:q≠o):(s.ah.set o row)[q]? = some r:=by
 rw[List.getElem?_set_ne (Ne.symm hn)];exact hq
theorem Inv.xT (h:Inv p T W y m loc s) {o:Nat} (ho:o∈y.κ++(y.sd.arr++y.vd.arr)):o≠0:=fun e=>by
 have:=h.own
 rw[Lay.own,List.nodup_cons]at this
 exact this.1 (e ▸ ho)
theorem Inv.vQ (h:Inv p T W y m loc s) {m':Mc} (h1:m'.st=m.st) (h2:m'.mem=m.mem) {ts:List (Option Nat)} (k0:ts[0]? = some (some m'.out.length)) (k1:ts[1]? = some (some m'.trace.length)) :
 Inv p T W y m' loc ⟨s.ah.set 0 (fX p T W y m'),ts⟩:=by
 have ne : ∀ {q:Nat} {r:List D},s.ah[q]? = some r→q≠0→(s.ah.set 0 (fX p T W y m'))[q]? = some r:=fun e hn=>h.QO (by simp[Lay.own]) _ e hn
 have nf : ∀ {q:Nat},q∉y.own→q≠0:=fun hq e=>hq (by rw[e];simp[Lay.own])
 have ka : ∀ {d:D} {cs:List D},(∀ o∈d.arr,o∈y.κ++(y.sd.arr++y.vd.arr))→kq s d cs→kq ⟨s.ah.set 0 (fX p T W y m'),ts⟩ d cs:=fun hd ha=>ha.keep fun o mo=>by
  show(s.ah.set 0 _)[o]? = _
  rw[List.getElem?_set_ne (Ne.symm (h.xT (hd o mo)))]
 obtain⟨l,hl⟩:=h.bT
 refine⟨by simp[h.wF],k0,k1,by rw[h2];exact h.len,fun i c v e1 e2=>ne (h.cell i c v e1 (by rw[← h2];exact e2)) (h.xT (List.mem_append_left _ (List.mem_of_getElem? e1))),by rw[h1];exact h.uJ,fun i o fr e1 e2=>?_,
  ka (fun o m=>by simp[m]) h.stack,⟨l,ka (fun o m=>by simp[m]) hl⟩,h.own,fun q mq=>⟨ne (h.loc q mq).1 (nf (h.loc q mq).2),(h.loc q mq).2⟩⟩
 rw[h1]at e2
 obtain⟨g1,g2,g3⟩:=h.frame i o fr e1 e2
 exact⟨ne g1 (nf g2),g2,by rw[h2];exact g3⟩
theorem Inv.ZX (h:Inv p T W y m loc s) {i c:Nat} (hc:y.κ[i]? = some c) (v:Int):Inv p T W y {m with mem:=m.mem.set i v} loc ⟨s.ah.set c [.int .i64 v],s.ay⟩:=by
 have jf:c∈y.κ:=List.mem_of_getElem? hc
 have nu:c<s.ah.length:=h.vH c (by simp[Lay.own,jf])
 have Ci:=h.own
 rw[Lay.own,List.nodup_cons,List.nodup_append]at Ci
 have hκ : ∀ i',y.κ[i']? = some c→i'=i:=fun i' e=>(List.getElem?_inj (List.getElem?_eq_some_iff.1 e).1 Ci.2.1).1 (e.trans hc.symm)
 have ne : ∀ {q:Nat} {r:List D},s.ah[q]? = some r→q≠c→(s.ah.set c [.int .i64 v])[q]? = some r:=fun e hn=>h.QO (o:=c) (by simp[Lay.own,jf]) _ e hn
 have nf : ∀ {q:Nat},q∉y.own→q≠c:=fun hq e=>hq (by rw[e];simp[Lay.own,jf])
 have ka : ∀ {d:D} {cs:List D},(∀ o∈d.arr,o∈y.sd.arr++y.vd.arr)→kq s d cs→kq ⟨s.ah.set c [.int .i64 v],s.ay⟩ d cs:=fun hd ha=>ha.keep fun o mo=>by
  show(s.ah.set c _)[o]? = _
  rw[List.getElem?_set_ne (fun e=>Ci.2.2.2 c jf o (hd o mo) e)]
 obtain⟨l,hl⟩:=h.bT
 refine⟨ne h.kr (fun e=>h.xT (List.mem_append_left _ jf) e.symm),h.t0,h.t1,by rw[h.len,List.length_set],fun i' c' v' e1 e2=>?_,h.uJ,fun i' o fr e1 e2=>?_,
  ka (fun o m=>by simp[m]) h.stack,⟨l,ka (fun o m=>by simp[m]) hl⟩,h.own,fun q mq=>⟨ne (h.loc q mq).1 (nf (h.loc q mq).2),(h.loc q mq).2⟩⟩
 ·show(s.ah.set c _)[c']? = _
  simp only[List.getElem?_set]at e2
  by_cases e:i=i'
  ·subst e
   rw[hc]at e1;cases e1
   rw[if_pos rfl]at e2
   split at e2
   ·cases e2;simp[nu]
   ·cases e2
  ·rw [if_neg e]at e2
   have:c'≠c:=fun ec=>e (hκ i' (by rw[e1,ec])).symm
   exact ne (h.cell i' c' v' e1 e2) this
 ·obtain⟨g1,g2,g3⟩:=h.frame i' o fr e1 e2
  exact⟨ne g1 (nf g2),g2,by simpa using g3⟩
theorem Inv.aul (h:Inv p T W y m loc s) (v:Int) (hg:p.globals.length≤m.mem.length):Inv p T W {y with κ:=y.κ++ [s.ah.length]} {m with mem:=m.mem++ [v]} loc ⟨s.ah++ [[.int .i64 v]],s.ay⟩:=by
 have h':=h.keep (s':=⟨s.ah++ [[.int .i64 v]],s.ay⟩) (fun o r e=>by rw[List.getElem?_append_left (gX e)];exact e) rfl rfl
 have o4:s.ah.length∉y.own:=fun mo=>Nat.lt_irrefl _ (h.vH _ mo)
 have Ci:=h.own
 have ho : ∀ o,o∈Lay.own {y with κ:=y.κ++ [s.ah.length]}→o∈y.own∨o=s.ah.length:=fun o mo=>by
  simp only[Lay.own,List.mem_cons,List.mem_append]at mo ⊢
  rcases mo with rfl|(mo|rfl|mo)|mo|mo
  ·exact .inl (.inl rfl)
  ·exact .inl (.inr (.inl mo))
  ·exact .inr rfl
  ·cases mo
  ·exact .inl (.inr (.inr (.inl mo)))
  ·exact .inl (.inr (.inr (.inr mo)))
 refine⟨by rw[h'.kr];simp only[fX];rw[List.take_append_of_le_length (by rw[h.len];exact hg)],h'.t0,h'.t1,by simp[h.len],fun i c v' e1 e2=>?_,h'.uJ,fun i o fr e1 e2=>?_,h'.stack,h'.bT, ?_,fun q mq=>⟨(h'.loc q mq).1,fun mo=>?_⟩⟩
 ·rcases Nat.lt_or_ge i y.κ.length with hi | hi
  ·rw [List.getElem?_append_left hi]at e1
   rw[List.getElem?_append_left (by rw[← h.len];exact hi)]at e2
   exact h'.cell i c v' e1 e2
  ·have iV:i=y.κ.length:=by
    have:=(List.getElem?_eq_some_iff.1 e1).1
    simp at this;omega
   subst iV
   rw[List.getElem?_append_right (Nat.le_refl _)]at e1
   rw[List.getElem?_append_right (by rw[h.len];exact Nat.le_refl _)]at e2
   simp at e1;subst e1
   simp[h.len]at e2;subst e2
   simp
 ·obtain⟨g1,g2,g3⟩:=h'.frame i o fr e1 e2
  refine⟨by rw[Ki (by rw[h.len];exact g3)];exact g1,fun mo=>?_,fun c mc=>by simp only[List.length_append];have:=g3 c mc;omega⟩
  rcases ho o mo with mo|rfl
  ·exact g2 mo
  ·exact absurd (gX (h.frame i _ fr e1 e2).1) (Nat.lt_irrefl _)
 ·have:(Lay.own {y with κ:=y.κ++ [s.ah.length]}).Perm (s.ah.length::y.own):=by
   simp only[Lay.own,List.append_assoc,List.singleton_append]
   exact(List.Perm.cons _ List.perm_middle).trans (List.Perm.swap _ _ _)
  rw[this.nodup_iff,List.nodup_cons]
  exact⟨o4,Ci⟩
 ·rcases ho _ mo with mo | e
  ·exact(h'.loc q mq).2 mo
  ·exact absurd (gX (h.loc q mq).1) (by rw[e];exact Nat.lt_irrefl _)
theorem Inv.TR (h:Inv p T W y m loc s) {vd:D} {s1:St} (k : ∀ (o:Nat) (r:List D),s.ah[o]? = some r→o∉y.vd.arr→s1.ah[o]? = some r) (hv : ∃ l:List Int,kq s1 vd (l.map ic)) (hn:vd.arr=y.vd.arr∨vd.arr = []∨vd.arr = [s.ah.length]) (ht:s1.ay=s.ay) :
 Inv p T W {y with vd:=vd} m loc ⟨s1.ah.set 0 (fX p T W {y with vd:=vd} m),s1.ay⟩:=by
 have Ci:=h.own
 have aio:=Ci
 rw[Lay.own,List.nodup_cons,List.nodup_append,List.nodup_append]at aio
 obtain⟨n0,nκ,⟨ns,nv,nsv⟩,N4⟩:=aio
 have v0 : ∀ o∈y.vd.arr,o≠0:=fun o mo=>h.xT (by simp[mo])
 have sv:0<s1.ah.length:=gX (k 0 _ h.kr fun mo=>v0 0 mo rfl)
 have g : ∀ {o:Nat} {r:List D},s.ah[o]? = some r→o∉y.vd.arr→o≠0→(s1.ah.set 0 (fX p T W {y with vd:=vd} m))[o]? = some r:=fun e hv hn=>by
  rw[List.getElem?_set_ne (Ne.symm hn)];exact k _ _ e hv
 have N5 : ∀ o,o∈Lay.own {y with vd:=vd}→o∈y.own∨o=s.ah.length:=fun o mo=>by
  simp only[Lay.own,List.mem_cons,List.mem_append]at mo ⊢
  rcases mo with rfl|mo|mo|mo
  ·exact .inl (.inl rfl)
  ·exact .inl (.inr (.inl mo))
  ·exact .inl (.inr (.inr (.inl mo)))
  ·rcases hn with e | e | e
   ·rw[e]at mo;exact .inl (.inr (.inr (.inr mo)))
   ·rw[e]at mo;cases mo
   ·rw[e]at mo;exact .inr (List.mem_singleton.1 mo)
 have nk : ∀ o∈y.κ,o∉y.vd.arr:=fun o mo mv=>N4 o mo o (List.mem_append_right _ mv) rfl
 have nsd : ∀ o∈y.sd.arr,o∉y.vd.arr:=fun o mo mv=>nsv o mo o mv rfl
 have nfr : ∀ {o:Nat},o∉y.own→o∉y.vd.arr∧o≠0:=fun ho=>⟨fun mv=>ho (by simp[Lay.own,mv]),fun e=>ho (by rw[e];simp[Lay.own])⟩
 obtain⟨l,hl⟩:=hv
 refine⟨by simp[sv],by rw[ht];exact h.t0,by rw[ht];exact h.t1,h.len,fun i c v e1 e2=>g (h.cell i c v e1 e2) (nk c (List.mem_of_getElem? e1)) (h.xT (by simp[List.mem_of_getElem? e1])),h.uJ,fun i o fr e1 e2=>?_, ?_,⟨l, ?_⟩, ?_,fun q mq=>?_⟩
 ·obtain⟨f1,f2,f3⟩:=h.frame i o fr e1 e2
  refine⟨g f1 (nfr f2).1 (nfr f2).2,fun mo=>?_,f3⟩
  rcases N5 o mo with mo|e
  ·exact f2 mo
  ·exact absurd (gX f1) (by rw[e];exact Nat.lt_irrefl _)
 ·refine h.stack.keep fun o mo=> ?_
  rw[List.getElem?_eq_getElem (h.stack.lt o mo)]
  exact g (List.getElem?_eq_getElem _) (nsd o mo) (h.xT (by simp[mo]))
 ·refine hl.keep fun o mo=> ?_
  have:o≠0:=by
   rcases hn with e|e|e
   ·rw[e]at mo;exact v0 o mo
   ·rw[e]at mo;cases mo
   ·rw[e]at mo;rw[List.mem_singleton.1 mo];have:=h.wF;omega
  show(s1.ah.set 0 _)[o]? = _
  rw[List.getElem?_set_ne (Ne.symm this)]
 ·rcases hn with e | e | e
  ·simp only[Lay.own,e];exact Ci
  ·simp only [Lay.own,e,List.append_nil]
   rw[List.nodup_cons,List.nodup_append]
   exact⟨fun m=>n0 (by rcases List.mem_append.1 m with m|m<;>simp[m]),nκ,ns,fun a ma b mb=>N4 a ma b (List.mem_append_left _ mb)⟩
  ·simp only [Lay.own,e]
   have dC : ∀ o∈y.own,o≠s.ah.length:=fun o mo e=>by have:=h.vH o mo;omega
   rw[List.nodup_cons,List.nodup_append,List.nodup_append]
   refine⟨fun m=>?_,nκ,⟨ns,by simp,fun a ma b mb=>?_⟩,fun a ma b mb=>?_⟩
   ·rcases List.mem_append.1 m with m | m
    ·exact n0 (by simp[m])
    ·rcases List.mem_append.1 m with m | m
     ·exact n0 (by simp[m])
     ·have:=List.mem_singleton.1 m;have:=h.wF;omega
   ·rw[List.mem_singleton.1 mb];exact dC a (by simp[Lay.own,ma])
   ·rcases List.mem_append.1 mb with mb | mb
    ·exact N4 a ma b (List.mem_append_left _ mb)
    ·rw[List.mem_singleton.1 mb];exact dC a (by simp[Lay.own,ma])
 ·obtain⟨f1,f2⟩:=h.loc q mq
  refine⟨g f1 (nfr f2).1 (nfr f2).2,fun mo=>?_⟩
  rcases N5 q.1 mo with mo|e
  ·exact f2 mo
  ·exact absurd (gX f1) (by rw[e];exact Nat.lt_irrefl _)
end
end Go.Abs
namespace Go.Abs
set_option maxRecDepth 8000
open Go.Proofs
theorem TS (b:Bool) (s:St):aE Tryz.prog kh [.bool b] s (.int .i64 (wh b)) s:=by
 refine aE.pure ?_ rfl rfl s
 generalize h:wh b=R
 simp only[wh]at h
 unfold S0
 refine aE.go Na rfl fun B Q hB hQ=>?_
 have⟨hD,gA,gB,gC⟩:=cd
 repeat' (first
 |simp only[go_sem,hD,gA,gB,gC]
 |(with_reducible first|refine bg fun hc=>?_|refine bh fun hc=>?_|refine bj (fun hc=>?_) fun hc=>?_)<;>(try simp only[hc,bs,↓reduceIte]at h)<;>try simp only[hc]
 |(with_reducible refine aD hQ ?_;exact fM)
 |(cases h;done))
theorem aeg (a:Int) (s:St):aE Tryz.prog td [.int .i64 a] s (.bool (!(a==0))) s:=by
 refine aE.pure ?_ rfl rfl s
 have e:(a != 0) = !(a==0):=rfl
 unfold S0
 refine aE.go IF rfl fun B Q hB hQ=>?_
 have⟨hD,gA,gB,gC⟩:=cd
 repeat' (first
 |simp only[go_sem,hD,gA,gB,gC,e]
 |(with_reducible first|refine bg fun hc=>?_|refine bh fun hc=>?_|refine bj (fun hc=>?_) fun hc=>?_)<;>(try simp only[hc,bs,↓reduceIte]at h)<;>try simp only[hc]
 |(with_reducible refine aD hQ ?_;(try cases h);simp only[aT,aV,bD,bE,go_sem,hD,gA,gB,gC,e];try exact bX)
 |(cases h;done))
abbrev zT (r:Int×Bool):D:= .tuple [.int .i64 r.1, .bool r.2]
theorem alE (op a:Int) (s:St):aE Tryz.prog Bs [.int .i64 op, .int .i64 a] s (zT (TK op a)) s:=by
 refine aE.pure ?_ rfl rfl s
 generalize h:TK op a=R
 simp only[TK,HX]at h
 unfold S0
 refine aE.go M7 rfl fun B Q hB hQ=>?_
 have⟨hD,gA,gB,gC⟩:=cd
 repeat' (first
 |simp only[go_sem,hD,gA,gB,gC]
 |(with_reducible refine CU (TS _ _) ?_)
 |(with_reducible first|refine bg fun hc=>?_|refine bh fun hc=>?_|refine bj (fun hc=>?_) fun hc=>?_)<;>(try simp only[hc,bs,↓reduceIte]at h)<;>try simp only[hc]
 |(with_reducible refine aD hQ ?_;exact fM)
 |(cases h;done))
theorem ZY (op a b:Int) (s:St):aE Tryz.prog vV [.int .i64 op, .int .i64 a, .int .i64 b] s (zT (TL op a b)) s:=by
 refine aE.pure ?_ rfl rfl s
 generalize h:TL op a b=R
 simp only[TL,HX]at h
 unfold S0
 rcases Bool.eq_false_or_eq_true (b==0)with b0|b0
 ·refine aE.go yB rfl fun B Q hB hQ=> ?_
  have⟨hD,gA,gB,gC⟩:=cd
  repeat' (first
 |simp only[go_sem,hD,gA,gB,gC]
 |(with_reducible first|refine bg fun hc=>?_|refine bh fun hc=>?_|refine bj (fun hc=>?_) fun hc=>?_)<;>(try simp only[hc,bs,↓reduceIte]at h)<;>try simp only[hc]
 |(with_reducible refine aD hQ ?_;exact fM)
 |(cases h;done))
 ·have hb:b≠0:=by simpa using b0
  refine aE.go yB rfl fun B Q hB hQ=>?_
  have⟨hD,gA,gB,gC⟩:=cd
  repeat' (first
 |simp only[go_sem,hD,gA,gB,gC,hb]
 |(with_reducible first|refine bg fun hc=>?_|refine bh fun hc=>?_|refine bj (fun hc=>?_) fun hc=>?_)<;>(try simp only[hc,bs,↓reduceIte]at h)<;>try simp only[hc]
 |(with_reducible refine aD hQ ?_;(try cases h);simp only[aT,aV,bD,bE,go_sem,hD,gA,gB,gC,hb];try exact bX)
 |(cases h;done))
theorem W2 (op a b:Int) (s:St):aE Tryz.prog uw [.int .i64 op, .int .i64 a, .int .i64 b] s (zT (TN op a b)) s:=by
 refine aE.pure ?_ rfl rfl s
 have e:(a != b) = !(a==b):=rfl
 generalize h:TN op a b=R
 simp only[TN]at h
 unfold S0
 refine aE.go FV rfl fun B Q hB hQ=>?_
 have⟨hD,gA,gB,gC⟩:=cd
 repeat' (first
 |simp only[go_sem,hD,gA,gB,gC,e]
 |(with_reducible refine CU (TS _ _) ?_)
 |(with_reducible first|refine bg fun hc=>?_|refine bh fun hc=>?_|refine bj (fun hc=>?_) fun hc=>?_)<;>(try simp only[hc,bs,↓reduceIte]at h)<;>try simp only[hc]
 |(with_reducible refine aD hQ ?_;(try cases h);simp only[aT,aV,bD,bE,go_sem,hD,gA,gB,gC,e];try exact bX)
 |(cases h;done))
theorem alG (op a b:Int) (s:St):aE Tryz.prog Bt [.int .i64 op, .int .i64 a, .int .i64 b] s (zT (TO op a b)) s:=by
 refine aE.pure ?_ rfl rfl s
 have e1:(a != 0) = !(a==0):=rfl
 have e2:(b != 0) = !(b==0):=rfl
 generalize h:TO op a b=R
 simp only[TO,HX]at h
 unfold S0
 refine aE.go M8 rfl fun B Q hB hQ=>?_
 have⟨hD,gA,gB,gC⟩:=cd
 repeat' (first
 |simp only[go_sem,hD,gA,gB,gC,e1,e2]
 |(with_reducible refine CU (TS _ _) ?_)
 |(with_reducible refine CU (ZY _ _ _ _) ?_)
 |(with_reducible refine CU (W2 _ _ _ _) ?_)
 |(with_reducible first|refine bg fun hc=>?_|refine bh fun hc=>?_|refine bj (fun hc=>?_) fun hc=>?_)<;>(try simp only[hc,bs,↓reduceIte]at h)<;>try simp only[hc]
 |(with_reducible refine aD hQ ?_;(try cases h);simp only[aT,aV,bD,bE,go_sem,hD,gA,gB,gC,e1,e2];try exact bX)
 |(cases h;done))
def xU (x:Int) (k:Int):List Int→Int
 | []=> -1
 |s::l=>if x==s then k else xU x (k+1) l
theorem Qu (x:Int) : ∀ (l:List Int) (k:Int),0≤k→(xU x k l≥0↔l.contains x=true)
 | [],k,h=>by simp[xU]
 | s::l,k,h=>by
  by_cases e:x=s
  ·simp[xU,e];omega
  ·have e':(x==s)=false:=by simp [e]
   simp only[xU,e',Bool.false_eq_true,if_false,List.contains_cons,Bool.false_or]
   exact Qu x l (k+1) (by omega)
theorem ZZ {l:List Int} (hl:l.length<4611686018427387904) (x:Int) (s:St):aE Tryz.prog qv [.slice .shared 1 (l.map cq), .int .i64 x] s (.int .i64 (xU x 0 l)) s:=by
 refine aE.pure ?_ (by simp[D.bK,D.ok,Tag.ok,kL]) rfl s
 generalize h:xU x 0 l=p
 unfold S0
 refine aE.go Bz rfl fun B Q hB hQ=>?_
 have⟨hD,gA,gB,gC⟩:=cd
 repeat' (first
 |simp only[go_sem,hD,gA,gB,gC]
 |(with_reducible first|refine bg fun hc=>?_|refine bh fun hc=>?_|refine bj (fun hc=>?_) fun hc=>?_)<;>(try simp only[hc,bs,↓reduceIte]at h)<;>try simp only[hc]
 |(with_reducible refine aD hQ ?_;exact fM)
 |(cases h;done))
 refine fj 0 0 (bl.ind (ι:=List Int×Nat) (fun i=>l.drop i.2=i.1∧xU x (i.2:Int) i.1=p) (fun i=>i.1.length)
  (fun i=> [(0, .slice .shared 1 (l.map cq)),(1, .int .i64 x),(7, .int .i64 (l.length:Int)),(8, .int .i64 (i.2:Int))]) (fun i=>⟨[],[]⟩) ?_ (l,0) ⟨rfl,h⟩)
 rintro⟨rest,k⟩ ⟨h1,h⟩ IH
 dsimp only at h1 h
 cases rest with
 |nil=>
  have hD:=drop_nil h1
  simp only[xU]at h
  repeat' (first
 |simp only[go_sem,hD,gA,gB,gC]
 |(with_reducible first|refine bg fun hc=>?_|refine bh fun hc=>?_|refine bj (fun hc=>?_) fun hc=>?_)<;>(try simp only[hc,bs,↓reduceIte]at h)<;>try simp only[hc]
 |(with_reducible refine aD hQ ?_;exact fM)
 |(cases h;done))
 |cons a rest=>
  obtain⟨gA,g2,hD,g4⟩:=drop_cons h1
  have cH:k<4611686018427387904:=by omega
  simp only[xU]at h
  repeat' (first
 |simp only[go_sem,hD,gA,gB,gC]
 |(with_reducible first|refine bg fun hc=>?_|refine bh fun hc=>?_|refine bj (fun hc=>?_) fun hc=>?_)<;>(try simp only[hc,bs,↓reduceIte]at h)<;>try simp only[hc]
 |(with_reducible refine aD hQ ?_;exact fM)
 |(cases h;done))
  refine dW 0 0 ?_ ?_ (IH (rest,k+1) ⟨g2,h⟩ (Nat.lt_succ_self _))
  ·(simp only[go_sem,hD,gA,gB,gC,aH cH];try exact bO)
  ·(simp only[go_sem,hD,gA,gB,gC,aH cH];try exact bO)
theorem Pu {l:List Int} (hl:l.length<4611686018427387904) (x:Int) (s:St):aE Tryz.prog oq [.slice .shared 1 (l.map cq), .int .i64 x] s (.bool (l.contains x)) s:=by
 refine aE.pure ?_ (by simp[D.bK,D.ok,Tag.ok,kL]) rfl s
 have hi:=fun s=>ZZ hl x s
 have e:decide (xU x 0 l≥0)=l.contains x:=by
  have:=Qu x l 0 (Int.le_refl 0)
  cases h:l.contains x<;>simp_all
 unfold S0
 refine aE.go ya rfl fun B Q hB hQ=>?_
 have⟨hD,gA,gB,gC⟩:=cd
 repeat' (first
 |simp only[go_sem,hD,gA,gB,gC,e]
 |(with_reducible refine CU (hi _) ?_)
 |(with_reducible first|refine bg fun hc=>?_|refine bh fun hc=>?_|refine bj (fun hc=>?_) fun hc=>?_)<;>(try simp only[hc,bs,↓reduceIte]at h)<;>try simp only[hc]
 |(with_reducible refine aD hQ ?_;(try cases h);simp only[aT,aV,bD,bE,go_sem,hD,gA,gB,gC,e];try exact bX)
 |(cases h;done))
theorem oa (names:List aF) (bT:List Int) (op n:Int) (name:aF) (kids:List Ex):Ex.val names bT ⟨op,n,name,kids⟩=if op==1 then(n,true)else if op==2 then(TP name names bT,true)else LK op (kids.map (Ex.val names bT)):=by
 have e : ∀ l:List Ex,Ex.TQ names bT l=l.map (Ex.val names bT):=fun l=>by
  induction l with
  |nil=>rfl
  |cons x l ih=>simp only[Ex.TQ,List.map_cons,ih]
 simp only[Ex.val,e]
theorem aip {names:List aF} {bT:List Int} (hn:names.length<4611686018427387904) (hv:bT.length<4611686018427387904) : ∀ (n:Nat) (x:Ex),x.dp (n:Int)=true→
 aE Tryz.prog l8 [.agg (bQ x), .slice .shared 1 (names.map encStr), .slice .shared 1 (bT.map cq)] S0 (zT (x.val names bT)) S0:=by
 intro n
 induction n with
 |zero=>rintro⟨op,v,name,kids⟩ h;rw[Nf]at h;omega
 | succ n ih=>
  rintro⟨op,v,name,kids⟩ h
  rw[Nf]at h
  obtain⟨_,hk,h⟩:=h
  have Nn:=fun s=>Ek hn name s
  generalize hR:Ex.val names bT ⟨op,v,name,kids⟩=R
  rw[oa]at hR
  unfold S0
  by_cases o1:op=1
  ·subst o1
   simp only[beq_self_eq_true,if_true]at hR
   rw[← hR]
   show aE Tryz.prog l8 _ _ (.tuple [.int .i64 v, .bool true]) _
   refine aE.go pF rfl fun B Q hB hQ=>?_
   have⟨hD,gA,gB,gC⟩:=cd
   repeat' (first
 |simp only[go_sem,hD,gA,gB,gC,beq_self_eq_true]
 |(with_reducible first|refine bg fun hc=>?_|refine bh fun hc=>?_|refine bj (fun hc=>?_) fun hc=>?_)<;>(try simp only[hc,bs,↓reduceIte]at h)<;>try simp only[hc]
 |(with_reducible refine aD hQ ?_;(try cases h);simp only[aT,aV,bD,bE,go_sem,hD,gA,gB,gC,beq_self_eq_true];try exact bX)
 | (cases h;done))
  rw[if_neg o1]at h
  have b1:(op==1)=false:=by simp[o1]
  by_cases o2:op=2
  ·subst o2
   simp only[b1,Bool.false_eq_true,if_false,beq_self_eq_true,if_true,TP]at hR
   by_cases hi:ja name 0 names≥0
   ·obtain⟨j,hj⟩:=Int.eq_ofNat_of_zero_le hi
    rw[if_pos hi]at hR
    have b2:decide (ja name 0 names≥0)=true:=by simpa using hi
    rw[hj]at b2 hR
    rw[hj]at Nn
    rcases Nat.lt_or_ge j bT.length with hl|hl
    ·have b3:decide ((j:Int)<(bT.length:Int))=true:=by simp [hl]
     have hg:bT[j]? = some (bT.getD j 0):=by rw[List.getD_eq_getElem?_getD,List.getElem?_eq_getElem hl];rfl
     rw[Int.toNat_natCast]at hR
     rw[← hR]
     show aE Tryz.prog l8 _ _ (.tuple [.int .i64 (bT.getD j 0), .bool true]) _
     refine aE.go pF rfl fun B Q hB hQ=>?_
     have⟨hD,gA,gB,gC⟩:=cd
     repeat' (first
 |simp only[go_sem,hD,gA,gB,gC,b1,b2,b3,hg,beq_self_eq_true,decide_true]
 |(with_reducible refine CU (Nn _) ?_)
 |(with_reducible first|refine bg fun hc=>?_|refine bh fun hc=>?_|refine bj (fun hc=>?_) fun hc=>?_)<;>(try simp only[hc,bs,↓reduceIte]at h)<;>try simp only[hc]
 |(with_reducible refine aD hQ ?_;(try cases h);simp only[aT,aV,bD,bE,go_sem,hD,gA,gB,gC,b1,b2,b3,hg,beq_self_eq_true,decide_true];try exact bX)
 | (cases h;done))
    ·have b3:decide ((j:Int)<(bT.length:Int))=false:=by simp;omega
     rw[Int.toNat_natCast,List.getD_eq_getElem?_getD,List.getElem?_eq_none hl,Option.getD_none]at hR
     rw[← hR]
     show aE Tryz.prog l8 _ _ (.tuple [.int .i64 0, .bool true]) _
     refine aE.go pF rfl fun B Q hB hQ=>?_
     have⟨hD,gA,gB,gC⟩:=cd
     repeat' (first
 |simp only[go_sem,hD,gA,gB,gC,b1,b2,b3,beq_self_eq_true,decide_true]
 |(with_reducible refine CU (Nn _) ?_)
 |(with_reducible first|refine bg fun hc=>?_|refine bh fun hc=>?_|refine bj (fun hc=>?_) fun hc=>?_)<;>(try simp only[hc,bs,↓reduceIte]at h)<;>try simp only[hc]
 |(with_reducible refine aD hQ ?_;(try cases h);simp only[aT,aV,bD,bE,go_sem,hD,gA,gB,gC,b1,b2,b3,beq_self_eq_true,decide_true];try exact bX)
 | (cases h;done))
   ·rw [if_neg hi]at hR
    have b2:decide (ja name 0 names≥0)=false:=by simpa using hi
    rw[← hR]
    show aE Tryz.prog l8 _ _ (.tuple [.int .i64 0, .bool true]) _
    refine aE.go pF rfl fun B Q hB hQ=>?_
    have⟨hD,gA,gB,gC⟩:=cd
    repeat' (first
 |simp only[go_sem,hD,gA,gB,gC,b1,b2,beq_self_eq_true]
 |(with_reducible refine CU (Nn _) ?_)
 |(with_reducible first|refine bg fun hc=>?_|refine bh fun hc=>?_|refine bj (fun hc=>?_) fun hc=>?_)<;>(try simp only[hc,bs,↓reduceIte]at h)<;>try simp only[hc]
 |(with_reducible refine aD hQ ?_;(try cases h);simp only[aT,aV,bD,bE,go_sem,hD,gA,gB,gC,b1,b2,beq_self_eq_true];try exact bX)
 | (cases h;done))
  rw[if_neg o2]at h
  have b2:(op==2)=false:=by simp[o2]
  simp only[b1,b2,Bool.false_eq_true,if_false]at hR
  have hd:=h.2.2
  rw[show((n+1:Nat):Int) - 1=(n:Int) by omega]at hd
  have ihs : ∀ {y:Ex},y∈kids→∀ s,aE Tryz.prog l8 [.agg (bQ y), .slice .shared 1 (names.map encStr), .slice .shared 1 (bT.map cq)] s (zT (y.val names bT)) s:=fun {y} hy s=>by
   have:y.dp (n:Int)=true:=by
    have key : ∀ l:List Ex,Ex.Dt (n:Int) l=true→y∈l→y.dp (n:Int)=true:=fun l=>by
     induction l with
     |nil=>intro _ m;cases m
     | cons z l WA=>
      intro hz m
      simp only[Ex.Dt]at hz
      split at hz
      ·cases hz
      ·rename_i hz'
       rcases List.mem_cons.1 m with rfl|m
       ·simpa using hz'
       ·exact WA hz m
    exact key kids hd hy
   exact aE.pure (ih y this) (by simp[D.bK,D.ok,Tag.ok,jN,fe,kL]) rfl s
  clear h Nn
  have n1:((1:Nat):Int)=1:=rfl
  have e1:((1:Int)==1)=true:=rfl
  have e2:((2:Int)==1)=false:=rfl
  rename _=R=>h
  cases kids with
  |nil=>simp[po]at hk;omega
  | cons a kids=>
   have c1:=fun s=>ihs (y:=a) (by simp) s
   cases kids with
   |nil=>
    simp only[List.map_cons,List.map_nil,LK]at h
    refine aE.go pF rfl fun B Q hB hQ=>?_
    have⟨hD,gA,gB,gC⟩:=cd
    repeat' (first
 |simp only[go_sem,hD,gA,gB,gC,b1,b2,e1]
 |(with_reducible refine CU (c1 _) ?_)
 |(with_reducible refine CU (alE _ _ _) ?_)
 |(with_reducible first|refine bg fun hc=>?_|refine bh fun hc=>?_|refine bj (fun hc=>?_) fun hc=>?_)<;>(try simp only[hc,bs,↓reduceIte]at h)<;>try simp only[hc]
 |(with_reducible refine aD hQ ?_;(try cases h);simp only[aT,aV,bD,bE,go_sem,hD,gA,gB,gC,b1,b2,e1];try exact bX)
 | (cases h;done))
   | cons b kids=>
    cases kids with
    |nil=>
     have c2:=fun s=>ihs (y:=b) (by simp) s
     have e3 : [bQ a,bQ b][Int.toNat 1]? = some (bQ b):=rfl
     simp only[List.map_cons,List.map_nil,LK]at h
     refine aE.go pF rfl fun B Q hB hQ=>?_
     have⟨hD,gA,gB,gC⟩:=cd
     repeat' (first
 |simp only[go_sem,hD,gA,gB,gC,b1,b2,e2,e3]
 |(with_reducible refine CU (c1 _) ?_)
 |(with_reducible refine CU (c2 _) ?_)
 |(with_reducible refine CU (aeg _ _) ?_)
 |(with_reducible refine CU (alG _ _ _ _) ?_)
 |(with_reducible first|refine bg fun hc=>?_|refine bh fun hc=>?_|refine bj (fun hc=>?_) fun hc=>?_)<;>(try simp only[hc,bs,↓reduceIte]at h)<;>try simp only[hc]
 |(with_reducible refine aD hQ ?_;(try cases h);simp only[aT,aV,bD,bE,go_sem,hD,gA,gB,gC,b1,b2,e2,e3];try exact bX)
 | (cases h;done))
    |cons c kids=>simp[po]at hk;omega
theorem N6 {x:Ex} {names:List aF} {bT:List Int} (hx:x.size<4611686018427387904) (ht:x.texts) (hn:names.length<4611686018427387904) (hv:bT.length<4611686018427387904) (s:St) :
 aE Tryz.prog sy [.agg (bQ x), .slice .shared 1 (names.map encStr), .slice .shared 1 (bT.map cq)] s (zT (x.bM names bT)) s:=by
 refine aE.pure ?_ (by simp[D.bK,D.ok,Tag.ok,jN,fe,kL]) rfl s
 have hm:=fun s=>BD hx ht s
 rw[Hk]at hm
 generalize h:x.bM names bT=R
 simp only[Ex.bM]at h
 unfold S0
 rcases Bool.eq_false_or_eq_true x.may with b|b
 ·rw [if_pos b]at h
  have c1:=fun s=>aE.pure (aip hn hv 20 x (by rw[show((20:Nat):Int)=20 from rfl,Hk];exact b)) (by simp[D.bK,D.ok,Tag.ok,jN,fe,kL]) rfl s
  rw[h]at c1
  refine aE.go Fe rfl fun B Q hB hQ=>?_
  have⟨hD,gA,gB,gC⟩:=cd
  repeat' (first
 |simp only[go_sem,hD,gA,gB,gC,b]
 |(with_reducible refine CU (hm _) ?_)
 |(with_reducible refine CU (c1 _) ?_)
 |(with_reducible first|refine bg fun hc=>?_|refine bh fun hc=>?_|refine bj (fun hc=>?_) fun hc=>?_)<;>(try simp only[hc,bs,↓reduceIte]at h)<;>try simp only[hc]
 |(with_reducible refine aD hQ ?_;(try cases h);simp only[aT,aV,bD,bE,go_sem,hD,gA,gB,gC,b];try exact bX)
 |(cases h;done))
 ·rw [if_neg (by simp [b])]at h
  refine aE.go Fe rfl fun B Q hB hQ=>?_
  have⟨hD,gA,gB,gC⟩:=cd
  repeat' (first
 |simp only[go_sem,hD,gA,gB,gC,b]
 |(with_reducible refine CU (hm _) ?_)
 |(with_reducible first|refine bg fun hc=>?_|refine bh fun hc=>?_|refine bj (fun hc=>?_) fun hc=>?_)<;>(try simp only[hc,bs,↓reduceIte]at h)<;>try simp only[hc]
 |(with_reducible refine aD hQ ?_;(try cases h);simp only[aT,aV,bD,bE,go_sem,hD,gA,gB,gC,b];try exact bX)
 |(cases h;done))
theorem aE.alH {P:Program} {f:FuncId} {args:List D} {z k:Nat} {rows:List (List D)} (h:aE P f args S0 (.slice (.tok 0) z rows) ⟨[],[some k]⟩) (ha:D.bK 0 0 args=true) (hr:D.jd 0 0 rows=true) (s:St) :
 aE P f args s (.slice (.tok s.ay.length) z rows) ⟨s.ah,s.ay++ [some k]⟩:=by
 refine bW.frame [] [] h List.nodup_nil List.nodup_nil (by simp) (by simp) rfl (by simp) rfl (by simp) (by rw[fL _ _ _ ha]) ha ?_
 rintro _ _ ⟨rfl,rfl⟩
 refine⟨by simp[D.back,D.cJ,Tag.cJ,kv,jT _ _ _ hr], ?_⟩
 simp[St.back,lk]
theorem TT (g:Tag) (z:Nat) (s:St):aE Tryz.prog fH [.slice g z []] s (.slice .full 1 []) s:=by
 refine bW.o5 (.cons (Wk.nil _ _ 1) .nil) (aE.pure ?_ rfl rfl s)
 unfold S0
 refine aE.go mX rfl fun B Q hB hQ=>?_
 have⟨hD,gA,gB,gC⟩:=cd
 repeat' (first
 |simp only[go_sem,hD,gA,gB,gC]
 |(with_reducible first|refine bg fun hc=>?_|refine bh fun hc=>?_|refine bj (fun hc=>?_) fun hc=>?_)<;>(try simp only[hc,bs,↓reduceIte]at h)<;>try simp only[hc]
 |(with_reducible refine aD hQ ?_;exact fM)
 |(cases h;done))
 refine FG (fun _=>?_) ?_
 ·repeat' (first
 |simp only[go_sem,hD,gA,gB,gC,iu,true_or,Nat.zero_le]
 |(with_reducible first|refine bg fun hc=>?_|refine bh fun hc=>?_|refine bj (fun hc=>?_) fun hc=>?_)<;>(try simp only[hc,bs,↓reduceIte]at h)<;>try simp only[hc]
 |(with_reducible refine aD hQ ?_;(try cases h);simp only[aT,aV,bD,bE,go_sem,hD,gA,gB,gC,iu,true_or,Nat.zero_le];try exact bX)
 |(cases h;done))
 ·repeat' (first
 |simp only[go_sem,hD,gA,gB,gC,iu,true_or,Nat.zero_le]
 |(with_reducible first|refine bg fun hc=>?_|refine bh fun hc=>?_|refine bj (fun hc=>?_) fun hc=>?_)<;>(try simp only[hc,bs,↓reduceIte]at h)<;>try simp only[hc]
 |(with_reducible refine aD hQ ?_;(try cases h);simp only[aT,aV,bD,bE,go_sem,hD,gA,gB,gC,iu,true_or,Nat.zero_le];try exact bX)
 |(cases h;done))
theorem TU {l:List aF} (hl:l.length<1073741824) (h0:l≠ []) (s:St):aE Tryz.prog fH [.slice .shared 1 (l.map encStr)] s (.slice (.tok s.ay.length) 1 (l.map encStr)) ⟨s.ah,s.ay++ [some l.length]⟩:=by
 refine aE.alH ?_ (by simp[D.bK,D.ok,Tag.ok,fe]) (fe l) s
 unfold S0
 refine aE.goK 0 1 (Nat.zero_le _) (Nat.zero_le _) mX rfl fun B Q hB hQ=>?_
 have⟨hD,gA,gB,gC⟩:=cd
 have ha:=fun o T=>sn (size:=1) (bytes:=16) (rows:=l.map encStr) (by simpa using h0) (by simp only[List.length_map];unfold bp;omega) (z:=1) (g:= .shared) o T
 cases l with
 |nil=>exact absurd rfl h0
 |cons x l=>
  simp only[List.map_cons,encStr]at ha
  repeat' (first
 |simp only[go_sem,hD,gA,gB,gC,ha]
 |(with_reducible first|refine bg fun hc=>?_|refine bh fun hc=>?_|refine bj (fun hc=>?_) fun hc=>?_)<;>(try simp only[hc,bs,↓reduceIte]at h)<;>try simp only[hc]
 |(with_reducible refine aD hQ ?_;(try cases h);simp only[aT,aV,bD,bE,go_sem,hD,gA,gB,gC,ha];try exact bX)
 |(cases h;done))
theorem Qv {a b:List aF} {n:Nat} (hn:n=a.length) (h:a.length+b.length≤1000000000) {g:Tag} {t:Nat} {s:St} (ht:s.ay[t]? = some (some n)) :
 iu 1 16 (.slice (.tok t) 1 (a.map encStr)) (.slice g 1 (b.map encStr)) s=some (.slice (.tok t) 1 ((a++b).map encStr),⟨s.ah,s.ay.set t (some (a++b).length)⟩):=by
 subst hn
 rw[qm (size:=1) (bytes:=16) (by simp only[List.length_map];unfold bp;omega) (by simpa using ht)]
 simp
theorem W3 {p:Pg} (h:p.jv) (hb:p.may=true) {name:aF} {f:Pc} (hf:p.find name=some f) (s:St):aE Tryz.prog qp [.agg (bJ p), .str name] s (.slice .shared 1 ((p.globals++f.own).map encStr)) s:=by
 refine aE.pure ?_ (by simp[D.bK,D.ok,jh]) (by simp only[D.ok,Tag.ok,fe];rfl) s
 have hm:=fun s=>Hg h.Nl s
 simp only[AN,hb]at hm
 obtain⟨sT,sC,sB⟩:=h.procs
 simp only[Pg.find]at hf
 unfold S0
 refine aE.go ID rfl fun B Q hB hQ=>?_
 have⟨hD,gA,gB,gC⟩:=cd
 repeat' (first
 |simp only[go_sem,hD,gA,gB,gC]
 |(with_reducible refine CU (hm _) ?_)
 |(with_reducible first|refine bg fun hc=>?_|refine bh fun hc=>?_|refine bj (fun hc=>?_) fun hc=>?_)<;>(try simp only[hc,bs,↓reduceIte]at h)<;>try simp only[hc]
 |(with_reducible refine aD hQ ?_;exact fM)
 |(cases h;done))
 refine fj 1 0 (bl.ind (ι:=List Pc×Nat) (fun i=>p.procs.drop i.2=i.1∧gQ name i.1=some f) (fun i=>i.1.length)
  (fun i=> [(1, .str name),(2, .ptr 0 0),(11, .slice .shared 5 (p.procs.map bG)),(12, .int .i64 (p.procs.length:Int)),(13, .int .i64 (i.2:Int))]) (fun i=>⟨[bJ p],[]⟩) ?_ (p.procs,0) ⟨rfl,hf⟩)
 rintro⟨rest,k⟩ ⟨h1,h2⟩ IH
 dsimp only at h1 h2
 cases rest with
 |nil=>cases h2
 | cons a rest=>
  obtain⟨gA,g2,hD,g4⟩:=drop_cons h1
  have cH:k<4611686018427387904:=by omega
  have ub:=h.small (List.mem_of_getElem? gA)
  simp only[gQ]at h2
  rcases Bool.eq_false_or_eq_true (a.name==name)with b1|b1
  ·simp only [b1,if_true]at h2
   cases h2
   have ho:=fun s=>abS (f:=f) ub.par ub.vars s
   have jS:f.own.length<2000000:=by have:=ub.par;have:=ub.vars;simp[Pc.own,Pc.qz];omega
   cases e:p.globals with
   | nil=>
    simp only[List.nil_append]at *
    have c1:=fun g z s=>TT g z s
    cases e2:f.own with
    |nil=>
     rw[e2]at ho hQ
     have ha:=fun o T=>sq (size:=1) (bytes:=16) (z:=1) (z':=1) (g:= .shared) o T
     repeat' (first
 |simp only[go_sem,hD,gA,gB,gC,b1,ha,e]
 |(with_reducible refine CU (c1 _ _ _) ?_)
 |(with_reducible refine CU (ho _) ?_)
 |(with_reducible first|refine bg fun hc=>?_|refine bh fun hc=>?_|refine bj (fun hc=>?_) fun hc=>?_)<;>(try simp only[hc,bs,↓reduceIte]at h)<;>try simp only[hc]
 |(with_reducible refine aD hQ ?_;(try cases h);simp only[aT,aV,bD,bE,go_sem,hD,gA,gB,gC,b1,ha,e];try exact bX)
 | (cases h;done))
    |cons x l=>
     have ha:=fun o T=>sn (size:=1) (bytes:=16) (rows:=f.own.map encStr) (by simp[e2]) (by simp only[List.length_map];unfold bp;omega) (z:=1) (g:= .shared) o T
     repeat' (first
 |simp only[go_sem,hD,gA,gB,gC,b1,ha,e]
 |(with_reducible refine CU (c1 _ _ _) ?_)
 |(with_reducible refine CU (ho _) ?_)
 |(with_reducible first|refine bg fun hc=>?_|refine bh fun hc=>?_|refine bj (fun hc=>?_) fun hc=>?_)<;>(try simp only[hc,bs,↓reduceIte]at h)<;>try simp only[hc]
 |(with_reducible refine aD hQ ?_;(try cases h);simp only[aT,aV,bD,bE,go_sem,hD,gA,gB,gC,b1,ha,e];try exact bX)
 | (cases h;done))
   |cons x l=>
    have c1:=fun s=>TU (l:=p.globals) (by omega) (by simp[e]) s
    have ha:=fun {s:St} {t:Nat} (ht:s.ay[t]? = some (some p.globals.length))=>Qv (a:=p.globals) (b:=f.own) (g:= .shared) rfl (by omega) ht
    have yl:=fun o=>Qv (a:=p.globals) (b:=f.own) (g:= .shared) (t:=0) (s:=⟨o,[some p.globals.length]⟩) rfl (by omega) rfl
    repeat' (first
 |simp only[go_sem,hD,gA,gB,gC,b1,yl]
 |(with_reducible refine CU (c1 _) ?_)
 |(with_reducible refine CU (ho _) ?_)
 |(with_reducible first|refine bg fun hc=>?_|refine bh fun hc=>?_|refine bj (fun hc=>?_) fun hc=>?_)<;>(try simp only[hc,bs,↓reduceIte]at h)<;>try simp only[hc]
 |(with_reducible refine aD hQ ?_;(try cases h);simp only[aT,aV,bD,bE,go_sem,hD,gA,gB,gC,b1,yl];try exact bX)
 | (cases h;done))
  ·simp only [b1,Bool.false_eq_true,if_false]at h2
   repeat' (first
 |simp only[go_sem,hD,gA,gB,gC,b1]
 |(with_reducible first|refine bg fun hc=>?_|refine bh fun hc=>?_|refine bj (fun hc=>?_) fun hc=>?_)<;>(try simp only[hc,bs,↓reduceIte]at h)<;>try simp only[hc]
 |(with_reducible refine aD hQ ?_;(try cases h);simp only[aT,aV,bD,bE,go_sem,hD,gA,gB,gC,b1];try exact bX)
 | (cases h;done))
   refine dW 1 0 ?_ ?_ (IH (rest,k+1) ⟨g2,h2⟩ (Nat.lt_succ_self _))
   ·(simp only[go_sem,hD,gA,gB,gC,aH cH];try exact bO)
   ·(simp only[go_sem,hD,gA,gB,gC,aH cH];try exact bO)
theorem Pv {p:Pg} (hb:p.may=true) {i:Nat} {f:Pc} (hf:p.procs[i]? = some f) : ∃ a b:Int,p.bc.lo[i]? = some a∧p.bc.hi[i]? = some b∧(if decide (a<b)=true then a else -1)=dY f.body (-1):=by
 obtain⟨a,b,e,h1,h2,h3,h4⟩:=(oT p).2 i f hf
 refine⟨_,_,h1,h2, ?_⟩
 cases Eb:f.body with
 |nil=>
  rw[Eb]at h3
  have:b = []:=by simpa[Sm.bZ]using h3
  subst this
  simp[dY]
 | cons s l=>
  rw[Eb,Sm.bZ,Sm.mN]at h3
  cases b with
  |nil=>simp at h3
  | cons x b=>
   simp only[List.map_cons,List.cons_append,List.cons.injEq]at h3
   have hx:p.pre[a.length]? = some s:=by
    rw[← (oT p).1,h4]
    simp[h3.1]
   have:=AR hb hx
   rw[if_pos (by simp;omega)]
   simp only[dY]
   rw[this];omega
theorem aeh {p:Pg} (hb:p.may=true) {i:Nat} {f:Pc} (hf:p.procs[i]? = some f) (s:St):aE Tryz.prog qs [.dN (ga p) 0, .int .i64 (i:Int)] s (.int .i64 (dY f.body (-1))) s:=by
 refine aE.pure ?_ (by simp[D.bK,D.ok,we]) rfl s
 obtain⟨a,b,h1,h2,h⟩:=Pv hb hf
 generalize dY f.body (-1)=R at h
 unfold S0
 rw[o9]
 refine aE.go BA rfl fun B Q hB hQ=>?_
 have⟨hD,gA,gB,gC⟩:=cd
 repeat' (first
 |simp only[go_sem,hD,gA,gB,gC,h1,h2]
 |(with_reducible first|refine bg fun hc=>?_|refine bh fun hc=>?_|refine bj (fun hc=>?_) fun hc=>?_)<;>(try simp only[hc,bs,↓reduceIte]at h)<;>try simp only[hc]
 |(with_reducible refine aD hQ ?_;(try cases h);simp only[aT,aV,bD,bE,go_sem,hD,gA,gB,gC,h1,h2];try exact bX)
 |(cases h;done))
section
variable {p:Pg} {T W:List Int} {y:Lay} {m:Mc} {loc:List (Nat×List D)} {s:St}
theorem kq.row {s:St} {d:D} {cs:List D} (h:kq s d cs) (hn:cs≠ []) : ∃ o g more,d = .dD 1 o g cs.length∧s.ah[o]? = some (.int .i64 ((g:Nat):Int)::(cs++more)):=by
 rcases h with ⟨_,h⟩|h
 ·exact absurd h hn
 ·exact h
theorem Inv.Z0 (h:Inv p T W y m loc s) {fr:Fr} {r:List Fr} (jq:m.st=fr::r) : ∃ so g cells o,y.sd = .dD 1 so g (r.length+1)∧s.ah[so]? = some (.int .i64 ((g:Nat):Int)::cells)∧cells[r.length]? = some (.ptr o 0)∧s.ah[o]? = some (qF y.κ fr)∧y.φ[0]? = some o:=by
 have jj:=h.uJ
 rw[jq]at jj
 cases hφ:y.φ with
 |nil=>rw[hφ]at jj;simp at jj
 | cons o φ=>
  rw[hφ]at jj
  simp only[List.length_cons]at jj
  obtain⟨so,g,more,h1,h2⟩:=h.stack.row (by simp[hφ])
  refine⟨so,g,_,o, ?_,h2, ?_,(h.frame 0 o fr (by rw[hφ];rfl) (by rw[jq];rfl)).1,rfl⟩
  ·rw[h1];simp[hφ];omega
  ·rw [hφ,List.reverse_cons,List.map_append,List.append_assoc,List.getElem?_append_right (by simp;omega)]
   simp[zR,show r.length - φ.length=0 by omega]
theorem TV (h:Inv p T W y m loc s) {fr:Fr} {r:List Fr} (jq:m.st=fr::r) (hs:r.length<1000000) : ∃ o,y.φ[0]? = some o∧s.ah[o]? = some (qF y.κ fr)∧aE Tryz.prog lO [.ptr 0 0] s (.ptr o 0) s:=by
 obtain⟨so,g,cells,o,h1,h2,h3,h4,h5⟩:=h.Z0 jq
 refine⟨o,h5,h4, ?_⟩
 have hm:=h.kr
 rw[fX,h1]at hm
 have hw:IntKind.wrap .i64 (((r.length+1:Nat):Int) - 1)=((r.length:Nat):Int):=by rw[show((r.length+1:Nat):Int) - 1=(r.length:Int) by omega];exact eD (by omega) (by omega)
 have hl:(r.length<r.length+1)=True:=by simp
 refine bW.wD Ct rfl fun B Q hB hQ=>?_
 have⟨hD,gA,gB,gC⟩:=cd
 repeat' (first
 |simp only[go_sem,hD,gA,gB,gC,hm,hw,h2,h3,hl,Nat.mul_one]
 |(with_reducible first|refine bg fun hc=>?_|refine bh fun hc=>?_|refine bj (fun hc=>?_) fun hc=>?_)<;>(try simp only[hc,bs,↓reduceIte]at h)<;>try simp only[hc]
 |(with_reducible refine aD hQ ?_;(try cases h);simp only[aT,aV,bD,bE,go_sem,hD,gA,gB,gC,hm,hw,h2,h3,hl,Nat.mul_one];try exact bX)
 |(cases h;done))
 (refine iS hQ ?_;simp only[aT,aV,bD,bE,go_sem])
theorem EC (h:Inv p T W y m loc s) {fr:Fr} {r:List Fr} (jq:m.st=fr::r) (hs:r.length<1000000) (hn:fr.names.length<1000000) {name:aF} {j c:Nat} (hj:ja name 0 fr.names=(j:Int)) (hc:fr.vars[j]? = some c) :
 aE Tryz.prog jw [.ptr 0 0, .str name] s (.ptr (y.κ.getD c 0) 0) s:=by
 obtain⟨o,_,h1,c1⟩:=TV h jq hs
 have c2:=fun s=>Ek (l:=fr.names) (by omega) name s
 rw[hj]at c2
 rw[qF]at h1
 refine bW.wD AE rfl fun B Q hB hQ=>?_
 have⟨hD,gA,gB,gC⟩:=cd
 repeat' (first
 |simp only[go_sem,hD,gA,gB,gC,h1,hc,fN,Option.map_some]
 |(with_reducible refine CU (c1) ?_)
 |(with_reducible refine CU (c2 _) ?_)
 |(with_reducible first|refine bg fun hc=>?_|refine bh fun hc=>?_|refine bj (fun hc=>?_) fun hc=>?_)<;>(try simp only[hc,bs,↓reduceIte]at h)<;>try simp only[hc]
 |(with_reducible refine aD hQ ?_;(try cases h);simp only[aT,aV,bD,bE,go_sem,hD,gA,gB,gC,h1,hc,fN,Option.map_some];try exact bX)
 |(cases h;done))
 (refine iS hQ ?_;simp only[aT,aV,bD,bE,go_sem])
abbrev Rl (p:Pg) (T W:List Int) (d:D) (m':Mc) (X:Lay→Prop) (loc:List (Nat×List D)):D→St→Prop:=fun d' s'=>d'=d∧∃ y',X y'∧Inv p T W y' m' loc s'
theorem Qw (h:Inv p T W y m loc s) (hW:W.length<1000000) (ht:m.trace.length<2000000) (id:Int) (bT:List Int) :
 bW Tryz.prog fc [.ptr 0 0, .int .i64 id, .slice .shared 1 (bT.map cq)] s (Rl p T W (.tuple []) (m.event W id bT) (· = y) loc):=by
 have hm:=h.kr
 rw[fX]at hm
 have hl:=h.wF
 have c1:=fun s=>Pu (l:=W) (by omega) id s
 have fi:iu 2 32 (.slice (.tok 1) 2 (m.trace.map iG)) (.slice .full 2 [[.int .i64 id, .slice .shared 1 (bT.map cq)]]) s=some (.slice (.tok 1) 2 ((m.trace++ [(id,bT)]).map iG),⟨s.ah,s.ay.set 1 (some (m.trace.length+1))⟩):=by
  rw[qm (size:=2) (bytes:=32) (by simp only[List.length_map,List.length_singleton];unfold bp;omega) (by simpa using h.t1)]
  simp[iG]
 refine bW.wD AH rfl fun B Q hB hQ=>?_
 have⟨hD,gA,gB,gC⟩:=cd
 cases hb:W.contains id
 ·repeat' (first
 |simp only[go_sem,hD,gA,gB,gC,hm,hb]
 |(with_reducible refine CU (c1 _) ?_)
 |(with_reducible first|refine bg fun hc=>?_|refine bh fun hc=>?_|refine bj (fun hc=>?_) fun hc=>?_)<;>(try simp only[hc,bs,↓reduceIte]at h)<;>try simp only[hc]
 |(with_reducible refine aD hQ ?_;(try cases h);simp only[aT,aV,bD,bE,go_sem,hD,gA,gB,gC,hm,hb];try exact bX)
 |(cases h;done))
  (refine iS hQ ?_;simp only[aT,aV,bD,bE,go_sem])
  refine⟨rfl,y,rfl, ?_⟩
  unfold Mc.event
  rw[hb]
  exact h
 ·repeat' (first
 |simp only[go_sem,hD,gA,gB,gC,hm,hb,fi,hl]
 |(with_reducible refine CU (c1 _) ?_)
 |(with_reducible first|refine bg fun hc=>?_|refine bh fun hc=>?_|refine bj (fun hc=>?_) fun hc=>?_)<;>(try simp only[hc,bs,↓reduceIte]at h)<;>try simp only[hc]
 |(with_reducible refine aD hQ ?_;(try cases h);simp only[aT,aV,bD,bE,go_sem,hD,gA,gB,gC,hm,hb,fi,hl];try exact bX)
 | (cases h;done))
  (refine iS hQ ?_;simp only[aT,aV,bD,bE,go_sem])
  refine⟨rfl,y,rfl, ?_⟩
  have:=h.vQ (m':=m.event W id bT) (ts:=s.ay.set 1 (some (m.trace.length+1))) (gw W m id bT).1 (gw W m id bT).2.1 (by rw[(gw W m id bT).2.2.2.2.2,List.getElem?_set_ne (by omega)];exact h.t0) (by
   unfold Mc.event
   rw[hb]
   simp[(List.getElem?_eq_some_iff.1 h.t1).1])
  unfold Mc.event at this ⊢
  rw[hb,if_pos rfl]at this ⊢
  simp only[fX,List.map_append,List.map_cons,List.map_nil]at this
  exact this
theorem Qx (l:List Sm) (hl:l.length<4611686018427387904) (o:Int) (s:St):aE Tryz.prog rH [.slice .shared 13 (l.map aS), .int .i64 o] s (.int .i64 (firstM l o)) s:=by
 refine aE.pure ?_ (by simp[D.bK,D.ok,Tag.ok,nz]) rfl s
 unfold S0
 cases l with
 |nil=>
  have e:decide ((0:Int) > 0)=false:=rfl
  simp only[firstM,dY,List.map_nil]
  refine aE.go Ce rfl fun B Q hB hQ=>?_
  have⟨hD,gA,gB,gC⟩:=cd
  repeat' (first
 |simp only[go_sem,hD,gA,gB,gC,e]
 |(with_reducible first|refine bg fun hc=>?_|refine bh fun hc=>?_|refine bj (fun hc=>?_) fun hc=>?_)<;>(try simp only[hc,bs,↓reduceIte]at h)<;>try simp only[hc]
 |(with_reducible refine aD hQ ?_;(try cases h);simp only[aT,aV,bD,bE,go_sem,hD,gA,gB,gC,e];try exact bX)
 |(cases h;done))
 |cons a l=>
  have e:decide (((l.length+1:Nat):Int) > 0)=true:=by simp
  simp only[firstM,dY,List.map_cons]
  refine aE.go Ce rfl fun B Q hB hQ=>?_
  have⟨hD,gA,gB,gC⟩:=cd
  repeat' (first
 |simp only[go_sem,hD,gA,gB,gC,e]
 |(with_reducible first|refine bg fun hc=>?_|refine bh fun hc=>?_|refine bj (fun hc=>?_) fun hc=>?_)<;>(try simp only[hc,bs,↓reduceIte]at h)<;>try simp only[hc]
 |(with_reducible refine aD hQ ?_;(try cases h);simp only[aT,aV,bD,bE,go_sem,hD,gA,gB,gC,e];try exact bX)
 |(cases h;done))
end
end Go.Abs
namespace Go.Abs
set_option maxRecDepth 8000
open Go.Proofs
section
variable {p:Pg} {T W:List Int} {y:Lay} {m:Mc} {loc:List (Nat×List D)} {s:St}
theorem N7 {s:St} {o g z bytes:Nat} {t:Tag} {cs more r:List D} {len:Nat} (hs:s.ah[o]? = some (.int .i64 (g:Int)::(cs++more))) (hl:cs.length=len*z) (hm:(len+1)*(bytes+1)≤bp) :
 zb z bytes (.dD z o g len) (.slice t z [r]) s=some (.dD z o (g+1) (len+1),⟨s.ah.set o (.int .i64 ((g+1:Nat):Int)::(cs++r)),s.ay⟩):=by
 have ha:lQ s o g=some (cs++more):=by unfold lQ;rw[hs];simp
 simp only[zb,ha,List.length_singleton,hm,or_true,and_self,if_true,List.flatten_cons,List.flatten_nil,List.append_nil]
 rw[if_pos (by simp;omega), ← hl,List.take_append_of_le_length (Nat.le_refl _),List.take_length]
theorem Wk.alI (z z':Nat):Wk (.eW z) (.slice .shared z' []):=fun M s v h=>by
 cases h with
 |eW _ a=>cases a with
  |none=>exact .jy _ _ _ rfl trivial
  |some a=>exact .mD _ _ _
theorem aE.acb {P:Program} {f:FuncId} {a b:D} {d:D} {s:St} {v:D} {l:List Int} (hv:kq s v (l.map ic)) (h : ∀ s,aE P f [a,b, .slice .shared 1 (l.map cq)] s d s) (ha:D.ok 0 0 a=true) (hb:D.ok 0 0 b=true) (hd:d.flat=true) :
 aE P f [a,b,v] s d s:=by
 rcases hv with ⟨rfl,e⟩|⟨o,g,more,rfl,e⟩
 ·have:l = []:=by simpa using e
  subst this
  exact bW.o5 (.cons (Wk.refl _) (.cons (Wk.refl _) (.cons (Wk.alI 1 1) .nil))) (h s)
 ·have er : ∀ l:List Int,(l.map cq).flatten=l.map ic:=fun l=>by
   induction l with
   |nil=>rfl
   |cons x l ih=>simp only[List.map_cons,List.flatten_cons,ih];rfl
  have hlen:(l.map ic).length=(l.map cq).length:=by simp
  rw[hlen]
  have e0:D.ko o g (l.map cq) [a,b, .dD 1 o g (l.map cq).length] = [a,b, .slice .shared 1 (l.map cq)]:=by
   simp only[D.ko,NR _ _ _ a ha,NR _ _ _ b hb,D.gk,and_self,if_true]
  refine aE.aug (k:=2) (rows:=l.map cq) rfl (by rw[er];exact e) (by intro r hr;obtain⟨x,_,rfl⟩:=List.mem_map.1 hr;rfl) ?_ ?_ hd
  ·rw[e0];exact h S0
  ·rw[e0];simp[D.bK,D.ok,Tag.ok,ha,hb,kL]
structure nZ (m:Mc) (fr:Fr) (r:List Fr):Prop where
 st:m.st=fr::r
 len:r.length<1000000
 names:fr.names.length<1000000
 vars:fr.vars.length<1000000
theorem nZ.top {fr:Fr} {r:List Fr} (h:nZ m fr r):m.top=fr:=by simp[Mc.top,h.st]
theorem W5 {fr:Fr} {k c:Nat} {rest:List Nat} (h:fr.vars.drop k=c::rest) (m:Mc):(fr.vars.take (k+1)).map (fun c=>m.mem.getD c 0)=(fr.vars.take k).map (fun c=>m.mem.getD c 0)++ [m.mem.getD c 0]:=by
 have:=(drop_cons h).1
 rw[List.take_add_one,this]
 simp
theorem Gg (h:Inv p T W y m loc s) {fr:Fr} {r:List Fr} (ht:nZ m fr r) {x:Ex} (hx:x.size<1000000) (htx:x.texts) :
 bW Tryz.prog kK [.ptr 0 0, .agg (bQ x)] s (fun d s'=>Rl p T W (zT (m.bM x).1) (m.bM x).2 (fun y'=>y' = {y with vd:=y'.vd}) loc d s'∧s'.ay=s.ay):=by
 have h1:=h.new (bQ x)
 generalize acd:(s.ah.length,bQ x)::loc=Z1 at h1
 obtain⟨o,ho,W6,c1⟩:=TV h1 ht.st ht.len
 have hm:=h1.kr
 rw[fX]at hm
 have hl:=h1.wF
 simp only at hm hl
 rw[qF]at W6
 have hvl:=ht.vars
 have UO:=ht.names
 refine bW.wD AG rfl fun B Q hB hQ=>?_
 have⟨hD,gA,gB,gC⟩:=cd
 -- the rounds
 have loop : ∀ (n k:Nat) (rest:List Nat) (vd:D) (s2:St),s2.ay=s.ay→rest.length=n→fr.vars.drop k=rest→Inv p T W {y with vd:=vd} m Z1 s2→kq s2 vd (((fr.vars.take k).map fun c=>m.mem.getD c 0).map ic)→
  bl Tryz.prog B 64 agH (iI 0 (la (jJ Tryz.prog B 64 agI Q) Q)) [(0, .ptr 0 0),(3, .ptr s.ah.length 0),(6, .ptr o 0),(24, .slice .shared 1 (fr.vars.map fun c=>fN (y.κ.getD c 0))),(25, .int .i64 (fr.vars.length:Int)),(26, .int .i64 (k:Int))] s2:=by
  intro n
  induction n with
  | zero=>
   intro k rest vd s2 xo xe hd h2 ha
   have:rest = []:=List.eq_nil_of_length_eq_zero xe
   subst this
   have hD:=drop_nil hd
   have hk:fr.vars.take k=fr.vars:=List.take_of_length_le (List.drop_eq_nil_iff.1 hd)
   rw[hk]at ha
   have LL:(fr.vars.map fun c=>m.mem.getD c 0)=m.bT:=by unfold Mc.bT;rw[ht.top]
   rw[LL]at ha
   have kl:=h2.kr
   rw[fX]at kl
   have kX:=h2.wF
   have Kj:=(h2.frame 0 o fr ho (by rw[ht.st];rfl)).1
   rw[qF]at Kj
   have vI:=(h2.loc (s.ah.length,bQ x) (by rw[← acd];exact List.mem_cons_self ..)).1
   simp only at kl Kj vI
   have c2:aE Tryz.prog sy [.agg (bQ x), .slice .shared 1 (fr.names.map encStr),vd] s2 (zT (x.bM fr.names m.bT)) s2:=
    aE.acb ha (fun s=>N6 (by omega) htx (by omega) (by rw[← LL,List.length_map];omega) s) (by simp[D.ok,jN]) (by simp[D.ok,Tag.ok,fe]) (by simp[D.flat,D.HW])
   have hw:(m.bM x).1=x.bM fr.names m.bT:=by unfold Mc.bM;rw[ht.top]
   generalize hr:x.bM fr.names m.bT=q at *
   have vC:(m.bM x).2=if q.2 then m else {m with fin:=4}:=by unfold Mc.bM;rw[ht.top,hr]
   obtain⟨q1,q2⟩:=q
   have ry:Inv p T W {y with vd:=vd} {m with fin:=4} Z1 ⟨s2.ah.set 0 (fX p T W {y with vd:=vd} {m with fin:=4}),s2.ay⟩:=h2.vQ (m':= {m with fin:=4}) rfl rfl h2.t0 h2.t1
   rw[fX]at ry
   have l5 : ∀ q∈loc,q∈Z1:=fun q mq=>by rw[← acd];exact List.mem_cons_of_mem _ mq
   refine bl.jV ?_
   cases q2
   ·repeat' (first
 |simp only[go_sem,hD,gA,gB,gC,kl,kX,Kj,vI]
 |(with_reducible refine CU (c2) ?_)
 |(with_reducible first|refine bg fun hc=>?_|refine bh fun hc=>?_|refine bj (fun hc=>?_) fun hc=>?_)<;>(try simp only[hc,bs,↓reduceIte]at h)<;>try simp only[hc]
 |(with_reducible refine aD hQ ?_;(try cases h);simp only[aT,aV,bD,bE,go_sem,hD,gA,gB,gC,kl,kX,Kj,vI];try exact bX)
 |(cases h;replace h:=hr;clear hr;(try simp only[bs,↓reduceIte]at h))
 | (cases h;done))
    (refine iS hQ ?_;simp only[aT,aV,bD,bE,go_sem])
    refine⟨⟨by rw[hw],{y with vd:=vd},rfl, ?_⟩,xo⟩
    rw[vC]
    exact ry.sub l5
   ·repeat' (first
 |simp only[go_sem,hD,gA,gB,gC,kl,kX,Kj,vI]
 |(with_reducible refine CU (c2) ?_)
 |(with_reducible first|refine bg fun hc=>?_|refine bh fun hc=>?_|refine bj (fun hc=>?_) fun hc=>?_)<;>(try simp only[hc,bs,↓reduceIte]at h)<;>try simp only[hc]
 |(with_reducible refine aD hQ ?_;(try cases h);simp only[aT,aV,bD,bE,go_sem,hD,gA,gB,gC,kl,kX,Kj,vI];try exact bX)
 |(cases h;replace h:=hr;clear hr;(try simp only[bs,↓reduceIte]at h))
 | (cases h;done))
    (refine iS hQ ?_;simp only[aT,aV,bD,bE,go_sem])
    refine⟨⟨by rw[hw],{y with vd:=vd},rfl, ?_⟩,xo⟩
    rw[vC]
    exact h2.sub l5
  | succ n ih=>
   intro k rest vd s2 xo xe hd h2 ha
   cases rest with
   |nil=>cases xe
   | cons c rest=>
    obtain⟨gA,g2,hD,g4⟩:=drop_cons hd
    have cH:k<4611686018427387904:=by omega
    have W7:c<m.mem.length:=(h2.frame 0 o fr ho (by rw[ht.st];rfl)).2.2 c (List.mem_of_getElem? gA)
    have hκ:y.κ[c]? = some (y.κ.getD c 0):=by
     rw[List.getD_eq_getElem?_getD,List.getElem?_eq_getElem (by have:=h2.len;simp only at this;omega)];rfl
    have ix:=h2.cell c _ _ hκ (by rw[List.getElem?_eq_getElem W7])
    have se:m.mem[c] = m.mem.getD c 0:=by rw[List.getD_eq_getElem?_getD,List.getElem?_eq_getElem W7];rfl
    rw[se]at ix
    generalize alJ:m.mem.getD c 0=v at ix
    have kl:=h2.kr
    rw[fX]at kl
    have kX:=h2.wF
    simp only at kl
    have hlen:k<1000000:=by have:=ht.vars;omega
    have hvt:((fr.vars.take (k+1)).map fun c=>m.mem.getD c 0).map ic=((fr.vars.take k).map fun c=>m.mem.getD c 0).map ic++ [.int .i64 v]:=by
     rw[W5 hd m,alJ,List.map_append];rfl
    rcases ha with ⟨rfl,e⟩|⟨vo,g,more,rfl,e⟩
    ·have fi:=F9 (z:=1) (bytes:=8) .full [.int .i64 v] s2 (by unfold bp;omega)
     have h3:=h2.TR (vd:= .dD 1 s2.ah.length 0 1) (s1:=⟨s2.ah++ [[.int .i64 ((0:Nat):Int), .int .i64 v]],s2.ay⟩) (fun o r e _=>by rw[List.getElem?_append_left (gX e)];exact e)
      ⟨[v], .inr ⟨_,0,[],rfl,by simp[ic]⟩⟩ (.inr (.inr rfl)) rfl
     rw[fX]at h3
     simp only at h3
     refine bl.jV ?_
     have hA : ∀ e:List (List D),(s2.ah++e)[0]? = s2.ah[0]? :=fun e=>List.getElem?_append_left kX
     repeat' (first
 |simp only[go_sem,hD,gA,gB,gC,kl,kX,ix,gA,fN,fi,Option.map_some,hA]
 |(with_reducible first|refine bg fun hc=>?_|refine bh fun hc=>?_|refine bj (fun hc=>?_) fun hc=>?_)<;>(try simp only[hc,bs,↓reduceIte]at h)<;>try simp only[hc]
 |(with_reducible refine aD hQ ?_;(try cases h);simp only[aT,aV,bD,bE,go_sem,hD,gA,gB,gC,kl,kX,ix,gA,fN,fi,Option.map_some,hA];try exact bX)
 |(cases h;replace h:=hr;clear hr;(try simp only[bs,↓reduceIte]at h))
 | (cases h;done))
     refine bl.qX ?_ (ih (k+1) rest _ _ xo (by simpa using xe) g2 h3 ?_)
     ·simp only [go_sem,aH cH,fN]
      repeat' (first|exact Ok.out|with_reducible refine ju ?_ ?_)
     ·rw [hvt,e]
      refine .inr ⟨_,0,[],rfl, ?_⟩
      show((s2.ah++ [_]).set 0 _)[s2.ah.length]? = _
      rw[List.getElem?_set_ne (by omega)]
      simp
    ·have nu:(((fr.vars.take k).map fun c=>m.mem.getD c 0).map ic).length=k:=by simp;omega
     have fi:=N7 (t:= .full) (bytes:=8) (r:= [.int .i64 v]) e (len:=k) (z:=1) (by rw[nu,Nat.mul_one]) (by unfold bp;omega)
     rw[nu]at kl h2
     have Kk:0≠vo:=fun e'=>(h2.xT (o:=vo) (by simp[D.arr])) e'.symm
     have dC:kq ⟨s2.ah.set vo (.int .i64 ((g+1:Nat):Int)::(((fr.vars.take k).map fun c=>m.mem.getD c 0).map ic++ [.int .i64 v])),s2.ay⟩ (.dD 1 vo (g+1) (k+1)) (((fr.vars.take k).map fun c=>m.mem.getD c 0).map ic++ [.int .i64 v]):=
      .inr ⟨vo,g+1,[],by simp;omega,by simp[gX e]⟩
     have h3:=h2.TR (vd:= .dD 1 vo (g+1) (k+1)) (s1:=⟨s2.ah.set vo (.int .i64 ((g+1:Nat):Int)::(((fr.vars.take k).map fun c=>m.mem.getD c 0).map ic++ [.int .i64 v])),s2.ay⟩) (fun o r e hn=>by rw[List.getElem?_set_ne (fun e'=>hn (by rw[← e'];simp[D.arr]))];exact e)
      ⟨(fr.vars.take (k+1)).map fun c=>m.mem.getD c 0,by rw[hvt];exact dC⟩ (.inl rfl) rfl
     rw[fX]at h3
     simp only at h3
     refine bl.jV ?_
     have hA : ∀ e:List D,(s2.ah.set vo e)[0]? = s2.ah[0]? :=fun e=>List.getElem?_set_ne (Ne.symm Kk)
     repeat' (first
 |simp only[go_sem,hD,gA,gB,gC,kl,kX,ix,gA,fN,fi,Option.map_some,hA]
 |(with_reducible first|refine bg fun hc=>?_|refine bh fun hc=>?_|refine bj (fun hc=>?_) fun hc=>?_)<;>(try simp only[hc,bs,↓reduceIte]at h)<;>try simp only[hc]
 |(with_reducible refine aD hQ ?_;(try cases h);simp only[aT,aV,bD,bE,go_sem,hD,gA,gB,gC,kl,kX,ix,gA,fN,fi,Option.map_some,hA];try exact bX)
 |(cases h;replace h:=hr;clear hr;(try simp only[bs,↓reduceIte]at h))
 |(cases h;done))
     refine bl.qX ?_ (ih (k+1) rest _ _ xo (by simpa using xe) g2 h3 ?_)
     ·simp only [go_sem,aH cH,fN]
      repeat' (first|exact Ok.out|with_reducible refine ju ?_ ?_)
     ·rw [hvt]
      exact dC.keep fun o mo=>by
       have:o=vo:=by simpa[D.arr]using mo
       subst this
       show(List.set _ 0 _)[o]? = _
       rw[List.getElem?_set_ne Kk]
 -- the values' slice is emptied
 obtain⟨l,hv⟩:=h1.bT
 have h0:((s.ah++ [bQ x])[0]?).isSome=true:=by rw[hm];rfl
 rcases hv with ⟨e,_⟩|⟨vo,g,more,e,e2⟩
 ·rw [e]at hm
  have wj:za (.eW 1) none (some (.int .i64 0))=some (.eW 1):=by simp[za,vf,vg]
  have h3:=h1.TR (vd:= .eW 1) (s1:=⟨s.ah++ [bQ x],s.ay⟩) (fun _ _ e _=>e) ⟨[], .inl ⟨rfl,rfl⟩⟩ (.inl (by rw[e])) rfl
  have DV:=(h3.frame 0 o fr ho (by rw[ht.st];rfl)).1
  rw[fX]at h3 DV
  rw[qF]at DV
  simp only at h3 DV
  repeat' (first
 |simp only[go_sem,hD,gA,gB,gC,hm,hl,W6,wj,DV]
 |(with_reducible refine CU (c1) ?_)
 |(with_reducible first|refine bg fun hc=>?_|refine bh fun hc=>?_|refine bj (fun hc=>?_) fun hc=>?_)<;>(try simp only[hc,bs,↓reduceIte]at h)<;>try simp only[hc]
 |(with_reducible refine aD hQ ?_;(try cases h);simp only[aT,aV,bD,bE,go_sem,hD,gA,gB,gC,hm,hl,W6,wj,DV];try exact bX)
 |(cases h;replace h:=hr;clear hr;(try simp only[bs,↓reduceIte]at h))
 |(cases h;done))
  refine bl.qX ?_ (loop _ 0 fr.vars _ _ rfl rfl rfl h3 (.inl ⟨rfl,rfl⟩))
  simp only[go_sem,fN]
  repeat' (first|exact Ok.out|with_reducible refine ju ?_ ?_)
 ·rw [List.length_map]at e
  rw[e]at hm
  have Kk:0≠vo:=fun e'=>(h1.xT (o:=vo) (by rw[e];simp[D.arr])) e'.symm
  have wj:za (.dD 1 vo g l.length) none (some (.int .i64 0))=some (.dD 1 vo g 0):=by simp[za,vf,vg]
  have h3:=h1.TR (vd:= .dD 1 vo g 0) (s1:=⟨s.ah++ [bQ x],s.ay⟩) (fun _ _ e _=>e) ⟨[], .inr ⟨vo,g,l.map ic++more,rfl,e2⟩⟩ (.inl (by rw[e];rfl)) rfl
  have DV:=(h3.frame 0 o fr ho (by rw[ht.st];rfl)).1
  rw[fX]at h3 DV
  rw[qF]at DV
  simp only at h3 DV
  repeat' (first
 |simp only[go_sem,hD,gA,gB,gC,hm,hl,W6,wj,DV]
 |(with_reducible refine CU (c1) ?_)
 |(with_reducible first|refine bg fun hc=>?_|refine bh fun hc=>?_|refine bj (fun hc=>?_) fun hc=>?_)<;>(try simp only[hc,bs,↓reduceIte]at h)<;>try simp only[hc]
 |(with_reducible refine aD hQ ?_;(try cases h);simp only[aT,aV,bD,bE,go_sem,hD,gA,gB,gC,hm,hl,W6,wj,DV];try exact bX)
 |(cases h;replace h:=hr;clear hr;(try simp only[bs,↓reduceIte]at h))
 | (cases h;done))
  refine bl.qX ?_ (loop _ 0 fr.vars _ _ rfl rfl rfl h3 (.inr ⟨vo,g,l.map ic++more,rfl, ?_⟩))
  ·simp only [go_sem,fN]
   repeat' (first|exact Ok.out|with_reducible refine ju ?_ ?_)
  ·show(List.set _ 0 _)[vo]? = _
   rw[List.getElem?_set_ne Kk];exact e2
end
end Go.Abs
namespace Go.Abs
set_option maxRecDepth 8000
open Go.Proofs
section
variable {p:Pg} {T W:List Int} {y:Lay} {m:Mc} {loc:List (Nat×List D)} {s:St}
theorem FB:Wk (.slice .full 0 []) (.slice .shared 1 (([] : List Int).map cq)):=Wk.nil _ _ _
theorem xV (h:Inv p T W y m loc s) (hW:W.length<1000000) (ht:m.trace.length<2000000) (id:Int) :
 bW Tryz.prog fc [.ptr 0 0, .int .i64 id, .slice .full 0 []] s (Rl p T W (.tuple []) (m.event W id []) (· = y) loc):=
 bW.o5 (.cons (Wk.refl _) (.cons (Wk.refl _) (.cons FB .nil))) (Qw h hW ht id [])
theorem Gh (h:Inv p T W y m loc s) (hW:W.length<1000000) (ht:m.trace.length<2000000) (id n:Int) :
 bW Tryz.prog fc [.ptr 0 0, .int .i64 id, .slice .full 1 [[.int .i64 n]]] s (Rl p T W (.tuple []) (m.event W id [n]) (· = y) loc):=
 bW.o5 (.cons (Wk.refl _) (.cons (Wk.refl _) (.cons (Wk.shared _ _ _) .nil))) (Qw h hW ht id [n])
theorem aei (h:Inv p T W y m loc s) {fr:Fr} {r:List Fr} (ht:nZ m fr r) {v:Sm} (hv:v.oy) (hW:W.length<1000000) (Fm:m.trace.length<2000000) :
 bW Tryz.prog pJ [.ptr 0 0, .agg (aS v)] s (Rl p T W (.int .i64 (m.jW W v).1) (m.jW W v).2 (fun y'=>y' = {y with vd:=y'.vd}) loc):=by
 have h1:=h.new (aS v)
 have hx:(s.ah++ [aS v])[s.ah.length]? = some (aS v):=by simp
 have l5 : ∀ q∈loc,q∈(s.ah.length,aS v)::loc:=fun q mq=>List.mem_cons_of_mem _ mq
 refine bW.wD Aw rfl fun B Q hB hQ=>?_
 have⟨hD,gA,gB,gC⟩:=cd
 rcases Bool.eq_false_or_eq_true v.has with b|b
 ·have c1:=Gg h1 ht (x:=v.x) (by have:=hv.2.2;omega) hv.1
  repeat' (first
 |simp only[go_sem,hD,gA,gB,gC,hx,b]
 |(with_reducible first|refine bg fun hc=>?_|refine bh fun hc=>?_|refine bj (fun hc=>?_) fun hc=>?_)<;>(try simp only[hc,bs,↓reduceIte]at h)<;>try simp only[hc]
 |(with_reducible refine aD hQ ?_;(try cases h);simp only[aT,aV,bD,bE,go_sem,hD,gA,gB,gC,hx,b];try exact bX)
 | (cases h;done))
  refine CR c1 fun d s2 h2=>?_
  obtain⟨⟨rfl,y2,xW,h2⟩,_⟩:=h2
  have vI:=(h2.loc (s.ah.length,aS v) (List.mem_cons_self ..)).1
  have hw:=kp m v.x
  simp only at vI
  rcases Bool.eq_false_or_eq_true (m.bM v.x).1.2 with b2|b2
  ·have c2:=Gh h2 hW (by rw [hw.2.2.2.2.2];exact Fm) v.id (m.bM v.x).1.1
   repeat' (first
 |simp only[go_sem,hD,gA,gB,gC,vI,b2]
 |(with_reducible first|refine bg fun hc=>?_|refine bh fun hc=>?_|refine bj (fun hc=>?_) fun hc=>?_)<;>(try simp only[hc,bs,↓reduceIte]at h)<;>try simp only[hc]
 |(with_reducible refine aD hQ ?_;(try cases h);simp only[aT,aV,bD,bE,go_sem,hD,gA,gB,gC,vI,b2];try exact bX)
 | (cases h;done))
   refine CR c2 fun d s3 h3=>?_
   obtain⟨rfl,y3,rfl,h3⟩:=h3
   repeat' (first
 |simp only[go_sem,hD,gA,gB,gC]
 |(with_reducible first|refine bg fun hc=>?_|refine bh fun hc=>?_|refine bj (fun hc=>?_) fun hc=>?_)<;>(try simp only[hc,bs,↓reduceIte]at h)<;>try simp only[hc]
 |(with_reducible refine aD hQ ?_;exact fM)
 | (cases h;done))
   (refine iS hQ ?_;simp only[aT,aV,bD,bE,go_sem])
   refine⟨by simp only[Mc.jW,b,if_true],y3,xW, ?_⟩
   simp only[Mc.jW,b,b2,if_true]
   exact h3.sub l5
  ·repeat' (first
 |simp only[go_sem,hD,gA,gB,gC,vI,b2]
 |(with_reducible first|refine bg fun hc=>?_|refine bh fun hc=>?_|refine bj (fun hc=>?_) fun hc=>?_)<;>(try simp only[hc,bs,↓reduceIte]at h)<;>try simp only[hc]
 |(with_reducible refine aD hQ ?_;(try cases h);simp only[aT,aV,bD,bE,go_sem,hD,gA,gB,gC,vI,b2];try exact bX)
 | (cases h;done))
   (refine iS hQ ?_;simp only[aT,aV,bD,bE,go_sem])
   refine⟨by simp only[Mc.jW,b,if_true],y2,xW, ?_⟩
   simp only[Mc.jW,b,b2,if_true,Bool.false_eq_true,if_false]
   exact h2.sub l5
 ·have c1:=xV h1 hW Fm v.id
  repeat' (first
 |simp only[go_sem,hD,gA,gB,gC,hx,b]
 |(with_reducible first|refine bg fun hc=>?_|refine bh fun hc=>?_|refine bj (fun hc=>?_) fun hc=>?_)<;>(try simp only[hc,bs,↓reduceIte]at h)<;>try simp only[hc]
 |(with_reducible refine aD hQ ?_;(try cases h);simp only[aT,aV,bD,bE,go_sem,hD,gA,gB,gC,hx,b];try exact bX)
 |(cases h;done))
  refine CR c1 fun d s2 h2=>?_
  obtain⟨rfl,y2,rfl,h2⟩:=h2
  repeat' (first
 |simp only[go_sem,hD,gA,gB,gC]
 |(with_reducible first|refine bg fun hc=>?_|refine bh fun hc=>?_|refine bj (fun hc=>?_) fun hc=>?_)<;>(try simp only[hc,bs,↓reduceIte]at h)<;>try simp only[hc]
 |(with_reducible refine aD hQ ?_;exact fM)
 |(cases h;done))
  (refine iS hQ ?_;simp only[aT,aV,bD,bE,go_sem])
  refine⟨by simp only[Mc.jW,b,Bool.false_eq_true,if_false],y2,rfl, ?_⟩
  simp only[Mc.jW,b,Bool.false_eq_true,if_false]
  exact h2.sub l5
end
end Go.Abs
namespace Go.Abs
set_option maxRecDepth 8000
open Go.Proofs
section
variable {p:Pg} {T W:List Int} {y:Lay} {m:Mc} {loc:List (Nat×List D)} {s:St}
theorem gY.setAt : ∀ {l:List (List D)} {i:Nat} {r r':List D},l[i]? = some r→j9 r r'→gY l (l.set i r')
 |a::l,0,r,r',h,w=>by simp at h;subst h;exact .cons w (gY.refl l)
 |a::l,i+1,r,r',h,w=> .cons (j9.refl a) (gY.setAt (l:=l) (by simpa using h) w)
def Lay.push (y:Lay) (n K:Nat) (sd:D):Lay:= {y with κ:=y.κ++(List.range K).map (n+2 + ·),φ:=(n+1)::y.φ,sd:=sd}
theorem Z2 {κ:List Nat} {n K j:Nat} (hj:j<K):(κ++(List.range K).map (n+2 + ·)).getD (κ.length+j) 0=n+2+j:=by
 rw[List.getD_eq_getElem?_getD,List.getElem?_append_right (by omega),show κ.length+j - κ.length=j by omega]
 simp[hj]
theorem Gi {κ e:List Nat} {c:Nat} (hc:c<κ.length):(κ++e).getD c 0=κ.getD c 0:=by
 rw[List.getD_eq_getElem?_getD,List.getD_eq_getElem?_getD,List.getElem?_append_left hc]
theorem TW {κ:List Nat} {n:Nat} (h:n≤κ.length):(List.range n).map (fun c=>κ.getD c 0)=κ.take n:=by
 apply List.ext_getElem?
 intro i
 simp only[List.getElem?_map]
 by_cases hi:i<n
 ·rw [List.getElem?_range hi,List.getElem?_take_of_lt hi,List.getElem?_eq_getElem (show i<κ.length by omega)]
  simp[List.getD_eq_getElem?_getD,List.getElem?_eq_getElem (show i<κ.length by omega)]
 ·rw[List.getElem?_eq_none (by simp;omega),List.getElem?_eq_none (by simp;omega)];rfl
theorem Inv.push (h:Inv p T W y m loc s) {K:Nat} {sd:D} {fr:Fr} {s':St} (hg:p.globals.length≤m.mem.length) (hfv : ∀ c∈fr.vars,c<m.mem.length+K)
 (k : ∀ (o:Nat) (r:List D),s.ah[o]? = some r→o≠0→o∉y.sd.arr→s'.ah[o]? = some r)
 (k0:s'.ah[0]? = some (fX p T W (y.push s.ah.length K sd) m)) (kc : ∀ j,j<K→s'.ah[s.ah.length+2+j]? = some [.int .i64 0])
 (kf:s'.ah[s.ah.length+1]? = some (qF (y.push s.ah.length K sd).κ fr)) (ks:kq s' sd ((y.push s.ah.length K sd).φ.reverse.map zR)) (tX:sd.arr=y.sd.arr∨sd.arr = [s.ah.length+2+K])
 (t0:s'.ay[0]? = s.ay[0]?) (t1:s'.ay[1]? = s.ay[1]?) :
 Inv p T W (y.push s.ah.length K sd) {m with st:=fr::m.st,mem:=m.mem++List.replicate K 0} loc s':=by
 have Ci:=h.own
 rw[Lay.own,List.nodup_cons,List.nodup_append,List.nodup_append]at Ci
 obtain⟨n0,nκ,⟨ns,nv,nsv⟩,N4⟩:=Ci
 have lt:=h.vH
 have ltκ : ∀ c∈y.κ,c<s.ah.length:=fun c mc=>lt c (by simp[Lay.own,mc])
 have lts : ∀ c∈y.sd.arr,c<s.ah.length:=fun c mc=>lt c (by simp[Lay.own,mc])
 have ltv : ∀ c∈y.vd.arr,c<s.ah.length:=fun c mc=>lt c (by simp[Lay.own,mc])
 have wF:=h.wF
 have N5 : ∀ o,o∈(y.push s.ah.length K sd).own→o∈y.own∨(s.ah.length+2≤o∧o≤s.ah.length+2+K):=fun o mo=>by
  simp only[Lay.own,Lay.push,List.mem_cons,List.mem_append,List.mem_map,List.mem_range]at mo ⊢
  rcases mo with rfl|(mo|⟨j,hj,rfl⟩)|mo|mo
  ·exact .inl (.inl rfl)
  ·exact .inl (.inr (.inl mo))
  ·exact .inr ⟨by omega,by omega⟩
  ·rcases tX with e | e
   ·rw[e]at mo;exact .inl (.inr (.inr (.inl mo)))
   ·rw[e]at mo;have:=List.mem_singleton.1 mo;exact .inr ⟨by omega,by omega⟩
  ·exact .inl (.inr (.inr (.inr mo)))
 have g : ∀ {o:Nat} {r:List D},s.ah[o]? = some r→o∉y.own→s'.ah[o]? = some r∧o∉(y.push s.ah.length K sd).own:=fun {o r} e hn=>by
  refine⟨k o r e (fun e0=>hn (by rw[e0];simp[Lay.own])) (fun ms=>hn (by simp[Lay.own,ms])),fun mo=>?_⟩
  rcases N5 o mo with mo|mo
  ·exact hn mo
  ·have:=gX e;omega
 have hlen:=h.len
 refine⟨k0,by rw[t0];exact h.t0,by rw[t1];exact h.t1,by simp[Lay.push,hlen],fun i c v e1 e2=>?_,by simp[Lay.push,h.uJ],fun i o Qy e1 e2=>?_,ks, ?_, ?_,fun q mq=>g (h.loc q mq).1 (h.loc q mq).2⟩
 ·simp only [Lay.push]at e1
  dsimp only at e2
  rcases Nat.lt_or_ge i y.κ.length with hi|hi
  ·rw [List.getElem?_append_left hi]at e1
   rw[List.getElem?_append_left (by omega)]at e2
   have hc:=List.mem_of_getElem? e1
   exact k c _ (h.cell i c v e1 e2) (h.xT (by simp[hc])) (fun ms=>N4 c hc c (List.mem_append_left _ ms) rfl)
  ·rw [List.getElem?_append_right hi]at e1
   rw[List.getElem?_append_right (by omega)]at e2
   have hD:=(List.getElem?_eq_some_iff.1 e1).1
   simp only[List.length_map,List.length_range]at hD
   rw[List.getElem?_map,List.getElem?_range hD]at e1
   rw[List.getElem?_replicate_of_lt (by omega)]at e2
   simp only[Option.map_some,Option.some.injEq]at e1 e2
   subst e1 e2
   exact kc _ hD
 ·cases i with
  |zero=>
   simp only[Lay.push,List.getElem?_cons_zero,Option.some.injEq]at e1 e2
   subst e1 e2
   refine⟨kf,fun mo=>?_,fun c mc=>by simp only[List.length_append,List.length_replicate];exact hfv c mc⟩
   rcases N5 _ mo with mo|mo
   ·have:=lt _ mo;omega
   ·omega
  |succ i=>
   simp only[Lay.push,List.getElem?_cons_succ]at e1 e2
   obtain⟨f1,f2,f3⟩:=h.frame i o Qy e1 e2
   obtain⟨f4,f5⟩:=g f1 f2
   exact⟨by simp only[Lay.push];rw[Ki (by rw[hlen];exact f3)];exact f4,f5,fun c mc=>by have:=f3 c mc;simp only[List.length_append];omega⟩
 ·obtain⟨l,hl⟩:=h.bT
  refine⟨l,hl.keep fun o mo=>?_⟩
  rw[List.getElem?_eq_getElem (ltv o mo)]
  exact k o _ (List.getElem?_eq_getElem _) (h.xT (by simp[mo])) (fun ms=>nsv o ms o mo rfl)
 ·have N8:((List.range K).map (s.ah.length+2 + ·)).Nodup:=by
   rw[List.nodup_iff_pairwise_ne,List.pairwise_map]
   exact List.Pairwise.imp (fun h=>by omega) (List.nodup_iff_pairwise_ne.1 List.nodup_range)
  have Is : ∀ o∈(List.range K).map (s.ah.length+2 + ·),s.ah.length+2≤o∧o<s.ah.length+2+K:=fun o mo=>by
   obtain⟨j,hj,rfl⟩:=List.mem_map.1 mo
   have:=List.mem_range.1 hj;exact⟨by omega,by omega⟩
  have TX : ∀ o∈sd.arr,(o∈y.sd.arr)∨o=s.ah.length+2+K:=fun o mo=>by
   rcases tX with e|e
   ·rw[e]at mo;exact .inl mo
   ·rw[e]at mo;exact .inr (List.mem_singleton.1 mo)
  simp only[Lay.own,Lay.push]
  rw[List.nodup_cons,List.nodup_append,List.nodup_append,List.nodup_append]
  refine⟨fun mo=>?_,⟨nκ,N8,fun a ma b mb e=>?_⟩,⟨?_,nv,fun a ma b mb e=>?_⟩,fun a ma b mb e=>?_⟩
  ·simp only [List.mem_append]at mo
   rcases mo with (mo|mo)|mo|mo
   ·exact n0 (by simp[mo])
   ·have:=Is _ mo;omega
   ·rcases TX _ mo with mo | mo
    ·exact n0 (by simp[mo])
    ·omega
   ·exact n0 (by simp[mo])
  ·have:=ltκ a ma;have:=Is b mb;omega
  ·rcases tX with e | e <;> rw [e]
   ·exact ns
   ·simp
  ·rcases TX a ma with ma | ma
   ·exact nsv a ma b mb e
   ·have:=ltv b mb;omega
  ·rcases List.mem_append.1 ma with ma | ma
   ·rcases List.mem_append.1 mb with mb | mb
    ·rcases TX b mb with mb | mb
     ·exact N4 a ma b (List.mem_append_left _ mb) e
     ·have:=ltκ a ma;omega
    ·exact N4 a ma b (List.mem_append_right _ mb) e
   ·have:=Is a ma
    rcases List.mem_append.1 mb with mb|mb
    ·rcases TX b mb with mb | mb
     ·have:=lts b mb;omega
     ·omega
    ·have:=ltv b mb;omega
theorem aej {gl ps:List (List D)} {bytes:Nat} (hb:(gl.length+ps.length)*(bytes+1)≤bp) (ts:List (Option Nat)) : ∃ (g1 g2:Tag) (z1 z2:Nat) (t1 t2:List (Option Nat)),(∀ os,iu 1 bytes (.slice .full 0 []) (.slice .shared 1 gl) ⟨os,ts⟩=some (.slice g1 z1 gl,⟨os,t1⟩))∧
 (∀ os,iu 1 bytes (.slice g1 z1 gl) (.slice .shared 1 ps) ⟨os,t1⟩=some (.slice g2 z2 (gl++ps),⟨os,t2⟩))∧
 ((g2 = .full∧t2=ts∧gl++ps = [])∨(g2 = .tok ts.length∧z2=1∧t2=ts++ [some (gl++ps).length])):=by
 have h1:gl.length*(bytes+1)≤bp:=Nat.le_trans (Nat.mul_le_mul_right _ (Nat.le_add_right _ _)) hb
 have h2:ps.length*(bytes+1)≤bp:=Nat.le_trans (Nat.mul_le_mul_right _ (Nat.le_add_left _ _)) hb
 cases gl with
 |nil=>
  cases ps with
  |nil=>exact⟨.full, .full,0,0,ts,ts,fun os=>sq os ts,fun os=>sq os ts, .inl ⟨rfl,rfl,rfl⟩⟩
  |cons a ps=>exact⟨.full, .tok ts.length,0,1,ts,_,fun os=>sq os ts,fun os=>sn (by simp) h2 os ts, .inr ⟨rfl,rfl,rfl⟩⟩
 |cons a gl=>
  refine⟨.tok ts.length, .tok ts.length,1,1,ts++ [some (a::gl).length],ts++ [some (a::gl++ps).length],fun os=>sn (by simp) h1 os ts,fun os=>?_, .inr ⟨rfl,rfl,rfl⟩⟩
  rw[qm (size:=1) hb (by simp)]
  simp;omega
theorem Qz (h:Inv p T W y m loc s) (hp:p.jv) (hb:p.may=true) {i:Nat} {f:Pc} (hf:p.procs[i]? = some f) (alK:p.find f.name=some f) (jq:m.st.length<1000000) {l:List Nat} (hl : ∀ c∈l,c<m.mem.length) (JO:l.length<1000000)
 (hg:p.globals.length≤m.mem.length) (call:Int) :
 ∃ y' s',aE Tryz.prog jU [.ptr 0 0, .int .i64 (i:Int), .slice .shared 1 (l.map fun c=>fN (y.κ.getD c 0)), .int .i64 call] s (.int .i64 (m.open p (i:Int) l call).1) s'∧Inv p T W y' (m.open p (i:Int) l call).2 loc s':=by
 have hm:=h.kr
 rw[fX]at hm
 have sv:=h.wF
 obtain⟨sT,sC,sB⟩:=hp.procs
 have ub:=hp.small (List.mem_of_getElem? hf)
 have cV:=fun s=>W3 hp hb alK s
 have cF:=fun s=>aeh hb hf s
 have hi:i<p.procs.length:=(List.getElem?_eq_some_iff.1 hf).1
 obtain⟨g1,g2,z1,z2,t1,t2,a1,a2,a3⟩:=aej (gl:=(y.κ.take p.globals.length).map fN) (ps:=l.map fun c=>fN (y.κ.getD c 0)) (bytes:=8) (by simp only[List.length_map,List.length_take];unfold bp;omega) s.ay
 have hA : ∀ e:List (List D),(s.ah++e)[0]? = s.ah[0]? :=fun e=>List.getElem?_append_left sv
 have n0 : ∀ e1 e2:List (List D),(s.ah++e1++e2)[0]? = s.ah[0]? :=fun e1 e2=>by rw[List.append_assoc];exact hA _
 have n1 : ∀ a b:List D,(s.ah++ [a]++ [b])[s.ah.length+1]? = some b:=fun a b=>by simp
 have n2 : ∀ a b:List D,(s.ah++ [a]++ [b])[s.ah.length]? = some a:=fun a b=>by simp
 have n3 : ∀ a b c:List D,(s.ah++ [a]++ [b]).set (s.ah.length+1) c=s.ah++ [a]++ [c]:=fun a b c=>by simp[List.append_assoc,List.set_append_right]
 have n4 : ∀ a:List D,(s.ah++ [a])[s.ah.length]? = some a:=fun a=>by simp
 have n5 : ∀ a b:List D,(s.ah++ [a]).set s.ah.length b=s.ah++ [b]:=fun a b=>by simp
 have hpc:bG f = [.str f.name, .slice .shared 2 (f.params.map gp), .slice .shared 1 (f.vars.map encStr), .slice .shared 13 (f.body.map aS), .slice .shared 1 (f.fin.map encStr)]:=rfl
 generalize hn:s.ah.length=n at *
 have PE:(m.open p (i:Int) l call).1=dY f.body (-1)∧(m.open p (i:Int) l call).2 = {m with st:=⟨(i:Int),p.globals++f.own,List.range p.globals.length++l++(List.range f.vars.length).map (m.mem.length + ·),call⟩::m.st,mem:=m.mem++List.replicate f.vars.length 0}:=by
  unfold Mc.open
  rw[Int.toNat_natCast,hf]
  exact⟨rfl,rfl⟩
 rw[PE.1,PE.2]
 generalize k8:(y.κ.take p.globals.length).map fN++l.map (fun c=>fN (y.κ.getD c 0))=lb at *
 have hgr:lb.length<2000000:=by rw[← k8];simp only[List.length_append,List.length_map,List.length_take];omega
 have hvl:=ub.vars
 -- the states of the rounds
 let fr:Nat→List D:=fun k=> [.int .i64 (i:Int), .slice .shared 1 ((p.globals++f.own).map encStr), .slice (.tok s.ay.length) 1 (lb++(List.range k).map (fun j=>fN (n+2+j))), .int .i64 call]
 obtain⟨O,hO⟩ : ∃ O:Nat→List (List D),∀ k,O k=s.ah++ [bG f]++ [fr k]++List.replicate k [.int .i64 0]:=⟨_,fun _=>rfl⟩
 have oL : ∀ k,(O k).length=n+2+k:=fun k=>by rw[hO];simp[hn];omega
 have Z4 : ∀ k o,o<n→(O k)[o]? = s.ah[o]? :=fun k o ho=>by rw[hO,List.append_assoc,List.append_assoc,List.getElem?_append_left (by omega)]
 have oF : ∀ k,(O k)[n+1]? = some (fr k):=fun k=>by rw[hO,List.getElem?_append_left (by simp[hn])];simp[hn]
 have oC : ∀ k j,j<k→(O k)[n+2+j]? = some [.int .i64 0]:=fun k j hj=>by
  rw[hO,List.getElem?_append_right (by simp only[List.length_append,List.length_singleton,hn];omega)]
  simp only[List.length_append,List.length_singleton,hn]
  rw[show n+2+j - (n+1+1)=j by omega,List.getElem?_replicate_of_lt hj]
 have oF' : ∀ k e,(O k++e)[n+1]? = some (fr k):=fun k e=>by rw[List.getElem?_append_left (by rw[oL];omega)];exact oF k
 have o0 : ∀ k,(O k)[0]? = s.ah[0]? :=fun k=>Z4 k 0 sv
 have o0' : ∀ k e,(O k++e)[0]? = s.ah[0]? :=fun k e=>by rw[List.getElem?_append_left (by rw[oL];omega)];exact o0 k
 have oS : ∀ k,(O k++ [[D.int .i64 0]]).set (n+1) (fr (k+1))=O (k+1):=fun k=>by
  rw[hO,hO,List.replicate_succ']
  simp only[List.append_assoc]
  rw[List.set_append_right _ _ (by omega),hn,show n+1 - n=1 by omega]
  rfl
 have BW:(List.range p.globals.length++l++(List.range f.vars.length).map (m.mem.length + ·)).map (fun c=>fN ((y.push n f.vars.length .eI).κ.getD c 0))=lb++(List.range f.vars.length).map (fun j=>fN (n+2+j)):=by
  simp only[List.map_append,List.map_map,Lay.push, ← k8]
  congr 1
  ·congr 1
   ·rw [← TW (by rw [h.len];exact hg),List.map_map]
    exact List.map_congr_left fun c mc=>by simp only[Function.comp];rw[Gi (by rw[h.len];have:=List.mem_range.1 mc;omega)]
   ·exact List.map_congr_left fun c mc=>by rw[Gi (by rw[h.len];exact hl c mc)]
  ·exact List.map_congr_left fun j mj=>by simp only[Function.comp];rw[← h.len,Z2 (List.mem_range.1 mj)]
 have aun:j9 (fr f.vars.length) (qF (y.push n f.vars.length .eI).κ ⟨(i:Int),p.globals++f.own,List.range p.globals.length++l++(List.range f.vars.length).map (m.mem.length + ·),call⟩):=by
  unfold qF
  dsimp only
  rw[BW]
  exact .cons (Wk.refl _) (.cons (Wk.refl _) (.cons (Wk.shared _ _ _) (.cons (Wk.refl _) .nil)))
 -- the stack
 generalize hK:f.vars.length=K at *
 obtain⟨sd,O',e1,e3,e4,e5,e6⟩ : ∃ (sd:D) (O':List (List D)),(∀ tm:Tm,tm.get 70=y.sd→tm.get 72 = .slice .full 1 [[.ptr (n+1) 0]]→aR (.app 1 8 (.s 70) (.s 72)) tm ⟨O K,s.ay++ [some (lb.length+K)]⟩=some (sd,⟨O',s.ay++ [some (lb.length+K)]⟩))∧
  (∀ (o:Nat) (r:List D),(O K)[o]? = some r→o∉y.sd.arr→O'[o]? = some r)∧kq ⟨O',s.ay⟩ sd (((n+1)::y.φ).reverse.map zR)∧(sd.arr=y.sd.arr∨sd.arr = [n+2+K])∧sd.row=some [sd]:=by
  rcases h.stack with ⟨e,e2⟩|⟨so,g,more,e,e2⟩
  ·have hφ:y.φ = []:=by simpa using e2
   refine⟨.dD 1 (n+2+K) 0 1,O K++ [[.int .i64 ((0:Nat):Int), .ptr (n+1) 0]],fun tm h1 h2=>?_,fun o r e _=>by rw[List.getElem?_append_left (gX (s:=⟨O K,[]⟩) e)];exact e, .inr ⟨n+2+K,0,[],by simp[hφ], ?_⟩, .inr rfl,rfl⟩
   ·simp only [aR,X.ev,h1,h2,e]
    rw[F9 _ _ _ (by unfold bp;omega)]
    simp only[oL]
   ·rw [hφ]
    show(O K++ [_])[n+2+K]? = _
    rw[← oL K]
    simp[zR]
  ·have auo:so<n:=by have:=gX e2;omega
   have hlen:(y.φ.reverse.map zR).length=m.st.length:=by simp[h.uJ]
   have e2':(O K)[so]? = some (.int .i64 ((g:Nat):Int)::(y.φ.reverse.map zR++more)):=by rw[Z4 K so auo];exact e2
   rw[hlen]at e
   refine⟨.dD 1 so (g+1) (m.st.length+1),(O K).set so (.int .i64 ((g+1:Nat):Int)::(y.φ.reverse.map zR++ [.ptr (n+1) 0])),fun tm h1 h2=>?_,fun o r e hn=>?_, .inr ⟨so,g+1,[],by simp[h.uJ], ?_⟩, .inl (by rw[e];rfl),rfl⟩
   ·simp only [aR,X.ev,h1,h2,e]
    rw[N7 (s:=⟨O K,_⟩) e2' (by rw[hlen,Nat.mul_one]) (by unfold bp;omega)]
   ·rw[List.getElem?_set_ne (fun e'=>hn (by rw[‹y.sd=_›, ← e'];simp[D.arr]))];exact e
   ·simp[oL,show so<n+2+K by omega,zR]
 have o'0:O'[0]? = s.ah[0]? :=by
  rw[hm]
  exact e3 0 _ (by rw[o0];exact hm) (fun mo=>(h.xT (by simp[mo])) rfl)
 have o'l:0<O'.length:=gX (s:=⟨O',[]⟩) (o'0.trans hm)
 have o'f:O'[n+1]? = some (fr K):=e3 _ _ (oF K) (fun mo=>by have:=h.vH (n+1) (by simp[Lay.own,mo]);omega)
 let row:=fX p T W (y.push n K sd) {m with st:=⟨(i:Int),p.globals++f.own,List.range p.globals.length++l++(List.range K).map (m.mem.length + ·),call⟩::m.st,mem:=m.mem++List.replicate K 0}
 refine⟨y.push n K sd,⟨(O'.set 0 row).set (n+1) (qF (y.push n K sd).κ ⟨(i:Int),p.globals++f.own,List.range p.globals.length++l++(List.range K).map (m.mem.length + ·),call⟩),s.ay++ [some (lb.length+K)]⟩, ?_, ?_⟩
 case refine_2=>
  subst hn
  have gO : ∀ (o:Nat) (r:List D),O'[o]? = some r→o≠0→o≠s.ah.length+1→((O'.set 0 row).set (s.ah.length+1) (qF (y.push s.ah.length K sd).κ ⟨(i:Int),p.globals++f.own,List.range p.globals.length++l++(List.range K).map (m.mem.length + ·),call⟩))[o]? = some r:=fun o r e h1 h2=>by
   rw[List.getElem?_set_ne (Ne.symm h2),List.getElem?_set_ne (Ne.symm h1)];exact e
  refine h.push (K:=K) (sd:=sd) hg (fun c mc=>?_) (fun o r e h1 h2=>?_) ?_ (fun j hj=>?_) ?_ (e4.keep fun o mo=>?_) e5 ?_ ?_
  ·simp only [List.mem_append,List.mem_range,List.mem_map]at mc
   rcases mc with (mc|mc)|⟨x,mc,rfl⟩
   ·omega
   ·have:=hl c mc;omega
   ·omega
  ·have:=gX e
   exact gO o r (e3 o r (by rw[Z4 K o this];exact e) h2) h1 (by omega)
  ·rw [List.getElem?_set_ne (by omega)]
   simp[o'l,row]
  ·refine gO _ _ (e3 _ _ (oC K j hj) fun mo=> ?_) (by omega) (by omega)
   have:=h.vH _ (show s.ah.length+2+j∈y.own by simp[Lay.own,mo]);omega
  ·have:=gX (s:=⟨O',[]⟩) o'f
   rw[List.getElem?_set_self (by rw[List.length_set];exact this)]
  ·have:o≠0∧o≠s.ah.length+1:=by
    rcases e5 with e|e
    ·rw [e]at mo
     have h1:=h.vH o (by simp[Lay.own,mo])
     exact⟨h.xT (by simp[mo]),by omega⟩
    ·rw [e]at mo
     have:=List.mem_singleton.1 mo
     exact⟨by omega,by omega⟩
   show(List.set _ _ _)[o]? = _
   rw[List.getElem?_set_ne (Ne.symm this.2),List.getElem?_set_ne (Ne.symm this.1)]
  ·exact List.getElem?_append_left (List.getElem?_eq_some_iff.1 h.t0).1
  ·exact List.getElem?_append_left (List.getElem?_eq_some_iff.1 h.t1).1
 refine bW.up ?_
 refine bW.wD Bx rfl fun B Q hB hQ=>?_
 have⟨hD,gA,gB,gC⟩:=cd
 have loop : ∀ d k:Nat,k+d=K→bl Tryz.prog B 82 QLE (iI 0 (la (jJ Tryz.prog B 82 QLL Q) Q))
  [(0, .ptr 0 0),(1, .int .i64 (i:Int)),(10, .ptr (n+1) 0),(52, .int .i64 (K:Int)),(53, .int .i64 (k:Int))] ⟨O k,s.ay++ [some (lb.length+k)]⟩:=by
  intro d
  induction d with
  |zero=>
   intro k hk
   have wq:k=K:=by omega
   subst wq
   have hD:decide ((k:Int)<(k:Int))=false:=by simp
   have kl:=o'0.trans hm
   have Kj:=o'f
   have xg : ∀ r,(O'.set 0 r)[0]? = some r:=fun r=>List.getElem?_set_self o'l
   refine bl.jV ?_
   repeat' (first
 |simp only[go_sem,hD,gA,gB,gC,hm,o0,e1,e6,kl,o'l,xg]
 |(with_reducible refine CU (cF _) ?_)
 |(with_reducible first|refine bg fun hc=>?_|refine bh fun hc=>?_|refine bj (fun hc=>?_) fun hc=>?_)<;>(try simp only[hc,bs,↓reduceIte]at h)<;>try simp only[hc]
 |(with_reducible refine aD hQ ?_;(try cases h);simp only[aT,aV,bD,bE,go_sem,hD,gA,gB,gC,hm,o0,e1,e6,kl,o'l,xg];try exact bX)
 | (cases h;done))
   (refine iS hQ ?_;simp only[aT,aV,bD,bE,go_sem])
   have er:row = [.dN (ga p) 0, .slice .shared 1 ((y.κ.take p.globals.length).map fN), .slice .shared 1 (T.map cq), .slice .shared 1 (W.map cq),sd,y.vd,
    .int .i64 m.fin, .int .i64 m.steps, .int .i64 m.reads, .slice (.tok 0) 1 (m.out.map cq), .slice (.tok 1) 2 (m.trace.map iG)]:=by
    simp only[row,fX,Lay.push]
    rw[List.take_append_of_le_length (by rw[h.len];exact hg)]
   refine⟨_,⟨(O'.set 0 row).set (n+1) _,_⟩,Wk.refl _, ?_,rfl,rfl,rfl⟩
   rw[er]
   exact gY.setAt (by rw[List.getElem?_set_ne (by omega)];exact Kj) aun
  | succ d ih=>
   intro k hk
   have hD:decide ((k:Int)<(K:Int))=true:=by simp;omega
   have cH:k<4611686018427387904:=by omega
   have hfk:=oF k
   have Z5:=oF' k [[.int .i64 0]]
   have fi:iu 1 8 (.slice (.tok s.ay.length) 1 (lb++(List.range k).map (fun j=>fN (n+2+j)))) (.slice .full 1 [[.ptr (n+2+k) 0]]) ⟨O k++ [[.int .i64 0]],s.ay++ [some (lb.length+k)]⟩ =
    some (.slice (.tok s.ay.length) 1 (lb++(List.range (k+1)).map (fun j=>fN (n+2+j))),⟨O k++ [[.int .i64 0]],s.ay++ [some (lb.length+(k+1))]⟩):=by
    rw[qm (size:=1) (by simp only[List.length_append,List.length_map,List.length_range,List.length_singleton];unfold bp;omega) (by simp)]
    simp[List.range_succ,fN,Nat.add_assoc]
   have oSk:=oS k
   simp only[fr,List.map_append,List.range_succ,List.map_cons,List.map_nil]at hfk Z5 oSk
   refine bl.jV ?_
   repeat' (first
 |simp only[go_sem,hD,gA,gB,gC,hfk,Z5,oL,fi,oSk]
 |(with_reducible first|refine bg fun hc=>?_|refine bh fun hc=>?_|refine bj (fun hc=>?_) fun hc=>?_)<;>(try simp only[hc,bs,↓reduceIte]at h)<;>try simp only[hc]
 |(with_reducible refine aD hQ ?_;(try cases h);simp only[aT,aV,bD,bE,go_sem,hD,gA,gB,gC,hfk,Z5,oL,fi,oSk];try exact bX)
 | (cases h;done))
   refine bl.qX ?_ (ih (k+1) (by omega))
   simp only[go_sem,aH cH]
   repeat' (first|exact Ok.out|with_reducible refine ju ?_ ?_)
 have l0:=loop K 0 (by omega)
 have hO0:O 0=s.ah++ [bG f]++ [fr 0]:=by rw[hO];simp
 rw[hO0]at l0
 repeat' (first
 |simp only[go_sem,hD,gA,gB,gC,hm,hA,n0,n1,n2,n3,n4,n5,hf,a1,a2,o9, ← Hp,hn]
 |(with_reducible refine CU (cV _) ?_)
 |(with_reducible first|refine bg fun hc=>?_|refine bh fun hc=>?_|refine bj (fun hc=>?_) fun hc=>?_)<;>(try simp only[hc,bs,↓reduceIte]at h)<;>try simp only[hc]
 |(with_reducible refine aD hQ ?_;(try cases h);simp only[aT,aV,bD,bE,go_sem,hD,gA,gB,gC,hm,hA,n0,n1,n2,n3,n4,n5,hf,a1,a2,o9, ← Hp,hn];try exact bX)
 |(cases h;done))
 simp only[fr,List.range_zero,List.map_nil,List.append_nil,List.map_append]at l0
 rcases a3 with ⟨rfl,rfl,rfl⟩|⟨rfl,rfl,rfl⟩
 ·refine bl.ur (n+1) 2 1 (n1 _ _) rfl ?_
  simp only[n3,List.set_cons_succ,List.set_cons_zero]
  refine bl.qX ?_ l0
  simp only[go_sem,hK]
  repeat' (first|exact Ok.out|with_reducible refine ju ?_ ?_)
 ·refine bl.qX ?_ l0
  simp only[go_sem,hK]
  repeat' (first|exact Ok.out|with_reducible refine ju ?_ ?_)
end
end Go.Abs
namespace Go.Abs
set_option maxRecDepth 8000
open Go.Proofs
section
variable {p:Pg} {T W:List Int} {y:Lay} {m:Mc} {loc:List (Nat×List D)} {s:St}
def xX (fr:Fr) (name:aF) (c:Nat):Prop:=∃ j:Nat,ja name 0 fr.names=(j:Int)∧fr.vars[j]? = some c
theorem xX.cell {fr:Fr} {name:aF} {c:Nat} (h:xX fr name c) (ht:m.top=fr):m.cell name=c:=by
 obtain⟨j,h1,h2⟩:=h
 unfold Mc.cell
 rw[ht,h1,Int.toNat_natCast,List.getD_eq_getElem?_getD,h2];rfl
theorem Inv.pop (h:Inv p T W y m loc s) {fr:Fr} {r:List Fr} (jq:m.st=fr::r) {so g:Nat} (tX:y.sd = .dD 1 so g (r.length+1)) :
 Inv p T W {y with φ:=y.φ.tail,sd:= .dD 1 so g r.length} {m with st:=r} loc ⟨s.ah.set 0 (fX p T W {y with φ:=y.φ.tail,sd:= .dD 1 so g r.length} {m with st:=r}),s.ay⟩:=by
 have iW:(D.dD 1 so g r.length).arr=y.sd.arr:=by rw[tX];rfl
 have TY:Lay.own {y with φ:=y.φ.tail,sd:= .dD 1 so g r.length} = y.own:=by simp only[Lay.own,iW]
 have jj:=h.uJ
 rw[jq]at jj
 have ne : ∀ {q:Nat} {r':List D},s.ah[q]? = some r'→q≠0→(s.ah.set 0 (fX p T W {y with φ:=y.φ.tail,sd:= .dD 1 so g r.length} {m with st:=r}))[q]? = some r':=fun e hn=>by
  rw[List.getElem?_set_ne (Ne.symm hn)];exact e
 have nf : ∀ {q:Nat},q∉y.own→q≠0:=fun hq e=>hq (by rw[e];simp[Lay.own])
 obtain⟨l,hl⟩:=h.bT
 refine⟨by simp[h.wF],h.t0,h.t1,h.len,fun i c v e1 e2=>ne (h.cell i c v e1 e2) (h.xT (by simp[List.mem_of_getElem? e1])),by simp[jj],fun i o Qy e1 e2=>?_, ?_,⟨l,hl.keep fun o mo=>?_⟩,by rw[TY];exact h.own,fun q mq=>?_⟩
 ·obtain⟨f1,f2,f3⟩:=h.frame (i+1) o Qy (by simpa [List.getElem?_tail]using e1) (by rw [jq];simpa using e2)
  exact⟨ne f1 (nf f2),by rw[TY];exact f2,f3⟩
 ·cases hφ:y.φ with
  |nil=>rw[hφ]at jj;simp at jj
  | cons o φ=>
   rw[hφ]at jj
   rcases h.stack with ⟨e,_⟩|⟨so',g',more,e,e2⟩
   ·rw[e]at tX;cases tX
   ·have e':=e
    rw[tX,D.dD.injEq]at e'
    obtain⟨_,rfl,rfl,_⟩:=e'
    refine .inr ⟨so,g,[.ptr o 0]++more,by simp at jj ⊢;omega,ne ?_ (h.xT (by rw[tX];simp[D.arr]))⟩
    rw[e2,hφ]
    simp[zR]
 ·show(s.ah.set 0 _)[o]? = _
  rw[List.getElem?_set_ne (Ne.symm (h.xT (by simp[mo])))]
 ·obtain⟨f1,f2⟩:=h.loc q mq
  exact⟨ne f1 (nf f2),by rw[TY];exact f2⟩
theorem N9 {L:List Im} {c:Nat} {it:Im} (h:L[c]? = some it) {a:Int} (ha:a=(c:Int)+1):fI L a=it:=by
 unfold fI
 rw[ha,show((c:Int)+1 - 1).toNat=c by omega,List.getD_eq_getElem?_getD,h];rfl
theorem ael (h:Inv p T W y m loc s) {fr:Fr} {r:List Fr} (ht:nZ m fr r) (hL:p.bc.L.length<1000000)
 (hc:fr.call=0∨∃ (c:Nat) (it:Im) (wE:Fr) (r2:List Fr),fr.call=(c:Int)+1∧p.bc.L[c]? = some it∧nZ {m with st:=r} wE r2∧(it.s.name≠ []→∃ k,xX wE it.s.name k)) (zQ:Int) :
 bW Tryz.prog pK [.ptr 0 0, .int .i64 zQ] s (Rl p T W (.int .i64 (m.close p.bc.L zQ).1) (m.close p.bc.L zQ).2 (fun y'=>∃ sd,y' = {y with φ:=y.φ.tail,sd:=sd}) loc):=by
 obtain⟨so,g,cells,o,h1,h2,h3,h4,h5⟩:=h.Z0 ht.st
 obtain⟨o',_,H0,c1⟩:=TV h ht.st ht.len
 have ho:o'=o:=by rw[h5]at *;cases ‹some o=some o'›;rfl
 subst ho
 have hm:=h.kr
 rw[fX,h1]at hm
 have hl:=h.wF
 have hp:=h.pop ht.st h1
 have hpf:=hp.kr
 have hlen:=ht.len
 have hw:IntKind.wrap .i64 (((r.length+1:Nat):Int) - 1)=((r.length:Nat):Int):=by rw[show((r.length+1:Nat):Int) - 1=(r.length:Int) by omega];exact eD (by omega) (by omega)
 have wj:za (.dD 1 so g (r.length+1)) none (some (.int .i64 (r.length:Int)))=some (.dD 1 so g r.length):=by simp[za,vf,vg];omega
 have xg : ∀ r,(s.ah.set 0 r)[0]? = some r:=fun r=>List.getElem?_set_self hl
 rw[qF]at H0
 have nu:m.close p.bc.L zQ=if fr.call==0 then(-1,{{m with st:=r}with fin:=1})else((fI p.bc.L fr.call).next,if(fI p.bc.L fr.call).s.name == []then {m with st:=r}else({m with st:=r} : Mc).set (fI p.bc.L fr.call).s.name zQ):=by
  unfold Mc.close
  rw[ht.top,ht.st];rfl
 rw[nu]
 rcases hc with hc|⟨c,it,wE,r2,hc,pZ,vD,hn⟩
 ·rw [hc]at H0
  have e0:((0:Int)==0)=true:=rfl
  have h5:=hp.vQ (m':= {{m with st:=r}with fin:=1}) rfl rfl hp.t0 hp.t1
  rw[fX]at h5
  simp only[List.set_set]at h5
  rw[hc,if_pos e0]
  refine bW.wD sA rfl fun B Q hB hQ=>?_
  have⟨hD,gA,gB,gC⟩:=cd
  repeat' (first
 |simp only[go_sem,hD,gA,gB,gC,hm,hl,hw,wj,xg,H0,e0,List.set_set]
 |(with_reducible refine CU (c1) ?_)
 |(with_reducible first|refine bg fun hc=>?_|refine bh fun hc=>?_|refine bj (fun hc=>?_) fun hc=>?_)<;>(try simp only[hc,bs,↓reduceIte]at h)<;>try simp only[hc]
 |(with_reducible refine aD hQ ?_;(try cases h);simp only[aT,aV,bD,bE,go_sem,hD,gA,gB,gC,hm,hl,hw,wj,xg,H0,e0,List.set_set];try exact bX)
 |(cases h;done))
  (refine iS hQ ?_;simp only[aT,aV,bD,bE,go_sem])
  exact⟨rfl,_,⟨_,rfl⟩,h5⟩
 ·rw [hc]at H0
  have DW:IntKind.wrap .i64 ((c:Int)+1 - 1)=(c:Int):=by
   have:=(List.getElem?_eq_some_iff.1 pZ).1
   rw[show(c:Int)+1 - 1=(c:Int) by omega];exact eD (by omega) (by omega)
  have e0:((c:Int)+1==0)=false:=by simp;omega
  have aup:=N9 pZ hc
  have hz : ∀ (z:List D) (e:List D),(s.ah.set 0 e++ [z]).set s.ah.length (dM it)=s.ah.set 0 e++ [dM it]:=fun z e=>by simp
  have hg : ∀ z e:List D,(s.ah.set 0 e++ [z])[s.ah.length]? = some z:=fun z e=>by simp
  have cS:(ga p)[2]? = some (.slice .shared 17 (p.bc.L.map dM)):=rfl
  have JO : ∀ e:List D,(s.ah.set 0 e).length=s.ah.length:=fun e=>List.length_set
  have dC:=hp.new (dM it)
  rw[fX]at dC
  simp only[JO]at dC
  have DB:dM it = [.int .i64 it.s.id, .int .i64 it.s.kind, .slice .shared 1 (it.s.labels.map encStr), .str it.s.name, .str it.s.proc, .int .i64 it.s.x.op, .int .i64 it.s.x.n, .str it.s.x.name, .slice .shared 4 (it.s.x.kids.map bQ), .bool it.s.has, .slice .shared 6 (it.s.args.map eR), .slice .shared 13 (it.s.aM.map aS), .slice .shared 13 (it.s.aL.map aS), .int .i64 it.proc, .int .i64 it.up, .int .i64 it.next, .int .i64 it.loop]:=rfl
  have c3:(dM it)[3]? = some (.str it.s.name):=rfl
  rw[hc,if_neg (by rw[e0];simp),show fI p.bc.L ((c:Int)+1)=it from hc ▸ aup]
  refine bW.wD sA rfl fun B Q hB hQ=>?_
  have⟨hD,gA,gB,gC⟩:=cd
  rcases Bool.eq_false_or_eq_true (it.s.name == [])with b|b
  ·repeat' (first
 |simp only[go_sem,hD,gA,gB,gC,hm,hl,hw,wj,xg,H0,e0,DW,pZ,hz,hg,JO,c3,b,cS]
 |(with_reducible refine CU (c1) ?_)
 |(with_reducible first|refine bg fun hc=>?_|refine bh fun hc=>?_|refine bj (fun hc=>?_) fun hc=>?_)<;>(try simp only[hc,bs,↓reduceIte]at h)<;>try simp only[hc]
 |(with_reducible refine aD hQ ?_;(try cases h);simp only[aT,aV,bD,bE,go_sem,hD,gA,gB,gC,hm,hl,hw,wj,xg,H0,e0,DW,pZ,hz,hg,JO,c3,b,cS];try exact bX)
 | (cases h;done))
   (refine iS hQ ?_;simp only[aT,aV,bD,bE,go_sem])
   refine⟨rfl,{y with φ:=y.φ.tail,sd:= .dD 1 so g r.length},⟨_,rfl⟩, ?_⟩
   simp only[b,if_true]
   exact dC.sub fun q mq=>List.mem_cons_of_mem _ mq
  ·obtain⟨k,hk⟩:=hn (by intro e;rw [e]at b;cases b)
   have Oa:=hk.cell vD.top
   obtain⟨j,hj,DX⟩:=hk
   have c2:=EC dC vD.st vD.len vD.names hj DX
   have hkm:k<m.mem.length:=by
    have hlp:=hp.uJ
    rw[vD.st]at hlp
    cases hφ:y.φ.tail with
    |nil=>simp[hφ]at hlp
    |cons o2 φ2=>exact(hp.frame 0 o2 wE (by simp[hφ]) (by rw[vD.st];rfl)).2.2 k (List.mem_of_getElem? DX)
   have hκ:y.κ[k]? = some (y.κ.getD k 0):=by
    rw[List.getD_eq_getElem?_getD,List.getElem?_eq_getElem (by have:=h.len;omega)];rfl
   have ix:=dC.cell k _ _ hκ (List.getElem?_eq_getElem hkm)
   have ry:=dC.ZX hκ zQ
   have jY:=(ry.loc (s.ah.length,dM it) (List.mem_cons_self ..)).1
   simp only at ix ry jY c2
   have hb:(it.s.name != [])=true:=by simp[bne,b]
   repeat' (first
 |simp only[go_sem,hD,gA,gB,gC,hm,hl,hw,wj,xg,H0,e0,DW,pZ,hz,hg,JO,c3,b,cS,ix,jY]
 |(with_reducible refine CU (c1) ?_)
 |(with_reducible refine CU (c2) ?_)
 |(with_reducible first|refine bg fun hc=>?_|refine bh fun hc=>?_|refine bj (fun hc=>?_) fun hc=>?_)<;>(try simp only[hc,bs,↓reduceIte]at h)<;>try simp only[hc]
 |(with_reducible refine aD hQ ?_;(try cases h);simp only[aT,aV,bD,bE,go_sem,hD,gA,gB,gC,hm,hl,hw,wj,xg,H0,e0,DW,pZ,hz,hg,JO,c3,b,cS,ix,jY];try exact bX)
 | (cases h;done))
   (refine iS hQ ?_;simp only[aT,aV,bD,bE,go_sem])
   refine⟨rfl,{y with φ:=y.φ.tail,sd:= .dD 1 so g r.length},⟨_,rfl⟩, ?_⟩
   simp only[b,Bool.false_eq_true,if_false,Mc.set,Oa]
   exact ry.sub fun q mq=>List.mem_cons_of_mem _ mq
end
end Go.Abs
namespace Go.Abs
set_option maxRecDepth 8000
open Go.Proofs
section
variable {p:Pg} {T W:List Int} {y:Lay} {m:Mc} {loc:List (Nat×List D)} {s:St}
structure aiv (p:Pg) (fr:Fr) (it:Im):Prop where
 said:it.s.oy
 brk:it.s.kind=7→∃ (c:Nat) (it2:Im),it.loop=(c:Int)+1∧p.bc.L[c]? = some it2
 IW:it.s.kind=10→∃ (i:Nat) (f:Pc),it.proc=(i:Int)∧p.procs[i]? = some f
 name:it.s.kind=1∨it.s.kind=2→∃ k,xX fr it.s.name k
 aM:it.s.aM.length<1000000
 aL:it.s.aL.length<1000000
structure LM (p:Pg) (T W:List Int) (m:Mc):Prop where
 W:W.length<1000000
 T:T.length<1000000
 trace:m.trace.length<2000000
 out:m.out.length<2000000
 L:p.bc.L.length<1000000
 P:Pc.a7 p.procs<1000000000
 reads:0≤m.reads∧m.reads<2000000
theorem cell_of (h:Inv p T W y m loc s) {fr:Fr} {r:List Fr} (jq:m.st=fr::r) {c j:Nat} (hc:fr.vars[j]? = some c):y.κ[c]? = some (y.κ.getD c 0)∧∃ v,m.mem[c]? = some v∧s.ah[y.κ.getD c 0]? = some [.int .i64 v]:=by
 have jj:=h.uJ
 rw[jq]at jj
 cases hφ:y.φ with
 |nil=>simp[hφ]at jj
 | cons o φ=>
  have W7:=(h.frame 0 o fr (by simp[hφ]) (by rw[jq];rfl)).2.2 c (List.mem_of_getElem? hc)
  have hκ:y.κ[c]? = some (y.κ.getD c 0):=by
   rw[List.getD_eq_getElem?_getD,List.getElem?_eq_getElem (by have:=h.len;omega)];rfl
  exact⟨hκ,_,List.getElem?_eq_getElem W7,h.cell c _ _ hκ (List.getElem?_eq_getElem W7)⟩
theorem auq (hp:p.jv) (Z6:p.may=true) (h:Inv p T W y m loc s) {fr:Fr} {r:List Fr} (ht:nZ m fr r) (hz:LM p T W m) {it:Im} (hd:aiv p fr it) :
 bW Tryz.prog sh [.ptr 0 0, .agg (dM it)] s (Rl p T W (.int .i64 (m.do p p.bc.L T W it).1) (m.do p p.bc.L T W it).2 (fun y'=>∃ vd,y' = {y with vd:=vd}) loc):=by
 have h1:=(h.new (dM it)).new (aS it.s)
 simp only[List.length_append,List.length_singleton]at h1
 have z0 : ∀ z:List D,(s.ah++ [z])[s.ah.length]? = some z:=fun z=>by simp
 have z1 : ∀ z:List D,(s.ah++ [dM it]++ [z]).set (s.ah.length+1) (aS it.s)=s.ah++ [dM it]++ [aS it.s]:=fun z=>by simp[List.append_assoc,List.set_append_right]
 have z2 : ∀ a z:List D,(s.ah++ [a]++ [z])[s.ah.length+1]? = some z:=fun a z=>by simp
 have z3 : ∀ a z:List D,(s.ah++ [a]++ [z])[s.ah.length]? = some a:=fun a z=>by simp
 have z4:=h1.kr
 rw[fX]at z4
 have tx:=h1.wF
 simp only at z4 tx
 have cS:(ga p)[2]? = some (.slice .shared 17 (p.bc.L.map dM)):=rfl
 have l5 : ∀ q∈loc,q∈(s.ah.length+1,aS it.s)::(s.ah.length,dM it)::loc:=fun q mq=>List.mem_cons_of_mem _ (List.mem_cons_of_mem _ mq)
 generalize hn:s.ah.length=n at *
 have jY : ∀ {y2:Lay} {m2:Mc} {s2:St},Inv p T W y2 m2 ((n+1,aS it.s)::(n,dM it)::loc) s2→s2.ah[n]? = some (dM it)∧s2.ah[n+1]? = some (aS it.s)∧0<s2.ah.length:=fun h2=>
  ⟨(h2.loc (n,dM it) (by simp)).1,(h2.loc (n+1,aS it.s) (by simp)).1,h2.wF⟩
 rcases Bool.eq_false_or_eq_true (it.s.kind==7)with b7|b7
 ·have c1:=xV h1 hz.W hz.trace it.s.id
  obtain⟨c,it2,e1,e2⟩:=hd.brk (by simpa using b7)
  have hw:IntKind.wrap .i64 ((c:Int)+1 - 1)=(c:Int):=by
   have:=(List.getElem?_eq_some_iff.1 e2).1
   have:=hz.L
   rw[show(c:Int)+1 - 1=(c:Int) by omega];exact eD (by omega) (by omega)
  have A4:m.do p p.bc.L T W it=(it2.next,m.event W it.s.id []):=by
   unfold Mc.do
   dsimp only
   rw[if_pos b7,N9 e2 e1]
  rw[A4]
  refine bW.wD iZ rfl fun B Q hB hQ=>?_
  have⟨hD,gA,gB,gC⟩:=cd
  repeat' (first
 |simp only[go_sem,hD,gA,gB,gC,z0,z1,z2,z3,hn,b7]
 |(with_reducible first|refine bg fun hc=>?_|refine bh fun hc=>?_|refine bj (fun hc=>?_) fun hc=>?_)<;>(try simp only[hc,bs,↓reduceIte]at h)<;>try simp only[hc]
 |(with_reducible refine aD hQ ?_;(try cases h);simp only[aT,aV,bD,bE,go_sem,hD,gA,gB,gC,z0,z1,z2,z3,hn,b7];try exact bX)
 |(cases h;done))
  refine CR c1 fun d s2 h2=>?_
  obtain⟨rfl,y2,rfl,h2⟩:=h2
  obtain⟨x1,x2,x3⟩:=jY h2
  have kl:=h2.kr
  rw[fX]at kl
  repeat' (first
 |simp only[go_sem,hD,gA,gB,gC,x1,x2,kl,cS,e1,hw,e2]
 |(with_reducible first|refine bg fun hc=>?_|refine bh fun hc=>?_|refine bj (fun hc=>?_) fun hc=>?_)<;>(try simp only[hc,bs,↓reduceIte]at h)<;>try simp only[hc]
 |(with_reducible refine aD hQ ?_;(try cases h);simp only[aT,aV,bD,bE,go_sem,hD,gA,gB,gC,x1,x2,kl,cS,e1,hw,e2];try exact bX)
 |(cases h;done))
  (refine iS hQ ?_;simp only[aT,aV,bD,bE,go_sem])
  exact⟨rfl,_,⟨_,rfl⟩,h2.sub l5⟩
 rcases Bool.eq_false_or_eq_true (it.s.kind==8)with b8|b8
 ·have c1:=xV h1 hz.W hz.trace it.s.id
  have A4:m.do p p.bc.L T W it=(it.loop,m.event W it.s.id []):=by
   unfold Mc.do
   dsimp only
   rw[if_neg (by simp[b7]),if_pos b8]
  rw[A4]
  refine bW.wD iZ rfl fun B Q hB hQ=>?_
  have⟨hD,gA,gB,gC⟩:=cd
  repeat' (first
 |simp only[go_sem,hD,gA,gB,gC,z0,z1,z2,z3,hn,b7,b8]
 |(with_reducible first|refine bg fun hc=>?_|refine bh fun hc=>?_|refine bj (fun hc=>?_) fun hc=>?_)<;>(try simp only[hc,bs,↓reduceIte]at h)<;>try simp only[hc]
 |(with_reducible refine aD hQ ?_;(try cases h);simp only[aT,aV,bD,bE,go_sem,hD,gA,gB,gC,z0,z1,z2,z3,hn,b7,b8];try exact bX)
 |(cases h;done))
  refine CR c1 fun d s2 h2=>?_
  obtain⟨rfl,y2,rfl,h2⟩:=h2
  obtain⟨x1,x2,x3⟩:=jY h2
  repeat' (first
 |simp only[go_sem,hD,gA,gB,gC,x1,x2]
 |(with_reducible first|refine bg fun hc=>?_|refine bh fun hc=>?_|refine bj (fun hc=>?_) fun hc=>?_)<;>(try simp only[hc,bs,↓reduceIte]at h)<;>try simp only[hc]
 |(with_reducible refine aD hQ ?_;(try cases h);simp only[aT,aV,bD,bE,go_sem,hD,gA,gB,gC,x1,x2];try exact bX)
 |(cases h;done))
  (refine iS hQ ?_;simp only[aT,aV,bD,bE,go_sem])
  exact⟨rfl,_,⟨_,rfl⟩,h2.sub l5⟩
 rcases Bool.eq_false_or_eq_true (it.s.kind==10)with tR|tR
 ·have c1:=xV h1 hz.W hz.trace it.s.id
  obtain⟨i,f,e1,e2⟩:=hd.IW (by simpa using tR)
  have cA:=fun s=>ah9 hp Z6 e2 it.s.name s
  have A4:m.do p p.bc.L T W it=((lE f.fin it.s.name (Sm.bZ f.body)).1,m.event W it.s.id []):=by
   unfold Mc.do
   dsimp only
   rw[if_neg (by simp[b7]),if_neg (by simp[b8]),if_pos tR,e1,Int.toNat_natCast,e2]
  rw[A4]
  refine bW.wD iZ rfl fun B Q hB hQ=>?_
  have⟨hD,gA,gB,gC⟩:=cd
  repeat' (first
 |simp only[go_sem,hD,gA,gB,gC,z0,z1,z2,z3,hn,b7,b8,tR]
 |(with_reducible first|refine bg fun hc=>?_|refine bh fun hc=>?_|refine bj (fun hc=>?_) fun hc=>?_)<;>(try simp only[hc,bs,↓reduceIte]at h)<;>try simp only[hc]
 |(with_reducible refine aD hQ ?_;(try cases h);simp only[aT,aV,bD,bE,go_sem,hD,gA,gB,gC,z0,z1,z2,z3,hn,b7,b8,tR];try exact bX)
 |(cases h;done))
  refine CR c1 fun d s2 h2=>?_
  obtain⟨rfl,y2,rfl,h2⟩:=h2
  obtain⟨x1,x2,x3⟩:=jY h2
  have kl:=h2.kr
  rw[fX]at kl
  repeat' (first
 |simp only[go_sem,hD,gA,gB,gC,x1,x2,kl,e1]
 |(with_reducible refine CU (cA _) ?_)
 |(with_reducible first|refine bg fun hc=>?_|refine bh fun hc=>?_|refine bj (fun hc=>?_) fun hc=>?_)<;>(try simp only[hc,bs,↓reduceIte]at h)<;>try simp only[hc]
 |(with_reducible refine aD hQ ?_;(try cases h);simp only[aT,aV,bD,bE,go_sem,hD,gA,gB,gC,x1,x2,kl,e1];try exact bX)
 |(cases h;done))
  (refine iS hQ ?_;simp only[aT,aV,bD,bE,go_sem])
  exact⟨rfl,_,⟨_,rfl⟩,h2.sub l5⟩
 rcases Bool.eq_false_or_eq_true (it.s.kind==2)with b2|b2
 ·obtain⟨k,hk⟩:=hd.name (.inr (by simpa using b2))
  have jz:=hz.reads
  have hTl:=hz.T
  have B3:=jz.1
  have Z7 : ∀ r,((s.ah++ [dM it]++ [aS it.s]).set 0 r)[0]? = some r:=fun r=>List.getElem?_set_self tx
  cases e:T[m.reads.toNat]? with
  | none=>
   have wv:decide (m.reads≥(T.length:Int))=true:=by have:=List.getElem?_eq_none_iff.1 e;simp;omega
   have A4:m.do p p.bc.L T W it=(-1,{m with fin:=3}):=by
    unfold Mc.do
    dsimp only
    rw[if_neg (by simp[b7]),if_neg (by simp[b8]),if_neg (by simp[tR]),if_pos b2,e]
   rw[A4]
   have h2:=h1.vQ (m':= {m with fin:=3}) rfl rfl h1.t0 h1.t1
   rw[fX]at h2
   simp only at h2
   refine bW.wD iZ rfl fun B Q hB hQ=>?_
   have⟨hD,gA,gB,gC⟩:=cd
   repeat' (first
 |simp only[go_sem,hD,gA,gB,gC,z0,z1,z2,z3,z4,hn,b7,b8,tR,b2,wv,tx]
 |(with_reducible first|refine bg fun hc=>?_|refine bh fun hc=>?_|refine bj (fun hc=>?_) fun hc=>?_)<;>(try simp only[hc,bs,↓reduceIte]at h)<;>try simp only[hc]
 |(with_reducible refine aD hQ ?_;(try cases h);simp only[aT,aV,bD,bE,go_sem,hD,gA,gB,gC,z0,z1,z2,z3,z4,hn,b7,b8,tR,b2,wv,tx];try exact bX)
 | (cases h;done))
   (refine iS hQ ?_;simp only[aT,aV,bD,bE,go_sem])
   exact⟨rfl,_,⟨_,rfl⟩,h2.sub l5⟩
  | some v=>
   have wv:decide (m.reads≥(T.length:Int))=false:=by have:=(List.getElem?_eq_some_iff.1 e).1;simp;omega
   have H2:IntKind.wrap .i64 (m.reads+1)=m.reads+1:=eD (by omega) (by omega)
   have Oa:=hk.cell ht.top
   obtain⟨j,hj,DX⟩:=hk
   have A4:m.do p p.bc.L T W it=(it.next,(({m with reads:=m.reads+1,mem:=m.mem.set k v} : Mc).event W it.s.id [v])):=by
    unfold Mc.do
    dsimp only
    rw[if_neg (by simp[b7]),if_neg (by simp[b8]),if_neg (by simp[tR]),if_pos b2,e]
    have:({m with reads:=m.reads+1} : Mc).cell it.s.name=k:=Oa
    simp only[Mc.set,this]
   rw[A4]
   have h2:=h1.vQ (m':= {m with reads:=m.reads+1}) rfl rfl h1.t0 h1.t1
   have vD:nZ ({m with reads:=m.reads+1} : Mc) fr r:=⟨ht.st,ht.len,ht.names,ht.vars⟩
   have c2:=EC h2 vD.st vD.len vD.names hj DX
   obtain⟨hκ,v0,g1,g2⟩:=cell_of h2 vD.st DX
   have h3:=h2.ZX hκ v
   have c3:=Gh h3 hz.W hz.trace it.s.id v
   obtain⟨x1,x2,x3⟩:=jY h3
   obtain⟨x4,x5,x6⟩:=jY h2
   rw[fX]at c2 g2 c3 x1 x2 x4 x5
   simp only at c2 g2 c3 x1 x2 x4 x5
   refine bW.wD iZ rfl fun B Q hB hQ=>?_
   have⟨hD,gA,gB,gC⟩:=cd
   repeat' (first
 |simp only[go_sem,hD,gA,gB,gC,z0,z1,z2,z3,z4,hn,b7,b8,tR,b2,wv,tx,e,H2,B3,x1,x2,x4,x5,g2]
 |(with_reducible refine CU (c2) ?_)
 |(with_reducible first|refine bg fun hc=>?_|refine bh fun hc=>?_|refine bj (fun hc=>?_) fun hc=>?_)<;>(try simp only[hc,bs,↓reduceIte]at h)<;>try simp only[hc]
 |(with_reducible refine aD hQ ?_;(try cases h);simp only[aT,aV,bD,bE,go_sem,hD,gA,gB,gC,z0,z1,z2,z3,z4,hn,b7,b8,tR,b2,wv,tx,e,H2,B3,x1,x2,x4,x5,g2];try exact bX)
 | (cases h;done))
   refine CR c3 fun d s2 h4=>?_
   obtain⟨rfl,y2,rfl,h4⟩:=h4
   obtain⟨x1,x2,x3⟩:=jY h4
   repeat' (first
 |simp only[go_sem,hD,gA,gB,gC,x1,x2]
 |(with_reducible first|refine bg fun hc=>?_|refine bh fun hc=>?_|refine bj (fun hc=>?_) fun hc=>?_)<;>(try simp only[hc,bs,↓reduceIte]at h)<;>try simp only[hc]
 |(with_reducible refine aD hQ ?_;(try cases h);simp only[aT,aV,bD,bE,go_sem,hD,gA,gB,gC,x1,x2];try exact bX)
 | (cases h;done))
   (refine iS hQ ?_;simp only[aT,aV,bD,bE,go_sem])
   exact⟨rfl,_,⟨_,rfl⟩,h4.sub l5⟩
 -- an expression is reckoned
 have hx:it.s.x.size<1000000:=by have:=hd.said.2.2;omega
 have c1:=Gg h1 ht hx hd.said.1
 rcases Bool.eq_false_or_eq_true (m.bM it.s.x).1.2 with bw|bw
 case inr=>
  have A4:m.do p p.bc.L T W it=(-1,(m.bM it.s.x).2):=by
   unfold Mc.do
   dsimp only
   rw[if_neg (by simp[b7]),if_neg (by simp[b8]),if_neg (by simp[tR]),if_neg (by simp[b2]),if_neg (by simp[bw])]
  rw[A4]
  refine bW.wD iZ rfl fun B Q hB hQ=>?_
  have⟨hD,gA,gB,gC⟩:=cd
  repeat' (first
 |simp only[go_sem,hD,gA,gB,gC,z0,z1,z2,z3,hn,b7,b8,tR,b2]
 |(with_reducible first|refine bg fun hc=>?_|refine bh fun hc=>?_|refine bj (fun hc=>?_) fun hc=>?_)<;>(try simp only[hc,bs,↓reduceIte]at h)<;>try simp only[hc]
 |(with_reducible refine aD hQ ?_;(try cases h);simp only[aT,aV,bD,bE,go_sem,hD,gA,gB,gC,z0,z1,z2,z3,hn,b7,b8,tR,b2];try exact bX)
 |(cases h;done))
  refine CR c1 fun d s2 h2=>?_
  obtain⟨⟨rfl,y2,xW,h2⟩,_⟩:=h2
  repeat' (first
 |simp only[go_sem,hD,gA,gB,gC,bw]
 |(with_reducible first|refine bg fun hc=>?_|refine bh fun hc=>?_|refine bj (fun hc=>?_) fun hc=>?_)<;>(try simp only[hc,bs,↓reduceIte]at h)<;>try simp only[hc]
 |(with_reducible refine aD hQ ?_;(try cases h);simp only[aT,aV,bD,bE,go_sem,hD,gA,gB,gC,bw];try exact bX)
 |(cases h;done))
  (refine iS hQ ?_;simp only[aT,aV,bD,bE,go_sem])
  exact⟨rfl,y2,⟨_,xW⟩,h2.sub l5⟩
 have W9:(m.bM it.s.x).2=m:=by
  unfold Mc.bM
  dsimp only
  rw[if_pos (show(it.s.x.bM m.top.names m.bT).2=true from bw)]
 have A4:m.do p p.bc.L T W it=(let m1:=m.event W it.s.id [(m.bM it.s.x).1.1];let n:=(m.bM it.s.x).1.1
  if it.s.kind==1 then(it.next,m1.set it.s.name n)else if it.s.kind==3 then(it.next,{m1 with out:=m1.out++ [n]})
  else if it.s.kind==5 then(if n==0 then firstM it.s.aL it.next else firstM it.s.aM it.next,m1)else if it.s.kind==6 then(if n==0 then it.next else firstM it.s.aM it.s.id,m1)else(it.next,m1)):=by
  unfold Mc.do
  dsimp only
  rw[if_neg (by simp[b7]),if_neg (by simp[b8]),if_neg (by simp[tR]),if_neg (by simp[b2]),if_pos bw,W9]
 rw[A4]
 rw[W9]at c1
 generalize hR:(m.bM it.s.x).1=R at *
 obtain⟨v,ok⟩:=R
 subst bw
 dsimp only
 have he:=gw W m it.s.id [v]
 have Xa:nZ (m.event W it.s.id [v]) fr r:=⟨by rw[he.1];exact ht.st,ht.len,ht.names,ht.vars⟩
 have nb:(v != 0) = !(v==0):=rfl
 have fT:=fun o s=>Qx it.s.aM (by have:=hd.aM;omega) o s
 have fE:=fun o s=>Qx it.s.aL (by have:=hd.aL;omega) o s
 refine bW.wD iZ rfl fun B Q hB hQ=>?_
 have⟨hD,gA,gB,gC⟩:=cd
 repeat' (first
 |simp only[go_sem,hD,gA,gB,gC,z0,z1,z2,z3,hn,b7,b8,tR,b2]
 |(with_reducible first|refine bg fun hc=>?_|refine bh fun hc=>?_|refine bj (fun hc=>?_) fun hc=>?_)<;>(try simp only[hc,bs,↓reduceIte]at h)<;>try simp only[hc]
 |(with_reducible refine aD hQ ?_;(try cases h);simp only[aT,aV,bD,bE,go_sem,hD,gA,gB,gC,z0,z1,z2,z3,hn,b7,b8,tR,b2];try exact bX)
 |(cases h;done))
 refine CR c1 fun d s2 h2=>?_
 obtain⟨⟨rfl,y2,xW,h2⟩,_⟩:=h2
 obtain⟨x1,x2,x3⟩:=jY h2
 have c2:=Gh h2 hz.W hz.trace it.s.id v
 repeat' (first
 |simp only[go_sem,hD,gA,gB,gC,x1,x2]
 |(with_reducible first|refine bg fun hc=>?_|refine bh fun hc=>?_|refine bj (fun hc=>?_) fun hc=>?_)<;>(try simp only[hc,bs,↓reduceIte]at h)<;>try simp only[hc]
 |(with_reducible refine aD hQ ?_;(try cases h);simp only[aT,aV,bD,bE,go_sem,hD,gA,gB,gC,x1,x2];try exact bX)
 |(cases h;done))
 refine CR c2 fun d s3 h3=>?_
 obtain⟨rfl,y3,rfl,h3⟩:=h3
 obtain⟨x1,x2,x3⟩:=jY h3
 have pB:=h3.kr
 rw[fX]at pB
 rcases Bool.eq_false_or_eq_true (it.s.kind==1)with b1|b1
 ·obtain⟨k,hk⟩:=hd.name (.inl (by simpa using b1))
  have Oa:=hk.cell Xa.top
  obtain⟨j,hj,DX⟩:=hk
  have c3:=EC h3 Xa.st Xa.len Xa.names hj DX
  obtain⟨hκ,v0,g1,g2⟩:=cell_of h3 Xa.st DX
  have h4:=h3.ZX hκ v
  obtain⟨x4,x5,x6⟩:=jY h4
  simp only at x4 x5
  repeat' (first
 |simp only[go_sem,hD,gA,gB,gC,x1,x2,b1,g2,x4,x5]
 |(with_reducible refine CU (c3) ?_)
 |(with_reducible first|refine bg fun hc=>?_|refine bh fun hc=>?_|refine bj (fun hc=>?_) fun hc=>?_)<;>(try simp only[hc,bs,↓reduceIte]at h)<;>try simp only[hc]
 |(with_reducible refine aD hQ ?_;(try cases h);simp only[aT,aV,bD,bE,go_sem,hD,gA,gB,gC,x1,x2,b1,g2,x4,x5];try exact bX)
 |(cases h;done))
  (refine iS hQ ?_;simp only[aT,aV,bD,bE,go_sem])
  rw[if_pos b1]
  refine⟨rfl,y3,⟨_,xW⟩, ?_⟩
  simp only[Mc.set,Oa]
  exact h4.sub l5
 rw[if_neg (by simp[b1])]at hQ
 rcases Bool.eq_false_or_eq_true (it.s.kind==3)with b3|b3
 ·rw [if_pos b3]at hQ
  have fi:iu 1 8 (.slice (.tok 0) 1 ((m.event W it.s.id [v]).out.map cq)) (.slice .full 1 [[.int .i64 v]]) s3=some (.slice (.tok 0) 1 (((m.event W it.s.id [v]).out++ [v]).map cq),⟨s3.ah,s3.ay.set 0 (some ((m.event W it.s.id [v]).out.length+1))⟩):=by
   rw[qm (size:=1) (by simp only[List.length_map,List.length_singleton,he.2.2.2.2.2];have:=hz.out;unfold bp;omega) (by simpa using h3.t0)]
   simp[cq]
  have h4:=h3.vQ (m':= {m.event W it.s.id [v]with out:=(m.event W it.s.id [v]).out++ [v]}) (ts:=s3.ay.set 0 (some ((m.event W it.s.id [v]).out.length+1))) rfl rfl (by simp[(List.getElem?_eq_some_iff.1 h3.t0).1]) (by rw[List.getElem?_set_ne (by omega)];exact h3.t1)
  obtain⟨x4,x5,x6⟩:=jY h4
  rw[fX]at h4 x4 x5
  simp only[List.map_append,List.map_cons,List.map_nil,cq]at h4 x4 x5 fi
  repeat' (first
 |simp only[go_sem,hD,gA,gB,gC,x1,x2,b1,b3,pB,fi,x3,x4,x5]
 |(with_reducible first|refine bg fun hc=>?_|refine bh fun hc=>?_|refine bj (fun hc=>?_) fun hc=>?_)<;>(try simp only[hc,bs,↓reduceIte]at h)<;>try simp only[hc]
 |(with_reducible refine aD hQ ?_;(try cases h);simp only[aT,aV,bD,bE,go_sem,hD,gA,gB,gC,x1,x2,b1,b3,pB,fi,x3,x4,x5];try exact bX)
 |(cases h;done))
  (refine iS hQ ?_;simp only[aT,aV,bD,bE,go_sem])
  exact⟨rfl,y3,⟨_,xW⟩,h4.sub l5⟩
 rw[if_neg (by simp[b3])]at hQ
 rcases Bool.eq_false_or_eq_true (it.s.kind==5)with b5|b5
 ·rw [if_pos b5]at hQ
  rcases Bool.eq_false_or_eq_true (v==0)with bv|bv
  ·rw [if_pos bv]at hQ
   repeat' (first
 |simp only[go_sem,hD,gA,gB,gC,x1,x2,b1,b3,b5,nb,bv]
 |(with_reducible refine CU (fT _ _) ?_)
 |(with_reducible refine CU (fE _ _) ?_)
 |(with_reducible first|refine bg fun hc=>?_|refine bh fun hc=>?_|refine bj (fun hc=>?_) fun hc=>?_)<;>(try simp only[hc,bs,↓reduceIte]at h)<;>try simp only[hc]
 |(with_reducible refine aD hQ ?_;(try cases h);simp only[aT,aV,bD,bE,go_sem,hD,gA,gB,gC,x1,x2,b1,b3,b5,nb,bv];try exact bX)
 | (cases h;done))
   (refine iS hQ ?_;simp only[aT,aV,bD,bE,go_sem])
   exact⟨rfl,y3,⟨_,xW⟩,h3.sub l5⟩
  ·rw [if_neg (by simp [bv])]at hQ
   repeat' (first
 |simp only[go_sem,hD,gA,gB,gC,x1,x2,b1,b3,b5,nb,bv]
 |(with_reducible refine CU (fT _ _) ?_)
 |(with_reducible refine CU (fE _ _) ?_)
 |(with_reducible first|refine bg fun hc=>?_|refine bh fun hc=>?_|refine bj (fun hc=>?_) fun hc=>?_)<;>(try simp only[hc,bs,↓reduceIte]at h)<;>try simp only[hc]
 |(with_reducible refine aD hQ ?_;(try cases h);simp only[aT,aV,bD,bE,go_sem,hD,gA,gB,gC,x1,x2,b1,b3,b5,nb,bv];try exact bX)
 | (cases h;done))
   (refine iS hQ ?_;simp only[aT,aV,bD,bE,go_sem])
   exact⟨rfl,y3,⟨_,xW⟩,h3.sub l5⟩
 rw[if_neg (by simp[b5])]at hQ
 rcases Bool.eq_false_or_eq_true (it.s.kind==6)with b6|b6
 ·rw [if_pos b6]at hQ
  rcases Bool.eq_false_or_eq_true (v==0)with bv|bv
  ·rw [if_pos bv]at hQ
   repeat' (first
 |simp only[go_sem,hD,gA,gB,gC,x1,x2,b1,b3,b5,b6,nb,bv]
 |(with_reducible refine CU (fT _ _) ?_)
 |(with_reducible refine CU (fE _ _) ?_)
 |(with_reducible first|refine bg fun hc=>?_|refine bh fun hc=>?_|refine bj (fun hc=>?_) fun hc=>?_)<;>(try simp only[hc,bs,↓reduceIte]at h)<;>try simp only[hc]
 |(with_reducible refine aD hQ ?_;(try cases h);simp only[aT,aV,bD,bE,go_sem,hD,gA,gB,gC,x1,x2,b1,b3,b5,b6,nb,bv];try exact bX)
 | (cases h;done))
   (refine iS hQ ?_;simp only[aT,aV,bD,bE,go_sem])
   exact⟨rfl,y3,⟨_,xW⟩,h3.sub l5⟩
  ·rw [if_neg (by simp [bv])]at hQ
   repeat' (first
 |simp only[go_sem,hD,gA,gB,gC,x1,x2,b1,b3,b5,b6,nb,bv]
 |(with_reducible refine CU (fT _ _) ?_)
 |(with_reducible refine CU (fE _ _) ?_)
 |(with_reducible first|refine bg fun hc=>?_|refine bh fun hc=>?_|refine bj (fun hc=>?_) fun hc=>?_)<;>(try simp only[hc,bs,↓reduceIte]at h)<;>try simp only[hc]
 |(with_reducible refine aD hQ ?_;(try cases h);simp only[aT,aV,bD,bE,go_sem,hD,gA,gB,gC,x1,x2,b1,b3,b5,b6,nb,bv];try exact bX)
 | (cases h;done))
   (refine iS hQ ?_;simp only[aT,aV,bD,bE,go_sem])
   exact⟨rfl,y3,⟨_,xW⟩,h3.sub l5⟩
 rw[if_neg (by simp[b6])]at hQ
 repeat' (first
 |simp only[go_sem,hD,gA,gB,gC,x1,x2,b1,b3,b5,b6]
 |(with_reducible first|refine bg fun hc=>?_|refine bh fun hc=>?_|refine bj (fun hc=>?_) fun hc=>?_)<;>(try simp only[hc,bs,↓reduceIte]at h)<;>try simp only[hc]
 |(with_reducible refine aD hQ ?_;(try cases h);simp only[aT,aV,bD,bE,go_sem,hD,gA,gB,gC,x1,x2,b1,b3,b5,b6];try exact bX)
 |(cases h;done))
 (refine iS hQ ?_;simp only[aT,aV,bD,bE,go_sem])
 exact⟨rfl,y3,⟨_,xW⟩,h3.sub l5⟩
end
end Go.Abs
namespace Go.Abs
set_option maxRecDepth 8000
open Go.Proofs
section
variable {p:Pg} {T W:List Int} {y:Lay} {m:Mc} {loc:List (Nat×List D)} {s:St}
theorem Gj : ∀ (l:List Ar) (m:Mc) (out:List Nat),(Mc.args l m out).2.out=m.out∧(Mc.args l m out).2.trace=m.trace
 | [],m,out=>⟨rfl,rfl⟩
 | a::l,m,out=>by
  have hw:=kp m a.x
  simp only[Mc.args]
  by_cases c:a.ref=true
  ·rw[if_pos c];exact Gj l m _
  ·rw [if_neg c]
   by_cases c2:(m.bM a.x).1.2=true
   ·rw [if_pos c2]
    obtain⟨h1,h2⟩:=Gj l {(m.bM a.x).2 with mem:=(m.bM a.x).2.mem++ [(m.bM a.x).1.1]} (out++ [(m.bM a.x).2.mem.length])
    exact⟨h1.trans hw.2.2.2.2.1,h2.trans hw.2.2.2.2.2⟩
   ·rw[if_neg c2];exact⟨hw.2.2.2.2.1,hw.2.2.2.2.2⟩
structure Xb (p:Pg) (fr:Fr) (v:Sm):Prop where
 said:v.oy
 args : ∀ a∈v.args,a.x.texts∧a.x.size<1000000∧(a.ref=true→∃ k,xX fr a.name k)
 proc : ∃ (j:Nat) (q:Pc),p.at v.proc=(j:Int)∧p.procs[j]? = some q∧p.find q.name=some q
theorem Xc (hp:p.jv) (Z6:p.may=true) (h:Inv p T W y m loc s) {fr:Fr} {r:List Fr} (ht:nZ m fr r) (hz:LM p T W m) (hg:p.globals.length≤m.mem.length) {v:Sm} (hd:Xb p fr v) :
 bW Tryz.prog qq [.ptr 0 0, .agg (aS v)] s (Rl p T W (.int .i64 (m.call p W v).1) (m.call p W v).2 (fun _=>True) loc):=by
 have h1:=h.new (aS v)
 have L9:2≤s.ay.length:=by have:=(List.getElem?_eq_some_iff.1 h.t1).1;omega
 generalize hn:s.ah.length=n at h1
 generalize PI:s.ay.length=tk at L9
 have s6:v.args.length<1000000:=by have:=hd.said.2.2;have:=Ar.dJ v.args;omega
 have aCo:=ht.st
 refine bW.wD By rfl fun B Q hB hQ=>?_
 have⟨hD,gA,gB,gC⟩:=cd
 have loop : ∀ (rest:List Ar) (k:Nat) (m1:Mc) (out:List Nat) (y1:Lay) (s1:St),v.args.drop k=rest→Mc.args v.args m [] = Mc.args rest m1 out→m1.st=m.st→m1.trace=m.trace∧m1.out=m.out→m.mem.length≤m1.mem.length→out.length=k∧k≤v.args.length→(∀ c∈out,c<m1.mem.length)→
  Inv p T W y1 m1 ((n,aS v)::loc) s1→s1.ay[tk]? = some (some out.length)→
  bl Tryz.prog B 67 QMN (iI 0 (la (jJ Tryz.prog B 67 QN2 Q) Q))
   [(0, .ptr 0 0),(3, .ptr n 0),(5, .slice (.tok tk) 1 (out.map fun c=>fN (y1.κ.getD c 0))),(12, .slice .shared 6 (v.args.map eR)),(13, .int .i64 (v.args.length:Int)),(14, .int .i64 (k:Int))] s1:=by
  intro rest
  induction rest with
  | nil=>
   intro k m1 out y1 s1 DE ow sP C0 tx yh qV h2 Z8
   have hD:=drop_nil DE
   have Dz:nZ m1 fr r:=⟨by rw[sP];exact ht.st,ht.len,ht.names,ht.vars⟩
   obtain⟨so,g,cells,o,e1,e2,e3,e4,e5⟩:=h2.Z0 Dz.st
   have kl:=h2.kr
   rw[fX,e1]at kl
   have vI:=(h2.loc (n,aS v) (by simp)).1
   have kX:=h2.wF
   have Jn:m.call p W v=if m1.st.length > 100 then(-1,{m1 with fin:=5})else(m1.event W v.id []).open p (p.at v.proc) out v.id:=by
    unfold Mc.call
    rw[ow]
    rfl
   have hlen:m1.st.length=r.length+1:=by rw[Dz.st];rfl
   rw[Jn,hlen]at hQ
   simp only at vI
   refine bl.jV ?_
   by_cases Y3:r.length+1 > 100
   ·have H3:decide (((r.length+1:Nat):Int) > 100)=true:=by simp;omega
    rw[if_pos Y3]at hQ
    have h3:=h2.vQ (m':= {m1 with fin:=5}) rfl rfl h2.t0 h2.t1
    rw[fX,e1]at h3
    simp only at h3
    repeat' (first
 |simp only[go_sem,hD,gA,gB,gC,kl,vI,H3,kX]
 |(with_reducible first|refine bg fun hc=>?_|refine bh fun hc=>?_|refine bj (fun hc=>?_) fun hc=>?_)<;>(try simp only[hc,bs,↓reduceIte]at h)<;>try simp only[hc]
 |(with_reducible refine aD hQ ?_;(try cases h);simp only[aT,aV,bD,bE,go_sem,hD,gA,gB,gC,kl,vI,H3,kX];try exact bX)
 | (cases h;done))
    (refine iS hQ ?_;simp only[aT,aV,bD,bE,go_sem])
    exact⟨rfl,y1,trivial,h3.sub fun q mq=>List.mem_cons_of_mem _ mq⟩
   ·have H3:decide (((r.length+1:Nat):Int) > 100)=false:=by simp;omega
    rw[if_neg Y3]at hQ
    have c1:=xV h2 hz.W (by rw[C0.1];exact hz.trace) v.id
    repeat' (first
 |simp only[go_sem,hD,gA,gB,gC,kl,vI,H3,kX]
 |(with_reducible first|refine bg fun hc=>?_|refine bh fun hc=>?_|refine bj (fun hc=>?_) fun hc=>?_)<;>(try simp only[hc,bs,↓reduceIte]at h)<;>try simp only[hc]
 |(with_reducible refine aD hQ ?_;(try cases h);simp only[aT,aV,bD,bE,go_sem,hD,gA,gB,gC,kl,vI,H3,kX];try exact bX)
 | (cases h;done))
    refine CR c1 fun d s3 h3=>?_
    obtain⟨rfl,y3,rfl,h3⟩:=h3
    have he:=gw W m1 v.id []
    obtain⟨j,q,j1,j2,j3⟩:=hd.proc
    obtain⟨y4,s4,hF,h4⟩:=Qz h3 hp Z6 j2 j3 (by rw[he.1,hlen];have:=ht.len;omega) (l:=out) (by rw[he.2.1];exact qV) (by omega) (by rw[he.2.1];omega) v.id
    have hF':=fun g:Tag=>bW.o5 (.cons (Wk.refl _) (.cons (Wk.refl _) (.cons (Wk.shared g 1 _) (j9.refl _)))) hF
    have hF2:aE Tryz.prog jU [.ptr 0 0, .int .i64 (j:Int), .slice (.tok tk) 1 (out.map fun c=>fN (y3.κ.getD c 0)), .int .i64 v.id] s3 _ s4:=hF' _
    have cP:=fun s=>Hq (p:=p) (by have:=hp.procs.1;omega) v.proc s
    have pB:=h3.kr
    rw[fX]at pB
    have hx3:=(h3.loc (n,aS v) (by simp)).1
    simp only at hx3
    rw[j1]at hQ cP
    repeat' (first
 |simp only[go_sem,hD,gA,gB,gC,pB,hx3]
 |(with_reducible refine CU (cP _) ?_)
 |(with_reducible refine CU (hF2) ?_)
 |(with_reducible first|refine bg fun hc=>?_|refine bh fun hc=>?_|refine bj (fun hc=>?_) fun hc=>?_)<;>(try simp only[hc,bs,↓reduceIte]at h)<;>try simp only[hc]
 |(with_reducible refine aD hQ ?_;(try cases h);simp only[aT,aV,bD,bE,go_sem,hD,gA,gB,gC,pB,hx3];try exact bX)
 | (cases h;done))
    (refine iS hQ ?_;simp only[aT,aV,bD,bE,go_sem])
    exact⟨rfl,y4,trivial,h4.sub fun q mq=>List.mem_cons_of_mem _ mq⟩
  | cons a rest ih=>
   intro k m1 out y1 s1 DE ow sP C0 tx yh qV h2 Z8
   obtain⟨gA,g2,hD,g4⟩:=drop_cons DE
   have cH:k<4611686018427387904:=by omega
   obtain⟨a1,a2,a3⟩:=hd.args a (List.mem_of_getElem? gA)
   have Dz:nZ m1 fr r:=⟨by rw[sP];exact ht.st,ht.len,ht.names,ht.vars⟩
   have h3:=h2.new (eR a)
   have zq : ∀ z:List D,(s1.ah++ [z]).set s1.ah.length (eR a)=s1.ah++ [eR a]:=fun z=>by simp
   have zg : ∀ z:List D,(s1.ah++ [z])[s1.ah.length]? = some z:=fun z=>by simp
   have fi : ∀ (x:Nat) (os:List (List D)),iu 1 8 (.slice (.tok tk) 1 (out.map fun c=>fN (y1.κ.getD c 0))) (.slice .full 1 [[.ptr x 0]]) ⟨os,s1.ay⟩=some (.slice (.tok tk) 1 ((out.map fun c=>fN (y1.κ.getD c 0))++ [fN x]),⟨os,s1.ay.set tk (some (out.length+1))⟩):=fun x os=>by
    rw[qm (size:=1) (by simp only[List.length_map,List.length_singleton];unfold bp;omega) (by simpa using Z8)]
    simp[fN]
   have Gk : ∀ k':Nat,(s1.ay.set tk (some k'))[0]? = s1.ay[0]? ∧(s1.ay.set tk (some k'))[1]? = s1.ay[1]? ∧(s1.ay.set tk (some k'))[tk]? = some (some k'):=fun k'=>
    ⟨List.getElem?_set_ne (by omega),List.getElem?_set_ne (by omega),by simp[(List.getElem?_eq_some_iff.1 Z8).1]⟩
   refine bl.jV ?_
   rcases Bool.eq_false_or_eq_true a.ref with b|b
   ·obtain⟨c,hc⟩:=a3 b
    have Oa:=hc.cell Dz.top
    obtain⟨j,hj,DX⟩:=hc
    have c1:=EC h3 Dz.st Dz.len Dz.names hj DX
    obtain⟨hκ,v0,gm,_⟩:=cell_of h2 Dz.st DX
    have B6:=(List.getElem?_eq_some_iff.1 gm).1
    repeat' (first
 |simp only[go_sem,hD,gA,gB,gC,gA,zq,zg,b,fi]
 |(with_reducible refine CU (c1) ?_)
 |(with_reducible first|refine bg fun hc=>?_|refine bh fun hc=>?_|refine bj (fun hc=>?_) fun hc=>?_)<;>(try simp only[hc,bs,↓reduceIte]at h)<;>try simp only[hc]
 |(with_reducible refine aD hQ ?_;(try cases h);simp only[aT,aV,bD,bE,go_sem,hD,gA,gB,gC,gA,zq,zg,b,fi];try exact bX)
 | (cases h;done))
    have:=ih (k+1) m1 (out++ [c]) y1 ⟨s1.ah++ [eR a],s1.ay.set tk (some (out.length+1))⟩ g2 (by rw[ow];simp only[Mc.args,b,if_true,Oa]) sP C0 tx ⟨by simp[yh.1],g4⟩ (fun x mx=>by
     rcases List.mem_append.1 mx with mx|mx
     ·exact qV x mx
     ·rw[List.mem_singleton.1 mx];exact B6) ((h3.sub fun q mq=>List.mem_cons_of_mem _ mq).keep (fun _ _ e=>e) (Gk _).1 (Gk _).2.1) (by simpa using (Gk _).2.2)
    refine bl.qX ?_ this
    simp only[go_sem,aH cH,List.map_append,List.map_cons,List.map_nil]
    repeat' (first|exact Ok.out|with_reducible refine ju ?_ ?_)
   ·have c1:=Gg h3 Dz a2 a1
    repeat' (first
 |simp only[go_sem,hD,gA,gB,gC,gA,zq,zg,b]
 |(with_reducible first|refine bg fun hc=>?_|refine bh fun hc=>?_|refine bj (fun hc=>?_) fun hc=>?_)<;>(try simp only[hc,bs,↓reduceIte]at h)<;>try simp only[hc]
 |(with_reducible refine aD hQ ?_;(try cases h);simp only[aT,aV,bD,bE,go_sem,hD,gA,gB,gC,gA,zq,zg,b];try exact bX)
 | (cases h;done))
    refine CR c1 fun d s2 h4=>?_
    obtain⟨⟨rfl,y2,xW,h4⟩,xo⟩:=h4
    have hw:=kp m1 a.x
    simp only at xo
    rcases Bool.eq_false_or_eq_true (m1.bM a.x).1.2 with bw|bw
    ·have W9:(m1.bM a.x).2=m1:=by
      unfold Mc.bM
      dsimp only
      rw[if_pos (show(a.x.bM m1.top.names m1.bT).2=true from bw)]
     rw[W9]at h4
     have yq : ∀ z:List D,(s2.ah++ [z]).set s2.ah.length [.int .i64 (m1.bM a.x).1.1] = s2.ah++ [[.int .i64 (m1.bM a.x).1.1]]:=fun z=>by simp
     have yg : ∀ z:List D,(s2.ah++ [z])[s2.ah.length]? = some z:=fun z=>by simp
     rw[← xo]at fi Gk
     have h5:=h4.aul (m1.bM a.x).1.1 (by omega)
     have hyκ:y2.κ=y1.κ:=by rw[xW]
     have alP:y1.κ.length=m1.mem.length:=h2.len
     repeat' (first
 |simp only[go_sem,hD,gA,gB,gC,bw,yq,yg,fi]
 |(with_reducible first|refine bg fun hc=>?_|refine bh fun hc=>?_|refine bj (fun hc=>?_) fun hc=>?_)<;>(try simp only[hc,bs,↓reduceIte]at h)<;>try simp only[hc]
 |(with_reducible refine aD hQ ?_;(try cases h);simp only[aT,aV,bD,bE,go_sem,hD,gA,gB,gC,bw,yq,yg,fi];try exact bX)
 | (cases h;done))
     have:=ih (k+1) {m1 with mem:=m1.mem++ [(m1.bM a.x).1.1]} (out++ [m1.mem.length]) {y2 with κ:=y2.κ++ [s2.ah.length]} ⟨s2.ah++ [[.int .i64 (m1.bM a.x).1.1]],s2.ay.set tk (some (out.length+1))⟩ g2
      (by rw [ow];simp only [Mc.args,b,Bool.false_eq_true,if_false,bw,if_true,W9]) sP C0 (by simp;omega) ⟨by simp [yh.1],g4⟩ (fun x mx=>by
       simp only[List.length_append,List.length_singleton]
       rcases List.mem_append.1 mx with mx|mx
       ·have:=qV x mx;omega
       ·rw[List.mem_singleton.1 mx];omega) ((h5.sub fun q mq=>List.mem_cons_of_mem _ mq).keep (fun _ _ e=>e) (Gk _).1 (Gk _).2.1) (by simpa using (Gk _).2.2)
     refine bl.qX ?_ this
     have aut:(out.map fun c=>fN ((y2.κ++ [s2.ah.length]).getD c 0))=out.map fun c=>fN (y1.κ.getD c 0):=List.map_congr_left fun c mc=>by rw[hyκ,Gi (by have:=qV c mc;omega)]
     have dC:(y2.κ++ [s2.ah.length]).getD m1.mem.length 0=s2.ah.length:=by rw[hyκ, ← alP];simp[List.getD_eq_getElem?_getD]
     simp only[go_sem,aH cH,List.map_append,List.map_cons,List.map_nil,aut,dC]
     repeat' (first|exact Ok.out|with_reducible refine ju ?_ ?_)
    ·repeat' (first
 |simp only[go_sem,hD,gA,gB,gC,bw]
 |(with_reducible first|refine bg fun hc=>?_|refine bh fun hc=>?_|refine bj (fun hc=>?_) fun hc=>?_)<;>(try simp only[hc,bs,↓reduceIte]at h)<;>try simp only[hc]
 |(with_reducible refine aD hQ ?_;(try cases h);simp only[aT,aV,bD,bE,go_sem,hD,gA,gB,gC,bw];try exact bX)
 |(cases h;done))
     (refine iS hQ ?_;simp only[aT,aV,bD,bE,go_sem])
     have Jn:m.call p W v=(-1,(m1.bM a.x).2):=by
      unfold Mc.call
      rw[ow]
      simp only[Mc.args,b,Bool.false_eq_true,if_false,bw]
     rw[Jn]
     exact⟨rfl,y2,trivial,h4.sub fun q mq=>List.mem_cons_of_mem _ (List.mem_cons_of_mem _ mq)⟩
 have hz0:(s.ah++ [aS v])[n]? = some (aS v):=by simp[← hn]
 have l0:=loop v.args 0 m [] y ⟨s.ah++ [aS v],s.ay++ [some 0]⟩ rfl rfl rfl ⟨rfl,rfl⟩ (Nat.le_refl _) ⟨rfl,Nat.zero_le _⟩ (by simp) (h1.ay _) (by simp[← PI])
 repeat' (first
 |simp only[go_sem,hD,gA,gB,gC,hz0,hn]
 |(with_reducible first|refine bg fun hc=>?_|refine bh fun hc=>?_|refine bj (fun hc=>?_) fun hc=>?_)<;>(try simp only[hc,bs,↓reduceIte]at h)<;>try simp only[hc]
 |(with_reducible refine aD hQ ?_;(try cases h);simp only[aT,aV,bD,bE,go_sem,hD,gA,gB,gC,hz0,hn];try exact bX)
 |(cases h;done))
 refine bl.s7 5 1 rfl ?_
 simp only[go_sem,hD,gA,gB,gC]
 refine bl.qX ?_ l0
 simp only[go_sem,PI,List.map_nil]
 repeat' (first|exact Ok.out|with_reducible refine ju ?_ ?_)
end
end Go.Abs
namespace Go.Abs
theorem Oc {v:Sm} (h:v.one=true) (hk:v.kind=1∨v.kind=2):v.name≠ []:=by
 intro e
 have hn:v.hasName=true:=by unfold Sm.hasName;rcases hk with hk|hk<;>simp[hk]
 unfold Sm.one at h
 split at h
 ·cases h
 ·rw [e,hn]at h
  simp[isName]at h
theorem DY {v:Sm} (hk:v.kind≠10) (hn:v.name≠ []):v.name∈v.said:=by
 unfold Sm.said Sm.u7
 refine wW (.inl ?_)
 rw[if_pos (by simp[hk,hn])]
 simp
theorem wY {name:aF} {f:Pc} : ∀ {l:List Pc},gQ name l=some f→f.name=name
 |g::l,h=>by
  simp only[gQ]at h
  split at h
  ·rename_i e;cases h;simpa using e
  ·exact wY h
mutual
theorem aiB : ∀ s:Sm,∀ v∈s.pre,v.size≤s.size
 | ⟨id,kind,labels,name,proc,x,has,args,aM,aL⟩,v,m=>by
  rw[Sm.mN]at m
  rcases List.mem_cons.1 m with rfl|m
  ·exact Nat.le_refl _
  ·simp only [Sm.size]
   rcases List.mem_append.1 m with m|m
   ·have:=ED aM v m;omega
   ·have:=ED aL v m;omega
theorem ED : ∀ l:List Sm,∀ v∈Sm.bZ l,v.size≤Sm.a7 l
 | [],v,m=>by simp[Sm.bZ]at m
 |s::l,v,m=>by
  simp only[Sm.bZ,List.mem_append]at m
  simp only[Sm.a7]
  rcases m with m|m
  ·have:=aiB s v m;omega
  ·have:=ED l v m;omega
end
theorem I1 : ∀ l:List Sm,l.length≤Sm.a7 l
 | []=>Nat.le_refl _
 |s::l=>by
  have:=I1 l
  have h1:1≤s.size:=by cases s;simp only[Sm.size];omega
  simp only[Sm.a7,List.length_cons];omega
section
variable {p:Pg} {m:Mc} {a:Int}
theorem Od (hO:p.jv) (h:qE p p.bc.L a m) (hl:m.st.length≤1000) : ∃ fr r f,nZ m fr r∧p.procs[fr.proc.toNat]? = some f∧fr.names=p.globals++f.own∧fr.vars.length=fr.names.length∧m.top=fr:=by
 obtain⟨fr,r,e⟩:=h.st.ne
 have ht:m.top=fr:=by simp[Mc.top,e]
 obtain⟨f,h1,h2,h3,h4,h5⟩:=h.fr fr (by rw[e];exact List.mem_cons_self ..)
 have hf:=List.mem_of_getElem? h1
 have s1:=Pc.da hf
 have s2:=hO.sz
 simp only[Pg.size]at s2
 have hn:fr.names.length<1000000:=by
  rw[h3]
  have s3:=hO.small hf
  simp only[Pc.size]at s1
  simp only[List.length_append,Pc.own,Pc.qz,List.length_map]
  have:=s3.par;have:=s3.vars
  omega
 rw[e]at hl
 exact⟨fr,r,f,⟨e,by simp at hl;omega,hn,by omega⟩,h1,h3,h4,ht⟩
theorem I2 {fr:Fr} (hv:fr.vars.length=fr.names.length) {n:aF} (hn:n∈fr.names) : ∃ k,xX fr n k:=by
 obtain⟨j,h1,h2⟩:=DU (k:=0) hn
 exact⟨_,j,by simpa using h1,List.getElem?_eq_getElem (by omega)⟩
theorem aem {fr:Fr} (h:qE p p.bc.L a m) (ht:m.top=fr) (hR:p.Right) (ha:a≠ -1) {f:Pc} (hf:p.procs[fr.proc.toNat]? = some f):DT p p.bc.L (fI p.bc.L a) f∧(fI p.bc.L a).proc=fr.proc∧fI p.bc.L a∈p.bc.L∧
 ∃ c:Nat,a=(c:Int)+1∧p.bc.L[c]? = some (fI p.bc.L a):=by
 have hm:=h.at_.resolve_left ha
 have jf:=BU (L:=p.bc.L) (.inr ⟨hm.1,hm.2.1⟩) ha
 obtain⟨f',o⟩:=(qD hR).im _ jf
 have hp:(fI p.bc.L a).proc=fr.proc:=by rw[← ht];exact hm.2.2
 have:f'=f:=by have:=o.proc.1;rw[hp,hf]at this;exact(Option.some.inj this).symm
 subst this
 have h1:=hm.1
 have h2:=hm.2.1
 refine⟨o,hp,jf,(a - 1).toNat,by omega, ?_⟩
 unfold fI
 rw[List.getD_eq_getElem?_getD,List.getElem?_eq_getElem (show(a - 1).toNat<p.bc.L.length by omega)];rfl
theorem QA (hO:p.jv) (hR:p.Right) {x:Im} {f:Pc} {fr:Fr} (hx:DT p p.bc.L x f) (hn:fr.names=p.globals++f.own) (hv:fr.vars.length=fr.names.length):aiv p fr x:=by
 have hf:=List.mem_of_getElem? hx.proc.1
 have rp:x.s∈p.pre:=by
  simp only[Pg.pre,List.mem_flatten,List.mem_map];exact⟨_,⟨f,hf,rfl⟩,hx.mem⟩
 have dO:=ED f.body x.s hx.mem
 have s1:=Pc.da hf
 have s2:=hO.sz
 simp only[Pg.size]at s2
 simp only[Pc.size]at s1
 have hs:Sm.a7 x.s.aM+Sm.a7 x.s.aL≤x.s.size:=by
  cases x with
  |mk s _ _ _ _=>cases s;simp only[Sm.size];omega
 refine⟨hO.said hf _ hx.mem,fun hk=>?_,fun hk=>?_,fun hk=>?_, ?_, ?_⟩
 ·have hl:=hx.loop (.inl hk)
  have h1:=hl.1
  have h2:=hl.2.1
  exact⟨(x.loop - 1).toNat,_,by omega,List.getElem?_eq_getElem (by omega)⟩
 ·obtain⟨i,hi⟩:=Int.eq_ofNat_of_zero_le hx.proc.2
  exact⟨i,f,hi,by have:=hx.proc.1;rwa [hi,Int.toNat_natCast]at this⟩
 ·refine I2 hv ?_
  rw[hn]
  exact xS hR hx (DY (by rcases hk with hk|hk<;>omega) (Oc (IV hR.may _ rp) hk))
 ·have:=I1 x.s.aM;omega
 ·have:=I1 x.s.aL;omega
theorem Xd (hO:p.jv) (hR:p.Right) {x:Im} {f:Pc} {fr:Fr} (hx:DT p p.bc.L x f) (hk:x.s.kind=4) (hn:fr.names=p.globals++f.own) (hv:fr.vars.length=fr.names.length):Xb p fr x.s:=by
 have hf:=List.mem_of_getElem? hx.proc.1
 have tX:=hO.said hf _ hx.mem
 have rp:x.s∈p.pre:=by
  simp only[Pg.pre,List.mem_flatten,List.mem_map];exact⟨_,⟨f,hf,rfl⟩,hx.mem⟩
 refine⟨tX,fun b mb=>⟨tX.2.1 b mb, ?_,fun hr=>?_⟩, ?_⟩
 ·have:=tX.2.2
  have key : ∀ l:List Ar,b∈l→b.x.size≤Ar.a7 l:=fun l=>by
   induction l with
   |nil=>intro m;cases m
   |cons c l ih=>
    intro m
    simp only[Ar.a7]
    rcases List.mem_cons.1 m with rfl|m
    ·omega
    ·have:=ih m;omega
  have:=key _ mb
  omega
 ·refine I2 hv ?_
  rw[hn]
  exact xS hR hx (wW (.inr ⟨b,mb,hr,rfl⟩))
 ·have jZ:=hR.fits _ rp (by simp [hk])
  obtain⟨q,hq⟩:=J6 jZ
  obtain⟨j,h1,h2⟩:=EA (k:=0) hq
  exact⟨j,q,by simpa[Pg.at]using h1,h2,by rw[wY hq];exact hq⟩
theorem T2 (hO:p.jv) (hR:p.Right) (h:qE p p.bc.L a m) (hl:m.st.length≤1000) {fr:Fr} {r:List Fr} (ht:nZ m fr r) :
 fr.call=0∨∃ (c:Nat) (it:Im) (wE:Fr) (r2:List Fr),fr.call=(c:Int)+1∧p.bc.L[c]? = some it∧nZ {m with st:=r} wE r2∧(it.s.name≠ []→∃ k,xX wE it.s.name k):=by
 have hs:=h.st
 have jq:=ht.st
 rw[jq]at hs
 cases r with
 |nil=>exact .inl hs
 | cons wE r2=>
  obtain⟨⟨h1,JY⟩,h2⟩:=hs
  have e1:=h1.1
  have e2:=h1.2.1
  refine .inr ⟨(fr.call - 1).toNat,fI p.bc.L fr.call,wE,r2,by omega, ?_, ?_,fun hn=>?_⟩
  ·unfold fI
   rw[List.getD_eq_getElem?_getD,List.getElem?_eq_getElem (show(fr.call - 1).toNat<p.bc.L.length by omega)];rfl
  ·have h3:qE p p.bc.L (-1) {m with st:=wE::r2}:=⟨h2,fun q hq=>h.fr q (by rw [jq];exact List.mem_cons_of_mem _ hq), .inl rfl,h.rl⟩
   obtain⟨Qy,r',f',t,_⟩:=Od hO h3 (by rw[jq]at hl;simp at hl ⊢;omega)
   have:=t.st
   cases this
   exact t
  ·obtain⟨f,g1,g2,g3,g4,g5⟩:=h.fr wE (by rw [jq];simp)
   have jf:fI p.bc.L fr.call∈p.bc.L:=BU (.inr ⟨e1,e2⟩) (by omega)
   obtain⟨f',o⟩:=(qD hR).im _ jf
   have:f'=f:=by have:=o.proc.1;rw[h1.2.2,g1]at this;exact(Option.some.inj this).symm
   subst this
   refine I2 g4 ?_
   rw[g3]
   exact xS hR o (DY (by omega) hn)
end
end Go.Abs
namespace Go.Abs
structure zV (m:Mc):Prop where
 steps:0≤m.steps
 trace:(m.trace.length:Int)≤m.steps
 out:(m.out.length:Int)≤m.steps
 reads:0≤m.reads∧m.reads≤m.steps
 st:m.st.length≤101
structure DZ (m m':Mc):Prop where
 trace:m'.trace.length≤m.trace.length+1
 out:m'.out.length≤m.out.length+1
 reads:m'.reads=m.reads∨m'.reads=m.reads+1
 steps:m'.steps=m.steps
theorem Xe (W:List Int) (m:Mc) (id:Int) (bT:List Int):(m.event W id bT).trace.length≤m.trace.length+1:=by
 unfold Mc.event
 split<;>simp
theorem nH (W:List Int) (m:Mc) (id:Int) (bT:List Int):DZ m (m.event W id bT):=by
 have h:=gw W m id bT
 exact⟨Xe W m id bT,by rw[h.2.2.2.2.2];omega, .inl h.2.2.2.2.1,h.2.2.2.1⟩
theorem H4 (m:Mc) (x:Ex):DZ m (m.bM x).2:=by
 have h:=kp m x
 exact⟨by rw[h.2.2.2.2.2];omega,by rw[h.2.2.2.2.1];omega, .inl h.2.2.2.1,h.2.2.1⟩
theorem Kl (p:Pg) (m:Mc) (i:Int) (l:List Nat) (c:Int):(m.open p i l c).2.trace=m.trace∧(m.open p i l c).2.out=m.out∧(m.open p i l c).2.reads=m.reads∧(m.open p i l c).2.steps=m.steps:=by
 unfold Mc.open
 split<;>exact⟨rfl,rfl,rfl,rfl⟩
theorem D0 : ∀ (l:List Ar) (m:Mc) (out:List Nat),(Mc.args l m out).2.reads=m.reads∧(Mc.args l m out).2.steps=m.steps
 | [],m,out=>⟨rfl,rfl⟩
 | a::l,m,out=>by
  have hw:=kp m a.x
  simp only[Mc.args]
  by_cases c:a.ref=true
  ·rw[if_pos c];exact D0 l m _
  ·rw [if_neg c]
   by_cases c2:(m.bM a.x).1.2=true
   ·rw [if_pos c2]
    obtain⟨h1,h2⟩:=D0 l {(m.bM a.x).2 with mem:=(m.bM a.x).2.mem++ [(m.bM a.x).1.1]} (out++ [(m.bM a.x).2.mem.length])
    exact⟨h1.trans hw.2.2.2.1,h2.trans hw.2.2.1⟩
   ·rw[if_neg c2];exact⟨hw.2.2.2.1,hw.2.2.1⟩
theorem Xf (p:Pg) (W:List Int) (m:Mc) (v:Sm):DZ m (m.call p W v).2∧((m.call p W v).2.st.length≤m.st.length∨(m.call p W v).2.st.length≤101):=by
 have h1:=Gj v.args m []
 have h2:=D0 v.args m []
 have h3:=(A2 v.args m []).1
 unfold Mc.call
 generalize Mc.args v.args m [] = r at *
 obtain⟨o,m1⟩:=r
 dsimp only at h1 h2 h3
 cases o with
 |none=>exact⟨⟨by simp[h1.2],by simp[h1.1], .inl h2.1,h2.2⟩, .inl (by simp[h3])⟩
 | some l=>
  dsimp only
  by_cases c:m1.st.length > 100
  ·rw[if_pos c];exact⟨⟨by simp[h1.2],by simp[h1.1], .inl h2.1,h2.2⟩, .inl (by simp[h3])⟩
  ·rw [if_neg c]
   have e1:=nH W m1 v.id []
   have e2:=Kl p (m1.event W v.id []) (p.at v.proc) l v.id
   have e3:=(Ey p (m1.event W v.id []) (p.at v.proc) l v.id).1
   have e4:=(gw W m1 v.id []).1
   refine⟨⟨by rw[e2.1, ← h1.2];exact e1.trace,by rw[e2.2.1, ← h1.1];exact e1.out, ?_,by rw[e2.2.2.2,e1.steps,h2.2]⟩, .inr (by rw[e4]at e3;omega)⟩
   rw[e2.2.2.1, ← h2.1];exact e1.reads
theorem T3 (W:List Int) (m:Mc) (v:Sm):DZ m (m.jW W v).2:=by
 have hw:=kp m v.x
 unfold Mc.jW
 split
 ·dsimp only
  split
  ·have e:=nH W (m.bM v.x).2 v.id [(m.bM v.x).1.1]
   exact⟨by rw[← hw.2.2.2.2.2];exact e.trace,by rw[← hw.2.2.2.2.1];exact e.out,by rw[← hw.2.2.2.1];exact e.reads,e.steps.trans hw.2.2.1⟩
  ·exact H4 m v.x
 ·exact nH W m v.id []
theorem aen (p:Pg) (L:List Im) (T W:List Int) (m:Mc) (it:Im):DZ m (m.do p L T W it).2:=by
 have hw:=kp m it.s.x
 unfold Mc.do
 dsimp only
 split
 ·exact nH W m _ _
 split
 ·exact nH W m _ _
 split
 ·exact nH W m _ _
 split
 ·split
  ·exact⟨by simp,by simp, .inl rfl,rfl⟩
  ·rename_i n _
   have e:=nH W (({m with reads:=m.reads+1} : Mc).set it.s.name n) it.s.id [n]
   have e2:=(gw W (({m with reads:=m.reads+1} : Mc).set it.s.name n) it.s.id [n])
   exact⟨e.trace,e.out, .inr e2.2.2.2.2.1,e2.2.2.2.1⟩
 split
 ·have e:=nH W (m.bM it.s.x).2 it.s.id [(m.bM it.s.x).1.1]
  have e2:=gw W (m.bM it.s.x).2 it.s.id [(m.bM it.s.x).1.1]
  have k:DZ m ((m.bM it.s.x).2.event W it.s.id [(m.bM it.s.x).1.1]):=⟨by rw[← hw.2.2.2.2.2];exact e.trace,by rw[← hw.2.2.2.2.1];exact e.out,by rw[← hw.2.2.2.1];exact e.reads,e.steps.trans hw.2.2.1⟩
  split
  ·exact⟨k.trace,k.out,k.reads,k.steps⟩
  split
  ·exact⟨k.trace,by simp[e2.2.2.2.2.2,hw.2.2.2.2.1],k.reads,k.steps⟩
  split
  ·exact k
  split
  ·exact k
  ·exact k
 ·exact H4 m it.s.x
theorem H5 (L:List Im) (m:Mc) (g:Int):(m.close L g).2.trace=m.trace∧(m.close L g).2.out=m.out∧(m.close L g).2.reads=m.reads∧(m.close L g).2.steps=m.steps∧(m.close L g).2.st=m.st.tail:=by
 unfold Mc.close
 dsimp only
 split
 ·exact⟨rfl,rfl,rfl,rfl,rfl⟩
 ·split<;>exact⟨rfl,rfl,rfl,rfl,rfl⟩
theorem zV.less {m m1:Mc} (h:zV m) (k:DZ {m with steps:=m.steps+1} m1) (hs:m1.st.length≤101):zV m1:=by
 have h1:=h.steps;have h2:=h.trace;have h3:=h.out;have h4:=h.reads
 have k1:=k.trace;have k2:=k.out;have k3:=k.reads;have k4:=k.steps
 dsimp only at k1 k2 k3 k4
 exact⟨by omega,by omega,by omega,by omega,hs⟩
theorem zV.close {L:List Im} {m:Mc} (h:zV m) (g:Int):zV (m.close L g).2:=by
 obtain⟨h1,h2,h3,h4,h5⟩:=H5 L m g
 exact⟨by rw[h4];exact h.steps,by rw[h1,h4];exact h.trace,by rw[h2,h4];exact h.out,by rw[h3,h4];exact h.reads,by rw[h5];have:=h.st;simp;omega⟩
theorem zV.run {p:Pg} {T W:List Int} {m:Mc} (h:zV m) (hs:m.steps≤1000000) (hO:p.jv) (hW:W.length<1000000) (hT:T.length<1000000):LM p T W m:=by
 obtain⟨sT,sC,sB⟩:=hO.procs
 have:=qy p
 have h2:=h.trace;have h3:=h.out;have h4:=h.reads
 exact⟨hW,hT,by omega,by omega,by omega,by omega,by omega⟩
set_option maxRecDepth 8000
open Go.Proofs
def fz (m:Mc):List D:= [.int .i64 m.fin, .int .i64 m.steps, .int .i64 m.reads, .slice .shared 1 (m.out.map cq), .slice .shared 2 (m.trace.map iG)]
theorem aiC (e:Int×List Int):D.bK 0 0 (iG e)=true:=by simp[iG,D.bK,D.ok,Tag.ok,kL]
theorem acg (l:List (Int×List Int)):D.jd 0 0 (l.map iG)=true:=jg aiC l
theorem alQ (n m:Nat) (l:List (Int×List Int)):D.lC n m (l.map iG)=l.map iG:=mZ aiC n m l
attribute [go_sem] alQ
abbrev runT (m:Mc):List D:= [.int .i64 m.fin, .int .i64 m.steps, .int .i64 m.reads, .slice (.tok 0) 1 (m.out.map cq), .slice (.tok 1) 2 (m.trace.map iG)]
section
variable {p:Pg} {T W:List Int} {fuel:Int} {B:gN} {Q:Exit→Tm→St→Prop} {mf:Mc}
theorem Inv.sU {y:Lay} {m:Mc} {s:St} {q:Nat} {r r':List D} {loc:List (Nat×List D)} (h:Inv p T W y m ((q,r)::loc) s) (hq : ∀ x∈loc,x.1≠q) (hr:r.length≠4):Inv p T W y m ((q,r')::loc) ⟨s.ah.set q r',s.ay⟩:=by
 obtain⟨h1,h2⟩:=h.loc (q,r) (List.mem_cons_self ..)
 simp only at h1 h2
 have ne : ∀ {o:Nat} {x:List D},s.ah[o]? = some x→o≠q→(s.ah.set q r')[o]? = some x:=fun e hn=>by rw[List.getElem?_set_ne (Ne.symm hn)];exact e
 have no : ∀ o∈y.own,o≠q:=fun o mo e=>h2 (e ▸ mo)
 have ka : ∀ {d:D} {cs:List D},(∀ o∈d.arr,o∈y.own)→kq s d cs→kq ⟨s.ah.set q r',s.ay⟩ d cs:=fun hd ha=>ha.keep fun o mo=>by
  show(s.ah.set q r')[o]? = _
  rw[List.getElem?_set_ne (Ne.symm (no o (hd o mo)))]
 obtain⟨l,hl⟩:=h.bT
 refine⟨ne h.kr (no 0 (by simp[Lay.own])),h.t0,h.t1,h.len,fun i c v e1 e2=>ne (h.cell i c v e1 e2) (no c (by simp[Lay.own,List.mem_of_getElem? e1])),h.uJ,fun i o fr e1 e2=>?_,ka (fun o m=>by simp[Lay.own,m]) h.stack,⟨l,ka (fun o m=>by simp[Lay.own,m]) hl⟩,h.own,fun x mx=>?_⟩
 ·obtain⟨f1,f2,f3⟩:=h.frame i o fr e1 e2
  exact⟨ne f1 (Qq f1 h1 fun e=>hr (by rw[← e];rfl)),f2,f3⟩
 ·rcases List.mem_cons.1 mx with rfl | mx
  ·exact⟨by simp[gX h1],h2⟩
  ·obtain⟨f1,f2⟩:=h.loc x (List.mem_cons_of_mem _ mx)
   exact⟨ne f1 (hq x mx),f2⟩
abbrev D2:List D:= [.int .i64 0, .int .i64 0, .int .i64 0, .slice .full 0 [], .slice .full 0 []]
structure I3 (p:Pg) (T W:List Int) (fuel:Int):Prop where
 ok:p.jv
 right:p.Right
 W:W.length<1000000
 T:T.length<1000000
 fuel:0≤fuel∧fuel≤1000000
structure At (p:Pg) (T W:List Int) (fuel:Int) (a:Int) (m:Mc) (y:Lay) (q:Nat) (s:St):Prop where
 inv : ∃ r:List D,r.length=17∧Inv p T W y m [(q,r),(2,D2)] s
 ok:qE p p.bc.L a m
 sz:zV m
 fin:m.fin=0
 fuel:m.steps≤fuel
abbrev TMr (fuel:Int) (q:Nat) (a:Int):Tm:= [(2, .int .i64 fuel),(8, .ptr 2 0),(10, .ptr 0 0),(11, .ptr q 0),(13, .int .i64 a)]
abbrev JJ (B:gN) (Q:Exit→Tm→St→Prop):=Bl Tryz.prog B 131 QAB Q
theorem H6 (hQ:rf 0 0 [(8,some (true,5)),(9,none)] (.tuple [.agg (fz mf), .int .i64 0]) ⟨[],[]⟩=Q) {y:Lay} {q:Nat} {r:List D} {s:St} (h:Inv p T W y mf [(q,r),(2,D2)] s) {tm:Tm} (ht:xR tm [(8, .ptr 2 0),(10, .ptr 0 0)]):JJ B Q (.goto 2) tm s:=by
 refine FF (r:= .seq .skip Q9T) rfl (lS.qX ht (lS.jV ?_))
 have hm:=h.kr
 rw[fX]at hm
 have h2:=(h.loc (2,D2) (by simp)).1
 have hl:=gX h2
 have⟨hD,gA,gB,gC⟩:=cd
 have sQ : ∀ r,(s.ah.set 2 r)[2]? = some r:=fun r=>List.getElem?_set_self hl
 simp only[fz]at hQ
 repeat' (first
 |simp only[go_sem,hD,gA,gB,gC,hm,h2,sQ]
 |(with_reducible first|refine bg fun hc=>?_|refine bh fun hc=>?_|refine bj (fun hc=>?_) fun hc=>?_)<;>(try simp only[hc,bs,↓reduceIte]at h)<;>try simp only[hc]
 |(with_reducible refine aD hQ ?_;(try cases h);simp only[aT,aV,bD,bE,go_sem,hD,gA,gB,gC,hm,h2,sQ];try exact bX)
 |(cases h;done))
theorem Oe (hS:I3 p T W fuel) (hQ:rf 0 0 [(8,some (true,5)),(9,none)] (.tuple [.agg (fz mf), .int .i64 0]) ⟨[],[]⟩=Q) {a:Int} {m:Mc} {y:Lay} {q:Nat} {s:St} {g:Int} (h:At p T W fuel a m y q s)
 (aiE:m.back p.bc.L g=(none,mf)∨∃ a' m',m.back p.bc.L g=(some a',m')∧∀ y' s' tm,At p T W fuel a' m' y' q s'→xR tm (TMr fuel q a')→JJ B Q (.goto 1) tm s')
 {tm:Tm} (ht:xR tm [(2, .int .i64 fuel),(8, .ptr 2 0),(10, .ptr 0 0),(11, .ptr q 0),(12, .int .i64 g)]):JJ B Q (.goto 0) tm s:=by
 obtain⟨⟨r,hr,hi⟩,pT,dO,ry,QB⟩:=h
 obtain⟨fr,rs,f,wi,h1,h2,h3,h4⟩:=Od hS.ok pT (by have:=dO.st;omega)
 have Fo:=dO.run (by have:=hS.fuel;omega) hS.ok hS.W hS.T
 have hc:=T2 hS.ok hS.right pT (by have:=dO.st;omega) wi
 have c1:=ael hi wi Fo.L hc g
 have nu:=H5 p.bc.L m g
 refine FF (r:= .seq .skip Q9W) rfl (lS.qX ht (lS.jV ?_))
 have⟨hD,gA,gB,gC⟩:=cd
 repeat' (first
 |simp only[go_sem,hD,gA,gB,gC]
 |(with_reducible first|refine bg fun hc=>?_|refine bh fun hc=>?_|refine bj (fun hc=>?_) fun hc=>?_)<;>(try simp only[hc,bs,↓reduceIte]at h)<;>try simp only[hc]
 |(with_reducible refine aD hQ ?_;exact fM)
 |(cases h;replace h:=hr;clear hr;(try simp only[bs,↓reduceIte]at h))
 |(cases h;done))
 refine CR c1 fun d s2 Og=>?_
 obtain⟨rfl,y2,xW,ph⟩:=Og
 have kl:=ph.kr
 rw[fX]at kl
 have hz2:=(ph.loc (2,D2) (by simp)).1
 have kX:=gX hz2
 have sQ : ∀ r,(s2.ah.set 2 r)[2]? = some r:=fun r=>List.getElem?_set_self kX
 simp only at hz2
 have hb:m.back p.bc.L g=(if(m.close p.bc.L g).2.fin==0 then some (m.close p.bc.L g).1 else none,(m.close p.bc.L g).2):=rfl
 rcases Bool.eq_false_or_eq_true ((m.close p.bc.L g).2.fin==0)with b|b
 ·rw [b,if_pos rfl]at hb
  rcases aiE with he|⟨a',m',he,Cl⟩
  ·rw[hb]at he;cases he
  ·have hk:=aed (qD hS.right) pT he
   rw[hb]at he
   cases he
   repeat' (first
 |simp only[go_sem,hD,gA,gB,gC,kl,b]
 |(with_reducible first|refine bg fun hc=>?_|refine bh fun hc=>?_|refine bj (fun hc=>?_) fun hc=>?_)<;>(try simp only[hc,bs,↓reduceIte]at h)<;>try simp only[hc]
 |(with_reducible refine aD hQ ?_;(try cases h);simp only[aT,aV,bD,bE,go_sem,hD,gA,gB,gC,kl,b];try exact bX)
 |(cases h;replace h:=hr;clear hr;(try simp only[bs,↓reduceIte]at h))
 | (cases h;done))
   refine Cl y2 s2 _ ⟨⟨r,hr,ph⟩,hk,dO.close g,by simpa using b,by rw[nu.2.2.2.1];exact QB⟩ ?_
   simp only[go_sem]
   repeat' (first|exact Ok.out|with_reducible refine ju ?_ ?_)
 ·rw [b,if_neg (by simp)]at hb
  rcases aiE with he|⟨a',m',he,Cl⟩
  ·rw [hb]at he
   cases he
   simp only[fz]at hQ
   repeat' (first
 |simp only[go_sem,hD,gA,gB,gC,kl,b,hz2,sQ]
 |(with_reducible first|refine bg fun hc=>?_|refine bh fun hc=>?_|refine bj (fun hc=>?_) fun hc=>?_)<;>(try simp only[hc,bs,↓reduceIte]at h)<;>try simp only[hc]
 |(with_reducible refine aD hQ ?_;(try cases h);simp only[aT,aV,bD,bE,go_sem,hD,gA,gB,gC,kl,b,hz2,sQ];try exact bX)
 |(cases h;replace h:=hr;clear hr;(try simp only[bs,↓reduceIte]at h))
 |(cases h;done))
  ·rw[hb]at he;cases he
theorem Z9 (hS:I3 p T W fuel) (hQ:rf 0 0 [(8,some (true,5)),(9,none)] (.tuple [.agg (fz mf), .int .i64 0]) ⟨[],[]⟩=Q) : ∀ (N:Nat) (a:Int) (m:Mc) (y:Lay) (q:Nat) (s:St),At p T W fuel a m y q s→Mc.go p p.bc.L T W fuel N a m=some mf→
 Sem Tryz.prog B 131 QA4 (JJ B Q) (TMr fuel q a) s:=by
 intro N
 induction N with
 |zero=>intro a m y q s _ h;cases h
 | succ N ih=>
  intro a m y q s rB kN
  have IH : ∀ (a':Int) (m':Mc) (y':Lay) (s':St) (tm:Tm),Mc.go p p.bc.L T W fuel N a' m'=some mf→At p T W fuel a' m' y' q s'→xR tm (TMr fuel q a')→JJ B Q (.goto 1) tm s':=fun a' m' y' s' tm hg hA ht=>
   FF (r:= .seq .skip QA4) rfl (lS.qX ht (lS.once (Sem.oh (ih a' m' y' q s' hA hg))))
  have auu:=rB
  obtain⟨⟨r,hr,hi⟩,pT,dO,ry,QB⟩:=rB
  simp only[Mc.go]at kN
  refine jt ?_
  have⟨hD,gA,gB,gC⟩:=cd
  have hm:=hi.kr
  rw[fX]at hm
  have sv:=hi.wF
  rcases Bool.eq_false_or_eq_true (a == -1)with ba|ba
  ·have hn:m.next p p.bc.L T W fuel a=m.back p.bc.L 0:=by unfold Mc.next;rw [if_pos ba]
   rw[hn]at kN
   repeat' (first
 |simp only[go_sem,hD,gA,gB,gC,ba]
 |(with_reducible first|refine bg fun hc=>?_|refine bh fun hc=>?_|refine bj (fun hc=>?_) fun hc=>?_)<;>(try simp only[hc,bs,↓reduceIte]at h)<;>try simp only[hc]
 |(with_reducible refine aD hQ ?_;(try cases h);simp only[aT,aV,bD,bE,go_sem,hD,gA,gB,gC,ba];try exact bX)
 |(cases h;replace h:=hr;clear hr;(try simp only[bs,↓reduceIte]at h))
 | (cases h;done))
   refine Oe hS hQ auu (g:=0) ?_ ?_
   ·rcases e:m.back p.bc.L 0 with ⟨_ | a',m'⟩
    ·rw[e]at kN;cases kN;exact .inl rfl
    ·rw[e]at kN;exact .inr ⟨a',m',rfl,fun y' s' tm h1 h2=>IH a' m' y' s' tm kN h1 h2⟩
   ·simp only [go_sem]
    repeat' (first|exact Ok.out|with_reducible refine ju ?_ ?_)
  rcases Bool.eq_false_or_eq_true (m.steps==fuel)with bf|bf
  ·have hn:m.next p p.bc.L T W fuel a=(none,{m with fin:=2}):=by unfold Mc.next;rw [if_neg (by simp [ba]),if_pos bf]
   rw[hn]at kN
   cases kN
   have h2:=hi.vQ (m':= {m with fin:=2}) rfl rfl hi.t0 hi.t1
   rw[fX]at h2
   simp only at h2
   repeat' (first
 |simp only[go_sem,hD,gA,gB,gC,ba,bf,hm,sv]
 |(with_reducible first|refine bg fun hc=>?_|refine bh fun hc=>?_|refine bj (fun hc=>?_) fun hc=>?_)<;>(try simp only[hc,bs,↓reduceIte]at h)<;>try simp only[hc]
 |(with_reducible refine aD hQ ?_;(try cases h);simp only[aT,aV,bD,bE,go_sem,hD,gA,gB,gC,ba,bf,hm,sv];try exact bX)
 |(cases h;replace h:=hr;clear hr;(try simp only[bs,↓reduceIte]at h))
 | (cases h;done))
   refine H6 hQ h2 ?_
   simp only[go_sem]
   repeat' (first|exact Ok.out|with_reducible refine ju ?_ ?_)
  -- a statement
  obtain⟨fr,rs,f,wi,h1,h2,h3,h4⟩:=Od hS.ok pT (by have:=dO.st;omega)
  have auv:a≠ -1:=by simpa using ba
  obtain⟨hx,sF,jf,c,hac,Oh⟩:=aem pT h4 hS.right auv h1
  have hfb:=hS.fuel
  have Fo:=dO.run (by omega) hS.ok hS.W hS.T
  have aCq:m.steps<fuel:=by
   have h:m.steps≠fuel:=by simpa using bf
   omega
  have xg:=dO.steps
  have H2:IntKind.wrap .i64 (m.steps+1)=m.steps+1:=eD (by omega) (by omega)
  have DW:IntKind.wrap .i64 (a - 1)=(c:Int):=by
   have:=(List.getElem?_eq_some_iff.1 Oh).1
   have:=Fo.L
   rw[show a - 1=(c:Int) by omega];exact eD (by omega) (by omega)
  have cS:(ga p)[2]? = some (.slice .shared 17 (p.bc.L.map dM)):=rfl
  have QC:=hi.vQ (m':= {m with steps:=m.steps+1}) rfl rfl hi.t0 hi.t1
  generalize pZ:fI p.bc.L a=it at *
  have auw:2≠q:=by
   have e1:=(hi.loc (q,r) (by simp)).1
   have e2:=(hi.loc (2,D2) (by simp)).1
   exact Qq e2 e1 fun e=>by have e':D2=r:=e;rw[← e']at hr;cases hr
  have I4:17≤r.length:=by omega
  have QD:List.drop 17 r = []:=List.drop_of_length_le (by omega)
  have ph:=QC.sU (r':=dM it) (by simpa using auw) (by omega)
  have ow:=QC.kr
  have Km:=(QC.loc (q,r) (by simp)).1
  have Da:=(ph.loc (q,dM it) (by simp)).1
  rw[fX]at ow ph Km Da
  simp only at ow ph Km Da
  have hle:q<s.ah.length:=gX (hi.loc (q,r) (by simp)).1
  have T4:nZ ({m with steps:=m.steps+1} : Mc) fr rs:=⟨wi.st,wi.len,wi.names,wi.vars⟩
  have T5:LM p T W ({m with steps:=m.steps+1} : Mc):=⟨Fo.W,Fo.T,Fo.trace,Fo.out,Fo.L,Fo.P,Fo.reads⟩
  have Oi:qE p p.bc.L a ({m with steps:=m.steps+1} : Mc):=pT.of rfl (Nat.le_refl _) pT.at_
  have hn:m.next p p.bc.L T W fuel a=(if it.s.kind==4 then(if(({m with steps:=m.steps+1} : Mc).call p W it.s).2.fin==0 then some (({m with steps:=m.steps+1} : Mc).call p W it.s).1 else none,(({m with steps:=m.steps+1} : Mc).call p W it.s).2)
   else if it.s.kind==9 then(if(({m with steps:=m.steps+1} : Mc).jW W it.s).2.fin==0 then(({m with steps:=m.steps+1} : Mc).jW W it.s).2.back p.bc.L (({m with steps:=m.steps+1} : Mc).jW W it.s).1 else(none,(({m with steps:=m.steps+1} : Mc).jW W it.s).2))
   else(if(({m with steps:=m.steps+1} : Mc).do p p.bc.L T W it).2.fin==0 then some (({m with steps:=m.steps+1} : Mc).do p p.bc.L T W it).1 else none,(({m with steps:=m.steps+1} : Mc).do p p.bc.L T W it).2)):=by
   unfold Mc.next
   rw[if_neg (by simp[ba]),if_neg (by simp[bf])]
   dsimp only
   rw[pZ]
  rw[hn]at kN
  generalize Qn:({m with steps:=m.steps+1} : Mc)=m1 at *
  have auy:m1.fin=0:=by rw[← Qn];exact ry
  have aac:m1.steps=m.steps+1:=by rw[← Qn]
  have T6 : ∀ m2:Mc,DZ m1 m2→m2.st.length≤101→zV m2:=fun m2 hl hs=>dO.less (by rw[Qn];exact hl) hs
  have Oj:m1.st=m.st:=by rw[← Qn]
  rcases Bool.eq_false_or_eq_true (it.s.kind==4)with b4|b4
  ·rw [if_pos b4]at kN
   have JY:it.s.kind=4:=by simpa using b4
   have c1:=Xc hS.ok hS.right.may ph T4 T5 Oi.rl (Xd hS.ok hS.right hx JY h2 h3)
   repeat' (first
 |simp only[go_sem,hD,gA,gB,gC,ba,bf,hm,sv,H2,ow,DW,Oh,cS,Km,Da,hle,b4,I4,QD,List.append_nil]
 |(with_reducible first|refine bg fun hc=>?_|refine bh fun hc=>?_|refine bj (fun hc=>?_) fun hc=>?_)<;>(try simp only[hc,bs,↓reduceIte]at h)<;>try simp only[hc]
 |(with_reducible refine aD hQ ?_;(try cases h);simp only[aT,aV,bD,bE,go_sem,hD,gA,gB,gC,ba,bf,hm,sv,H2,ow,DW,Oh,cS,Km,Da,hle,b4,I4,QD,List.append_nil];try exact bX)
 |(cases h;replace h:=hr;clear hr;(try simp only[bs,↓reduceIte]at h))
 | (cases h;done))
   refine CR c1 fun d s2 Og=>?_
   obtain⟨rfl,y2,_,D3⟩:=Og
   have pB:=D3.kr
   rw[fX]at pB
   have nu:=Xf p W m1 it.s
   have oP:(m1.call p W it.s).2.st.length≤101:=by
    rcases nu.2 with h|h
    ·rw[Oj]at h;have:=dO.st;omega
    ·exact h
   rcases Bool.eq_false_or_eq_true ((m1.call p W it.s).2.fin==0)with b|b
   ·rw [b,if_pos rfl]at kN
    repeat' (first
 |simp only[go_sem,hD,gA,gB,gC,pB,b]
 |(with_reducible first|refine bg fun hc=>?_|refine bh fun hc=>?_|refine bj (fun hc=>?_) fun hc=>?_)<;>(try simp only[hc,bs,↓reduceIte]at h)<;>try simp only[hc]
 |(with_reducible refine aD hQ ?_;(try cases h);simp only[aT,aV,bD,bE,go_sem,hD,gA,gB,gC,pB,b];try exact bX)
 |(cases h;replace h:=hr;clear hr;(try simp only[bs,↓reduceIte]at h))
 | (cases h;done))
    refine IH _ _ y2 s2 _ kN ⟨⟨dM it,rfl,D3⟩,aef hS.right Oi hx JY (by rw[sF, ← h4];unfold Mc.top;rw[Oj]) (by simpa using b) rfl auy,T6 _ nu.1 oP,by simpa using b,by rw[nu.1.steps,aac];omega⟩ ?_
    simp only[go_sem]
    repeat' (first|exact Ok.out|with_reducible refine ju ?_ ?_)
   ·rw [b,if_neg (by simp)]at kN
    cases kN
    repeat' (first
 |simp only[go_sem,hD,gA,gB,gC,pB,b]
 |(with_reducible first|refine bg fun hc=>?_|refine bh fun hc=>?_|refine bj (fun hc=>?_) fun hc=>?_)<;>(try simp only[hc,bs,↓reduceIte]at h)<;>try simp only[hc]
 |(with_reducible refine aD hQ ?_;(try cases h);simp only[aT,aV,bD,bE,go_sem,hD,gA,gB,gC,pB,b];try exact bX)
 |(cases h;replace h:=hr;clear hr;(try simp only[bs,↓reduceIte]at h))
 | (cases h;done))
    refine H6 hQ D3 ?_
    simp only[go_sem]
    repeat' (first|exact Ok.out|with_reducible refine ju ?_ ?_)
  rw[if_neg (by simp[b4])]at kN
  rcases Bool.eq_false_or_eq_true (it.s.kind==9)with b9|b9
  ·rw [if_pos b9]at kN
   have c1:=aei ph T4 (QA hS.ok hS.right hx h2 h3).said T5.W T5.trace
   repeat' (first
 |simp only[go_sem,hD,gA,gB,gC,ba,bf,hm,sv,H2,ow,DW,Oh,cS,Km,Da,hle,b4,b9,I4,QD,List.append_nil]
 |(with_reducible first|refine bg fun hc=>?_|refine bh fun hc=>?_|refine bj (fun hc=>?_) fun hc=>?_)<;>(try simp only[hc,bs,↓reduceIte]at h)<;>try simp only[hc]
 |(with_reducible refine aD hQ ?_;(try cases h);simp only[aT,aV,bD,bE,go_sem,hD,gA,gB,gC,ba,bf,hm,sv,H2,ow,DW,Oh,cS,Km,Da,hle,b4,b9,I4,QD,List.append_nil];try exact bX)
 |(cases h;replace h:=hr;clear hr;(try simp only[bs,↓reduceIte]at h))
 | (cases h;done))
   refine CR c1 fun d s2 Og=>?_
   obtain⟨rfl,y2,_,D3⟩:=Og
   have pB:=D3.kr
   rw[fX]at pB
   have sB:=T3 W m1 it.s
   have hgs:=(N0 W m1 it.s).1
   rcases Bool.eq_false_or_eq_true ((m1.jW W it.s).2.fin==0)with b|b
   ·rw [b,if_pos rfl]at kN
    repeat' (first
 |simp only[go_sem,hD,gA,gB,gC,pB,b]
 |(with_reducible first|refine bg fun hc=>?_|refine bh fun hc=>?_|refine bj (fun hc=>?_) fun hc=>?_)<;>(try simp only[hc,bs,↓reduceIte]at h)<;>try simp only[hc]
 |(with_reducible refine aD hQ ?_;(try cases h);simp only[aT,aV,bD,bE,go_sem,hD,gA,gB,gC,pB,b];try exact bX)
 |(cases h;replace h:=hr;clear hr;(try simp only[bs,↓reduceIte]at h))
 | (cases h;done))
    have Fj:m1.mem.length≤(m1.jW W it.s).2.mem.length:=by
     have hw:=kp m1 it.s.x
     unfold Mc.jW
     split
     ·dsimp only
      split
      ·rw[(gw _ _ _ _).2.1,hw.2.1];exact Nat.le_refl _
      ·rw[hw.2.1];exact Nat.le_refl _
     ·rw[(gw _ _ _ _).2.1];exact Nat.le_refl _
    refine Oe (a:=a) (g:=(m1.jW W it.s).1) hS hQ (y:=y2) ⟨⟨dM it,rfl,D3⟩,Oi.of hgs Fj Oi.at_,T6 _ sB (by rw[hgs,Oj];exact dO.st),by simpa using b,by rw[sB.steps,aac];omega⟩ ?_ ?_
    ·rcases e:(m1.jW W it.s).2.back p.bc.L (m1.jW W it.s).1 with ⟨_ | a',m'⟩
     ·rw[e]at kN;cases kN;exact .inl rfl
     ·rw[e]at kN;exact .inr ⟨a',m',rfl,fun y' s' tm h1 h2=>IH a' m' y' s' tm kN h1 h2⟩
    ·simp only [go_sem]
     repeat' (first|exact Ok.out|with_reducible refine ju ?_ ?_)
   ·rw [b,if_neg (by simp)]at kN
    cases kN
    repeat' (first
 |simp only[go_sem,hD,gA,gB,gC,pB,b]
 |(with_reducible first|refine bg fun hc=>?_|refine bh fun hc=>?_|refine bj (fun hc=>?_) fun hc=>?_)<;>(try simp only[hc,bs,↓reduceIte]at h)<;>try simp only[hc]
 |(with_reducible refine aD hQ ?_;(try cases h);simp only[aT,aV,bD,bE,go_sem,hD,gA,gB,gC,pB,b];try exact bX)
 |(cases h;replace h:=hr;clear hr;(try simp only[bs,↓reduceIte]at h))
 | (cases h;done))
    refine H6 hQ D3 ?_
    simp only[go_sem]
    repeat' (first|exact Ok.out|with_reducible refine ju ?_ ?_)
  rw[if_neg (by simp[b9])]at kN
  have c1:=auq hS.ok hS.right.may ph T4 T5 (QA hS.ok hS.right hx h2 h3)
  repeat' (first
 |simp only[go_sem,hD,gA,gB,gC,ba,bf,hm,sv,H2,ow,DW,Oh,cS,Km,Da,hle,b4,b9,I4,QD,List.append_nil]
 |(with_reducible first|refine bg fun hc=>?_|refine bh fun hc=>?_|refine bj (fun hc=>?_) fun hc=>?_)<;>(try simp only[hc,bs,↓reduceIte]at h)<;>try simp only[hc]
 |(with_reducible refine aD hQ ?_;(try cases h);simp only[aT,aV,bD,bE,go_sem,hD,gA,gB,gC,ba,bf,hm,sv,H2,ow,DW,Oh,cS,Km,Da,hle,b4,b9,I4,QD,List.append_nil];try exact bX)
 |(cases h;replace h:=hr;clear hr;(try simp only[bs,↓reduceIte]at h))
 | (cases h;done))
  refine CR c1 fun d s2 Og=>?_
  obtain⟨rfl,y2,_,D3⟩:=Og
  have pB:=D3.kr
  rw[fX]at pB
  have Ql:=aen p p.bc.L T W m1 it
  have C3:=(ab8 p p.bc.L T W m1 it).1
  rcases Bool.eq_false_or_eq_true ((m1.do p p.bc.L T W it).2.fin==0)with b|b
  ·rw [b,if_pos rfl]at kN
   repeat' (first
 |simp only[go_sem,hD,gA,gB,gC,pB,b]
 |(with_reducible first|refine bg fun hc=>?_|refine bh fun hc=>?_|refine bj (fun hc=>?_) fun hc=>?_)<;>(try simp only[hc,bs,↓reduceIte]at h)<;>try simp only[hc]
 |(with_reducible refine aD hQ ?_;(try cases h);simp only[aT,aV,bD,bE,go_sem,hD,gA,gB,gC,pB,b];try exact bX)
 |(cases h;replace h:=hr;clear hr;(try simp only[bs,↓reduceIte]at h))
 | (cases h;done))
   refine IH _ _ y2 s2 _ kN ⟨⟨dM it,rfl,D3⟩,alC hS.right Oi hx (by rw[sF, ← h4];unfold Mc.top;rw[Oj]) (by simpa using b),T6 _ Ql (by rw[C3,Oj];exact dO.st),by simpa using b,by rw[Ql.steps,aac];omega⟩ ?_
   simp only[go_sem]
   repeat' (first|exact Ok.out|with_reducible refine ju ?_ ?_)
  ·rw [b,if_neg (by simp)]at kN
   cases kN
   repeat' (first
 |simp only[go_sem,hD,gA,gB,gC,pB,b]
 |(with_reducible first|refine bg fun hc=>?_|refine bh fun hc=>?_|refine bj (fun hc=>?_) fun hc=>?_)<;>(try simp only[hc,bs,↓reduceIte]at h)<;>try simp only[hc]
 |(with_reducible refine aD hQ ?_;(try cases h);simp only[aT,aV,bD,bE,go_sem,hD,gA,gB,gC,pB,b];try exact bX)
 |(cases h;replace h:=hr;clear hr;(try simp only[bs,↓reduceIte]at h))
 | (cases h;done))
   refine H6 hQ D3 ?_
   simp only[go_sem]
   repeat' (first|exact Ok.out|with_reducible refine ju ?_ ?_)
end
end Go.Abs
