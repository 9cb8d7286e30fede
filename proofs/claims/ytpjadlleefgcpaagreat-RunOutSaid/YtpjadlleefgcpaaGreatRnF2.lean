/-
  What is proved here: part 2 of the road to the claim (Codes1, Have1, Codes2, Have2, Codes3, Codes4, Have4, Codes5, Have5, Have3, MirLex, MirMay, Prs, Lex1, Lex2, RefLex1, Prs2, Ref1, Ref2, RefMay2, Flat1, Flat2, Flat3, Sl1, MirFlat2, Sl2, TMay1, TMay2, RefMay3, RefMay4, TMay3, TMay4, MayFine, MayEq, Nm1, Nm2, Nm3, MayEq2, Sc1).
  No conditions.
-/
import Derived.Test.YtpjadlleefgcpaaGreatRnF1
import Derived.Test.YtpjadlleefgcpaaGreatProg
import Derived.KernelRfl

set_option linter.unusedSimpArgs false
set_option linter.unusedVariables false
namespace Go.Abs
abbrev Q8O:AC:= .seq (.run [.o 1 (.box br),(.o 2 (.mv (.k (.val (.complex .f64 0 0)))))]) (.seq (.run [.o 3 (.aq bt 1), .o 4 (.load cB false 1), .o 5 (.qX (.ofInt .f64) fi fi), .o 6 (.aq bt 2), .o 7 (.load dB false 1), .o 8 (.qX (.ofInt .f64) cW cW), .o 9 (.qX .H6 ct cR), .m 2 dn]) .ret)
abbrev Q8Q:AC:= .run [(.o 3 (.du [(.str [])] 1 1 [(0,(.k (.str [118])))])), .c 4 rC [(.k (.int .i64 2))],(.o 5 (.build [(.int .i64 0),(.int .i64 0),(.slice .full 0 []),(.str []),(.str []),(.int .i64 0),(.int .i64 0),(.str []),(.slice .full 0 []),(.bool false),(.slice .full 0 []),(.slice .full 0 []),(.slice .full 0 [])] [(0,(1,(.k (.int .i64 1)))),(1,(1,(.k (.int .i64 1)))),(3,(1,(.k (.str [118])))),(5,(4,fi))])), .c 6 rC [(.k (.int .i64 3))], .o 7 (.build [(.bool false),(.str []),(.int .i64 0),(.int .i64 0),(.str []),(.slice .full 0 [])] [(2,(4,dB))]),(.o 8 (.build [(.bool false),(.str []),(.int .i64 0),(.int .i64 0),(.str []),(.slice .full 0 [])] [(0,(1,(.k (.bool true)))),(1,(1,(.k (.str [118]))))])), .o 9 (.du [(.bool false),(.str []),(.int .i64 0),(.int .i64 0),(.str []),(.slice .full 0 [])] 6 2 [(0,cW),(1,cR)]),(.o 10 (.build [(.int .i64 0),(.int .i64 0),(.slice .full 0 []),(.str []),(.str []),(.int .i64 0),(.int .i64 0),(.str []),(.slice .full 0 []),(.bool false),(.slice .full 0 []),(.slice .full 0 []),(.slice .full 0 [])] [(0,(1,(.k (.int .i64 2)))),(1,(1,(.k (.int .i64 4)))),(3,(1,(.k (.str [103])))),(4,(1,(.k (.str [112])))),(10,(1,dn))])),(.c 11 lg [(.k (.str [118]))]),(.o 12 (.build [(.int .i64 0),(.int .i64 0),(.slice .full 0 []),(.str []),(.str []),(.int .i64 0),(.int .i64 0),(.str []),(.slice .full 0 []),(.bool false),(.slice .full 0 []),(.slice .full 0 []),(.slice .full 0 [])] [(0,(1,(.k (.int .i64 3)))),(1,(1,(.k (.int .i64 3)))),(5,(4,cD))])),(.c 13 lg [(.k (.str [103]))]),(.o 14 (.build [(.int .i64 0),(.int .i64 0),(.slice .full 0 []),(.str []),(.str []),(.int .i64 0),(.int .i64 0),(.str []),(.slice .full 0 []),(.bool false),(.slice .full 0 []),(.slice .full 0 []),(.slice .full 0 [])] [(0,(1,(.k (.int .i64 4)))),(1,(1,(.k (.int .i64 3)))),(5,(4,db))])), .o 15 (.du [(.int .i64 0),(.int .i64 0),(.slice .full 0 []),(.str []),(.str []),(.int .i64 0),(.int .i64 0),(.str []),(.slice .full 0 []),(.bool false),(.slice .full 0 []),(.slice .full 0 []),(.slice .full 0 [])] 13 4 [(0,ct),(1,cd),(2,cT),(3,cJ)]),(.o 16 (.build [(.str []),(.slice .full 0 []),(.slice .full 0 []),(.slice .full 0 []),(.slice .full 0 [])] [(0,(1,(.k (.str [109,97,105,110])))),(2,(1,cB)),(3,(1,dA))])), .o 1 (.alloc [(.str []),(.slice .full 0 []),(.slice .full 0 []),(.slice .full 0 []),(.slice .full 0 [])]), .op none none (.store bt df 5)]
abbrev Q8R:AC:= .run [(.o 17 (.build [(.str []),(.bool false)] [(0,(1,(.k (.str [120]))))])),(.o 18 (.build [(.str []),(.bool false)] [(0,(1,(.k (.str [121])))),(1,(1,(.k (.bool true))))])), .o 19 (.du [(.str []),(.bool false)] 2 2 [(0,dC),(1,dD)]),(.o 20 (.du [(.str [])] 1 1 [(0,(.k (.str [101])))])),(.c 21 lg [(.k (.str [121]))]),(.c 22 lg [(.k (.str [120]))]), .c 23 uU [(.k (.int .i64 8)),dV,eD],(.o 24 (.build [(.int .i64 0),(.int .i64 0),(.slice .full 0 []),(.str []),(.str []),(.int .i64 0),(.int .i64 0),(.str []),(.slice .full 0 []),(.bool false),(.slice .full 0 []),(.slice .full 0 []),(.slice .full 0 [])] [(0,(1,(.k (.int .i64 5)))),(1,(1,(.k (.int .i64 1)))),(3,(1,(.k (.str [121])))),(5,(4,eH))])),(.c 25 lg [(.k (.str [121]))]), .c 26 rC [(.k (.int .i64 9))], .c 27 uU [(.k (.int .i64 12)),eU,fp],(.o 28 (.build [(.int .i64 0),(.int .i64 0),(.slice .full 0 []),(.str []),(.str []),(.int .i64 0),(.int .i64 0),(.str []),(.slice .full 0 []),(.bool false),(.slice .full 0 []),(.slice .full 0 []),(.slice .full 0 [])] [(0,(1,(.k (.int .i64 7)))),(1,(1,(.k (.int .i64 10)))),(3,(1,(.k (.str [101]))))])), .o 29 (.du [(.int .i64 0),(.int .i64 0),(.slice .full 0 []),(.str []),(.str []),(.int .i64 0),(.int .i64 0),(.str []),(.slice .full 0 []),(.bool false),(.slice .full 0 []),(.slice .full 0 []),(.slice .full 0 [])] 13 1 [(0,gb)]),(.o 30 (.build [(.int .i64 0),(.int .i64 0),(.slice .full 0 []),(.str []),(.str []),(.int .i64 0),(.int .i64 0),(.str []),(.slice .full 0 []),(.bool false),(.slice .full 0 []),(.slice .full 0 []),(.slice .full 0 [])] [(0,(1,(.k (.int .i64 6)))),(1,(1,(.k (.int .i64 5)))),(5,(4,fq)),(11,(1,fY))])),(.c 31 lg [(.k (.str [121]))]),(.o 32 (.build [(.int .i64 0),(.int .i64 0),(.slice .full 0 []),(.str []),(.str []),(.int .i64 0),(.int .i64 0),(.str []),(.slice .full 0 []),(.bool false),(.slice .full 0 []),(.slice .full 0 []),(.slice .full 0 [])] [(0,(1,(.k (.int .i64 8)))),(1,(1,(.k (.int .i64 9)))),(9,(1,(.k (.bool true)))),(5,(4,gp))])), .o 33 (.du [(.int .i64 0),(.int .i64 0),(.slice .full 0 []),(.str []),(.str []),(.int .i64 0),(.int .i64 0),(.str []),(.slice .full 0 []),(.bool false),(.slice .full 0 []),(.slice .full 0 []),(.slice .full 0 [])] 13 3 [(0,eR),(1,gE),(2,gP)]),(.o 34 (.build [(.str []),(.slice .full 0 []),(.slice .full 0 []),(.slice .full 0 []),(.slice .full 0 [])] [(0,(1,(.k (.str [112])))),(1,(1,dU)),(4,(1,eA)),(3,(1,gF))])), .o 2 (.alloc [(.str []),(.slice .full 0 []),(.slice .full 0 []),(.slice .full 0 []),(.slice .full 0 [])]), .op none none (.store dw iA 5)]
abbrev Q8T:AC:= .seq (.run [(.o 35 (.du [(.str [])] 1 1 [(0,(.k (.str [103])))])), .o 36 (.load bt true 5), .o 37 (.load dw true 5), .o 38 (.du [(.str []),(.slice .full 0 []),(.slice .full 0 []),(.slice .full 0 []),(.slice .full 0 [])] 5 2 [(0,iB),(1,je)]), .o 39 (.build [(.slice .full 0 []),(.slice .full 0 [])] [(0,(1,gQ)),(1,(1,j7))]), .op none none (.store br jN 2)]) .ret
abbrev Q8W:AC:= .seq (.run [.o 0 (.alloc [(.slice .full 0 []),(.slice .full 0 [])])]) (.seq Q8Q (.seq Q8R Q8T))
abbrev Q96:AC:= .seq (.seq (.run [.m 6 ct, .m 7 br, .o 8 (.len cW), .o 9 (.bin .lss dB cR), .m 10 dn, .g 11 10 true (.mv bt), .g 12 10 true (.bin .leq cD (.k (.int .i64 20000))), .o 13 (.pick cd cT (.k (.bool false)))]) (.cond db .skip (.exit 0))) (.seq (.block 1 (.run [.m 16 br, .m 17 ct, .o 18 (.cm df dC 1), .o 19 (.load dD false 1), .m 20 bt, .c 21 gn [dU,eA], .m 1 dV])) (.run [.m 14 ct, .o 15 (.bin .add cJ (.k (.int .i64 1))), .m 5 dA]))
abbrev Q9C:AC:= .seq (.seq (.run [.o 5 (.mv (.k (.int .i64 0)))]) (.block 0 (.loop Q96))) (.seq (.run [.m 22 bt, .m 4 eD]) .ret)
abbrev Q9D:AC:= .seq (.run [.o 4 (.mv (.k (.int .i64 0)))]) Q9C
abbrev Q9I:AC:= .cond db (.seq (.run [.o 4 (.mv (.k (.int .i64 20001)))]) .ret) .skip
abbrev Q9M:AC:= .seq (.seq (.run [.m 5 bt, .o 6 (.bin .gtr ct (.k (.int .i64 20000))), .m 7 dB, .g 8 7 false (.mv br), .g 9 7 false (.vh cR), .g 10 7 false (.mv bt), .g 11 7 false (.bin .sub (.k (.int .i64 20000)) cd), .g 12 7 false (.bin .geq dn cD), .o 13 (.pick cW (.k (.bool true)) cT)]) Q9I) (.seq (.run [.m 14 bt, .o 15 (.bin .add cJ (.k (.int .i64 1))), .m 16 br, .o 17 (.vh df), .o 18 (.bin .add dA dC), .m 4 dD]) .ret)
abbrev Q9N:AC:= .seq (.run [.o 4 (.mv (.k (.int .i64 0)))]) Q9M
abbrev Q9U:AC:= .par [.o 22 (.aq dB 4), .o 23 (.load eD false 1), .o 24 (.aq dB 3), .o 25 (.load eR false 1), .o 26 (.aq dB 2), .o 27 (.load fp false 1), .o 28 (.aq dB 5), .o 29 (.load gb true 4), .m 30 bt, .c 31 jY [fY,gE], .c 32 jH [fq,gp], .c 33 gn [eU,gP], .c 34 gn [eH,gF], .m 1 iA] [(6,0),(7,0),(8,0),(9,0),(4,0),(5,1),(10,0),(2,0),(3,2),(11,0),(0,0),(1,3),(12,0),(13,0)]
abbrev Q9Z:AC:= .par [.o 46 (.aq dB 10), .o 47 (.load lI false 1), .m 48 cW, .o 49 (.cm lS kW 6), .o 50 (.aq kX 1), .o 51 (.load lJ false 1), .o 52 (.aq dB 10), .o 53 (.load kK false 1), .m 54 cW, .o 55 (.cm kY lK 6), .o 56 (.aq lL 2), .o 57 (.load nq true 4), .m 58 bt, .c 59 jY [oE,nX], .c 60 gn [kJ,lT], .m 1 pb] [(6,0),(7,0),(8,0),(9,0),(10,0),(11,0),(12,0),(13,0),(0,0),(1,1),(2,0),(3,0),(4,0),(5,1),(14,0),(15,0)]
abbrev QA3:AC:= .seq (.seq (.run [.m 35 cW, .o 36 (.aq dB 10), .o 37 (.load iB false 1), .o 38 (.len je), .o 39 (.bin .lss gQ j7), .m 40 jN, .g 41 40 true (.mv bt), .g 42 40 true (.bin .leq j8 (.k (.int .i64 20000))), .o 43 (.pick ku kH (.k (.bool false)))]) (.cond kv .skip (.exit 2))) (.seq (.block 3 Q9Z) (.run [.m 44 cW, .o 45 (.bin .add kI (.k (.int .i64 1))), .m 7 lH]))
abbrev QA7:AC:= .par [.o 61 (.aq dB 12), .o 62 (.load qF false 1), .o 63 (.aq dB 11), .o 64 (.load qG false 1), .m 65 bt, .c 66 kO [qH,um], .c 67 kO [pU,vH], .m 1 xB] [(2,0),(3,0),(4,0),(5,0),(0,0),(1,1),(6,0),(7,0)]
abbrev QA8:AC:= .seq (.seq (.run [.o 7 (.mv (.k (.int .i64 0)))]) (.block 2 (.loop QA3))) QA7
abbrev QAD:AC:= .seq (.block 1 (.seq (.run [.m 18 br, .m 19 ct, .o 20 (.cm dD dU 13), .o 21 (.load eA true 13), .o 6 (.alloc [(.int .i64 0),(.int .i64 0),(.slice .full 0 []),(.str []),(.str []),(.int .i64 0),(.int .i64 0),(.str []),(.slice .full 0 []),(.bool false),(.slice .full 0 []),(.slice .full 0 []),(.slice .full 0 [])]), .op none none (.store dB dV 13)]) (.seq Q9U QA8))) (.run [.m 16 ct, .o 17 (.bin .add df (.k (.int .i64 1))), .m 5 dC])
abbrev QAE:AC:= .seq (.seq (.run [.m 8 ct, .m 9 br, .o 10 (.len dn), .o 11 (.bin .lss cR cd), .m 12 cD, .g 13 12 true (.mv bt), .g 14 12 true (.bin .leq db (.k (.int .i64 20000))), .o 15 (.pick cT cJ (.k (.bool false)))]) (.cond dA .skip (.exit 0))) QAD
abbrev QAK:AC:= .seq (.seq (.run [.o 5 (.mv (.k (.int .i64 0)))]) (.block 0 (.loop QAE))) (.seq (.run [.m 68 bt, .m 4 vI]) .ret)
abbrev QAL:AC:= .seq (.run [.o 4 (.mv (.k (.int .i64 0)))]) QAK
abbrev QAS:AC:= .par [.m 17 cB, .m 18 cB, .o 19 (.bS dD), .o 20 (.aq dU 3), .o 21 (.load eA false 1), .m 22 cB, .o 23 (.bS eD), .o 24 (.aq eH 2), .o 25 (.load eR false 1), .o 26 (.len eU), .o 27 (.bin .add fp (.k (.int .i64 1))), .o 28 (.du [(.int .i64 0)] 1 1 [(0,fq)]), .o 29 (.app 1 8 dV gb), .o 30 (.bS dC), .o 31 (.aq gE 3), .op none none (.store gp fY 1)] [(1,0),(2,0),(3,0),(4,0),(5,0),(6,0),(7,0),(8,0),(9,0),(10,0),(11,0),(12,0),(0,0),(13,0),(14,0),(15,0)]
abbrev QAU:AC:= .par [.m 38 cB, .m 39 cB, .o 40 (.bS jN), .o 41 (.aq ku 4), .o 42 (.load j8 false 1), .m 43 cB, .o 44 (.bS kv), .o 45 (.aq kI 2), .o 46 (.load lH false 1), .o 47 (.len lI), .o 48 (.bin .add lS (.k (.int .i64 1))), .o 49 (.du [(.int .i64 0)] 1 1 [(0,kW)]), .o 50 (.app 1 8 kH kX), .o 51 (.bS j7), .o 52 (.aq kJ 4), .op none none (.store kK lJ 1)] [(1,0),(2,0),(3,0),(4,0),(5,0),(6,0),(7,0),(8,0),(9,0),(10,0),(11,0),(12,0),(0,0),(13,0),(14,0),(15,0)]
abbrev QAV:AC:= .seq (.run [.m 32 cB, .o 33 (.aq ct 3), .o 34 (.load gF false 1), .m 35 fi,(.o 36 (.build [(.int .i64 0),(.int .i64 0),(.slice .full 0 []),(.str []),(.str []),(.int .i64 0),(.int .i64 0),(.str []),(.slice .full 0 []),(.bool false),(.slice .full 0 []),(.slice .full 0 []),(.slice .full 0 []),(.int .i64 0),(.int .i64 0),(.int .i64 0),(.int .i64 0)] [(13,(1,gQ)),(15,(1,(.k (.int .i64 (-1)))))])), .c 37 jZ [gP,iA,iB]]) QAU
abbrev QB0:AC:= .seq (.block 1 (.seq (.run [.m 14 cT, .o 15 (.cm cd cT 5), .o 16 (.load dA true 5), .o 5 (.alloc [(.str []),(.slice .full 0 []),(.slice .full 0 []),(.slice .full 0 []),(.slice .full 0 [])]), .m 4 cJ, .op none none (.store ct df 5)]) (.seq QAS QAV))) (.run [.o 53 (.bin .add cT (.k (.int .i64 1))), .m 12 kY])
abbrev QB4:AC:= .block 0 (.loop (.seq (.run [.o 13 (.bin .lss cT cD)]) (.seq (.cond db .skip (.exit 0)) QB0)))
abbrev QB8:AC:= .seq (.seq (.run [.o 9 (.aq bt 1), .o 10 (.load dn false 1), .o 11 (.len cd), .o 12 (.mv (.k (.int .i64 0)))]) QB4) (.seq (.run [.m 54 cB, .m 2 lK]) .ret)
abbrev QBA:AC:= .seq (.run [.o 1 (.box br), .o 2 (.mv (.k .dR))]) (.seq (.run [.o 6 (.load bt true 2), .o 7 (.build [(.slice .full 0 []),(.slice .full 0 []),(.slice .full 0 []),(.slice .full 0 []),(.slice .full 0 [])] [(0,(2,dB))]), .o 8 (.box cW), .m 3 cR]) QB8)
abbrev QBD:AC:= .par [.m 22 bt, .m 23 br, .o 24 (.bS eH), .o 25 (.aq eR 0), .o 26 (.load eU false 1), .o 27 (.bS fp), .o 28 (.aq fq 0), .o 29 (.load gb true 2), .o 30 (.aq dn 0), .o 31 (.load gE false 1), .c 32 vB [fY,gp], .m 33 cB, .o 34 (.build [(.int .i64 0),(.slice .full 0 []),(.slice .full 0 []),(.int .i64 0)] [(0,(1,eD)),(1,(1,gP)),(3,(1,gF))]), .o 35 (.box iA), .m 10 gQ] [(1,0),(2,0),(3,0),(4,0),(5,0),(6,0),(7,0),(8,0),(9,0),(10,0),(0,0),(11,0),(12,0),(13,0),(14,0)]
abbrev QBE:AC:= .par [.m 36 cd, .m 37 cd, .o 38 (.bS je), .o 39 (.aq j7 2), .o 40 (.load jN false 1), .m 41 br, .o 42 (.bS j8), .o 43 (.aq kH 1), .o 44 (.load kv false 1), .o 45 (.app 1 8 ku kI), .m 46 dw, .o 47 (.app 1 8 lH lI), .o 48 (.bS iB), .o 49 (.aq kW 2), .op none none (.store kX lS 1)] [(1,0),(2,0),(3,0),(4,0),(5,0),(6,0),(7,0),(8,0),(9,0),(10,0),(11,0),(0,0),(12,0),(13,0),(14,0)]
abbrev QBM:AC:= .seq (.cond lK .skip (.exit 0)) (.seq (.block 1 (.run [.m 55 cd, .m 56 cd, .o 57 (.bS nq), .o 58 (.aq oE 2), .o 59 (.load nX false 1), .o 60 (.alloc [(.int .i64 0)]), .o 61 (.du [.dR] 1 1 [(0,pb)]), .o 62 (.app 1 8 lT qF), .o 63 (.bS lL), .o 64 (.aq qG 2), .op none none (.store qH pU 1)])) (.run [.o 65 (.bin .add kY (.k (.int .i64 1))), .m 53 um]))
abbrev QBN:AC:= .seq (.run [.o 54 (.bin .lss kY kK)]) QBM
abbrev QBU:AC:= .seq (.run [.m 66 br, .m 67 br, .o 68 (.bS xB), .o 69 (.aq vI 4), .o 70 (.load zi false 1), .m 71 cd, .o 72 (.du [.dR] 1 1 [(0,Ds)]), .o 73 (.app 1 8 zj Bn), .o 74 (.bS vH), .o 75 (.aq Dt 4), .op none none (.store Du Bo 1)]) (.seq (.run [.m 76 br, .o 77 (.bS Bp), .o 78 (.aq Dv 0), .o 79 (.load zk false 1), .m 80 bt, .c 81 o7 [Fz,FA], .m 8 FB]) .ret)
abbrev QBV:AC:= .seq (.seq (.run [.o 50 (.aq dn 2), .o 51 (.load lJ false 1), .o 52 (.len kJ), .o 53 (.mv (.k (.int .i64 0)))]) (.block 0 (.loop QBN))) QBU
abbrev QBZ:AC:= .seq (.run [.o 8 (.mv (.k (.int .i64 0)))]) (.seq (.run [.m 11 br, .o 12 (.bS cD), .o 13 (.aq cT 0), .o 14 (.load db false 1), .o 15 (.bS cJ), .o 16 (.aq dA 0), .o 17 (.aq df 1), .o 18 (.load dC false 1), .m 19 bt, .o 20 (.cm dD dU 5), .o 21 (.load eA true 5), .o 9 (.alloc [(.str []),(.slice .full 0 []),(.slice .full 0 []),(.slice .full 0 []),(.slice .full 0 [])]), .op none none (.store dn dV 5)]) (.seq QBD (.seq QBE QBV)))
abbrev QC3:AC:= .seq (.run [.o 3 (.box bt), .o 4 (.mv (.k (.int .i64 0)))]) (.seq (.run [.m 5 br, .o 6 (.bS ct), .o 7 (.aq dB 0), .o 8 (.aq cW 1), .o 9 (.load cR false 1), .o 10 (.uP 76 [cB]), .c 11 gh [dn,cd], .m 4 cD]) .ret)
abbrev QCE:AC:= .seq (.run [.o 18 (.aq cW 0), .o 19 (.load dD false 1)]) (.cond dU (.seq (.run [.m 20 ct, .m 21 br, .o 22 (.aq cW 1), .o 23 (.load eD false 1), .c 24 iI [dV,eH], .o 25 (.du [.dR] 1 1 [(0,eR)]), .o 26 (.app 1 8 eA eU), .m 5 fp]) (.exit 1)) .skip)
abbrev QCI:AC:= .seq (.run [(.o 4 (.mv (.k (.int .i64 (-1)))))]) .ret
abbrev QCP:AC:= .seq (.run [.m 28 br, .o 29 (.aq cW 2), .o 30 (.load fY true 4), .c 31 jS [gb,gE], .m 27 gp, .o 32 (.ext fq 0), .o 33 (.ext fq 1), .m 8 gP, .m 9 gF]) (.seq (.seq (.run [.m 34 dn, .o 35 (.un .not iA)]) (.cond gQ QCI .skip)) (.seq (.run [.m 36 cR, .o 10 (.alloc [(.int .i64 0)]), .op none none (.store cd iB 1)]) (.run [.m 37 ct, .o 38 (.du [.dR] 1 1 [(0,cd)]), .o 39 (.app 1 8 je j7), .m 5 jN])))
abbrev QCU:AC:= .seq (.block 1 (.seq (.run [.o 16 (.cm cT cJ 6), .o 17 (.load df true 6), .o 7 (.alloc [(.bool false),(.str []),(.int .i64 0),(.int .i64 0),(.str []),(.slice .full 0 [])]), .op none none (.store cW dC 6)]) (.seq QCE QCP))) (.run [.o 40 (.bin .add cJ (.k (.int .i64 1))), .m 14 ku])
abbrev QCW:AC:= .seq (.run [.o 15 (.bin .lss cJ db)]) (.seq (.cond dA .skip (.exit 0)) QCU)
abbrev QD3:AC:= .seq (.run [(.o 4 (.mv (.k (.int .i64 (-1)))))]) .ret
abbrev QD5:AC:= .cond lI (.seq (.run [.m 47 br, .o 48 (.bS lS), .o 49 (.aq kW 6), .o 50 (.aq kX 0), .op none none (.store lJ (.k (.int .i64 5)) 1)]) QD3) .skip
abbrev QD8:AC:= .par [.m 55 br, .m 56 br, .o 57 (.bS nq), .o 58 (.aq oE 0), .o 59 (.load nX false 1), .o 60 (.aq cB 4), .o 61 (.load pb false 1), .c 62 iz [lT,qF], .m 63 ct, .o 64 (.aq cB 0), .o 65 (.load qH false 1), .c 66 jl [lL,pU,qG,um], .m 4 vH] [(1,0),(2,0),(3,0),(4,0),(5,0),(6,0),(7,0),(0,0),(8,0),(9,0),(10,1),(11,0),(12,0)]
abbrev QDB:AC:= .seq (.seq (.run [.m 41 br, .o 42 (.bS j8), .o 43 (.aq kH 4), .o 44 (.load kv false 1), .o 45 (.len kI), .o 46 (.bin .gtr lH (.k (.int .i64 100)))]) QD5) (.seq (.run [.m 51 br, .o 52 (.aq cB 0), .o 53 (.load kK false 1),(.c 54 ek [kJ,kY,(.k (.slice .full 0 []))])]) (.seq QD8 .ret))
abbrev QDC:AC:= .seq (.seq (.run [.o 11 (.aq cB 10), .o 12 (.load cD false 1), .o 13 (.len cT), .o 14 (.mv (.k (.int .i64 0)))]) (.block 0 (.loop QCW))) QDB
abbrev QDE:AC:= .seq (.run [.o 3 (.box bt), .o 4 (.mv (.k (.int .i64 0)))]) (.seq (.run [.o 5 (.mv (.k (.slice .full 0 [])))]) QDC)
abbrev QDK:AC:= .seq (.run [.m 10 br, .o 11 (.aq cB 0), .o 12 (.load cD false 1),(.c 13 ek [cd,cT,(.k (.slice .full 0 []))])]) (.seq (.run [.o 4 (.mv (.k (.int .i64 0)))]) .ret)
abbrev QDU:AC:= .seq (.seq (.run [.m 21 dB]) (.cond dV (.run [.m 22 br, .o 23 (.aq cB 0), .o 24 (.load eH false 1), .m 25 ct, .o 26 (.du [(.int .i64 0)] 1 1 [(0,eU)]), .c 27 ek [eD,eR,fp]]) .skip)) (.seq (.run [.m 28 ct, .m 4 gb]) .ret)
abbrev QDX:AC:= .seq (.run [.o 3 (.box bt), .o 4 (.mv (.k (.int .i64 0)))]) (.seq (.seq (.run [.o 7 (.aq cB 9), .o 8 (.load cW false 1), .o 9 (.un .not cR)]) (.cond dn QDK .skip)) (.seq (.run [.m 15 br, .o 16 (.aq cB 5), .o 17 (.load df true 4), .c 18 jS [dA,dC], .m 14 dD, .o 19 (.ext cJ 0), .o 20 (.ext cJ 1), .m 5 dU, .m 6 eA]) QDU))
abbrev QE3:AC:= .par [.m 21 br, .o 22 (.bS dV), .o 23 (.aq eD 0), .o 24 (.load eH false 1), .o 25 (.bS eR), .o 26 (.aq eU 2), .o 27 (.load fp false 1), .o 28 (.aq cB 16), .o 29 (.load gb false 1), .o 30 (.bin .sub fY (.k (.int .i64 1))), .o 31 (.cm fq gE 17), .o 32 (.aq gp 15), .o 33 (.load gP false 1), .m 4 gF] [(0,0),(1,0),(2,0),(3,0),(4,0),(5,0),(6,0),(7,0),(8,0),(9,0),(10,0),(11,0),(12,0),(13,0)]
abbrev QED:AC:= .par [.m 49 br, .o 50 (.bS kX), .o 51 (.aq lJ 0), .o 52 (.load kJ false 1), .o 53 (.aq cB 13), .o 54 (.load kY false 1), .o 55 (.aq ct 3), .o 56 (.load lL false 1), .c 57 oO [kK,lK,nq], .m 48 oE, .o 58 (.ext kW 0), .o 59 (.ext kW 1), .m 6 nX, .m 7 lT] [(0,0),(1,0),(2,0),(3,0),(4,0),(5,0),(6,0),(7,0),(8,0),(9,0),(10,0),(11,0),(12,0),(13,0)]
abbrev QEJ:AC:= .par [.m 63 br, .o 64 (.bS qG), .o 65 (.aq qH 6), .o 66 (.aq um 2), .o 67 (.load vH false 1), .m 68 br, .o 69 (.bS vI), .o 70 (.aq zi 2), .o 71 (.load zj false 1), .o 72 (.len Ds), .o 73 (.bin .geq xB Bn)] [(0,0),(1,0),(2,0),(3,0),(4,0),(5,0),(6,0),(7,0),(8,0),(9,0),(10,0)]
abbrev QEM:AC:= .seq (.run [(.o 4 (.mv (.k (.int .i64 (-1)))))]) .ret
abbrev QEO:AC:= .cond Bo (.seq (.run [.m 74 br, .o 75 (.bS Dt), .o 76 (.aq Du 6), .o 77 (.aq Bp 0), .op none none (.store Dv (.k (.int .i64 3)) 1)]) QEM) .skip
abbrev QEQ:AC:= .par [.m 78 br, .o 79 (.bS zk), .o 80 (.aq Fz 2), .o 81 (.load FA false 1), .m 82 br, .o 83 (.bS Jh), .o 84 (.aq Ji 6), .o 85 (.aq Jj 2), .o 86 (.load Jk false 1), .o 87 (.cm FB Jl 1), .o 88 (.load Jm false 1), .m 8 Jn] [(0,0),(1,0),(2,0),(3,0),(4,0),(5,0),(6,0),(7,0),(8,0),(9,0),(10,0),(11,0)]
abbrev QEY:AC:= .seq (.run [.m 89 br, .o 90 (.bS Dw), .o 91 (.aq FC 6), .o 92 (.aq Jo 2), .o 93 (.load OS false 1), .o 94 (.bin .add UT (.k (.int .i64 1))), .o 95 (.bS Dw), .o 96 (.aq UW 6), .o 97 (.aq acD 2), .op none none (.store acE UU 1)]) (.seq (.run [.m 98 br, .o 99 (.aq ct 3), .o 100 (.load acG false 1), .c 101 iI [acF,W9], .m 102 cR, .o 103 (.bS Xa), .op none none (.store Xc Xb 1)]) (.seq (.run [.m 104 br, .o 105 (.aq ct 0), .o 106 (.load Xe false 1), .m 107 cR, .o 108 (.du [(.int .i64 0)] 1 1 [(0,Xg)]), .c 109 ek [Xd,Xf,Xh]]) (.seq (.run [.o 110 (.aq cB 15), .o 111 (.load Xi false 1), .m 4 Xj]) .ret)))
abbrev QF3:AC:= .cond kH (.seq (.run [.m 44 br, .o 45 (.aq ct 0), .o 46 (.load lH false 1),(.c 47 ek [kI,lI,(.k (.slice .full 0 []))])]) (.seq QED (.seq (.run [.m 60 dB, .m 4 pb]) .ret))) (.seq (.run [.o 62 (.bin .eql cJ (.k (.int .i64 2))), .m 61 pU]) (.cond qF (.seq (.seq QEJ QEO) (.seq QEQ QEY)) .skip))
abbrev QF5:AC:= .cond iA (.seq (.run [.m 36 br, .o 37 (.aq ct 0), .o 38 (.load je false 1),(.c 39 ek [iB,j7,(.k (.slice .full 0 []))])]) (.seq (.run [.o 40 (.aq cB 16), .o 41 (.load ku false 1), .m 4 j8]) .ret)) (.seq (.run [.o 43 (.bin .eql cJ (.k (.int .i64 10))), .m 42 kv]) QF3)
abbrev QF7:AC:= .cond dA (.seq (.run [.m 17 br, .o 18 (.aq ct 0), .o 19 (.load dD false 1),(.c 20 ek [dC,dU,(.k (.slice .full 0 []))])]) (.seq QE3 .ret)) (.seq (.run [.o 35 (.bin .eql cJ (.k (.int .i64 8))), .m 34 gQ]) QF5)
abbrev QF9:AC:= .block 0 (.seq (.run [.o 16 (.bin .eql cJ (.k (.int .i64 7))), .m 15 df]) QF7)
abbrev QFE:AC:= .seq (.run [(.o 4 (.mv (.k (.int .i64 (-1)))))]) .ret
abbrev QFV:AC:= .seq (.seq (.run [.m 153 dn, .o 154 (.bin .neq agw (.k (.int .i64 0)))]) (.cond agx (.seq (.run [.o 155 (.aq ct 11), .o 156 (.load agy false 1), .o 157 (.aq cB 15), .o 158 (.load agA false 1), .c 159 qd [agz,agB], .m 4 agC]) .ret) .skip)) (.seq (.run [.o 160 (.aq ct 12), .o 161 (.load agD false 1), .o 162 (.aq cB 15), .o 163 (.load agF false 1), .c 164 qd [agE,agG], .m 4 agH]) .ret)
abbrev QG2:AC:= .cond agI (.seq (.run [.m 167 dn, .o 168 (.bin .neq agK (.k (.int .i64 0)))]) (.cond agL (.seq (.run [.o 169 (.aq ct 11), .o 170 (.load agM false 1), .o 171 (.aq ct 0), .o 172 (.load agO false 1), .c 173 qd [agN,agP], .m 4 agQ]) .ret) .skip)) .skip
abbrev QG4:AC:= .cond agu QFV (.seq (.run [.o 166 (.bin .eql Em (.k (.int .i64 6))), .m 165 agJ]) QG2)
abbrev QG6:AC:= .cond agf (.run [.m 139 br, .m 140 br, .o 141 (.bS agj), .o 142 (.aq agk 6), .o 143 (.aq agl 3), .o 144 (.load agm false 1), .m 145 dn, .o 146 (.du [(.int .i64 0)] 1 1 [(0,ago)]), .o 147 (.app 1 8 agn agp), .o 148 (.bS agi), .o 149 (.aq agr 6), .o 150 (.aq ags 3), .op none none (.store agt agq 1)]) (.seq (.run [.o 152 (.bin .eql Em (.k (.int .i64 5))), .m 151 agv]) QG4)
abbrev QG8:AC:= .cond Xy (.run [.m 131 br, .o 132 (.aq ct 3), .o 133 (.load aga false 1), .c 134 iI [af9,agb], .m 135 dn, .o 136 (.bS agc), .op none none (.store age agd 1)]) (.seq (.run [.o 138 (.bin .eql Em (.k (.int .i64 3))), .m 137 agh]) QG6)
abbrev QGA:AC:= .block 1 (.seq (.run [.o 130 (.bin .eql Em (.k (.int .i64 1))), .m 129 Xz]) QG8)
abbrev QGG:AC:= .seq (.seq (.run [.m 119 cd, .o 120 (.un .not Xq)]) (.cond Xr QFE .skip)) (.seq (.run [.m 121 br, .o 122 (.aq ct 0), .o 123 (.load Xt false 1), .m 124 dn, .o 125 (.du [(.int .i64 0)] 1 1 [(0,Xv)]), .c 126 ek [Xs,Xu,Xw]]) (.seq (.seq (.run [.o 127 (.aq ct 1), .o 128 (.load Xx false 1)]) QGA) (.seq (.run [.o 174 (.aq cB 15), .o 175 (.load agR false 1), .m 4 agS]) .ret)))
abbrev QGK:AC:= .seq (.run [.o 3 (.box bt), .o 4 (.mv (.k (.int .i64 0)))]) (.seq (.run [.o 11 (.aq cB 0), .o 12 (.load cD true 13), .o 5 (.alloc [(.int .i64 0),(.int .i64 0),(.slice .full 0 []),(.str []),(.str []),(.int .i64 0),(.int .i64 0),(.str []),(.slice .full 0 []),(.bool false),(.slice .full 0 []),(.slice .full 0 []),(.slice .full 0 [])]), .op none none (.store ct cT 13)]) (.seq (.seq (.run [.o 13 (.aq ct 1), .o 14 (.load db false 1)]) QF9) (.seq (.run [.m 113 br, .o 114 (.aq ct 5), .o 115 (.load Xl true 4), .c 116 jS [Xk,Xm], .m 112 Xn, .o 117 (.ext OT 0), .o 118 (.ext OT 1), .m 9 Xo, .m 10 Xp]) QGG)))
abbrev QGN:AC:= .par [.m 12 br, .m 13 br, .o 14 (.bS db), .o 15 (.aq cJ 4), .o 16 (.load dA false 1), .m 17 br, .o 18 (.bS dC), .o 19 (.aq dD 4), .o 20 (.load dU false 1), .o 21 (.len eA), .o 22 (.bin .sub dV (.k (.int .i64 1))), .o 23 (.CH 1 df none (some eD)), .o 24 (.bS cT), .o 25 (.aq eR 4), .op none none (.store eU eH 1)] [(0,0),(1,0),(2,0),(3,0),(4,0),(5,0),(6,0),(7,0),(8,0),(9,0),(10,0),(11,0),(12,0),(13,0),(14,0)]
abbrev QGR:AC:= .seq (.run [(.o 4 (.mv (.k (.int .i64 (-1)))))]) .ret
abbrev QGT:AC:= .cond fq (.seq (.run [.m 28 br, .o 29 (.bS gb), .o 30 (.aq fY 6), .o 31 (.aq gE 0), .op none none (.store gp (.k (.int .i64 1)) 1)]) QGR) .skip
abbrev QH2:AC:= .seq (.seq (.run [.o 43 (.aq dB 0), .o 44 (.aq kv 3), .o 45 (.load kI false 1), .o 46 (.bin .neq lH (.k (.str [])))]) (.cond lI (.run [.m 47 br, .o 48 (.aq dB 0), .o 49 (.aq kW 3), .o 50 (.load kX false 1), .c 51 iI [lS,lJ], .m 52 bt, .o 53 (.bS kJ), .op none none (.store kY kK 1)]) .skip)) (.seq (.run [.o 54 (.aq dB 15), .o 55 (.load lK false 1), .m 4 lL]) .ret)
abbrev QH4:AC:= .seq (.seq (.run [.m 26 ct, .o 27 (.bin .eql fp (.k (.int .i64 0)))]) QGT) (.seq (.run [.m 32 br, .o 33 (.bS gP), .o 34 (.aq gF 0), .o 35 (.load iA false 1), .o 36 (.bS gQ), .o 37 (.aq iB 2), .o 38 (.load je false 1), .m 39 ct, .o 40 (.bin .sub jN (.k (.int .i64 1))), .o 41 (.cm j7 ku 17), .o 42 (.load j8 true 17), .o 6 (.alloc [(.int .i64 0),(.int .i64 0),(.slice .full 0 []),(.str []),(.str []),(.int .i64 0),(.int .i64 0),(.str []),(.slice .full 0 []),(.bool false),(.slice .full 0 []),(.slice .full 0 []),(.slice .full 0 []),(.int .i64 0),(.int .i64 0),(.int .i64 0),(.int .i64 0)]), .op none none (.store dB kH 17)]) QH2)
abbrev QH7:AC:= .seq (.run [.o 4 (.mv (.k (.int .i64 0)))]) (.seq (.run [.m 7 br, .c 8 kP [cW], .o 9 (.bS cR), .o 10 (.aq dn 3), .o 11 (.load cd false 1), .m 5 cD]) (.seq QGN QH4))
abbrev QHB:AC:= .seq (.run [(.o 7 (.build [(.int .i64 0),(.int .i64 0)] [(0,(1,(.k (.int .i64 1))))])), .op none none (.store dw cW 2)]) .ret
abbrev QHT:AC:= .seq (.seq (.run [.o 20 (.aq cB 0), .o 21 (.load eA false 1), .o 22 (.bin .eql dV (.k (.int .i64 0)))]) (.cond eD (.run [.o 23 (.load bt true 2), .c 24 uf [eH], .op none none (.store cB eR 2)]) .skip)) (.seq (.run [.o 25 (.load cB true 2), .op none none (.store dw eU 2)]) .ret)
abbrev QHU:AC:= .seq (.seq (.run [.o 15 (.aq cB 0), .o 16 (.load dA false 1), .o 17 (.bin .eql df (.k (.int .i64 0)))]) (.cond dC (.run [.o 18 (.load bt true 2), .c 19 vC [dD], .op none none (.store cB dU 2)]) .skip)) QHT
abbrev QHV:AC:= .seq (.seq (.run [.o 10 (.aq cB 0), .o 11 (.load cd false 1), .o 12 (.bin .eql cD (.k (.int .i64 0)))]) (.cond cT (.run [.o 13 (.load bt true 2), .c 14 qo [db], .op none none (.store cB cJ 2)]) .skip)) QHU
abbrev QHY:AC:= .seq (.run [.o 1 (.box br), .o 2 (.alloc [(.int .i64 0),(.int .i64 0)])]) (.seq (.seq (.run [.o 4 (.load bt true 2), .c 5 rB [fi], .o 6 (.un .not ct)]) (.cond dB QHB .skip)) (.seq (.run [.o 8 (.load bt true 2), .c 9 lW [cR], .o 3 (.alloc [(.int .i64 0),(.int .i64 0)]), .op none none (.store cB dn 2)]) QHV))
abbrev QI9:AC:= .par [.o 30 (.load cd true 16), .o 31 (.aq cR 0), .o 32 (.load gp false 1), .op none none (.store fi gE 16), .m 5 gP, .o 6 (.mv (.k (.bool true)))] [(0,0),(3,0),(1,0),(2,1),(4,0),(5,0)]
abbrev QIG:AC:= .seq (.block 3 (.seq (.run [.o 23 (.cm dU dV 16), .o 24 (.load eH true 16), .o 10 (.alloc [(.int .i64 0),(.int .i64 0),(.slice .full 0 []),(.str []),(.str []),(.int .i64 0),(.int .i64 0),(.str []),(.slice .full 0 []),(.bool false),(.slice .full 0 []),(.slice .full 0 []),(.slice .full 0 []),(.int .i64 0),(.int .i64 0),(.bool false)]), .op none none (.store cd eR 16)]) (.seq (.run [.o 25 (.aq cd 0), .o 26 (.aq eU 0), .o 27 (.load fp false 1), .m 28 bt, .o 29 (.bin .eql fq gb)]) (.cond fY (.seq QI9 .ret) .skip)))) (.run [.o 33 (.bin .add dV (.k (.int .i64 1))), .m 21 gF])
abbrev QIK:AC:= .block 2 (.loop (.seq (.run [.o 22 (.bin .lss dV eA)]) (.seq (.cond eD .skip (.exit 2)) QIG)))
abbrev QIM:AC:= .seq (.run [.o 16 (.cm cT cJ 5), .o 17 (.load df true 5), .o 8 (.alloc [(.str []),(.slice .full 0 []),(.slice .full 0 []),(.slice .full 0 []),(.slice .full 0 [])]), .op none none (.store cR dC 5)]) (.seq (.run [.o 18 (.load cR true 5), .c 19 sP [dD], .o 20 (.len dU), .o 21 (.mv (.k (.int .i64 0)))]) QIK)
abbrev QIQ:AC:= .seq (.cond dA .skip (.exit 0)) (.seq (.block 1 QIM) (.run [.o 34 (.bin .add cJ (.k (.int .i64 1))), .m 14 iA]))
abbrev QIU:AC:= .seq (.run [.o 11 (.aq dw 1), .o 12 (.load cD false 1), .o 13 (.len cT), .o 14 (.mv (.k (.int .i64 0)))]) (.block 0 (.loop (.seq (.run [.o 15 (.bin .lss cJ db)]) QIQ)))
abbrev QIX:AC:= .seq QIU (.seq (.run [.o 35 (.build [(.int .i64 0),(.int .i64 0),(.slice .full 0 []),(.str []),(.str []),(.int .i64 0),(.int .i64 0),(.str []),(.slice .full 0 []),(.bool false),(.slice .full 0 []),(.slice .full 0 []),(.slice .full 0 []),(.int .i64 0),(.int .i64 0),(.bool false)] []), .op none none (.store fi gQ 16), .o 5 (.mv (.k (.str []))), .o 6 (.mv (.k (.bool false)))]) .ret)
abbrev QIY:AC:= .seq (.run [.o 2 (.box br), .o 4 (.alloc [(.int .i64 0),(.int .i64 0),(.slice .full 0 []),(.str []),(.str []),(.int .i64 0),(.int .i64 0),(.str []),(.slice .full 0 []),(.bool false),(.slice .full 0 []),(.slice .full 0 []),(.slice .full 0 []),(.int .i64 0),(.int .i64 0),(.bool false)]), .o 5 (.mv (.k (.str []))), .o 6 (.mv (.k (.bool false)))]) QIX
abbrev QJ0:AC:= .par [.m 7 bt, .o 8 (.bin .lss cW (.k (.int .i64 1))), .m 9 cR, .g 10 9 false (.aq dw 3), .g 11 9 false (.load cd false 1), .g 12 9 false (.len cD), .g 13 9 false (.aq dw 0), .g 14 9 false (.load db false 1), .d 15 9 false xw [cJ], .g 16 9 false (.bin .neq cT dA), .o 17 (.pick dn (.k (.bool true)) df)] [(0,0),(1,0),(2,0),(6,0),(7,0),(8,0),(3,0),(4,1),(5,0),(9,0),(10,0)]
abbrev QJ3:AC:= .cond dC (.seq (.run [.o 4 (.mv (.k (.bool false)))]) .ret) .skip
abbrev QJC:AC:= .cond gE (.seq (.run [.o 32 (.aq dw 1), .o 33 (.load gP false 1), .o 34 (.bin .eql gF (.k (.int .i64 0))), .m 35 iA, .g 36 35 true (.aq dw 2), .g 37 35 true (.load iB false 1), .d 38 35 true nW [je], .o 39 (.pick gQ j7 (.k (.bool false))), .m 4 jN]) .ret) .skip
abbrev QJE:AC:= .cond eA (.seq (.run [.o 22 (.aq dw 1), .o 23 (.load eD false 1), .o 24 (.bin .geq eH (.k (.int .i64 0))), .m 25 eR, .g 26 25 true (.aq dw 2), .g 27 25 true (.load fp false 1), .g 28 25 true (.bin .eql fq (.k (.str []))), .o 29 (.pick eU gb (.k (.bool false))), .m 4 fY]) .ret) (.seq (.run [.o 31 (.bin .eql dU (.k (.int .i64 2))), .m 30 gp]) QJC)
abbrev QJG:AC:= .block 0 (.seq (.run [.o 21 (.bin .eql dU (.k (.int .i64 1))), .m 20 dV]) QJE)
abbrev QJL:AC:= .cond lS (.seq (.run [.o 4 (.mv (.k (.bool false)))]) .ret) .skip
abbrev QJU:AC:= .cond lT (.seq (.run [.o 4 (.mv (.k (.bool false)))]) .ret) .skip
abbrev QJW:AC:= .seq (.run [.o 53 (.cm kX kJ 4), .o 54 (.load kY true 4), .o 6 (.alloc [(.int .i64 0),(.int .i64 0),(.str []),(.slice .full 0 [])]), .op none none (.store dB lK 4)]) (.seq (.run [.o 55 (.load dB true 4), .m 56 bt, .o 57 (.bin .sub nq (.k (.int .i64 1))), .c 58 qc [lL,oE], .o 59 (.un .not nX)]) QJU)
abbrev QK0:AC:= .seq (.cond kK .skip (.exit 1)) (.seq (.block 2 QJW) (.run [.o 60 (.bin .add kJ (.k (.int .i64 1))), .m 51 pb]))
abbrev QK4:AC:= .seq (.run [.o 48 (.aq dw 3), .o 49 (.load kW false 1), .o 50 (.len kX), .o 51 (.mv (.k (.int .i64 0)))]) (.block 1 (.loop (.seq (.run [.o 52 (.bin .lss kJ lJ)]) QK0)))
abbrev QK7:AC:= .seq QK4 (.seq (.run [.o 4 (.mv (.k (.bool true)))]) .ret)
abbrev QK8:AC:= .seq (.seq (.run [.o 40 (.aq dw 1), .o 41 (.load ku false 1), .o 42 (.bin .neq j8 (.k (.int .i64 0))), .m 43 kH, .g 44 43 false (.aq dw 2), .g 45 43 false (.load kI false 1), .g 46 43 false (.bin .neq lH (.k (.str []))), .o 47 (.pick kv (.k (.bool true)) lI)]) QJL) QK7
abbrev QKB:AC:= .seq (.run [.o 2 (.box br), .o 4 (.mv (.k (.bool false)))]) (.seq (.seq QJ0 QJ3) (.seq (.seq (.run [.o 18 (.aq dw 0), .o 19 (.load dD false 1)]) QJG) QK8))
abbrev QKO:AC:= .seq (.run [.m 13 cB, .o 14 (.load ct true 5), .c 15 sP [cJ], .o 16 (.app 16 232 db dA), .m 3 df]) (.seq (.run [.m 17 cB, .o 18 (.len dC), .o 19 (.bin .gtr dD (.k (.int .i64 200)))]) (.cond dU (.seq (.run [.m 20 cB, .m 2 eA]) .ret) .skip))
abbrev QKS:AC:= .seq (.block 1 (.seq (.run [.o 11 (.cm cW dn 5), .o 12 (.load cD true 5), .o 5 (.alloc [(.str []),(.slice .full 0 []),(.slice .full 0 []),(.slice .full 0 []),(.slice .full 0 [])]), .op none none (.store ct cT 5)]) QKO)) (.run [.o 21 (.bin .add dn (.k (.int .i64 1))), .m 9 dV])
abbrev QKW:AC:= .block 0 (.loop (.seq (.run [.o 10 (.bin .lss dn cR)]) (.seq (.cond cd .skip (.exit 0)) QKS)))
abbrev QL0:AC:= .seq (.seq (.run [.o 6 (.aq bt 1), .o 7 (.load dB false 1), .o 8 (.len cW), .o 9 (.mv (.k (.int .i64 0)))]) QKW) (.seq (.run [.m 22 cB, .m 2 eD]) .ret)
abbrev QL2:AC:= .seq (.run [.o 1 (.box br), .o 2 (.mv (.k (.slice .full 0 [])))]) (.seq (.run [.o 3 (.mv (.k (.slice .full 0 [])))]) QL0)
open Go.Proofs
theorem Hw:Has Tryz.prog xq 10 [(2,none)] Q8O:=⟨Tryz.f38,by kernel_rfl,by kernel_rfl⟩
theorem Hx:Has Tryz.prog xr 40 [(0,(some (true,2)))] Q8W:=⟨Tryz.f39,by kernel_rfl,by kernel_rfl⟩
theorem Au:Has Tryz.prog jH 23 [(4,none)] Q9D:=⟨Tryz.f40,by kernel_rfl,by kernel_rfl⟩
theorem pd:Has Tryz.prog gn 19 [(4,none)] Q9N:=⟨Tryz.f41,by kernel_rfl,by kernel_rfl⟩
theorem sc:Has Tryz.prog kO 69 [(4,none)] QAL:=⟨Tryz.f42,by kernel_rfl,by kernel_rfl⟩
theorem Jr:Has Tryz.prog kU 55 [(2,none)] QBA:=⟨Tryz.f43,by kernel_rfl,by kernel_rfl⟩
theorem zl:Has Tryz.prog jl 82 [(8,none)] QBZ:=⟨Tryz.f44,by kernel_rfl,by kernel_rfl⟩
theorem Av:Has Tryz.prog iz 12 [(4,none)] QC3:=⟨Tryz.f45,by kernel_rfl,by kernel_rfl⟩
theorem zm:Has Tryz.prog o6 67 [(4,none)] QDE:=⟨Tryz.f46,by kernel_rfl,by kernel_rfl⟩
theorem yj:Has Tryz.prog oB 29 [(4,none)] QDX:=⟨Tryz.f47,by kernel_rfl,by kernel_rfl⟩
theorem ic:Has Tryz.prog qE 176 [(4,none)] QGK:=⟨Tryz.f48,by kernel_rfl,by kernel_rfl⟩
theorem qS:Has Tryz.prog oD 56 [(4,none)] QH7:=⟨Tryz.f49,by kernel_rfl,by kernel_rfl⟩
theorem oi:Has Tryz.prog xu 26 [(2,(some (true,2)))] QHY:=⟨Tryz.f53,by kernel_rfl,by kernel_rfl⟩
theorem Hy:Has Tryz.prog xv 36 [(4,(some (true,16))),(5,none),(6,none)] QIY:=⟨Tryz.f54,by kernel_rfl,by kernel_rfl⟩
theorem Aj:Has Tryz.prog qc 61 [(4,none)] QKB:=⟨Tryz.f55,by kernel_rfl,by kernel_rfl⟩
theorem Js:Has Tryz.prog zc 23 [(2,none)] QL2:=⟨Tryz.f62,by kernel_rfl,by kernel_rfl⟩
abbrev QLB:AC:= .cond db (.seq (.run [.o 2 (.mv (.k (.bool false)))]) .ret) .skip
abbrev QLG:AC:= .seq (.block 1 (.seq (.run [.o 9 (.cm ct cW 1), .o 10 (.load dn false 1), .m 4 cd]) (.seq (.run [.m 11 fi, .c 12 nW [cD], .o 13 (.un .not cT)]) QLB))) (.run [.o 14 (.bin .add cW (.k (.int .i64 1))), .m 7 cJ])
abbrev QLK:AC:= .block 0 (.loop (.seq (.run [.o 8 (.bin .lss cW dB)]) (.seq (.cond cR .skip (.exit 0)) QLG)))
abbrev QLO:AC:= .seq (.seq (.run [.m 5 br, .o 6 (.len ct), .o 7 (.mv (.k (.int .i64 0)))]) QLK) (.seq (.run [.o 2 (.mv (.k (.bool true)))]) .ret)
abbrev QLP:AC:= .seq (.run [.o 2 (.mv (.k (.bool false)))]) QLO
abbrev QLU:AC:= .cond df (.seq (.run [.o 2 (.mv (.k (.bool false)))]) .ret) .skip
abbrev QLY:AC:= .seq (.seq (.run [.m 3 br, .o 4 (.vh cB), .o 5 (.bin .lss fi (.k (.int .i64 1))), .m 6 ct, .g 7 6 false (.mv br), .g 8 6 false (.vh cW), .g 9 6 false (.bin .gtr cR (.k (.int .i64 8))), .o 10 (.pick dB (.k (.bool true)) dn), .m 11 cd, .g 12 11 false (.mv br), .g 13 11 false (.AL cT (.k (.int .i64 0))), .d 14 11 false rD [db], .g 15 11 false (.un .not cJ), .o 16 (.pick cD (.k (.bool true)) dA)]) QLU) (.seq (.run [.m 17 br, .c 18 Bk [dC,(.k (.int .i64 0))], .m 19 br, .o 20 (.vh dU), .o 21 (.bin .eql dD eA), .m 22 dV, .g 23 22 true (.mv br), .d 24 22 true ze [eH], .g 25 22 true (.un .not eR), .o 26 (.pick eD eU (.k (.bool false))), .m 2 fp]) .ret)
abbrev QLZ:AC:= .seq (.run [.o 2 (.mv (.k (.bool false)))]) QLY
abbrev QM4:AC:= .cond dA (.seq (.run [.o 6 (.mv (.k (.bool false)))]) .ret) .skip
abbrev QMB:AC:= .par [.m 29 br, .o 30 (.bS fY), .o 31 (.aq gE 0), .o 32 (.load gp false 1), .o 33 (.bin .gtr gP (.k (.int .i64 200))), .m 34 gF, .g 35 34 false (.aq cR 0), .g 36 34 false (.load gQ false 1), .g 37 34 false (.mv br), .g 38 34 false (.bS je), .g 39 34 false (.aq j7 0), .g 40 34 false (.load jN false 1), .g 41 34 false (.bin .neq iB ku), .o 42 (.pick iA (.k (.bool true)) j8), .m 43 kH, .g 44 43 false (.aq cR 2), .g 45 43 false (.load kI false 1), .d 46 43 false nn [lH], .g 47 43 false (.un .not lI), .o 48 (.pick kv (.k (.bool true)) lS), .m 49 kW, .g 50 49 false (.load cR true 13), .d 51 49 false ug [lJ], .g 52 49 false (.un .not kJ), .o 53 (.pick kX (.k (.bool true)) kK)] [(0,0),(1,0),(2,0),(3,0),(4,0),(5,0),(6,0),(7,0),(8,0),(9,0),(10,0),(11,0),(12,0),(13,0),(14,0),(15,0),(16,0),(17,0),(18,0),(19,0),(20,0),(21,0),(22,0),(23,0),(24,0)]
abbrev QME:AC:= .cond kY (.seq (.run [.o 6 (.mv (.k (.bool false)))]) .ret) .skip
abbrev QMJ:AC:= .cond zi (.seq (.run [.o 6 (.mv (.k (.bool false)))]) .ret) .skip
abbrev QML:AC:= .seq (.seq QMB QME) (.seq (.run [.m 54 br, .o 55 (.aq cR 11), .o 56 (.load lL false 1), .m 57 dw, .o 58 (.bin .add oE (.k (.int .i64 1))), .c 59 kr [lK,nq,nX], .o 60 (.un .not lT), .m 61 pb, .g 62 61 false (.mv br), .g 63 61 false (.aq cR 12), .g 64 61 false (.load qG false 1), .g 65 61 false (.mv dw), .g 66 61 false (.bin .add um (.k (.int .i64 1))), .d 67 61 false kr [pU,qH,vH], .g 68 61 false (.un .not xB), .o 69 (.pick qF (.k (.bool true)) vI)]) QMJ)
abbrev QMN:AC:= .seq (.run [.o 20 (.cm df dD 13), .o 21 (.load eA true 13), .o 8 (.alloc [(.int .i64 0),(.int .i64 0),(.slice .full 0 []),(.str []),(.str []),(.int .i64 0),(.int .i64 0),(.str []),(.slice .full 0 []),(.bool false),(.slice .full 0 []),(.slice .full 0 []),(.slice .full 0 [])]), .op none none (.store cR dV 13)]) (.seq (.run [.m 22 br, .o 23 (.bS eD), .o 24 (.aq eH 0), .o 25 (.load eR false 1), .o 26 (.bin .add eU (.k (.int .i64 1))), .o 27 (.bS eD), .o 28 (.aq fq 0), .op none none (.store gb fp 1)]) QML)
abbrev QMR:AC:= .seq (.cond dU .skip (.exit 0)) (.seq (.block 1 QMN) (.run [.o 70 (.bin .add dD (.k (.int .i64 1))), .m 18 zj]))
abbrev QMV:AC:= .seq (.run [.m 16 bt, .o 17 (.len df), .o 18 (.mv (.k (.int .i64 0)))]) (.block 0 (.loop (.seq (.run [.o 19 (.bin .lss dD dC)]) QMR)))
abbrev QMY:AC:= .seq QMV (.seq (.run [.o 6 (.mv (.k (.bool true)))]) .ret)
abbrev QMZ:AC:= .seq (.seq (.run [.m 9 dw, .o 10 (.bin .gtr dn (.k (.int .i64 12))), .m 11 cd, .g 12 11 true (.mv bt), .g 13 11 true (.len cT), .g 14 11 true (.bin .gtr db (.k (.int .i64 0))), .o 15 (.pick cD cJ (.k (.bool false)))]) QM4) QMY
abbrev QN0:AC:= .seq (.run [.o 6 (.mv (.k (.bool false)))]) QMZ
abbrev QN3:AC:= .seq (.run [.m 3 br,(.o 4 (.build [(.int .i64 0),(.int .i64 0),(.str []),(.slice .full 0 [])] [(0,(1,(.k (.int .i64 1)))),(1,(1,cB))])), .op none none (.store dw fi 4)]) .ret
abbrev QN4:AC:= .seq (.run [.o 2 (.alloc [(.int .i64 0),(.int .i64 0),(.str []),(.slice .full 0 [])])]) QN3
abbrev QN7:AC:= .seq (.run [.m 3 br,(.o 4 (.build [(.int .i64 0),(.int .i64 0),(.str []),(.slice .full 0 [])] [(0,(1,(.k (.int .i64 2)))),(2,(1,cB))])), .op none none (.store dw fi 4)]) .ret
abbrev QN8:AC:= .seq (.run [.o 2 (.alloc [(.int .i64 0),(.int .i64 0),(.str []),(.slice .full 0 [])])]) QN7
abbrev QNC:AC:= .seq (.run [.o 4 (.box bt), .o 5 (.box dw), .o 6 (.alloc [(.int .i64 0),(.int .i64 0),(.str []),(.slice .full 0 [])])]) (.seq (.run [.m 7 br, .o 8 (.load fi true 4), .o 9 (.load ct true 4), .o 10 (.du [(.int .i64 0),(.int .i64 0),(.str []),(.slice .full 0 [])] 4 2 [(0,cR),(1,dn)]), .o 11 (.build [(.int .i64 0),(.int .i64 0),(.str []),(.slice .full 0 [])] [(0,(1,cW)),(3,(1,cd))]), .op none none (.store dB cD 4)]) .ret)
abbrev QNN:AC:= .seq (.seq (.run [.m 10 ct, .o 11 (.aq dw 3), .o 12 (.load cD false 1), .o 13 (.len cT), .o 14 (.bin .lss cd db), .m 15 cJ, .g 16 15 true (.mv bt), .g 17 15 true (.bin .leq df (.k (.int .i64 20000))), .o 18 (.pick dA dC (.k (.bool false)))]) (.cond dD .skip (.exit 0))) (.seq (.block 1 (.run [.o 21 (.aq dw 3), .o 22 (.load dV false 1), .m 23 ct, .o 24 (.cm eD eH 4), .o 25 (.load eR true 4), .m 26 bt, .c 27 jY [eU,fp], .m 1 fq])) (.run [.m 19 ct, .o 20 (.bin .add dU (.k (.int .i64 1))), .m 5 eA]))
abbrev QNT:AC:= .seq (.seq (.run [.o 5 (.mv (.k (.int .i64 0)))]) (.block 0 (.loop QNN))) (.seq (.run [.m 28 bt, .m 4 gb]) .ret)
abbrev QNV:AC:= .seq (.run [.o 2 (.box br), .o 4 (.mv (.k (.int .i64 0)))]) (.seq (.run [.o 6 (.aq dw 2), .o 7 (.load dB false 1), .m 8 bt, .c 9 gn [cW,cR], .m 1 dn]) QNT)
abbrev QO8:AC:= .par [.m 37 br, .m 38 br, .o 39 (.bS j7), .o 40 (.aq jN 2), .o 41 (.load ku false 1), .o 42 (.load dn true 17), .o 43 (.du [(.int .i64 0),(.int .i64 0),(.slice .full 0 []),(.str []),(.str []),(.int .i64 0),(.int .i64 0),(.str []),(.slice .full 0 []),(.bool false),(.slice .full 0 []),(.slice .full 0 []),(.slice .full 0 []),(.int .i64 0),(.int .i64 0),(.int .i64 0),(.int .i64 0)] 17 1 [(0,kH)]), .o 44 (.app 17 240 j8 kv), .o 45 (.bS je), .o 46 (.aq lH 2), .op none none (.store lI kI 1)] [(1,0),(2,0),(3,0),(4,0),(5,0),(6,0),(7,0),(0,0),(8,0),(9,0),(10,0)]
abbrev QO9:AC:= .run [.o 47 (.aq ct 13), .o 48 (.load lS false 1), .m 49 cR, .o 50 (.aq dn 15), .o 51 (.load lJ false 1), .o 52 (.aq ct 16), .o 53 (.load kK false 1), .o 54 (.build [(.int .i64 0),(.int .i64 0),(.slice .full 0 []),(.str []),(.str []),(.int .i64 0),(.int .i64 0),(.str []),(.slice .full 0 []),(.bool false),(.slice .full 0 []),(.slice .full 0 []),(.slice .full 0 []),(.int .i64 0),(.int .i64 0),(.int .i64 0),(.int .i64 0)] [(13,(1,kW)),(14,(1,kX)),(15,(1,kJ)),(16,(1,kY))]), .o 10 (.alloc [(.int .i64 0),(.int .i64 0),(.slice .full 0 []),(.str []),(.str []),(.int .i64 0),(.int .i64 0),(.str []),(.slice .full 0 []),(.bool false),(.slice .full 0 []),(.slice .full 0 []),(.slice .full 0 []),(.int .i64 0),(.int .i64 0),(.int .i64 0),(.int .i64 0)]), .op none none (.store cd lK 17)]
abbrev QOH:AC:= .seq (.seq (.run [.o 55 (.aq cW 1), .o 56 (.load lL false 1), .o 57 (.bin .eql nq (.k (.int .i64 6)))]) (.cond oE (.run [.m 58 cR, .m 59 cR, .o 60 (.aq cd 15), .op none none (.store pb nX 1), .o 61 (.aq cd 16), .op none none (.store qF lT 1)]) .skip)) (.seq (.run [.m 62 br, .o 63 (.aq cW 11), .o 64 (.load qG false 1), .o 65 (.load cd true 17), .c 66 jZ [pU,qH,um]]) (.run [.m 67 br, .o 68 (.aq cW 12), .o 69 (.load vI false 1), .o 70 (.load cd true 17), .c 71 jZ [xB,zi,zj]]))
abbrev QOK:AC:= .seq (.seq (.run [.m 27 dB, .o 28 (.bin .add fq (.k (.int .i64 1))), .m 29 bt, .o 30 (.len fY), .o 31 (.bin .lss gb gE)]) (.cond gp (.run [.m 32 cR, .o 33 (.load cW true 13), .c 34 mD [gF], .o 35 (.bin .add gP iA), .o 36 (.aq dn 15), .op none none (.store iB gQ 1)]) .skip)) (.seq QO8 (.seq QO9 QOH))
abbrev QOO:AC:= .seq (.run [.m 15 db, .o 16 (.cm cD db 13), .o 17 (.load df true 13), .o 7 (.alloc [(.int .i64 0),(.int .i64 0),(.slice .full 0 []),(.str []),(.str []),(.int .i64 0),(.int .i64 0),(.str []),(.slice .full 0 []),(.bool false),(.slice .full 0 []),(.slice .full 0 []),(.slice .full 0 [])]), .m 6 dA, .op none none (.store cW dC 13)]) (.seq (.run [.m 18 br, .o 19 (.bS dD), .o 20 (.aq dU 2), .o 21 (.load eA false 1), .o 22 (.len dV), .o 23 (.bin .add eD (.k (.int .i64 1))), .m 8 eH]) (.seq (.run [.o 24 (.load ct true 17), .o 9 (.alloc [(.int .i64 0),(.int .i64 0),(.slice .full 0 []),(.str []),(.str []),(.int .i64 0),(.int .i64 0),(.str []),(.slice .full 0 []),(.bool false),(.slice .full 0 []),(.slice .full 0 []),(.slice .full 0 []),(.int .i64 0),(.int .i64 0),(.int .i64 0),(.int .i64 0)]), .op none none (.store dn eR 17)]) (.seq (.run [.o 25 (.load cW true 13), .o 26 (.aq dn 0), .op none none (.store fp eU 13)]) QOK)))
abbrev QOS:AC:= .seq (.cond cJ .skip (.exit 0)) (.seq (.block 1 QOO) (.run [.o 72 (.bin .add db (.k (.int .i64 1))), .m 13 Bn]))
abbrev QOW:AC:= .seq (.run [.m 11 bt, .o 12 (.len cD), .o 13 (.mv (.k (.int .i64 0)))]) (.block 0 (.loop (.seq (.run [.o 14 (.bin .lss db cT)]) QOS)))
abbrev QOX:AC:= .seq (.run [.o 5 (.box dw)]) QOW
abbrev QP2:AC:= .cond dn (.seq (.run [.o 4 (.mv (.k (.slice .full 0 [])))]) .ret) .skip
abbrev QP9:AC:= .par [.o 21 (.aq dw 0), .o 22 (.load dV false 1), .c 23 kC [eD], .o 24 (.load dB true 5), .c 25 sQ [eR], .o 26 (.app 1 16 eH eU), .m 4 fp] [(0,0),(1,0),(2,0),(3,1),(4,0),(5,0),(6,0)]
abbrev QPG:AC:= .seq (.block 1 (.seq (.run [.o 15 (.cm cD db 5), .o 16 (.load dA true 5), .o 6 (.alloc [(.str []),(.slice .full 0 []),(.slice .full 0 []),(.slice .full 0 []),(.slice .full 0 [])]), .op none none (.store dB df 5)]) (.seq (.run [.o 17 (.aq dB 0), .o 18 (.load dC false 1), .m 19 bt, .o 20 (.bin .eql dD dU)]) (.cond eA (.seq QP9 .ret) .skip)))) (.run [.o 27 (.bin .add db (.k (.int .i64 1))), .m 13 fq])
abbrev QPK:AC:= .block 0 (.loop (.seq (.run [.o 14 (.bin .lss db cT)]) (.seq (.cond cJ .skip (.exit 0)) QPG)))
abbrev QPO:AC:= .seq (.seq (.run [.o 10 (.aq dw 1), .o 11 (.load cd false 1), .o 12 (.len cD), .o 13 (.mv (.k (.int .i64 0)))]) QPK) (.seq (.run [.o 4 (.mv (.k (.slice .full 0 [])))]) .ret)
abbrev QPQ:AC:= .seq (.run [.o 2 (.box br), .o 4 (.mv (.k (.slice .full 0 [])))]) (.seq (.seq (.run [.o 7 (.load dw true 2), .c 8 rB [cW], .o 9 (.un .not cR)]) QP2) QPO)
abbrev QPS:AC:= .par [.m 5 br, .o 6 (.bS ct), .o 7 (.aq dB 3), .o 8 (.load cW false 1), .m 9 bt, .o 10 (.cm cR dn 1), .o 11 (.load cd false 1), .m 12 br, .o 13 (.bS cT), .o 14 (.aq db 4), .o 15 (.load cJ false 1), .m 16 bt, .o 17 (.cm dA df 1), .o 18 (.load dC false 1), .o 19 (.bin .lss cD dD)] [(0,0),(1,0),(2,0),(3,0),(4,0),(5,0),(6,0),(7,0),(8,0),(9,0),(10,0),(11,0),(12,0),(13,0),(14,0)]
abbrev QPY:AC:= .seq (.run [(.o 4 (.mv (.k (.int .i64 (-1)))))]) .ret
abbrev QPZ:AC:= .seq (.seq QPS (.cond dU (.seq (.run [.m 20 br, .o 21 (.bS eA), .o 22 (.aq dV 3), .o 23 (.load eD false 1), .m 24 bt, .o 25 (.cm eH eR 1), .o 26 (.load eU false 1), .m 4 fp]) .ret) .skip)) QPY
abbrev QQ0:AC:= .seq (.run [.o 4 (.mv (.k (.int .i64 0)))]) QPZ
abbrev QQC:AC:= .block 1 (.seq (.run [.m 10 cR, .m 5 cd]) (.seq (.run [.m 11 bt, .m 12 br, .m 13 ct, .o 14 (.cm cT db 5), .o 15 (.load cJ true 5),(.jv (some 16) none 11 [dA])]) (.cond df (.seq (.run [.m 17 ct, .m 4 dC]) .ret) .skip)))
abbrev QQF:AC:= .seq (.cond dn .skip (.exit 0)) (.seq QQC (.run [.o 18 (.bin .add cR (.k (.int .i64 1))), .m 8 dD]))
abbrev QQJ:AC:= .seq (.run [.m 6 br, .o 7 (.len dB), .o 8 (.mv (.k (.int .i64 0)))]) (.block 0 (.loop (.seq (.run [.o 9 (.bin .lss cR cW)]) QQF)))
abbrev QQL:AC:= .seq (.run [(.o 4 (.mv (.k (.int .i64 (-1)))))]) .ret
abbrev QQN:AC:= .seq (.run [.o 4 (.mv (.k (.int .i64 0)))]) (.seq QQJ QQL)
abbrev QQR:AC:= .seq (.run [.o 2 (.box br), .o 3 (.mv (.k (.bool false)))]) (.seq (.run [.o 4 (.aq dw 0), .o 5 (.load fi false 1), .o 6 (.load bt false 1), .o 7 (.bin .eql ct dB), .m 3 cW]) .ret)
abbrev QQU:AC:= .par [.m 8 ct, .o 9 (.bS cR), .o 10 (.aq dn 2), .o 11 (.load cd false 1), .m 12 ct, .o 13 (.bS cT), .o 14 (.aq db 1), .o 15 (.load cJ false 1), .m 16 bt, .c 17 fW [dA,df], .o 18 (.cm cD dC 1), .o 19 (.load dD false 1), .m 4 dU] [(4,0),(5,0),(6,0),(7,0),(8,0),(9,0),(0,0),(1,0),(2,0),(3,1),(10,0),(11,0),(12,0)]
abbrev QQX:AC:= .seq (.run [.o 4 (.mv (.k .dR))]) (.seq (.run [.m 6 br, .c 7 kP [dB], .m 5 cW]) (.seq QQU .ret))
abbrev QR5:AC:= .par [.m 30 br, .m 31 br, .o 32 (.bS gp), .o 33 (.aq gP 5), .o 34 (.load gF false 1), .m 35 cR, .o 36 (.bS gQ), .o 37 (.load iB false 1), .o 38 (.du [(.int .i64 0)] 1 1 [(0,je)]), .o 39 (.app 1 8 iA j7), .o 40 (.bS gE), .o 41 (.aq ku 5), .op none none (.store j8 jN 1)] [(1,0),(2,0),(3,0),(4,0),(5,0),(6,0),(7,0),(8,0),(9,0),(0,0),(10,0),(11,0),(12,0)]
abbrev QRA:AC:= .seq (.cond fq .skip (.exit 0)) (.seq (.block 1 (.seq (.run [.o 28 (.cm eR fp 1), .o 29 (.load gb false 1), .m 8 fY]) QR5)) (.run [.o 42 (.bin .add fp (.k (.int .i64 1))), .m 26 kH]))
abbrev QRB:AC:= .seq (.run [.o 27 (.bin .lss fp eU)]) QRA
abbrev QRF:AC:= .par [.o 44 (.load cB true 4), .m 45 dB, .o 46 (.bS lH), .o 47 (.aq lI 1), .o 48 (.load lS false 1), .m 49 br, .o 50 (.bS kX), .o 51 (.aq lJ 5), .o 52 (.load kJ false 1), .c 53 wF [kI,kW,kK], .m 43 kY, .o 54 (.ext kv 0), .o 55 (.ext kv 1), .m 9 lK, .m 10 lL] [(0,0),(1,0),(2,0),(3,0),(4,0),(5,0),(6,0),(7,0),(8,0),(9,0),(10,0),(11,0),(12,0),(13,0),(14,0)]
abbrev QRJ:AC:= .seq (.run [.m 56 cd, .o 57 (.un .not nq)]) (.cond oE (.run [.m 58 br, .o 59 (.bS nX), .o 60 (.aq lT 6), .o 61 (.aq pb 0), .op none none (.store qF (.k (.int .i64 4)) 1)]) .skip)
abbrev QRN:AC:= .seq QRF (.seq QRJ (.seq (.run [.m 62 dn, .m 63 cd, .m 4 pU, .m 5 qG]) .ret))
abbrev QRO:AC:= .seq (.seq (.run [.m 21 dB, .o 22 (.bS dV), .o 23 (.aq eD 2), .o 24 (.load eH false 1), .o 25 (.len eR), .o 26 (.mv (.k (.int .i64 0)))]) (.block 0 (.loop QRB))) QRN
abbrev QRP:AC:= .seq (.run [.m 13 br, .m 14 br, .o 15 (.bS cJ), .o 16 (.aq dA 5), .o 17 (.load df false 1),(.o 18 (.CH 1 dC none (some (.k (.int .i64 0))))), .o 19 (.bS db), .o 20 (.aq dU 5), .op none none (.store eA dD 1)]) QRO
abbrev QRR:AC:= .seq (.run [.o 3 (.box bt), .o 4 (.mv (.k (.int .i64 0))), .o 5 (.mv (.k (.bool false)))]) (.seq (.run [.m 11 br, .c 12 kP [cD], .m 6 cT]) QRP)
abbrev QRV:AC:= .seq (.run [.m 6 br, .o 7 (.bS dB), .o 8 (.aq cW 3), .o 9 (.load cR false 1), .m 10 bt, .c 11 np [dn,cd]]) (.cond cD (.run [.m 12 br, .m 13 br, .o 14 (.bS db), .o 15 (.aq cJ 6), .o 16 (.aq dA 4), .o 17 (.load df false 1), .m 18 bt, .m 19 dw, .o 20 (.build [(.int .i64 0),(.slice .full 0 [])] [(0,(1,dD)),(1,(1,dU))]), .o 21 (.du [(.int .i64 0),(.slice .full 0 [])] 2 1 [(0,eA)]), .o 22 (.app 2 32 dC dV), .o 23 (.bS cT), .o 24 (.aq eH 6), .o 25 (.aq eR 4), .op none none (.store eU eD 1)]) .skip)
abbrev QS4:AC:= .cond eD (.seq (.run [.o 23 (.aq dn 0), .o 24 (.aq eH 0), .o 25 (.load eR false 1), .m 6 eU, .o 7 (.mv (.k (.bool true)))]) .ret) .skip
abbrev QS9:AC:= .seq (.block 1 (.seq (.run [.o 16 (.cm cT cJ 17), .o 17 (.load df true 17), .o 9 (.alloc [(.int .i64 0),(.int .i64 0),(.slice .full 0 []),(.str []),(.str []),(.int .i64 0),(.int .i64 0),(.str []),(.slice .full 0 []),(.bool false),(.slice .full 0 []),(.slice .full 0 []),(.slice .full 0 []),(.int .i64 0),(.int .i64 0),(.int .i64 0),(.int .i64 0)]), .op none none (.store dn dC 17)]) (.seq (.run [.o 18 (.aq dn 0), .o 19 (.aq dD 2), .o 20 (.load dU false 1), .m 21 dw, .c 22 cr [eA,dV]]) QS4))) (.run [.o 26 (.bin .add cJ (.k (.int .i64 1))), .m 14 fp])
abbrev QSD:AC:= .block 0 (.loop (.seq (.run [.o 15 (.bin .lss cJ db)]) (.seq (.cond dA .skip (.exit 0)) QS9)))
abbrev QSH:AC:= .seq (.run [(.o 6 (.mv (.k (.int .i64 (-1))))), .o 7 (.mv (.k (.bool true)))]) .ret
abbrev QSM:AC:= .seq (.seq (.run [.m 27 br, .o 28 (.bS fq), .o 29 (.aq gb 0), .o 30 (.aq fY 1), .o 31 (.load gE false 1), .m 32 bt, .o 33 (.cm gp gP 5), .o 34 (.aq gF 4), .o 35 (.load iA false 1), .m 36 dw, .c 37 cr [gQ,iB]]) (.cond je QSH .skip)) (.seq (.run [.o 6 (.mv (.k (.int .i64 0))), .o 7 (.mv (.k (.bool false)))]) .ret)
abbrev QSN:AC:= .seq (.seq (.run [.m 10 br, .m 11 bt, .c 12 gM [cd,cD], .o 13 (.len cT), .o 14 (.mv (.k (.int .i64 0)))]) QSD) QSM
abbrev QSO:AC:= .seq (.run [.o 6 (.mv (.k (.int .i64 0))), .o 7 (.mv (.k (.bool false)))]) QSN
abbrev QST:AC:= .cond cW (.seq (.run [.m 8 br, .o 9 (.cm cR (.k (.int .i64 0)) 13), .o 10 (.aq dn 0), .o 11 (.load cd false 1), .m 4 cD]) .ret) .skip
abbrev QSX:AC:= .seq (.seq (.run [.m 5 br, .o 6 (.len ct), .o 7 (.bin .gtr dB (.k (.int .i64 0)))]) QST) (.seq (.run [.m 12 bt, .m 4 cT]) .ret)
abbrev QSY:AC:= .seq (.run [.o 4 (.mv (.k (.int .i64 0)))]) QSX
abbrev QT0:AC:= .par [.m 3 br, .o 4 (.bS cB), .o 5 (.aq fi 4), .o 6 (.load ct false 1), .m 7 br, .o 8 (.bS cW), .o 9 (.aq cR 4), .o 10 (.load dn false 1), .o 11 (.len cd), .o 12 (.bin .sub cD (.k (.int .i64 1))), .o 13 (.cm dB cT 1), .o 14 (.load db false 1), .m 2 cJ] [(0,0),(1,0),(2,0),(3,0),(4,0),(5,0),(6,0),(7,0),(8,0),(9,0),(10,0),(11,0),(12,0)]
abbrev QT2:AC:= .seq (.run [.o 2 (.mv (.k .dR))]) (.seq QT0 .ret)
abbrev QT6:AC:= .seq (.run [.o 1 (.box br), .o 2 (.mv (.k (.slice .full 0 [])))]) (.seq (.run [.o 3 (.aq bt 3), .o 4 (.load cB false 1),(.c 5 mE [fi,(.k (.int .i64 1)),(.k (.int .i64 0)),(.k (.bool false)),(.k (.slice .full 0 []))]), .m 2 ct]) .ret)
abbrev QTA:AC:= .seq (.run [(.o 16 (.build [(.int .i64 0),(.int .i64 0)] [(0,(1,(.k (.int .i64 1))))])), .op none none (.store dw df 2)]) .ret
abbrev QTM:AC:= .seq (.block 1 (.seq (.run [.o 22 (.cm dD eA 5), .o 23 (.load eD true 5), .o 5 (.alloc [(.str []),(.slice .full 0 []),(.slice .full 0 []),(.slice .full 0 []),(.slice .full 0 [])]), .op none none (.store ct eH 5)]) (.run [.m 24 cB, .o 25 (.aq ct 0), .o 26 (.load eU false 1), .o 27 (.du [(.str [])] 1 1 [(0,fp)]), .o 28 (.app 1 16 eR fq), .m 3 gb]))) (.run [.o 29 (.bin .add eA (.k (.int .i64 1))), .m 20 fY])
abbrev QTQ:AC:= .block 0 (.loop (.seq (.run [.o 21 (.bin .lss eA dU)]) (.seq (.cond dV .skip (.exit 0)) QTM)))
abbrev QTV:AC:= .seq (.run [(.o 53 (.build [(.int .i64 0),(.int .i64 0)] [(0,(1,(.k (.int .i64 5))))])), .op none none (.store dw kY 2)]) .ret
abbrev QU6:AC:= .seq (.run [(.o 73 (.build [(.int .i64 0),(.int .i64 0)] [(0,(1,(.k (.int .i64 5))))])), .op none none (.store dw Bo 2)]) .ret
abbrev QUF:AC:= .seq (.run [.o 89 (.aq cT 0), .o 90 (.aq Dw 0), .o 91 (.load FC false 1),(.o 92 (.build [(.int .i64 0),(.int .i64 0)] [(0,(1,(.k (.int .i64 5)))),(1,(1,Jo))])), .op none none (.store dw OS 2)]) .ret
abbrev QUL:AC:= .seq (.block 5 (.seq (.run [.o 80 (.cm Bp zk 17), .o 81 (.load FA true 17), .o 12 (.alloc [(.int .i64 0),(.int .i64 0),(.slice .full 0 []),(.str []),(.str []),(.int .i64 0),(.int .i64 0),(.str []),(.slice .full 0 []),(.bool false),(.slice .full 0 []),(.slice .full 0 []),(.slice .full 0 []),(.int .i64 0),(.int .i64 0),(.int .i64 0),(.int .i64 0)]), .op none none (.store cT FB 17)]) (.seq (.run [.o 82 (.load bt true 2), .o 83 (.load dn true 5), .m 84 cB, .o 85 (.aq cT 0), .o 86 (.load Jk true 13), .c 87 qp [Jh,Ji,Jj,Jl], .o 88 (.un .not Jm)]) (.cond Jn QUF .skip)))) (.run [.o 93 (.bin .add zk (.k (.int .i64 1))), .m 78 UT])
abbrev QUP:AC:= .block 4 (.loop (.seq (.run [.o 79 (.bin .lss zk Dv)]) (.seq (.cond Fz .skip (.exit 4)) QUL)))
abbrev QUR:AC:= .seq (.seq (.run [.m 66 cd, .c 67 oh [vH], .m 68 xB, .g 69 68 false (.mv cd), .g 70 68 false (.uP 130 [bt]), .d 71 68 false fX [zi,zj], .o 72 (.pick vI (.k (.bool true)) Ds)]) (.cond Bn QU6 .skip)) (.seq (.run [.m 74 cW, .m 75 cR, .c 76 gM [Dt,Du], .o 77 (.len Bp), .o 78 (.mv (.k (.int .i64 0)))]) QUP)
abbrev QUW:AC:= .seq (.block 3 (.seq (.run [.m 61 lT, .o 62 (.cm oE lT 5), .o 63 (.load pU true 5), .o 9 (.alloc [(.str []),(.slice .full 0 []),(.slice .full 0 []),(.slice .full 0 []),(.slice .full 0 [])]), .m 8 qF, .op none none (.store dn qG 5)]) (.seq (.run [.o 64 (.load dn true 5), .c 65 sQ [qH], .m 10 um]) QUR))) (.run [.o 94 (.bin .add lT (.k (.int .i64 1))), .m 59 UU])
abbrev QV0:AC:= .block 2 (.loop (.seq (.run [.o 60 (.bin .lss lT nX)]) (.seq (.cond pb .skip (.exit 2)) QUW)))
abbrev QV4:AC:= .seq (.seq (.run [.o 56 (.aq bt 1), .o 57 (.load nq false 1), .o 58 (.len oE), .o 59 (.mv (.k (.int .i64 0)))]) QV0) (.seq (.run [.o 95 (.build [(.int .i64 0),(.int .i64 0)] []), .op none none (.store dw UW 2)]) .ret)
abbrev QV6:AC:= .seq (.seq (.run [.o 32 (.aq bt 0), .o 33 (.load gP false 1), .c 34 oh [gF], .m 35 iA, .g 36 35 false (.mv cB), .d 37 35 false oh [iB], .o 38 (.pick gQ (.k (.bool true)) je), .m 39 j7, .g 40 39 false (.mv dB), .g 41 39 false (.bin .lss ku (.k (.int .i64 0))), .o 42 (.pick jN (.k (.bool true)) j8), .m 43 kH, .g 44 43 false (.aq bt 1), .g 45 43 false (.load kI false 1), .g 46 43 false (.mv dB), .g 47 43 false (.cm lH lI 5), .g 48 43 false (.aq lS 1), .g 49 43 false (.load kW false 1), .g 50 43 false (.len kX), .g 51 43 false (.bin .gtr lJ (.k (.int .i64 0))), .o 52 (.pick kv (.k (.bool true)) kJ)]) (.cond kK QTV .skip)) (.seq (.run [.o 54 (.load bt true 2), .c 55 kU [lK], .m 7 lL]) QV4)
abbrev QV8:AC:= .seq (.seq (.run [.o 17 (.aq bt 1), .o 18 (.load dC false 1), .o 19 (.len dD), .o 20 (.mv (.k (.int .i64 0)))]) QTQ) (.seq (.run [.m 30 cB,(.c 31 fW [gE,(.k (.str [109,97,105,110]))]), .m 6 gp]) QV6)
abbrev QVA:AC:= .seq (.seq (.run [.o 13 (.load bt true 2), .c 14 rB [db], .o 15 (.un .not cJ)]) (.cond dA QTA .skip)) (.seq (.run [.o 3 (.mv (.k (.slice .full 0 [])))]) QV8)
abbrev QVB:AC:= .seq (.run [.o 1 (.box br), .o 2 (.alloc [(.int .i64 0),(.int .i64 0)])]) QVA
abbrev QVF:AC:= .seq (.run [(.o 9 (.build [(.int .i64 0),(.int .i64 0)] [(0,(1,(.k (.int .i64 1))))])), .op none none (.store dw dn 2)]) .ret
abbrev QVO:AC:= .seq (.run [.o 31 (.aq fi 0), .o 32 (.aq gp 0), .o 33 (.load gP false 1),(.o 34 (.build [(.int .i64 0),(.int .i64 0)] [(0,(1,(.k (.int .i64 6)))),(1,(1,gF))])), .op none none (.store dw iA 2)]) .ret
abbrev QVR:AC:= .seq (.run [.o 18 (.cm cJ df 17), .o 19 (.load dD true 17), .o 4 (.alloc [(.int .i64 0),(.int .i64 0),(.slice .full 0 []),(.str []),(.str []),(.int .i64 0),(.int .i64 0),(.str []),(.slice .full 0 []),(.bool false),(.slice .full 0 []),(.slice .full 0 []),(.slice .full 0 []),(.int .i64 0),(.int .i64 0),(.int .i64 0),(.int .i64 0)]), .op none none (.store fi dU 17)]) (.seq (.run [.o 20 (.aq fi 0), .o 21 (.aq eA 1), .o 22 (.load dV false 1), .o 23 (.bin .eql eD (.k (.int .i64 4))), .m 24 eH, .g 25 24 true (.load bt true 2), .g 26 24 true (.aq fi 0), .g 27 24 true (.load fp true 13), .d 28 24 true vD [eU,fq], .g 29 24 true (.un .not gb), .o 30 (.pick eR fY (.k (.bool false)))]) (.cond gE QVO .skip))
abbrev QVV:AC:= .seq (.cond dC .skip (.exit 0)) (.seq (.block 1 QVR) (.run [.o 35 (.bin .add df (.k (.int .i64 1))), .m 16 gQ]))
abbrev QVZ:AC:= .seq (.run [.o 10 (.load bt true 2), .c 11 kU [cd], .o 12 (.bS cD), .o 13 (.aq cT 2), .o 14 (.load db false 1), .o 15 (.len cJ), .o 16 (.mv (.k (.int .i64 0)))]) (.block 0 (.loop (.seq (.run [.o 17 (.bin .lss df dA)]) QVV)))
abbrev QW3:AC:= .seq (.seq (.run [.o 5 (.load bt true 2), .c 6 lW [ct], .o 7 (.AJ dB 0 false 1), .o 8 (.bin .neq cW (.k (.int .i64 0)))]) (.cond cR QVF .skip)) (.seq QVZ (.seq (.run [.o 36 (.build [(.int .i64 0),(.int .i64 0)] []), .op none none (.store dw iB 2)]) .ret))
abbrev QW4:AC:= .seq (.run [.o 1 (.box br), .o 2 (.alloc [(.int .i64 0),(.int .i64 0)])]) QW3
abbrev QW9:AC:= .seq (.run [(.o 14 (.build [(.int .i64 0),(.int .i64 0)] [(0,(1,(.k (.int .i64 1))))])), .op none none (.store dw cJ 2)]) .ret
abbrev QWP:AC:= .seq (.run [.o 47 (.aq dn 0), .o 48 (.aq lS 0), .o 49 (.load kW false 1),(.o 50 (.build [(.int .i64 0),(.int .i64 0)] [(0,(1,(.k (.int .i64 7)))),(1,(1,kX))])), .op none none (.store dw lJ 2)]) .ret
abbrev QWS:AC:= .seq (.run [.m 32 dB, .o 33 (.aq dn 0), .o 34 (.aq gF 2), .o 35 (.load iA false 1), .c 36 qe [gP,gQ], .m 31 iB, .o 37 (.ext gp 0), .o 38 (.ext gp 1), .m 6 je, .m 7 j7]) (.seq (.run [.m 39 cW, .o 40 (.un .not jN), .m 41 ku, .g 42 41 false (.mv cB), .g 43 41 false (.load dn true 17), .d 44 41 false vE [kH,kv], .g 45 41 false (.un .not kI), .o 46 (.pick j8 (.k (.bool true)) lH)]) (.cond lI QWP .skip))
abbrev QWW:AC:= .seq (.block 3 (.seq (.run [.o 29 (.cm eU fq 17), .o 30 (.load fY true 17), .o 9 (.alloc [(.int .i64 0),(.int .i64 0),(.slice .full 0 []),(.str []),(.str []),(.int .i64 0),(.int .i64 0),(.str []),(.slice .full 0 []),(.bool false),(.slice .full 0 []),(.slice .full 0 []),(.slice .full 0 []),(.int .i64 0),(.int .i64 0),(.int .i64 0),(.int .i64 0)]), .op none none (.store dn gE 17)]) QWS)) (.run [.o 51 (.bin .add fq (.k (.int .i64 1))), .m 27 kJ])
abbrev QX0:AC:= .block 2 (.loop (.seq (.run [.o 28 (.bin .lss fq fp)]) (.seq (.cond gb .skip (.exit 2)) QWW)))
abbrev QX5:AC:= .seq (.run [(.o 61 (.build [(.int .i64 0),(.int .i64 0)] [(0,(1,(.k (.int .i64 7))))])), .op none none (.store dw qF 2)]) .ret
abbrev QX9:AC:= .seq (.seq (.run [.m 23 cB, .m 24 fi, .c 25 gM [eH,eR], .o 26 (.len eU), .o 27 (.mv (.k (.int .i64 0)))]) QX0) (.seq (.run [.m 53 dB, .o 54 (.aq ct 4), .o 55 (.load lK false 1), .c 56 qe [kY,lL], .m 52 nq, .o 57 (.ext kK 0), .o 58 (.ext kK 1), .m 7 nX]) (.seq (.run [.m 59 cW, .o 60 (.un .not lT)]) (.cond pb QX5 .skip)))
abbrev QXB:AC:= .seq (.run [.o 6 (.mv (.k (.slice .full 0 [])))]) (.seq (.run [.o 7 (.mv (.k (.bool true)))]) QX9)
abbrev QXF:AC:= .seq (.block 1 (.seq (.run [.m 20 dD, .o 21 (.cm df dD 5), .o 22 (.load dV true 5), .o 5 (.alloc [(.str []),(.slice .full 0 []),(.slice .full 0 []),(.slice .full 0 []),(.slice .full 0 [])]), .m 4 eA, .op none none (.store ct eD 5)]) QXB)) (.run [.o 62 (.bin .add dD (.k (.int .i64 1))), .m 18 pU])
abbrev QXJ:AC:= .block 0 (.loop (.seq (.run [.o 19 (.bin .lss dD dC)]) (.seq (.cond dU .skip (.exit 0)) QXF)))
abbrev QXN:AC:= .seq (.seq (.run [.o 15 (.aq bt 1), .o 16 (.load dA false 1), .o 17 (.len df), .o 18 (.mv (.k (.int .i64 0)))]) QXJ) (.seq (.run [.o 63 (.build [(.int .i64 0),(.int .i64 0)] []), .op none none (.store dw qG 2)]) .ret)
abbrev QXP:AC:= .seq (.run [.o 10 (.load bt true 2), .c 11 rE [cd], .m 3 cD]) (.seq (.seq (.run [.m 12 cB, .o 13 (.Gb false cT (.k .dR))]) (.cond db QW9 .skip)) QXN)
abbrev QXQ:AC:= .seq (.run [.o 1 (.box br), .o 2 (.alloc [(.int .i64 0),(.int .i64 0)])]) QXP
abbrev QXU:AC:= .seq (.run [(.o 12 (.build [(.int .i64 0),(.int .i64 0)] [(0,(1,(.k (.int .i64 1))))])), .op none none (.store dw cT 2)]) .ret
abbrev QY2:AC:= .par [.m 21 cB, .o 22 (.aq ct 0), .o 23 (.load eD false 1), .o 24 (.load bt true 2), .o 25 (.aq ct 0), .o 26 (.load eU false 1), .c 27 rF [eR,fp], .op none none (.yJ dV eH fq)] [(3,0),(4,0),(5,0),(6,0),(0,0),(1,0),(2,1),(7,0)]
abbrev QY6:AC:= .seq (.block 1 (.seq (.run [.o 19 (.cm dA dC 5), .o 20 (.load dU true 5), .o 5 (.alloc [(.str []),(.slice .full 0 []),(.slice .full 0 []),(.slice .full 0 []),(.slice .full 0 [])]), .op none none (.store ct eA 5)]) QY2)) (.run [.o 28 (.bin .add dC (.k (.int .i64 1))), .m 17 gb])
abbrev QYA:AC:= .block 0 (.loop (.seq (.run [.o 18 (.bin .lss dC df)]) (.seq (.cond dD .skip (.exit 0)) QY6)))
abbrev QYI:AC:= .seq (.run [.o 54 (.aq cW 0), .o 55 (.aq lK 0), .o 56 (.load lL false 1),(.o 57 (.build [(.int .i64 0),(.int .i64 0)] [(0,(1,(.k (.int .i64 8)))),(1,(1,nq))])), .op none none (.store dw oE 2)]) .ret
abbrev QYL:AC:= .seq (.run [.o 37 (.cm gF gQ 17), .o 38 (.load je true 17), .o 7 (.alloc [(.int .i64 0),(.int .i64 0),(.slice .full 0 []),(.str []),(.str []),(.int .i64 0),(.int .i64 0),(.str []),(.slice .full 0 []),(.bool false),(.slice .full 0 []),(.slice .full 0 []),(.slice .full 0 []),(.int .i64 0),(.int .i64 0),(.int .i64 0),(.int .i64 0)]), .op none none (.store cW j7 17)]) (.seq (.run [.o 39 (.aq cW 0), .o 40 (.aq jN 1), .o 41 (.load ku false 1), .o 42 (.bin .eql j8 (.k (.int .i64 4))), .m 43 kH, .g 44 43 true (.aq cW 0), .g 45 43 true (.load kI true 13), .g 46 43 true (.mv cB), .g 47 43 true (.aq cW 0), .g 48 43 true (.aq lS 4), .g 49 43 true (.load kW false 1), .g 50 43 true (.wg lI kX (.slice .full 0 [])), .d 51 43 true sq [lH,lJ], .g 52 43 true (.un .not kJ), .o 53 (.pick kv kK (.k (.bool false)))]) (.cond kY QYI .skip))
abbrev QYP:AC:= .seq (.cond iB .skip (.exit 2)) (.seq (.block 3 QYL) (.run [.o 58 (.bin .add gQ (.k (.int .i64 1))), .m 35 nX]))
abbrev QYT:AC:= .seq (.run [.o 29 (.load bt true 2), .c 30 kU [fY], .o 31 (.bS gE), .o 32 (.aq gp 2), .o 33 (.load gP false 1), .o 34 (.len gF), .o 35 (.mv (.k (.int .i64 0)))]) (.block 2 (.loop (.seq (.run [.o 36 (.bin .lss gQ iA)]) QYP)))
abbrev QYX:AC:= .seq (.seq (.run [.o 14 (.aq bt 1), .o 15 (.load cJ false 1), .o 16 (.len dA), .o 17 (.mv (.k (.int .i64 0)))]) QYA) (.seq QYT (.seq (.run [.o 59 (.build [(.int .i64 0),(.int .i64 0)] []), .op none none (.store dw lT 2)]) .ret))
abbrev QYZ:AC:= .seq (.seq (.run [.o 8 (.load bt true 2), .c 9 qo [cR], .o 10 (.AJ dn 0 false 1), .o 11 (.bin .neq cd (.k (.int .i64 0)))]) (.cond cD QXU .skip)) (.seq (.run [.op (some 13) none .uQ, .m 3 db]) QYX)
abbrev QZ0:AC:= .seq (.run [.o 1 (.box br), .o 2 (.alloc [(.int .i64 0),(.int .i64 0)])]) QYZ
abbrev QZB:AC:= .cond dC (.seq (.run [.o 2 (.mv (.k (.int .i64 2)))]) .ret) .skip
abbrev QZD:AC:= .cond cd (.seq (.run [.o 2 (.mv (.k (.int .i64 1)))]) .ret) (.seq (.run [.m 18 br, .o 19 (.bin .geq dD (.k (.int .i64 5))), .m 20 dU, .g 21 20 true (.mv br), .g 22 20 true (.bin .leq dV (.k (.int .i64 17))), .o 23 (.pick eA eD (.k (.bool false))), .m 17 eH]) QZB)
abbrev QZF:AC:= .cond cB (.seq (.run [.o 2 (.mv (.k (.int .i64 0)))]) .ret) (.seq (.run [.m 11 br, .o 12 (.bin .eql cD (.k (.int .i64 3))), .m 13 cT, .g 14 13 false (.mv br), .g 15 13 false (.bin .eql cJ (.k (.int .i64 4))), .o 16 (.pick db (.k (.bool true)) dA), .m 10 df]) QZD)
abbrev QZH:AC:= .block 0 (.seq (.run [.m 4 br, .o 5 (.bin .eql fi (.k (.int .i64 1))), .m 6 ct, .g 7 6 false (.mv br), .g 8 6 false (.bin .eql cW (.k (.int .i64 2))), .o 9 (.pick dB (.k (.bool true)) cR), .m 3 dn]) QZF)
abbrev QZJ:AC:= .seq (.run [(.o 2 (.mv (.k (.int .i64 (-1)))))]) .ret
abbrev QZL:AC:= .seq (.run [.o 2 (.mv (.k (.int .i64 0)))]) (.seq QZH QZJ)
open Go.Proofs
theorem FD:Has Tryz.prog nn 15 [(2,none)] QLP:=⟨Tryz.f64,by kernel_rfl,by kernel_rfl⟩
theorem nr:Has Tryz.prog nW 27 [(2,none)] QLZ:=⟨Tryz.f65,by kernel_rfl,by kernel_rfl⟩
theorem rK:Has Tryz.prog kr 71 [(6,none)] QN0:=⟨Tryz.f66,by kernel_rfl,by kernel_rfl⟩
theorem Jt:Has Tryz.prog rC 5 [(2,(some (true,4)))] QN4:=⟨Tryz.f68,by kernel_rfl,by kernel_rfl⟩
theorem Hz:Has Tryz.prog lg 5 [(2,(some (true,4)))] QN8:=⟨Tryz.f69,by kernel_rfl,by kernel_rfl⟩
theorem Ju:Has Tryz.prog uU 12 [(6,(some (true,4)))] QNC:=⟨Tryz.f70,by kernel_rfl,by kernel_rfl⟩
theorem Bq:Has Tryz.prog jY 29 [(4,none)] QNV:=⟨Tryz.f71,by kernel_rfl,by kernel_rfl⟩
theorem Br:Has Tryz.prog jZ 73 [] QOX:=⟨Tryz.f72,by kernel_rfl,by kernel_rfl⟩
theorem FE:Has Tryz.prog vB 28 [(4,none)] QPQ:=⟨Tryz.f73,by kernel_rfl,by kernel_rfl⟩
theorem zn:Has Tryz.prog o7 27 [(4,none)] QQ0:=⟨Tryz.f74,by kernel_rfl,by kernel_rfl⟩
theorem rW:Has Tryz.prog gh 19 [(4,none)] QQN:=⟨Tryz.f75,by kernel_rfl,by kernel_rfl⟩
theorem yk:Has Tryz.prog lM 8 [(3,none)] QQR:=⟨Tryz.f76,by kernel_rfl,by kernel_rfl⟩
theorem yl:Has Tryz.prog iI 20 [(4,none)] QQX:=⟨Tryz.f77,by kernel_rfl,by kernel_rfl⟩
theorem ym:Has Tryz.prog jS 64 [(4,none),(5,none)] QRR:=⟨Tryz.f78,by kernel_rfl,by kernel_rfl⟩
theorem yn:Has Tryz.prog ek 26 [] QRV:=⟨Tryz.f79,by kernel_rfl,by kernel_rfl⟩
theorem Cx:Has Tryz.prog oO 38 [(6,none),(7,none)] QSO:=⟨Tryz.f80,by kernel_rfl,by kernel_rfl⟩
theorem Ak:Has Tryz.prog qd 13 [(4,none)] QSY:=⟨Tryz.f81,by kernel_rfl,by kernel_rfl⟩
theorem Aw:Has Tryz.prog kP 15 [(2,none)] QT2:=⟨Tryz.f82,by kernel_rfl,by kernel_rfl⟩
theorem HA:Has Tryz.prog sP 6 [(2,none)] QT6:=⟨Tryz.f85,by kernel_rfl,by kernel_rfl⟩
theorem wH:Has Tryz.prog lW 96 [(2,(some (true,2)))] QVB:=⟨Tryz.f95,by kernel_rfl,by kernel_rfl⟩
theorem wI:Has Tryz.prog qo 37 [(2,(some (true,2)))] QW4:=⟨Tryz.f96,by kernel_rfl,by kernel_rfl⟩
theorem yo:Has Tryz.prog vC 64 [(2,(some (true,2)))] QXQ:=⟨Tryz.f97,by kernel_rfl,by kernel_rfl⟩
theorem wJ:Has Tryz.prog uf 60 [(2,(some (true,2)))] QZ0:=⟨Tryz.f98,by kernel_rfl,by kernel_rfl⟩
theorem HC:Has Tryz.prog xw 24 [(2,none)] QZL:=⟨Tryz.f99,by kernel_rfl,by kernel_rfl⟩
abbrev QZP:AC:= .seq (.run [.o 2 (.mv (.k (.bool false)))]) (.seq (.run [.m 3 br, .o 4 (.bin .geq cB (.k (.int .u8 97))), .m 5 fi, .g 6 5 true (.mv br), .g 7 5 true (.bin .leq dB (.k (.int .u8 122))), .o 8 (.pick ct cW (.k (.bool false))), .m 2 cR]) .ret)
abbrev QZW:AC:= .seq (.seq (.run [.m 5 bt, .m 6 br, .o 7 (.vh dB), .o 8 (.bin .lss ct cW), .m 9 cR, .g 10 9 true (.mv br), .g 11 9 true (.mv bt), .g 12 9 true (.AL cd cD), .d 13 9 true rD [cT], .g 14 9 true (.mv db), .g 15 14 false (.mv br), .g 16 14 false (.mv bt), .g 17 14 false (.AL dA df), .d 18 14 false xx [dC], .g 19 9 true (.pick cJ (.k (.bool true)) dD), .o 20 (.pick dn dU (.k (.bool false)))]) (.cond eA .skip (.exit 0))) (.block 1 (.run [.m 21 bt, .o 22 (.bin .add dV (.k (.int .i64 1))), .m 1 eD]))
abbrev ajL:AC:= .seq (.run [.o 4 (.mv (.k (.int .i64 0)))]) (.seq (.block 0 (.loop QZW)) (.seq (.run [.m 23 bt, .m 4 eH]) .ret))
abbrev ajM:AC:= .seq (.run [.o 16 (.bin .eql cB (.k (.str [114,101,97,100]))), .m 4 df]) (.cond fi .skip (.run [.o 17 (.bin .eql cB (.k (.str [112,114,105,110,116]))), .m 4 dC]))
abbrev ajN:AC:= .cond fi .skip (.seq (.run [.o 15 (.bin .eql cB (.k (.str [103,111,116,111]))), .m 4 dA]) (.cond fi .skip ajM))
abbrev ajO:AC:= .cond fi .skip (.seq (.run [.o 14 (.bin .eql cB (.k (.str [114,101,116,117,114,110]))), .m 4 cJ]) ajN)
abbrev ajP:AC:= .cond fi .skip (.seq (.run [.o 13 (.bin .eql cB (.k (.str [99,111,110,116,105,110,117,101]))), .m 4 db]) ajO)
abbrev ajQ:AC:= .cond fi .skip (.seq (.run [.o 12 (.bin .eql cB (.k (.str [98,114,101,97,107]))), .m 4 cT]) ajP)
abbrev ajR:AC:= .cond fi .skip (.seq (.run [.o 11 (.bin .eql cB (.k (.str [119,104,105,108,101]))), .m 4 cD]) ajQ)
abbrev ajS:AC:= .cond fi .skip (.seq (.run [.o 10 (.bin .eql cB (.k (.str [101,108,115,101]))), .m 4 cd]) ajR)
abbrev ajT:AC:= .cond fi .skip (.seq (.run [.o 9 (.bin .eql cB (.k (.str [105,102]))), .m 4 dn]) ajS)
abbrev ajU:AC:= .cond fi .skip (.seq (.run [.o 8 (.bin .eql cB (.k (.str [114,101,102]))), .m 4 cR]) ajT)
abbrev ajV:AC:= .cond fi .skip (.seq (.run [.o 7 (.bin .eql cB (.k (.str [118,97,114]))), .m 4 cW]) ajU)
abbrev ajW:AC:= .cond fi .skip (.seq (.run [.o 6 (.bin .eql cB (.k (.str [112,114,111,99]))), .m 4 dB]) ajV)
abbrev ajX:AC:= .cond fi (.seq (.run [.o 2 (.mv (.k (.bool true)))]) .ret) .skip
abbrev ajY:AC:= .seq (.seq (.run [.o 5 (.bin .eql cB (.k (.str [103,108,111,98,97,108]))), .m 4 ct]) ajW) ajX
abbrev ajZ:AC:= .seq (.seq (.run [.m 3 br]) (.block 0 ajY)) (.seq (.run [.o 2 (.mv (.k (.bool false)))]) .ret)
abbrev aj0:AC:= .seq (.run [.o 2 (.mv (.k (.bool false)))]) ajZ
abbrev aj1:AC:= .par [.o 10 (.aq bt 9), .o 11 (.load cd false 1), .o 3 (.mv (.k (.bool false))), .o 4 (.mv (.k (.bool false))), .o 5 (.mv (.k (.bool false))), .m 6 cD, .o 7 (.mv (.k (.bool false))), .o 8 (.mv (.k (.bool false)))] [(0,0),(1,0),(2,0),(3,0),(4,0),(5,0),(6,0),(7,0)]
abbrev aj2:AC:= .seq (.run [.o 20 (.bin .eql df (.k (.int .i64 2))), .m 19 eA]) (.cond dU .skip (.run [.o 21 (.bin .eql df (.k (.int .i64 10))), .m 19 dV]))
abbrev aj3:AC:= .seq (.run [.o 38 (.bin .eql df (.k (.int .i64 7))), .m 37 j7]) (.cond je .skip (.run [.o 39 (.bin .eql df (.k (.int .i64 8))), .m 37 jN]))
abbrev aj4:AC:= .cond je .skip (.seq (.run [.o 2 (.mv (.k (.bool false)))]) .ret)
abbrev aj5:AC:= .seq (.run [.o 34 (.bin .eql df (.k (.int .i64 9))), .m 33 iA]) (.cond gF (.run [.o 35 (.aq bt 9), .o 36 (.load gQ false 1), .m 5 iB, .o 6 (.mv (.k (.bool false)))]) (.seq aj3 aj4))
abbrev aj6:AC:= .seq (.run [.o 32 (.bin .eql df (.k (.int .i64 6))), .m 31 gP]) (.cond gp (.run [.o 5 (.mv (.k (.bool true))), .o 7 (.mv (.k (.bool true)))]) aj5)
abbrev aj7:AC:= .seq (.run [.o 30 (.bin .eql df (.k (.int .i64 5))), .m 29 gE]) (.cond fY (.run [.o 5 (.mv (.k (.bool true))), .o 7 (.mv (.k (.bool true))), .o 8 (.mv (.k (.bool true)))]) aj6)
abbrev aj8:AC:= .seq (.run [.o 25 (.bin .eql df (.k (.int .i64 4))), .m 24 eU]) (.cond eR (.run [.o 26 (.aq bt 3), .o 27 (.load fp false 1), .o 28 (.bin .neq fq (.k (.str []))), .m 3 gb, .o 4 (.mv (.k (.bool true)))]) aj7)
abbrev aj9:AC:= .seq (.run [.o 23 (.bin .eql df (.k (.int .i64 3))), .m 22 eH]) (.cond eD (.run [.o 5 (.mv (.k (.bool true)))]) aj8)
abbrev aka:AC:= .seq aj2 (.cond dU (.run [.o 3 (.mv (.k (.bool true)))]) aj9)
abbrev akb:AC:= .seq (.run [.o 18 (.bin .eql df (.k (.int .i64 1))), .m 17 dD]) (.cond dC (.run [.o 3 (.mv (.k (.bool true))), .o 5 (.mv (.k (.bool true)))]) aka)
abbrev akc:AC:= .run [.m 40 dB, .m 41 ku, .g 42 41 false (.mv cW), .g 43 41 false (.un .not kH), .g 44 41 false (.mv kv), .g 45 44 true (.aq bt 11), .g 46 44 true (.load lH false 1), .g 47 44 true (.len lI), .g 48 44 true (.bin .gtr lS (.k (.int .i64 0))), .g 49 41 false (.pick kI kW (.k (.bool false))), .o 50 (.pick j8 (.k (.bool true)) kX), .m 51 lJ, .g 52 51 false (.mv cR), .g 53 51 false (.un .not kK), .g 54 51 false (.mv kY), .g 55 54 true (.aq bt 12), .g 56 54 true (.load lL false 1), .g 57 54 true (.len nq), .g 58 54 true (.bin .gtr oE (.k (.int .i64 0))), .g 59 51 false (.pick lK nX (.k (.bool false))), .o 60 (.pick kJ (.k (.bool true)) lT), .m 61 pb, .g 62 61 false (.mv dn), .g 63 61 false (.un .not pU), .g 64 61 false (.mv qG), .g 65 64 true (.aq bt 10), .g 66 64 true (.load um false 1), .g 67 64 true (.len vH), .g 68 64 true (.bin .gtr xB (.k (.int .i64 0))), .g 69 61 false (.pick qH vI (.k (.bool false))), .o 70 (.pick qF (.k (.bool true)) zi)]
abbrev akd:AC:= .cond zj (.seq (.run [.o 2 (.mv (.k (.bool false)))]) .ret) .skip
abbrev ake:AC:= .cond Dw (.seq (.run [.o 2 (.mv (.k (.bool false)))]) .ret) .skip
abbrev acJ:AC:= .seq (.seq (.run [.o 71 (.aq bt 3), .o 72 (.load Ds false 1), .m 73 cB, .c 74 o8 [Bn,Bo], .o 75 (.un .not Dt), .m 76 Du, .g 77 76 false (.aq bt 4), .g 78 76 false (.load Dv false 1), .g 79 76 false (.mv fi), .d 80 76 false o8 [zk,Fz], .g 81 76 false (.un .not FA), .o 82 (.pick Bp (.k (.bool true)) FB), .m 83 Jh, .g 84 83 false (.aq bt 5), .g 85 83 false (.load Jj true 4), .g 86 83 false (.mv ct), .d 87 83 false rG [Jk,Jl], .g 88 83 false (.un .not Jm), .o 89 (.pick Ji (.k (.bool true)) Jn)]) ake) (.seq (.run [.o 90 (.aq bt 10), .o 91 (.load FC false 1), .c 92 uh [Jo], .m 2 OS]) .ret)
abbrev acK:AC:= .seq (.seq akc akd) acJ
abbrev UX:AC:= .seq (.seq (.run [.o 15 (.aq bt 1), .o 16 (.load dA false 1)]) (.block 0 akb)) acK
abbrev acL:AC:= .seq (.run [.o 12 (.aq bt 1), .o 13 (.load cT false 1), .o 14 (.bin .eql db (.k (.int .i64 4))), .m 9 cJ]) UX
abbrev acM:AC:= .seq aj1 acL
abbrev akf:AC:= .seq (.run [.o 1 (.box br), .o 2 (.mv (.k (.bool false)))]) acM
abbrev akg:AC:= .seq (.block 1 (.seq (.run [.o 13 (.cm dn cD 13), .o 14 (.load db true 13), .o 5 (.alloc [(.int .i64 0),(.int .i64 0),(.slice .full 0 []),(.str []),(.str []),(.int .i64 0),(.int .i64 0),(.str []),(.slice .full 0 []),(.bool false),(.slice .full 0 []),(.slice .full 0 []),(.slice .full 0 [])]), .op none none (.store ct cJ 13)]) (.run [.m 15 cB, .o 16 (.load ct true 13), .c 17 mD [df], .o 18 (.bin .add dA dC), .m 3 dD]))) (.run [.o 19 (.bin .add cD (.k (.int .i64 1))), .m 11 dU])
abbrev akh:AC:= .block 0 (.loop (.seq (.run [.o 12 (.bin .lss cD cd)]) (.seq (.cond cT .skip (.exit 0)) akg)))
abbrev aki:AC:= .seq (.block 3 (.seq (.run [.o 25 (.cm dV eH 13), .o 26 (.load eU true 13), .o 7 (.alloc [(.int .i64 0),(.int .i64 0),(.slice .full 0 []),(.str []),(.str []),(.int .i64 0),(.int .i64 0),(.str []),(.slice .full 0 []),(.bool false),(.slice .full 0 []),(.slice .full 0 []),(.slice .full 0 [])]), .op none none (.store cW fp 13)]) (.run [.m 27 cB, .o 28 (.load cW true 13), .c 29 mD [gb], .o 30 (.bin .add fq fY), .m 3 gE]))) (.run [.o 31 (.bin .add eH (.k (.int .i64 1))), .m 23 gp])
abbrev akj:AC:= .block 2 (.loop (.seq (.run [.o 24 (.bin .lss eH eD)]) (.seq (.cond eR .skip (.exit 2)) aki)))
abbrev akk:AC:= .seq (.seq (.run [.o 20 (.aq bt 12), .o 21 (.load eA false 1), .o 22 (.len dV), .o 23 (.mv (.k (.int .i64 0)))]) akj) (.seq (.run [.m 32 cB, .m 2 gP]) .ret)
abbrev akl:AC:= .seq (.seq (.run [.o 8 (.aq bt 11), .o 9 (.load cR false 1), .o 10 (.len dn), .o 11 (.mv (.k (.int .i64 0)))]) akh) akk
abbrev akm:AC:= .seq (.run [.o 1 (.box br), .o 2 (.mv (.k (.int .i64 0)))]) (.seq (.run [.o 3 (.mv (.k (.int .i64 1)))]) akl)
abbrev akn:AC:= .cond fi (.seq (.run [.o 2 (.mv (.k (.slice .full 0 [])))]) .ret) .skip
abbrev ako:AC:= .seq (.run [.o 2 (.mv (.k (.slice .full 0 [])))]) (.seq (.seq (.run [.m 3 br, .nil (some 4) none false cB]) akn) (.seq (.run [.o 5 (.du [(.str [])] 1 0 []), .m 6 br, .o 7 (.app 1 16 ct dB), .m 2 cW]) .ret))
abbrev akp:AC:= .seq (.block 1 (.seq (.run [.o 11 (.cm cW dn 2), .o 12 (.load cD true 2), .o 5 (.alloc [(.str []),(.bool false)]), .op none none (.store ct cT 2)]) (.run [.m 13 cB, .o 14 (.aq ct 0), .o 15 (.load cJ false 1), .o 16 (.du [(.str [])] 1 1 [(0,dA)]), .o 17 (.app 1 16 db df), .m 3 dC]))) (.run [.o 18 (.bin .add dn (.k (.int .i64 1))), .m 9 dD])
abbrev akq:AC:= .block 0 (.loop (.seq (.run [.o 10 (.bin .lss dn cR)]) (.seq (.cond cd .skip (.exit 0)) akp)))
abbrev akr:AC:= .seq (.seq (.run [.o 6 (.aq bt 1), .o 7 (.load dB false 1), .o 8 (.len cW), .o 9 (.mv (.k (.int .i64 0)))]) akq) (.seq (.run [.m 19 cB, .o 20 (.aq bt 2), .o 21 (.load eA false 1), .o 22 (.app 1 16 dU dV), .m 2 eD]) .ret)
abbrev aks:AC:= .seq (.run [.o 1 (.box br), .o 2 (.mv (.k (.slice .full 0 [])))]) (.seq (.run [.o 3 (.mv (.k (.slice .full 0 [])))]) akr)
abbrev akt:AC:= .block 1 (.seq (.run [.m 10 cR, .m 5 cd]) (.seq (.run [.m 11 bt, .m 12 br, .m 13 ct, .o 14 (.cm cT db 1), .o 15 (.load cJ false 1), .o 16 (.bin .eql cD dA)]) (.cond df (.seq (.run [.m 17 ct, .m 4 dC]) .ret) .skip)))
abbrev aku:AC:= .seq (.cond dn .skip (.exit 0)) (.seq akt (.run [.o 18 (.bin .add cR (.k (.int .i64 1))), .m 8 dD]))
abbrev akv:AC:= .seq (.run [.m 6 br, .o 7 (.len dB), .o 8 (.mv (.k (.int .i64 0)))]) (.block 0 (.loop (.seq (.run [.o 9 (.bin .lss cR cW)]) aku)))
abbrev akw:AC:= .seq (.run [(.o 4 (.mv (.k (.int .i64 (-1)))))]) .ret
abbrev akx:AC:= .seq (.run [.o 4 (.mv (.k (.int .i64 0)))]) (.seq akv akw)
abbrev aky:AC:= .cond cd (.seq (.run [.o 6 (.mv (.k (.int .i64 0))), .o 7 (.mv (.k (.bool false)))]) .ret) .skip
abbrev akz:AC:= .seq (.run [.o 3 (.box br), .o 6 (.mv (.k (.int .i64 0))), .o 7 (.mv (.k (.bool false)))]) (.seq (.seq (.run [.o 8 (.load cB true 4), .c 9 nj [cR], .o 10 (.un .not dn)]) aky) (.seq (.run [.o 11 (.load cB true 4), .m 12 bt, .m 13 dw, .c 14 lh [cD,cT,db], .o 15 (.ext cJ 0), .o 16 (.ext cJ 1), .m 6 dA, .m 7 df]) .ret))
abbrev akA:AC:= .seq (.run [.o 4 (.mv (.k (.bool false)))]) (.seq (.run [.m 5 br, .m 6 bt, .c 7 o9 [ct,dB], .o 8 (.bin .geq cW (.k (.int .i64 0))), .m 4 cR]) .ret)
abbrev akB:AC:= .par [.m 5 br, .o 6 (.bS ct), .o 7 (.aq dB 2), .o 8 (.load cW false 1), .m 9 br, .o 10 (.bS dn), .o 11 (.aq cd 3), .o 12 (.load cD false 1), .m 13 bt, .o 14 (.cm cT db 1), .o 15 (.load cJ false 1), .o 16 (.bin .sub dA (.k (.int .i64 1))), .m 17 br, .o 18 (.bS dC), .o 19 (.aq dD 4), .o 20 (.load dU false 1), .m 21 bt, .o 22 (.cm eA dV 1), .o 23 (.load eD false 1), .o 24 (.bin .sub eH (.k (.int .i64 1))), .o 25 (.CH 17 cR (some df) (some eR)), .m 4 eU] [(0,0),(1,0),(2,0),(3,0),(4,0),(5,0),(6,0),(7,0),(8,0),(9,0),(10,0),(11,0),(12,0),(13,0),(14,0),(15,0),(16,0),(17,0),(18,0),(19,0),(20,0),(21,0)]
abbrev akC:AC:= .seq (.run [.o 4 (.mv (.k (.slice .full 0 [])))]) (.seq akB .ret)
abbrev akD:AC:= .seq (.run [.o 4 (.mv (.k (.bool false)))]) (.seq (.run [.m 5 br, .m 6 bt, .c 7 fW [ct,dB], .o 8 (.bin .geq cW (.k (.int .i64 0))), .m 4 cR]) .ret)
abbrev akE:AC:= .run [.m 23 fi, .m 24 br, .m 25 cD, .o 26 (.cm eR eU 13), .o 27 (.load fp true 13), .m 28 bt, .m 29 dw, .m 30 cB, .o 31 (.build [(.int .i64 0),(.int .i64 0),(.slice .full 0 []),(.str []),(.str []),(.int .i64 0),(.int .i64 0),(.str []),(.slice .full 0 []),(.bool false),(.slice .full 0 []),(.slice .full 0 []),(.slice .full 0 []),(.int .i64 0),(.int .i64 0),(.bool false)] [(0,(13,fq)),(13,(1,gb)),(14,(1,fY)),(15,(1,gE))]), .o 32 (.du [(.int .i64 0),(.int .i64 0),(.slice .full 0 []),(.str []),(.str []),(.int .i64 0),(.int .i64 0),(.str []),(.slice .full 0 []),(.bool false),(.slice .full 0 []),(.slice .full 0 []),(.slice .full 0 []),(.int .i64 0),(.int .i64 0),(.bool false)] 16 1 [(0,gp)]), .o 33 (.app 16 232 eH gP), .m 4 gF]
abbrev akF:AC:= .par [.m 36 br, .m 37 cD, .o 38 (.cm iB je 13), .o 39 (.aq j7 11), .o 40 (.load jN false 1), .m 41 bt, .o 42 (.bin .add j8 (.k (.int .i64 1))), .m 43 br, .m 44 cD, .o 45 (.cm kv kI 13), .o 46 (.aq lH 0), .o 47 (.load lI false 1), .m 48 fi, .c 49 mE [ku,kH,lS,(.k (.bool false)),kW], .m 4 kX] [(0,0),(1,0),(2,0),(3,0),(4,0),(5,0),(6,0),(7,0),(8,0),(9,0),(10,0),(11,0),(12,0),(13,0),(14,0)]
abbrev akG:AC:= .par [.m 50 br, .m 51 cD, .o 52 (.cm lJ kJ 13), .o 53 (.aq kK 12), .o 54 (.load kY false 1), .m 55 bt, .o 56 (.bin .add lL (.k (.int .i64 1))), .m 57 br, .m 58 cD, .o 59 (.cm oE nX 13), .o 60 (.aq lT 0), .o 61 (.load pb false 1), .m 62 fi, .c 63 mE [lK,nq,qF,(.k (.bool true)),pU], .m 4 qG] [(0,0),(1,0),(2,0),(3,0),(4,0),(5,0),(6,0),(7,0),(8,0),(9,0),(10,0),(11,0),(12,0),(13,0),(14,0)]
abbrev akH:AC:= .seq akE (.seq (.run [.m 34 bt, .o 35 (.bin .leq iA (.k (.int .i64 12)))]) (.cond gQ (.seq akF akG) .skip))
abbrev akI:AC:= .seq (.seq (.run [.m 12 cD, .m 13 br, .o 14 (.len db), .o 15 (.bin .lss cT cJ), .m 16 dA, .g 17 16 true (.mv fi), .g 18 16 true (.len dC), .g 19 16 true (.bin .leq dD (.k (.int .i64 200))), .o 20 (.pick df dU (.k (.bool false)))]) (.cond eA .skip (.exit 0))) (.seq (.block 1 akH) (.run [.m 21 cD, .o 22 (.bin .add dV (.k (.int .i64 1))), .m 11 eD]))
abbrev akJ:AC:= .seq (.seq (.run [.o 11 (.mv (.k (.int .i64 0)))]) (.block 0 (.loop akI))) (.seq (.run [.m 64 fi, .m 10 qH]) .ret)
abbrev akK:AC:= .seq (.run [.o 10 (.mv (.k (.slice .full 0 [])))]) akJ
abbrev akL:AC:= .cond df (.seq (.run [.o 2 (.mv (.k (.bool true)))]) .ret) .skip
abbrev akM:AC:= .block 1 (.seq (.run [.m 9 cW, .o 10 (.cm ct cW 1), .o 11 (.load cd false 1), .m 3 dn, .m 4 cD]) (.seq (.run [.m 12 br, .m 13 cB, .o 14 (.CH 1 cT none (some db)), .m 15 fi, .c 16 cr [cJ,dA]]) akL))
abbrev akN:AC:= .seq (.cond cR .skip (.exit 0)) (.seq akM (.run [.o 17 (.bin .add cW (.k (.int .i64 1))), .m 7 dC]))
abbrev akO:AC:= .seq (.run [.m 5 br, .o 6 (.len ct), .o 7 (.mv (.k (.int .i64 0)))]) (.block 0 (.loop (.seq (.run [.o 8 (.bin .lss cW dB)]) akN)))
abbrev akP:AC:= .seq akO (.seq (.run [.o 2 (.mv (.k (.bool false)))]) .ret)
abbrev akQ:AC:= .seq (.run [.o 2 (.mv (.k (.bool false)))]) akP
abbrev akR:AC:= .seq (.run [.o 4 (.mv (.k (.bool false)))]) (.seq (.run [.m 5 br, .m 6 bt, .c 7 kV [ct,dB], .o 8 (.bin .geq cW (.k (.int .i64 0))), .m 4 cR]) .ret)
abbrev akS:AC:= .seq (.run [.o 3 (.mv (.k (.bool false)))]) (.seq (.run [.o 4 (.aq bt 0), .o 5 (.load fi false 1), .m 6 br, .c 7 cr [ct,dB], .m 3 cW]) .ret)
abbrev akT:AC:= .cond eD (.seq (.run [.o 8 (.mv (.k (.bool false)))]) .ret) .skip
abbrev akU:AC:= .seq (.run [.o 16 (.cm cT cJ 1), .o 17 (.load df false 1), .m 10 dC]) (.seq (.run [.o 18 (.load fi true 2), .o 19 (.load ct true 5), .m 20 cd, .c 21 vF [dD,dU,eA], .o 22 (.bin .eql dV (.k (.int .i64 0)))]) akT)
abbrev akV:AC:= .seq (.cond dA .skip (.exit 0)) (.seq (.block 1 akU) (.run [.o 23 (.bin .add cJ (.k (.int .i64 1))), .m 14 eH]))
abbrev akW:AC:= .seq (.run [.o 11 (.load cW true 13), .c 12 rH [cD], .o 13 (.len cT), .o 14 (.mv (.k (.int .i64 0)))]) (.block 0 (.loop (.seq (.run [.o 15 (.bin .lss cJ db)]) akV)))
abbrev akX:AC:= .seq akW (.seq (.run [.o 24 (.aq cW 1), .o 25 (.load eR false 1), .o 26 (.bin .neq eU (.k (.int .i64 4))), .m 27 fp, .g 28 27 false (.aq cW 4), .g 29 27 false (.load gb false 1), .g 30 27 false (.bin .neq fY (.k (.str [109,97,105,110]))), .g 31 27 false (.mv gE), .g 32 31 true (.mv dw), .g 33 31 true (.aq cW 4), .g 34 31 true (.load gF false 1), .d 35 31 true cr [gP,iA], .g 36 27 false (.pick gp gQ (.k (.bool false))), .o 37 (.pick fq (.k (.bool true)) iB), .m 8 je]) .ret)
abbrev akY:AC:= .seq (.run [.o 4 (.box br), .o 5 (.box bt), .o 7 (.box cB), .o 8 (.mv (.k (.bool false)))]) akX
abbrev akZ:AC:= .cond dn (.seq (.run [.o 4 (.mv (.k (.bool false)))]) .ret) .skip
abbrev ak0:AC:= .seq (.run [.o 15 (.cm cD db 5), .o 16 (.load dA true 5), .o 6 (.alloc [(.str []),(.slice .full 0 []),(.slice .full 0 []),(.slice .full 0 []),(.slice .full 0 [])]), .op none none (.store dB df 5)]) (.seq (.run [.o 17 (.aq dB 0), .o 18 (.load dC false 1), .o 19 (.aq cB 4), .o 20 (.load dU false 1), .o 21 (.bin .eql dD eA)]) (.cond dV (.seq (.run [.o 22 (.aq dB 1), .o 23 (.load eD false 1), .o 24 (.aq cB 10), .o 25 (.load eR false 1), .c 26 vG [eH,eU], .m 4 fp]) .ret) .skip))
abbrev ak1:AC:= .seq (.cond cJ .skip (.exit 0)) (.seq (.block 1 ak0) (.run [.o 27 (.bin .add db (.k (.int .i64 1))), .m 13 fq]))
abbrev ak2:AC:= .seq (.run [.o 10 (.aq dw 1), .o 11 (.load cd false 1), .o 12 (.len cD), .o 13 (.mv (.k (.int .i64 0)))]) (.block 0 (.loop (.seq (.run [.o 14 (.bin .lss db cT)]) ak1)))
abbrev ak3:AC:= .seq ak2 (.seq (.run [.o 4 (.mv (.k (.bool false)))]) .ret)
abbrev ak4:AC:= .seq (.seq (.run [.o 7 (.aq cB 1), .o 8 (.load cW false 1), .o 9 (.bin .neq cR (.k (.int .i64 4)))]) akZ) ak3
abbrev ak5:AC:= .seq (.run [.o 2 (.box br), .o 3 (.box bt), .o 4 (.mv (.k (.bool false)))]) ak4
abbrev ak6:AC:= .seq (.run [.o 3 (.load bt true 2), .c 4 lW [cB], .o 5 (.AJ fi 0 false 1), .o 6 (.bin .neq ct (.k (.int .i64 0)))]) (.cond dB (.seq (.run [.o 2 (.mv (.k .dR))]) .ret) .skip)
abbrev ak7:AC:= .seq (.run [.o 1 (.box br), .o 2 (.mv (.k .dR))]) (.seq ak6 (.seq (.run [.o 7 (.load bt true 2), .c 8 kU [cW], .m 2 cR]) .ret))
abbrev ak8:AC:= .cond df (.seq (.run [.m 17 br, .m 4 dC, .o 5 (.mv (.k (.bool false)))]) .ret) .skip
abbrev ak9:AC:= .block 1 (.seq (.run [.o 12 (.cm cR cd 1), .o 13 (.load cT false 1), .m 7 db]) (.seq (.seq (.run [.m 14 br, .m 15 cW, .c 16 cr [cJ,dA]]) ak8) (.run [.m 18 br, .m 19 cW, .o 20 (.du [(.str [])] 1 1 [(0,dU)]), .o 21 (.app 1 16 dD eA), .m 0 dV])))
abbrev ala:AC:= .seq (.cond cD .skip (.exit 0)) (.seq ak9 (.run [.o 22 (.bin .add cd (.k (.int .i64 1))), .m 10 eD]))
abbrev alb:AC:= .seq (.run [.m 8 bt, .o 9 (.len cR), .o 10 (.mv (.k (.int .i64 0)))]) (.block 0 (.loop (.seq (.run [.o 11 (.bin .lss cd dn)]) ala)))
abbrev alc:AC:= .seq alb (.seq (.run [.m 23 br, .m 4 eH, .o 5 (.mv (.k (.bool true)))]) .ret)
abbrev ald:AC:= .seq (.run [.o 4 (.mv (.k (.slice .full 0 []))), .o 5 (.mv (.k (.bool false)))]) alc
abbrev ale:AC:= .seq (.run [.o 11 (.bin .eql dn (.k (.int .i64 7))), .m 10 cD]) (.cond cd .skip (.run [.o 12 (.bin .eql dn (.k (.int .i64 8))), .m 10 cT]))
abbrev alf:AC:= .cond cd (.seq (.run [.o 13 (.aq cB 16), .o 14 (.load db false 1), .o 15 (.bin .neq cJ (.k (.int .i64 0))), .m 4 dA]) .ret) (.seq (.run [.o 17 (.bin .eql dn (.k (.int .i64 10))), .m 16 dC]) (.cond df (.seq (.run [.m 19 br, .o 20 (.aq cB 13), .o 21 (.load eA false 1), .o 22 (.aq cB 0), .o 23 (.aq eD 3), .o 24 (.load eH false 1), .c 25 oO [dU,dV,eR], .m 18 eU, .o 26 (.ext dD 0), .o 27 (.ext dD 1), .m 5 fp, .m 6 fq]) (.seq (.run [.m 28 dB, .m 4 gb]) .ret)) .skip))
abbrev alg:AC:= .seq (.seq (.run [.o 7 (.aq cB 0), .o 8 (.aq cW 1), .o 9 (.load cR false 1)]) (.block 0 (.seq ale alf))) (.seq (.run [.o 4 (.mv (.k (.bool true)))]) .ret)
abbrev alh:AC:= .seq (.run [.o 3 (.box bt), .o 4 (.mv (.k (.bool false)))]) alg
abbrev ali:AC:= .cond df (.seq (.run [.o 4 (.mv (.k (.slice .full 0 [])))]) .ret) .skip
abbrev alj:AC:= .seq (.run [.o 43 (.cm jN j8 1), .o 44 (.load kv false 1), .m 12 kI]) (.seq (.run [.o 45 (.aq dw 0), .o 46 (.load lH false 1), .m 47 cT, .c 48 cr [lI,lS]]) (.cond kW (.run [.m 49 dB, .m 50 cT, .o 51 (.du [(.str [])] 1 1 [(0,lJ)]), .o 52 (.app 1 16 kX kJ), .m 6 kK]) .skip))
abbrev alk:AC:= .seq (.cond kH .skip (.exit 4)) (.seq (.block 5 alj) (.run [.o 53 (.bin .add j8 (.k (.int .i64 1))), .m 41 kY]))
abbrev alm:AC:= .seq (.run [.o 37 (.aq cd 0), .o 38 (.load je true 13), .c 39 rH [j7], .o 40 (.len jN), .o 41 (.mv (.k (.int .i64 0)))]) (.block 4 (.loop (.seq (.run [.o 42 (.bin .lss j8 ku)]) alk)))
abbrev aln:AC:= .seq (.block 3 (.seq (.run [.o 35 (.cm gp gF 17), .o 36 (.load gQ true 17), .o 10 (.alloc [(.int .i64 0),(.int .i64 0),(.slice .full 0 []),(.str []),(.str []),(.int .i64 0),(.int .i64 0),(.str []),(.slice .full 0 []),(.bool false),(.slice .full 0 []),(.slice .full 0 []),(.slice .full 0 []),(.int .i64 0),(.int .i64 0),(.int .i64 0),(.int .i64 0)]), .op none none (.store cd iB 17)]) alm)) (.run [.o 54 (.bin .add gF (.k (.int .i64 1))), .m 33 lK])
abbrev alo:AC:= .block 2 (.loop (.seq (.run [.o 34 (.bin .lss gF gP)]) (.seq (.cond iA .skip (.exit 2)) aln)))
abbrev alp:AC:= .seq (.run [.o 25 (.cm dV eH 1), .o 26 (.load eU false 1), .m 8 fp]) (.seq (.run [.m 27 ct, .m 28 ct, .m 29 cR, .c 30 iz [gb,fY], .c 31 gM [fq,gE], .o 32 (.len gp), .o 33 (.mv (.k (.int .i64 0)))]) alo)
abbrev alq:AC:= .seq (.cond eR .skip (.exit 0)) (.seq (.block 1 alp) (.run [.o 55 (.bin .add eH (.k (.int .i64 1))), .m 23 lL]))
abbrev alr:AC:= .seq (.run [.m 19 ct, .m 20 bt, .c 21 xy [dU,eA], .o 22 (.len dV), .o 23 (.mv (.k (.int .i64 0)))]) (.block 0 (.loop (.seq (.run [.o 24 (.bin .lss eH eD)]) alq)))
abbrev als:AC:= .seq (.run [.o 17 (.load dw true 2), .c 18 kU [dC], .m 5 dD]) (.seq (.run [.o 6 (.mv (.k (.slice .full 0 [])))]) (.seq alr (.seq (.run [.m 56 dB, .c 57 jz [nq]]) (.seq (.run [.m 58 dB, .c 59 jP [nX], .m 4 lT]) .ret))))
abbrev alu:AC:= .seq (.run [.o 2 (.box br), .o 4 (.mv (.k (.slice .full 0 [])))]) (.seq (.seq (.run [.o 13 (.load dw true 2), .m 14 bt, .c 15 ui [db,cJ], .o 16 (.un .not dA)]) ali) als)
abbrev alv:AC:= .cond iA (.seq (.run [.o 4 (.mv (.k (.bool false)))]) .ret) .skip
abbrev alw:AC:= .seq (.seq (.run [.m 18 ct, .o 19 (.aq cW 1), .o 20 (.load dU false 1), .c 21 cr [dD,eA], .m 22 dV, .g 23 22 false (.aq cW 1), .g 24 22 false (.load eH false 1), .g 25 22 false (.aq dw 3), .g 26 22 false (.load eU false 1), .g 27 22 false (.bin .eql eR fp), .o 28 (.pick eD (.k (.bool true)) fq), .m 29 gb, .g 30 29 false (.mv bt), .g 31 29 false (.aq cW 1), .g 32 29 false (.load gp false 1), .d 33 29 false cr [gE,gP], .o 34 (.pick fY (.k (.bool true)) gF)]) alv) (.run [.m 35 ct, .o 36 (.aq cW 1), .o 37 (.load iB false 1), .o 38 (.du [(.str [])] 1 1 [(0,je)]), .o 39 (.app 1 16 gQ j7), .m 5 jN])
abbrev alx:AC:= .block 1 (.seq (.run [.o 13 (.cm dn cD 6), .o 14 (.load db true 6), .o 7 (.alloc [(.bool false),(.str []),(.int .i64 0),(.int .i64 0),(.str []),(.slice .full 0 [])]), .op none none (.store cW cJ 6)]) (.seq (.seq (.run [.o 15 (.aq cW 0), .o 16 (.load dA false 1), .o 17 (.un .not df)]) (.cond dC (.exit 1) .skip)) alw))
abbrev aly:AC:= .seq (.cond cT .skip (.exit 0)) (.seq alx (.run [.o 40 (.bin .add cD (.k (.int .i64 1))), .m 11 ku]))
abbrev alz:AC:= .seq (.run [.o 8 (.aq dw 10), .o 9 (.load cR false 1), .o 10 (.len dn), .o 11 (.mv (.k (.int .i64 0)))]) (.block 0 (.loop (.seq (.run [.o 12 (.bin .lss cD cd)]) aly)))
abbrev alA:AC:= .seq alz (.seq (.run [.o 4 (.mv (.k (.bool true)))]) .ret)
abbrev alB:AC:= .seq (.run [.o 2 (.box br), .o 4 (.mv (.k (.bool false)))]) (.seq (.run [.o 5 (.mv (.k (.slice .full 0 [])))]) alA)
abbrev alC:AC:= .seq (.run [.o 2 (.mv (.k (.bool false)))]) (.seq (.run [.m 3 br, .o 4 (.bin .geq cB (.k (.int .u8 48))), .m 5 fi, .g 6 5 true (.mv br), .g 7 5 true (.bin .leq dB (.k (.int .u8 57))), .o 8 (.pick ct cW (.k (.bool false))), .m 2 cR]) .ret)
abbrev alD:AC:= .seq (.run [.o 4 (.mv (.k (.bool false)))]) (.seq (.run [.m 5 bt, .m 6 ct, .g 7 6 true (.mv br), .d 8 6 true nW [cW], .o 9 (.pick dB cR (.k (.bool false))), .m 10 dn, .g 11 10 false (.mv bt), .g 12 10 false (.un .not cD), .g 13 10 false (.mv cT), .g 14 13 true (.mv br), .g 15 13 true (.bin .eql cJ (.k (.str []))), .g 16 10 false (.pick db dA (.k (.bool false))), .o 17 (.pick cd (.k (.bool true)) df), .m 4 dC]) .ret)
abbrev alE:AC:= .seq (.run [.o 2 (.box br), .o 4 (.mv (.k (.bool false)))]) (.seq (.run [.m 5 bt, .m 6 ct, .g 7 6 true (.load dw true 4), .d 8 6 true nj [cW], .o 9 (.pick dB cR (.k (.bool false))), .m 10 dn, .g 11 10 false (.mv bt), .g 12 10 false (.un .not cD), .g 13 10 false (.mv cT), .g 14 13 true (.load dw true 4), .d 15 13 true xA [cJ], .g 16 10 false (.pick db dA (.k (.bool false))), .o 17 (.pick cd (.k (.bool true)) df), .m 4 dC]) .ret)
abbrev alG:AC:= .cond eU (.seq (.run [.o 2 (.mv (.k (.bool false)))]) .ret) .skip
abbrev alH:AC:= .seq (.run [.o 9 (.cm ct cW 6), .o 10 (.load dn true 6), .o 4 (.alloc [(.bool false),(.str []),(.int .i64 0),(.int .i64 0),(.str []),(.slice .full 0 [])]), .op none none (.store fi cd 6)]) (.seq (.run [.o 11 (.aq fi 1), .o 12 (.load cD false 1), .o 13 (.aq fi 0), .o 14 (.load db false 1), .c 15 o8 [cT,cJ], .o 16 (.un .not dA), .m 17 df, .g 18 17 false (.aq fi 2), .g 19 17 false (.load dD true 4), .g 20 17 false (.aq fi 0), .g 21 17 false (.load eA false 1), .g 22 17 false (.un .not dV), .d 23 17 false rG [dU,eD], .g 24 17 false (.un .not eH), .o 25 (.pick dC (.k (.bool true)) eR)]) alG)
abbrev alI:AC:= .seq (.cond cR .skip (.exit 0)) (.seq (.block 1 alH) (.run [.o 26 (.bin .add cW (.k (.int .i64 1))), .m 7 fp]))
abbrev alJ:AC:= .seq (.run [.m 5 br, .o 6 (.len ct), .o 7 (.mv (.k (.int .i64 0)))]) (.block 0 (.loop (.seq (.run [.o 8 (.bin .lss cW dB)]) alI)))
abbrev alK:AC:= .seq alJ (.seq (.run [.o 2 (.mv (.k (.bool true)))]) .ret)
abbrev alL:AC:= .seq (.run [.o 2 (.mv (.k (.bool false)))]) alK
abbrev alM:AC:= .cond gp (.seq (.run [.m 32 dw, .m 33 cR, .o 34 (.cm gP gF 1), .o 35 (.load iA false 1), .m 6 gQ, .o 7 (.mv (.k (.bool true)))]) .ret) .skip
abbrev alN:AC:= .seq (.run [.m 20 bt, .o 21 (.aq cB 2), .o 22 (.load dV false 1), .c 23 fW [eA,eD], .m 8 eH]) (.seq (.run [.m 24 cR, .o 25 (.bin .geq eR (.k (.int .i64 0))), .m 26 eU, .g 27 26 true (.mv cR), .g 28 26 true (.mv dw), .g 29 26 true (.len gb), .g 30 26 true (.bin .lss fq fY), .o 31 (.pick fp gE (.k (.bool false)))]) alM)
abbrev alO:AC:= .seq alN (.seq (.run [.o 6 (.mv (.k (.int .i64 0))), .o 7 (.mv (.k (.bool true)))]) .ret)
abbrev alP:AC:= .cond cJ (.seq (.run [.o 16 (.aq cB 1), .o 17 (.load df false 1), .m 6 dC, .o 7 (.mv (.k (.bool true)))]) .ret) (.seq (.run [.o 19 (.bin .eql db (.k (.int .i64 2))), .m 18 dU]) (.cond dD alO .skip))
abbrev alQ:AC:= .block 0 (.seq (.run [.o 15 (.bin .eql db (.k (.int .i64 1))), .m 14 dA]) alP)
abbrev alR:AC:= .cond lS (.seq (.run [.o 6 (.mv (.k (.int .i64 0))), .o 7 (.mv (.k (.bool false)))]) .ret) .skip
abbrev alS:AC:= .cond um (.seq (.run [.o 6 (.mv (.k (.int .i64 0))), .o 7 (.mv (.k (.bool true)))]) .ret) .skip
abbrev alT:AC:= .cond Bn (.seq (.run [.o 6 (.mv (.k (.int .i64 1))), .o 7 (.mv (.k (.bool true)))]) .ret) .skip
abbrev alU:AC:= .cond Jj (.seq (.run [.o 6 (.mv (.k (.int .i64 0))), .o 7 (.mv (.k (.bool false)))]) .ret) .skip
abbrev alV:AC:= .seq (.seq (.run [.o 66 (.aq cB 0), .o 67 (.load vH false 1), .o 68 (.bin .eql xB (.k (.int .i64 17))), .m 69 vI, .g 70 69 true (.mv dn), .d 71 69 true rI [zj], .o 72 (.pick zi Ds (.k (.bool false)))]) alT) (.seq (.run [.o 74 (.aq cB 3), .o 75 (.load Dt false 1), .o 76 (.cm Du (.k (.int .i64 1)) 4), .o 77 (.load Bp true 4), .m 78 bt, .m 79 dw, .c 80 lh [Dv,zk,Fz], .m 73 FA, .o 81 (.ext Bo 0), .o 82 (.ext Bo 1), .m 11 FB, .m 10 Jh]) (.seq (.seq (.run [.m 83 cd, .o 84 (.un .not Ji)]) alU) (.seq (.run [.o 85 (.aq cB 0), .o 86 (.load Jk false 1), .m 87 dn, .m 88 cD, .c 89 zh [Jl,Jm,Jn], .o 90 (.ext Dw 0), .o 91 (.ext Dw 1), .m 6 FC, .m 7 Jo]) .ret)))
abbrev alW:AC:= .seq (.seq (.run [.o 58 (.aq cB 0), .o 59 (.load nX false 1), .o 60 (.bin .eql lT (.k (.int .i64 16))), .m 61 pb, .g 62 61 true (.mv dn), .d 63 61 true rI [pU], .g 64 61 true (.un .not qG), .o 65 (.pick qF qH (.k (.bool false)))]) alS) alV
abbrev alX:AC:= .seq (.seq (.run [.o 48 (.aq cB 3), .o 49 (.load kW false 1), .o 50 (.len kX), .o 51 (.bin .eql lJ (.k (.int .i64 1)))]) (.cond kJ (.seq (.run [.o 52 (.aq cB 0), .o 53 (.load kK false 1), .m 54 dn, .c 55 zf [kY,lK], .o 56 (.ext lL 0), .o 57 (.ext lL 1), .m 6 nq, .m 7 oE]) .ret) .skip)) alW
abbrev alY:AC:= .seq (.seq (.run [.o 12 (.aq cB 0), .o 13 (.load cT false 1)]) alQ) (.seq (.run [.o 37 (.aq cB 3), .o 38 (.load je false 1), .o 39 (.cm j7 (.k (.int .i64 0)) 4), .o 40 (.load jN true 4), .m 41 bt, .m 42 dw, .c 43 lh [ku,j8,kH], .m 36 kv, .o 44 (.ext iB 0), .o 45 (.ext iB 1), .m 9 kI, .m 10 lH]) (.seq (.seq (.run [.m 46 cd, .o 47 (.un .not lI)]) alR) alX))
abbrev alZ:AC:= .seq (.run [.o 3 (.box br), .o 6 (.mv (.k (.int .i64 0))), .o 7 (.mv (.k (.bool false)))]) alY
abbrev al0:AC:= .block 1 (.seq (.run [.m 10 cR, .m 5 cd]) (.seq (.run [.m 11 bt, .m 12 br, .m 13 ct, .o 14 (.cm cT db 1), .o 15 (.load cJ false 1), .o 16 (.bin .eql cD dA)]) (.cond df (.seq (.run [.m 17 ct, .m 4 dC]) .ret) .skip)))
abbrev al1:AC:= .seq (.cond dn .skip (.exit 0)) (.seq al0 (.run [.o 18 (.bin .add cR (.k (.int .i64 1))), .m 8 dD]))
abbrev al2:AC:= .seq (.run [.m 6 br, .o 7 (.len dB), .o 8 (.mv (.k (.int .i64 0)))]) (.block 0 (.loop (.seq (.run [.o 9 (.bin .lss cR cW)]) al1)))
abbrev al3:AC:= .seq (.run [(.o 4 (.mv (.k (.int .i64 (-1)))))]) .ret
abbrev al4:AC:= .seq (.run [.o 4 (.mv (.k (.int .i64 0)))]) (.seq al2 al3)
abbrev al5:AC:= .block 1 (.seq (.run [.m 10 cR, .m 5 cd]) (.seq (.run [.m 11 bt, .m 12 br, .m 13 ct, .o 14 (.cm cT db 1), .o 15 (.load cJ false 1),(.jv (some 16) none 11 [dA])]) (.cond df (.seq (.run [.m 17 ct, .m 4 dC]) .ret) .skip)))
abbrev al6:AC:= .seq (.cond dn .skip (.exit 0)) (.seq al5 (.run [.o 18 (.bin .add cR (.k (.int .i64 1))), .m 8 dD]))
abbrev al7:AC:= .seq (.run [.m 6 br, .o 7 (.len dB), .o 8 (.mv (.k (.int .i64 0)))]) (.block 0 (.loop (.seq (.run [.o 9 (.bin .lss cR cW)]) al6)))
abbrev al8:AC:= .seq (.run [(.o 4 (.mv (.k (.int .i64 (-1)))))]) .ret
abbrev al9:AC:= .seq (.run [.o 4 (.mv (.k (.int .i64 0)))]) (.seq al7 al8)
abbrev ama:AC:= .seq (.seq (.run [.o 31 (.aq ct 0), .o 32 (.load gp false 1)]) (.cond gP (.run [.m 33 cB, .o 34 (.aq ct 1), .o 35 (.load iA false 1), .o 36 (.du [(.str [])] 1 1 [(0,gQ)]), .o 37 (.app 1 16 gF iB), .m 3 je]) .skip)) (.run [.m 38 cB, .o 39 (.aq ct 2), .o 40 (.load jN true 4), .c 41 rJ [ku], .o 42 (.app 1 16 j7 j8), .m 3 kH])
abbrev amb:AC:= .seq (.block 1 (.seq (.run [.o 29 (.cm eU fq 6), .o 30 (.load fY true 6), .o 5 (.alloc [(.bool false),(.str []),(.int .i64 0),(.int .i64 0),(.str []),(.slice .full 0 [])]), .op none none (.store ct gE 6)]) ama)) (.run [.o 43 (.bin .add fq (.k (.int .i64 1))), .m 27 kv])
abbrev amc:AC:= .block 0 (.loop (.seq (.run [.o 28 (.bin .lss fq fp)]) (.seq (.cond gb .skip (.exit 0)) amb)))
abbrev amd:AC:= .seq (.seq (.run [.o 24 (.aq bt 10), .o 25 (.load eR false 1), .o 26 (.len eU), .o 27 (.mv (.k (.int .i64 0)))]) amc) (.seq (.run [.m 44 cB, .m 2 kI]) .ret)
abbrev ame:AC:= .seq (.seq (.run [.o 6 (.aq bt 1), .o 7 (.load dB false 1), .o 8 (.bin .neq cW (.k (.int .i64 10))), .m 9 cR, .g 10 9 true (.aq bt 3), .g 11 9 true (.load cd false 1), .g 12 9 true (.bin .neq cD (.k (.str []))), .o 13 (.pick dn cT (.k (.bool false)))]) (.cond db (.run [.m 14 cB, .o 15 (.aq bt 3), .o 16 (.load dA false 1), .o 17 (.du [(.str [])] 1 1 [(0,df)]), .o 18 (.app 1 16 cJ dC), .m 3 dD]) .skip)) (.seq (.run [.m 19 cB, .o 20 (.aq bt 5), .o 21 (.load eA true 4), .c 22 rJ [dV], .o 23 (.app 1 16 dU eD), .m 3 eH]) amd)
abbrev amf:AC:= .seq (.run [.o 1 (.box br), .o 2 (.mv (.k (.slice .full 0 [])))]) (.seq (.run [.o 3 (.mv (.k (.slice .full 0 [])))]) ame)
abbrev amg:AC:= .cond eH (.seq (.run [.o 6 (.mv (.k (.int .i64 3)))]) .ret) .skip
abbrev amh:AC:= .cond fq (.seq (.run [.o 6 (.mv (.k (.int .i64 2)))]) .ret) .skip
abbrev ami:AC:= .seq (.seq (.run [.o 16 (.aq cR 0), .o 17 (.load df false 1), .m 18 dw, .o 19 (.bin .eql dC dD), .m 20 dU, .g 21 20 true (.aq cR 1), .g 22 20 true (.load dV false 1), .o 23 (.pick eA eD (.k (.bool false)))]) amg) (.seq (.run [.o 24 (.aq cR 0), .o 25 (.load eR false 1), .m 26 dw, .o 27 (.bin .eql eU fp)]) amh)
abbrev amj:AC:= .seq (.block 1 (.seq (.run [.o 14 (.cm cd cT 2), .o 15 (.load cJ true 2), .o 8 (.alloc [(.str []),(.bool false)]), .op none none (.store cR dA 2)]) ami)) (.run [.o 28 (.bin .add cT (.k (.int .i64 1))), .m 12 gb])
abbrev amk:AC:= .block 0 (.loop (.seq (.run [.o 13 (.bin .lss cT cD)]) (.seq (.cond db .skip (.exit 0)) amj)))
abbrev aml:AC:= .cond gP (.seq (.run [.o 6 (.mv (.k (.int .i64 4)))]) .ret) .skip
abbrev amm:AC:= .cond iB (.seq (.run [.o 6 (.mv (.k (.int .i64 1)))]) .ret) .skip
abbrev amn:AC:= .seq (.seq (.run [.o 33 (.aq cB 0), .o 34 (.load gF false 1), .m 35 dw, .c 36 cr [iA,gQ]]) amm) (.seq (.run [.o 6 (.mv (.k (.int .i64 0)))]) .ret)
abbrev amo:AC:= .seq (.seq (.run [.o 9 (.aq fi 1), .o 10 (.load dn false 1), .o 11 (.len cd), .o 12 (.mv (.k (.int .i64 0)))]) amk) (.seq (.seq (.run [.o 29 (.aq fi 2), .o 30 (.load fY false 1), .m 31 dw, .c 32 cr [gE,gp]]) aml) amn)
abbrev amp:AC:= .seq (.run [.o 3 (.box br), .o 4 (.box bt), .o 6 (.mv (.k (.int .i64 0)))]) amo
abbrev amq:AC:= .cond cD (.seq (.run [.o 4 (.mv (.k (.bool false)))]) .ret) .skip
abbrev amr:AC:= .par [.o 19 (.aq dB 1), .o 20 (.load dU false 1), .m 21 bt, .m 22 ct, .o 23 (.cm dV eD 6), .o 24 (.aq eH 0), .o 25 (.load eR false 1), .o 26 (.Ga true eA eU)] [(0,0),(1,0),(2,0),(3,0),(4,0),(5,0),(6,0),(7,0)]
abbrev ams:AC:= .cond fp (.seq (.run [.o 4 (.mv (.k (.bool false)))]) .ret) .skip
abbrev amt:AC:= .seq (.block 1 (.seq (.run [.m 16 cJ, .o 17 (.cm cT cJ 2), .o 18 (.load dC true 2), .o 6 (.alloc [(.str []),(.bool false)]), .m 5 df, .op none none (.store dB dD 2)]) (.seq amr ams))) (.run [.o 27 (.bin .add cJ (.k (.int .i64 1))), .m 14 fq])
abbrev amu:AC:= .block 0 (.loop (.seq (.run [.o 15 (.bin .lss cJ db)]) (.seq (.cond dA .skip (.exit 0)) amt)))
abbrev amv:AC:= .seq (.seq (.run [.m 12 br, .o 13 (.len cT), .o 14 (.mv (.k (.int .i64 0)))]) amu) (.seq (.run [.o 4 (.mv (.k (.bool true)))]) .ret)
abbrev amw:AC:= .seq (.run [.o 4 (.mv (.k (.bool false)))]) (.seq (.seq (.run [.m 7 br, .o 8 (.len cW), .m 9 bt, .o 10 (.len dn), .o 11 (.bin .neq cR cd)]) amq) amv)
abbrev amx:AC:= .seq (.run [.o 2 (.box br), .o 3 (.box bt), .o 4 (.mv (.k (.bool false)))]) (.seq (.run [.o 5 (.load dw true 2), .c 6 lW [ct], .o 7 (.AJ dB 0 false 1), .o 8 (.bin .eql cW (.k (.int .i64 0))), .m 9 cR, .g 10 9 true (.aq dw 1), .g 11 9 true (.load cd false 1), .g 12 9 true (.uP 191 [cB]), .d 13 9 true gN [cD,cT], .o 14 (.pick dn db (.k (.bool false))), .m 4 cJ]) .ret)
abbrev amy:AC:= .seq (.run [.o 26 (.cm eD eR 1), .o 27 (.load fp false 1), .m 8 fq]) (.seq (.run [.m 28 ct, .m 29 cR, .c 30 cr [gb,fY], .o 31 (.un .not gE)]) (.cond gp (.run [.m 32 ct, .m 33 cR, .o 34 (.du [(.str [])] 1 1 [(0,gF)]), .o 35 (.app 1 16 gP iA), .m 5 gQ]) .skip))
abbrev amz:AC:= .seq (.cond eU .skip (.exit 2)) (.seq (.block 3 amy) (.run [.o 36 (.bin .add eR (.k (.int .i64 1))), .m 24 iB]))
abbrev amA:AC:= .seq (.run [.m 17 br, .m 18 ct, .m 19 dB, .o 20 (.cm dD dU 1), .o 21 (.load eA false 1), .c 22 uj [dC,dV], .o 23 (.len eD), .o 24 (.mv (.k (.int .i64 0)))]) (.block 2 (.loop (.seq (.run [.o 25 (.bin .lss eR eH)]) amz)))
abbrev amB:AC:= .seq (.seq (.run [.m 11 dB, .m 12 ct, .o 13 (.len cT), .o 14 (.bin .lss cD db)]) (.cond cJ .skip (.exit 0))) (.seq (.block 1 amA) (.run [.m 15 dB, .o 16 (.bin .add dA (.k (.int .i64 1))), .m 6 df]))
abbrev acN:AC:= .seq (.run [.m 39 ct, .m 4 jN]) .ret
abbrev amC:AC:= .seq (.seq (.run [.o 6 (.mv (.k (.int .i64 0)))]) (.block 0 (.loop amB))) (.seq (.run [.m 37 ct, .c 38 jz [je]]) acN)
abbrev amD:AC:= .seq (.run [.o 4 (.mv (.k (.slice .full 0 [])))]) (.seq (.run [.m 9 bt, .o 10 (.du [(.str [])] 1 1 [(0,dn)]), .m 5 cd]) amC)
abbrev amE:AC:= .seq (.run [.o 1 (.box br), .o 2 (.mv (.k (.bool false)))]) (.seq (.run [.o 3 (.aq bt 0), .o 4 (.load cB false 1), .o 5 (.bin .eql fi (.k (.int .i64 0))), .m 6 ct, .g 7 6 true (.aq bt 1), .g 8 6 true (.load cW false 1), .g 9 6 true (.bin .eql cR (.k (.int .i64 0))), .o 10 (.pick dB dn (.k (.bool false))), .m 11 cd, .g 12 11 true (.aq bt 2), .g 13 11 true (.load cT false 1), .g 14 11 true (.bin .eql db (.k (.str []))), .o 15 (.pick cD cJ (.k (.bool false))), .m 16 dA, .g 17 16 true (.aq bt 3), .g 18 16 true (.load dC false 1), .g 19 16 true (.len dD), .g 20 16 true (.bin .eql dU (.k (.int .i64 0))), .o 21 (.pick df eA (.k (.bool false))), .m 2 dV]) .ret)
abbrev amF:AC:= .cond cD (.seq (.run [.m 13 bt, .o 14 (.bin .eql db (.k (.int .i64 0))), .c 15 jA [cJ], .m 4 dA, .o 5 (.mv (.k (.bool true)))]) .ret) .skip
abbrev amG:AC:= .cond cW (.seq (.run [.m 9 bt, .o 10 (.bin .sub (.k (.int .i64 0)) dn), .m 4 cd, .o 5 (.mv (.k (.bool true)))]) .ret) (.seq (.run [.o 12 (.bin .eql dB (.k (.int .i64 4))), .m 11 cT]) amF)
abbrev amH:AC:= .block 0 (.seq (.run [.o 8 (.bin .eql dB (.k (.int .i64 3))), .m 7 cR]) amG)
abbrev amI:AC:= .seq (.seq (.run [.m 6 br]) amH) (.seq (.run [.o 4 (.mv (.k (.int .i64 0))), .o 5 (.mv (.k (.bool false)))]) .ret)
abbrev amJ:AC:= .seq (.run [.o 4 (.mv (.k (.int .i64 0))), .o 5 (.mv (.k (.bool false)))]) amI
abbrev amK:AC:= .seq (.run [.o 2 (.mv (.k (.bool false)))]) (.seq (.run [.m 3 br, .o 4 (.bin .neq cB (.k (.int .i64 0))), .m 2 fi]) .ret)
abbrev amL:AC:= .seq (.run [.o 25 (.bin .eql cR (.k (.int .i64 6))), .m 24 eU]) (.cond eR .skip (.run [.o 26 (.bin .eql cR (.k (.int .i64 7))), .m 24 fp]))
abbrev amM:AC:= .cond kH (.seq (.run [.m 44 bt, .o 45 (.bin .neq kI (.k (.int .i64 0))), .m 46 lH, .g 47 46 false (.mv dw), .g 48 46 false (.bin .neq lS (.k (.int .i64 0))), .o 49 (.pick lI (.k (.bool true)) kW), .c 50 jA [kX], .m 6 lJ, .o 7 (.mv (.k (.bool true)))]) .ret) .skip
abbrev amN:AC:= .cond gF (.seq (.run [.m 35 bt, .o 36 (.bin .neq gQ (.k (.int .i64 0))), .m 37 iB, .g 38 37 true (.mv dw), .g 39 37 true (.bin .neq j7 (.k (.int .i64 0))), .o 40 (.pick je jN (.k (.bool false))), .c 41 jA [ku], .m 6 j8, .o 7 (.mv (.k (.bool true)))]) .ret) (.seq (.run [.o 43 (.bin .eql cR (.k (.int .i64 17))), .m 42 kv]) amM)
abbrev amO:AC:= .cond eR (.seq (.run [.m 27 br, .m 28 bt, .m 29 dw, .c 30 uk [fq,gb,fY], .o 31 (.ext gE 0), .o 32 (.ext gE 1), .m 6 gp, .m 7 gP]) .ret) (.seq (.run [.o 34 (.bin .eql cR (.k (.int .i64 16))), .m 33 iA]) amN)
abbrev amP:AC:= .cond dU (.seq (.run [.m 21 bt, .m 22 dw, .o 23 (.bin .mul dV eD), .m 6 eH, .o 7 (.mv (.k (.bool true)))]) .ret) (.seq amL amO)
abbrev amQ:AC:= .cond cJ (.seq (.run [.m 16 bt, .m 17 dw, .o 18 (.bin .sub df dC), .m 6 dD, .o 7 (.mv (.k (.bool true)))]) .ret) (.seq (.run [.o 20 (.bin .eql cR (.k (.int .i64 5))), .m 19 eA]) amP)
abbrev amR:AC:= .cond dn (.seq (.run [.m 11 bt, .m 12 dw, .o 13 (.bin .add cD cT), .m 6 db, .o 7 (.mv (.k (.bool true)))]) .ret) (.seq (.run [.o 15 (.bin .eql cR (.k (.int .i64 9))), .m 14 dA]) amQ)
abbrev amS:AC:= .block 0 (.seq (.run [.o 10 (.bin .eql cR (.k (.int .i64 8))), .m 9 cd]) amR)
abbrev amT:AC:= .seq (.run [.o 6 (.mv (.k (.int .i64 0))), .o 7 (.mv (.k (.bool false)))]) (.seq (.seq (.run [.m 8 br]) amS) (.seq (.run [.m 51 br, .m 52 bt, .m 53 dw, .c 54 sr [kJ,kK,kY], .o 55 (.ext lK 0), .o 56 (.ext lK 1), .m 6 lL, .m 7 nq]) .ret))
abbrev amU:AC:= .cond ct (.seq (.run [.o 2 (.mv (.k (.slice .full 0 [])))]) .ret) .skip
abbrev amV:AC:= .seq (.seq (.run [.o 3 (.load bt true 4), .c 4 nj [cB], .o 5 (.un .not fi)]) amU) (.seq (.run [.o 6 (.load bt true 4),(.c 7 iQ [dB,(.k (.slice .full 0 []))]), .m 2 cW]) .ret)
abbrev amW:AC:= .seq (.run [.o 1 (.box br), .o 2 (.mv (.k (.slice .full 0 [])))]) amV
abbrev amX:AC:= .seq (.run [.o 4 (.mv (.k (.bool false)))]) (.seq (.run [.m 5 br, .m 6 bt, .c 7 gh [ct,dB], .o 8 (.bin .geq cW (.k (.int .i64 0))), .m 4 cR]) .ret)
abbrev amY:AC:= .seq (.run [.o 2 (.box br), .o 3 (.mv (.k (.bool false)))]) (.seq (.run [.o 4 (.aq dw 0), .o 5 (.load fi false 1), .o 6 (.load bt false 1), .o 7 (.bin .eql ct dB), .m 3 cW]) .ret)
abbrev amZ:AC:= .seq (.run [.o 16 (.cm cT cJ 17), .o 17 (.load df true 17), .o 7 (.alloc [(.int .i64 0),(.int .i64 0),(.slice .full 0 []),(.str []),(.str []),(.int .i64 0),(.int .i64 0),(.str []),(.slice .full 0 []),(.bool false),(.slice .full 0 []),(.slice .full 0 []),(.slice .full 0 []),(.int .i64 0),(.int .i64 0),(.int .i64 0),(.int .i64 0)]), .op none none (.store cW dC 17)]) (.seq (.run [.o 18 (.aq cW 0), .o 19 (.aq dD 1), .o 20 (.load dU false 1), .o 21 (.bin .eql eA (.k (.int .i64 4)))]) (.cond dV (.run [.m 22 ct, .o 23 (.aq cW 0), .o 24 (.aq eH 4), .o 25 (.load eR false 1), .o 26 (.du [(.str [])] 1 1 [(0,eU)]), .o 27 (.app 1 16 eD fp), .m 5 fq]) .skip))
abbrev am0:AC:= .seq (.cond dA .skip (.exit 0)) (.seq (.block 1 amZ) (.run [.o 28 (.bin .add cJ (.k (.int .i64 1))), .m 14 gb]))
abbrev am1:AC:= .seq (.run [.m 8 br, .m 9 br, .m 10 bt, .c 11 iz [dn,cd], .c 12 gM [cR,cD], .o 13 (.len cT), .o 14 (.mv (.k (.int .i64 0)))]) (.block 0 (.loop (.seq (.run [.o 15 (.bin .lss cJ db)]) am0)))
abbrev am2:AC:= .seq (.run [.o 4 (.mv (.k (.slice .full 0 [])))]) (.seq (.run [.o 5 (.mv (.k (.slice .full 0 [])))]) (.seq am1 (.seq (.run [.m 29 ct, .c 30 jz [fY]]) (.seq (.run [.m 31 ct, .c 32 jP [gp], .m 4 gP]) .ret))))
open Go.Proofs
theorem zo:Has Tryz.prog o9 19 [(4,none)] al4:=⟨Tryz.f146,by kernel_rfl,by kernel_rfl⟩
theorem tw:Has Tryz.prog kV 19 [(4,none)] al9:=⟨Tryz.f167,by kernel_rfl,by kernel_rfl⟩
theorem FF:Has Tryz.prog rH 45 [(2,none)] amf:=⟨Tryz.f168,by kernel_rfl,by kernel_rfl⟩
theorem FG:Has Tryz.prog vF 37 [(6,none)] amp:=⟨Tryz.f169,by kernel_rfl,by kernel_rfl⟩
theorem yp:Has Tryz.prog vG 28 [(4,none)] amw:=⟨Tryz.f170,by kernel_rfl,by kernel_rfl⟩
theorem wK:Has Tryz.prog ui 15 [(4,none)] amx:=⟨Tryz.f171,by kernel_rfl,by kernel_rfl⟩
theorem HD:Has Tryz.prog xy 40 [(4,none)] amD:=⟨Tryz.f172,by kernel_rfl,by kernel_rfl⟩
theorem HE:Has Tryz.prog xA 22 [(2,none)] amE:=⟨Tryz.f175,by kernel_rfl,by kernel_rfl⟩
theorem Jv:Has Tryz.prog zf 16 [(4,none),(5,none)] amJ:=⟨Tryz.f176,by kernel_rfl,by kernel_rfl⟩
theorem FH:Has Tryz.prog rI 5 [(2,none)] amK:=⟨Tryz.f177,by kernel_rfl,by kernel_rfl⟩
theorem Jw:Has Tryz.prog zh 57 [(6,none),(7,none)] amT:=⟨Tryz.f178,by kernel_rfl,by kernel_rfl⟩
theorem yr:Has Tryz.prog rJ 8 [(2,none)] amW:=⟨Tryz.f189,by kernel_rfl,by kernel_rfl⟩
theorem qJ:Has Tryz.prog gN 9 [(4,none)] amX:=⟨Tryz.f190,by kernel_rfl,by kernel_rfl⟩
theorem Cy:Has Tryz.prog oQ 8 [(3,none)] amY:=⟨Tryz.f191,by kernel_rfl,by kernel_rfl⟩
theorem Ep:Has Tryz.prog uj 33 [(4,none)] am2:=⟨Tryz.f192,by kernel_rfl,by kernel_rfl⟩
abbrev am3:AC:= .cond cB (.seq (.run [.o 2 (.mv (.k (.int .i64 1)))]) .ret) .skip
abbrev am4:AC:= .seq (.seq (.run [.m 3 br]) am3) (.seq (.run [.o 2 (.mv (.k (.int .i64 0)))]) .ret)
abbrev am5:AC:= .seq (.run [.o 2 (.mv (.k (.int .i64 0)))]) am4
abbrev am6:AC:= .cond dn (.seq (.run [.o 6 (.mv (.k (.int .i64 0))), .o 7 (.mv (.k (.bool false)))]) .ret) .skip
abbrev am7:AC:= .cond db (.seq (.run [.o 6 (.mv (.k (.int .i64 0))), .o 7 (.mv (.k (.bool true)))]) .ret) .skip
abbrev am8:AC:= .cond dA (.seq (.run [.m 16 bt, .m 6 df, .o 7 (.mv (.k (.bool true)))]) .ret) .skip
abbrev am9:AC:= .seq (.run [.m 14 bt,(.o 15 (.bin .eql cJ (.k (.int .i64 (-9223372036854775808)))))]) am8
abbrev ana:AC:= .seq am9 (.seq (.run [.m 17 bt, .o 18 (.bin .sub (.k (.int .i64 0)) dC), .m 6 dD, .o 7 (.mv (.k (.bool true)))]) .ret)
abbrev anb:AC:= .seq (.seq (.run [.m 12 br, .o 13 (.bin .eql cT (.k (.int .i64 7)))]) am7) ana
abbrev anc:AC:= .seq (.run [.m 10 dw,(.o 11 (.bin .eql cd (.k (.int .i64 (-1)))))]) (.cond cD anb .skip)
abbrev ane:AC:= .cond eA (.seq (.run [.m 21 bt, .m 22 dw, .o 23 (.bin .rem dV eD), .m 6 eH, .o 7 (.mv (.k (.bool true)))]) .ret) .skip
abbrev anf:AC:= .seq (.seq (.run [.m 19 br, .o 20 (.bin .eql dU (.k (.int .i64 7)))]) ane) (.seq (.run [.m 24 bt, .m 25 dw, .o 26 (.bin .quo eR eU), .m 6 fp, .o 7 (.mv (.k (.bool true)))]) .ret)
abbrev ang:AC:= .seq (.seq (.run [.m 8 dw, .o 9 (.bin .eql cR (.k (.int .i64 0)))]) am6) (.seq anc anf)
abbrev anh:AC:= .seq (.run [.o 6 (.mv (.k (.int .i64 0))), .o 7 (.mv (.k (.bool false)))]) ang
abbrev ani:AC:= .cond jN (.seq (.run [.m 41 bt, .m 42 dw, .o 43 (.bin .neq j8 kH), .c 44 jA [kv], .m 6 kI, .o 7 (.mv (.k (.bool true)))]) .ret) .skip
abbrev anj:AC:= .cond gF (.seq (.run [.m 35 bt, .m 36 dw, .o 37 (.bin .eql gQ iB), .c 38 jA [je], .m 6 j7, .o 7 (.mv (.k (.bool true)))]) .ret) (.seq (.run [.o 40 (.bin .eql cR (.k (.int .i64 15))), .m 39 ku]) ani)
abbrev ank:AC:= .cond fq (.seq (.run [.m 29 bt, .m 30 dw, .o 31 (.bin .geq fY gE), .c 32 jA [gp], .m 6 gP, .o 7 (.mv (.k (.bool true)))]) .ret) (.seq (.run [.o 34 (.bin .eql cR (.k (.int .i64 14))), .m 33 iA]) anj)
abbrev anl:AC:= .cond dV (.seq (.run [.m 23 bt, .m 24 dw, .o 25 (.bin .gtr eH eR), .c 26 jA [eU], .m 6 fp, .o 7 (.mv (.k (.bool true)))]) .ret) (.seq (.run [.o 28 (.bin .eql cR (.k (.int .i64 13))), .m 27 gb]) ank)
abbrev anm:AC:= .cond dA (.seq (.run [.m 17 bt, .m 18 dw, .o 19 (.bin .leq dC dD), .c 20 jA [dU], .m 6 eA, .o 7 (.mv (.k (.bool true)))]) .ret) (.seq (.run [.o 22 (.bin .eql cR (.k (.int .i64 12))), .m 21 eD]) anl)
abbrev ann:AC:= .cond dn (.seq (.run [.m 11 bt, .m 12 dw, .o 13 (.bin .lss cD cT), .c 14 jA [db], .m 6 cJ, .o 7 (.mv (.k (.bool true)))]) .ret) (.seq (.run [.o 16 (.bin .eql cR (.k (.int .i64 11))), .m 15 df]) anm)
abbrev ano:AC:= .block 0 (.seq (.run [.o 10 (.bin .eql cR (.k (.int .i64 10))), .m 9 cd]) ann)
abbrev anp:AC:= .seq (.seq (.run [.m 8 br]) ano) (.seq (.run [.o 6 (.mv (.k (.int .i64 0))), .o 7 (.mv (.k (.bool false)))]) .ret)
abbrev anq:AC:= .seq (.run [.o 6 (.mv (.k (.int .i64 0))), .o 7 (.mv (.k (.bool false)))]) anp
abbrev anr:AC:= .seq (.block 1 (.seq (.run [.o 27 (.cm eH eU 4), .o 28 (.load fq true 4), .o 6 (.alloc [(.int .i64 0),(.int .i64 0),(.str []),(.slice .full 0 [])]), .op none none (.store dB gb 4)]) (.run [.o 29 (.load dB true 4), .m 30 bt, .c 31 iQ [fY,gE], .m 1 gp]))) (.run [.o 32 (.bin .add eU (.k (.int .i64 1))), .m 25 gP])
abbrev ans:AC:= .block 0 (.loop (.seq (.run [.o 26 (.bin .lss eU eR)]) (.seq (.cond fp .skip (.exit 0)) anr)))
abbrev ant:AC:= .seq (.seq (.run [.o 22 (.aq dw 3), .o 23 (.load eD false 1), .o 24 (.len eH), .o 25 (.mv (.k (.int .i64 0)))]) ans) (.seq (.run [.m 33 bt, .m 4 gF]) .ret)
abbrev anu:AC:= .seq (.seq (.run [.o 7 (.aq dw 0), .o 8 (.load cW false 1), .o 9 (.bin .eql cR (.k (.int .i64 2))), .m 10 dn, .g 11 10 true (.mv bt), .g 12 10 true (.aq dw 2), .g 13 10 true (.load cT false 1), .d 14 10 true cr [cD,db], .g 15 10 true (.un .not cJ), .o 16 (.pick cd dA (.k (.bool false)))]) (.cond df (.run [.m 17 bt, .o 18 (.aq dw 2), .o 19 (.load dD false 1), .o 20 (.du [(.str [])] 1 1 [(0,dU)]), .o 21 (.app 1 16 dC eA), .m 1 dV]) .skip)) ant
abbrev anv:AC:= .seq (.run [.o 2 (.box br), .o 4 (.mv (.k (.slice .full 0 [])))]) anu
open Go.Proofs
theorem Jx:Has Tryz.prog jA 4 [(2,none)] am5:=⟨Tryz.f195,by kernel_rfl,by kernel_rfl⟩
theorem wL:Has Tryz.prog uk 27 [(6,none),(7,none)] anh:=⟨Tryz.f196,by kernel_rfl,by kernel_rfl⟩
theorem Dy:Has Tryz.prog sr 45 [(6,none),(7,none)] anq:=⟨Tryz.f197,by kernel_rfl,by kernel_rfl⟩
theorem rL:Has Tryz.prog iQ 34 [(4,none)] anv:=⟨Tryz.f207,by kernel_rfl,by kernel_rfl⟩
open Go.Proofs
theorem FI:Has Tryz.prog rD 9 [(2,none)] QZP:=⟨Tryz.f104,by kernel_rfl,by kernel_rfl⟩
theorem Lg:Has Tryz.prog Bk 24 [(4,none)] ajL:=⟨Tryz.f105,by kernel_rfl,by kernel_rfl⟩
theorem Jy:Has Tryz.prog ze 18 [(2,none)] aj0:=⟨Tryz.f106,by kernel_rfl,by kernel_rfl⟩
theorem Er:Has Tryz.prog ug 93 [(2,none)] akf:=⟨Tryz.f107,by kernel_rfl,by kernel_rfl⟩
theorem HF:Has Tryz.prog mD 33 [(2,none)] akm:=⟨Tryz.f108,by kernel_rfl,by kernel_rfl⟩
theorem pM:Has Tryz.prog kC 8 [(2,none)] ako:=⟨Tryz.f109,by kernel_rfl,by kernel_rfl⟩
theorem HG:Has Tryz.prog sQ 23 [(2,none)] aks:=⟨Tryz.f110,by kernel_rfl,by kernel_rfl⟩
theorem wc:Has Tryz.prog fW 19 [(4,none)] akx:=⟨Tryz.f111,by kernel_rfl,by kernel_rfl⟩
theorem C0:Has Tryz.prog wF 17 [(6,none),(7,none)] akz:=⟨Tryz.f112,by kernel_rfl,by kernel_rfl⟩
theorem we:Has Tryz.prog np 9 [(4,none)] akA:=⟨Tryz.f113,by kernel_rfl,by kernel_rfl⟩
theorem Cz:Has Tryz.prog gM 26 [(4,none)] akC:=⟨Tryz.f114,by kernel_rfl,by kernel_rfl⟩
theorem uq:Has Tryz.prog cr 9 [(4,none)] akD:=⟨Tryz.f115,by kernel_rfl,by kernel_rfl⟩
theorem Al:Has Tryz.prog mE 65 [(10,none)] akK:=⟨Tryz.f120,by kernel_rfl,by kernel_rfl⟩
theorem Es:Has Tryz.prog oh 18 [(2,none)] akQ:=⟨Tryz.f128,by kernel_rfl,by kernel_rfl⟩
theorem rM:Has Tryz.prog fX 9 [(4,none)] akR:=⟨Tryz.f129,by kernel_rfl,by kernel_rfl⟩
theorem CA:Has Tryz.prog oP 8 [(3,none)] akS:=⟨Tryz.f130,by kernel_rfl,by kernel_rfl⟩
theorem Et:Has Tryz.prog qp 38 [(8,none)] akY:=⟨Tryz.f131,by kernel_rfl,by kernel_rfl⟩
theorem yu:Has Tryz.prog vD 28 [(4,none)] ak5:=⟨Tryz.f132,by kernel_rfl,by kernel_rfl⟩
theorem yv:Has Tryz.prog rE 9 [(2,none)] ak7:=⟨Tryz.f133,by kernel_rfl,by kernel_rfl⟩
theorem HH:Has Tryz.prog qe 24 [(4,none),(5,none)] ald:=⟨Tryz.f134,by kernel_rfl,by kernel_rfl⟩
theorem pD:Has Tryz.prog vE 29 [(4,none)] alh:=⟨Tryz.f135,by kernel_rfl,by kernel_rfl⟩
theorem uI:Has Tryz.prog rF 60 [(4,none)] alu:=⟨Tryz.f136,by kernel_rfl,by kernel_rfl⟩
theorem Dz:Has Tryz.prog sq 41 [(4,none)] alB:=⟨Tryz.f137,by kernel_rfl,by kernel_rfl⟩
theorem HI:Has Tryz.prog xx 9 [(2,none)] alC:=⟨Tryz.f141,by kernel_rfl,by kernel_rfl⟩
theorem FJ:Has Tryz.prog o8 18 [(4,none)] alD:=⟨Tryz.f142,by kernel_rfl,by kernel_rfl⟩
theorem FK:Has Tryz.prog rG 18 [(4,none)] alE:=⟨Tryz.f143,by kernel_rfl,by kernel_rfl⟩
theorem Eu:Has Tryz.prog uh 27 [(2,none)] alL:=⟨Tryz.f144,by kernel_rfl,by kernel_rfl⟩
theorem ov:Has Tryz.prog lh 92 [(6,none),(7,none)] alZ:=⟨Tryz.f145,by kernel_rfl,by kernel_rfl⟩
def Bs (c:UInt8):Bool:=decide ((c.toNat:Int)≥97) && decide ((c.toNat:Int)≤122)
def Ev (c:UInt8):Bool:=decide ((c.toNat:Int)≥48) && decide ((c.toNat:Int)≤57)
def isB (c:UInt8):Bool:=(c.toNat:Int)==32 ||(c.toNat:Int)==9 ||(c.toNat:Int)==10 ||(c.toNat:Int)==13
def pe:aG→Nat
 | []=>0
 |c::r=>if Bs c ||Ev c then pe r+1 else 0
def acO:aG→Nat
 | []=>0
 |c::r=>if Ev c then acO r+1 else 0
def OU:aG→Nat
 | []=>0
 |c::r=>if(c.toNat:Int) != 10 then OU r+1 else 0
def isWord (s:aG):Bool:=
 s == [103,108,111,98,97,108] ||s == [112,114,111,99] ||s == [118,97,114] ||s == [114,101,102] ||s == [105,102] ||s == [101,108,115,101] ||s == [119,104,105,108,101] ||s == [98,114,101,97,107] ||s == [99,111,110,116,105,110,117,101] ||s == [114,101,116,117,114,110] ||s == [103,111,116,111] ||s == [114,101,97,100] ||s == [112,114,105,110,116]
def agT (s:aG):Bool:=s == [61,61] ||s == [33,61] ||s == [60,61] ||s == [62,61] ||s == [38,38] ||s == [124,124]
def XA (c:UInt8):Bool:=
 (c.toNat:Int)==40 ||(c.toNat:Int)==41 ||(c.toNat:Int)==123 ||(c.toNat:Int)==125 ||(c.toNat:Int)==44 ||(c.toNat:Int)==59 ||(c.toNat:Int)==58 ||(c.toNat:Int)==61 ||
 (c.toNat:Int)==33 ||(c.toNat:Int)==60 ||(c.toNat:Int)==62 ||(c.toNat:Int)==43 ||(c.toNat:Int)==45 ||(c.toNat:Int)==42 ||(c.toNat:Int)==47 ||(c.toNat:Int)==37
def XB:aG→Nat
 | []=>0
 | [c]=>if XA c then 1 else 0
 |c::d::_=>if agT [c,d]then 2 else if XA c then 1 else 0
def bC:Int→aG→Option Int
 |n,[]=>some n
 |n,c::r=>if n > (9223372036854775807 - ((c.toNat:Int) - 48)) / 10 then none else bC (n*10+((c.toNat:Int) - 48)) r
def anw (pos:Nat):aG→qa ⊕ Int
 | []=> .inr 2
 | c::r=>
  if Bs c then
   let s:=(c::r).take (pe (c::r))
   if s.length > 8 then .inr 4 else .inl ⟨if isWord s then 3 else 1,s,0,pos⟩
  else if Ev c then
   let s:=(c::r).take (acO (c::r))
   if s.length > 1∧(c.toNat:Int)=48 then .inr 2 else
   match bC 0 s with
   |some n=> .inl ⟨2,s,n,pos⟩
   |none=> .inr 4
  else
   if XB (c::r)=0 then .inr 2 else .inl ⟨4,(c::r).take (XB (c::r)),0,pos⟩
def OV:Nat→Nat→aG→List qa→List qa×Int×Int
 | 0,_,_,_=>([],0,0)
 |_+1,pos,[],out=>(out++ [⟨0,[],0,pos⟩],0,0)
 | n+1,pos,c::r,out=>
  if isB c then OV n (pos+1) r out
  else if(c.toNat:Int)==35 then OV n (pos+OU (c::r)) ((c::r).drop (OU (c::r))) out
  else match anw pos (c::r)with
   | .inr e=>([],e,pos)
   | .inl t=>if out.length=2000 then([],4,pos)else OV n (pos+t.text.length) ((c::r).drop t.text.length) (out++ [t])
def yw (text:aG):List qa×Int×Int:=if text.length > 100000 then([],4,0)else OV (text.length+1) 0 text []
def Ce:aG→Bool
 | []=>true
 |c::r=>if !(Bs c) && !(Ev c)then false else Ce r
def isName:aG→Bool
 | []=>false
 |c::r=>if decide (((r.length+1:Nat):Int) > 8) || !(Bs c)then false else if Ce r then !(isWord (c::r))else false
def oj (op:Int):Int:=if op==1 ||op==2 then 0 else if op==3 ||op==4 then 1 else if decide (op≥5) && decide (op≤17)then 2 else -1
mutual
def Ex.form:Ex→Bool
 |⟨op,n,name,kids⟩=>
  if oj op != (kids.length:Int) ||(op != 1 && n != 0) ||decide (n<0) || !((op==2) == !(name == [])) ||(!(name == []) && !(isName name))then false else Ex.sR kids
def Ex.sR:List Ex→Bool
 | []=>true
 |x::l=>if !(Ex.form x)then false else Ex.sR l
end
mutual
def Ex.texts:Ex→Prop
 |⟨_,_,name,kids⟩=>name.length<4611686018427387904∧Ex.vK kids
def Ex.vK:List Ex→Prop
 | []=>True
 |x::l=>x.texts∧Ex.vK l
end
theorem Ex.Ew {x:Ex} : ∀ {l:List Ex},Ex.vK l→x∈l→x.texts
 |y::l,h,m=>by
  rcases List.mem_cons.1 m with rfl|m
  ·exact h.1
  ·exact Ex.Ew h.2 m
theorem Ex.Rs {op n:Int} {name:aG} {kids:List Ex} (h:Ex.texts ⟨op,n,name,kids⟩) {y:Ex} (m:y∈kids):y.texts:=Ex.Ew h.2 m
def Ex.may (x:Ex):Bool:=decide (((min x.depth 21:Nat):Int)≤20) && x.form
def Ex.none (x:Ex):Bool:=x.op==0 && x.n==0 && x.name == [] && (x.kids.length:Int)==0
def fc:List aG→Bool
 | []=>true
 |s::l=>if !(isName s)then false else fc l
def Ar.may (a:Ar):Bool:=if a.ref then isName a.name && a.x.none else a.name == [] && a.x.may
def Ar.fM:List Ar→Bool
 | []=>true
 |a::l=>if !(a.may)then false else Ar.fM l
def Sm.OW (s:Sm):Bool:=s.kind==1 ||s.kind==3 ||s.kind==5 ||s.kind==6 ||(s.kind==9 && s.has)
def Sm.hasName (s:Sm):Bool:=s.kind==1 ||s.kind==2 ||s.kind==10
def Sm.yx (s:Sm):Bool:=s.kind==4
def Sm.one (s:Sm):Bool:=
 if decide (s.kind<1) ||decide (s.kind > 10) || !(fc s.labels) ||(s.OW && !(s.x.may)) ||(!(s.OW) && !(s.x.none)) ||(s.has && s.kind != 9)then false
 else if(s.hasName && !(isName s.name)) ||(!(s.hasName) && !(s.name == []) && !(s.yx && isName s.name))then false
 else if !(s.yx == !(s.proc == [])) ||(s.yx && !(isName s.proc)) ||(!(s.yx) && decide ((s.args.length:Int) > 0))then false
 else if !(Ar.fM s.args)then false
 else((s.aZ.length:Int)==0 ||s.kind==5 ||s.kind==6) && ((s.aR.length:Int)==0 ||s.kind==5)
structure It where
 s:Sm
 deep:Int
 cf:Int
 aR:Bool
mutual
def iR (deep cf:Int) (aR:Bool) (out:List It):Sm→List It
 |⟨id,kind,labels,name,proc,x,has,args,aZ,e⟩=>
  if decide (deep≤12)then dQ (deep+1) id true (dQ (deep+1) id false (out++ [⟨⟨id,kind,labels,name,proc,x,has,args,aZ,e⟩,deep,cf,aR⟩]) aZ) e
  else out++ [⟨⟨id,kind,labels,name,proc,x,has,args,aZ,e⟩,deep,cf,aR⟩]
def dQ (deep cf:Int) (aR:Bool) (out:List It):List Sm→List It
 | []=>out
 |s::l=>if decide ((out.length:Int)≤200)then dQ deep cf aR (iR deep cf aR out s) l else out
end
def Pc.flat (f:Pc):List It:=dQ 1 0 false [] f.body
def allM (out:List It):List Pc→List It
 | []=>out
 |f::l=>if decide (((out++f.flat).length:Int) > 200)then out++f.flat else allM (out++f.flat) l
def Pg.all (p:Pg):List It:=allM [] p.procs
def Pm.fM:List Pm→Bool
 | []=>true
 |a::l=>if !(isName a.name)then false else Pm.fM l
def Pc.nY:List Pc→Bool
 | []=>true
 |f::l=>
  if !(isName f.name) ||decide ((f.params.length:Int) > 8) ||decide ((f.vars.length:Int) > 16) || !(fc f.vars) || !(fc f.fin)then false
  else if !(Pm.fM f.params)then false else Pc.nY l
def It.fM (n:Nat):List It→Bool
 | []=>true
 |i::l=>if i.s.id != ((n+1:Nat):Int) ||decide (i.deep > 12) || !(i.s.one)then false else It.fM (n+1) l
def Pg.may (p:Pg):Bool:=
 if decide ((p.globals.length:Int) > 16) ||decide ((p.procs.length:Int) > 16) || !(fc p.globals)then false
 else if !(Pc.nY p.procs)then false
 else if decide ((p.all.length:Int) > 200)then false else It.fM 0 p.all
open Go.Proofs
@[go_sem] def avw (r:Rd):List D:= [.slice .shared 4 (r.l.map jR), .int .i64 r.i, .int .i64 r.code, .int .i64 r.Jg, .int .i64 r.n]
set_option maxRecDepth 8000
open Go.Proofs
theorem su (c:UInt8) (s:St):aF Tryz.prog rD [.int .u8 (c.toNat:Int)] s (.bool (Bs c)) s:=by
 refine aF.pure ?_ rfl rfl s
 generalize h:Bs c=b
 unfold Bs at h
 unfold S0
 refine aF.go FI rfl fun B Q hB hQ=>?_
 have⟨hD,hY,hZ,gA⟩:=bP
 repeat' (first
 |simp only[go_sem,hD,hY,hZ,gA]
 |(with_reducible first|refine bo fun hc=>?_|refine bp fun hc=>?_|refine bq (fun hc=>?_) fun hc=>?_)<;>(try simp only[hc,bs,↓reduceIte]at h)<;>try simp only[hc]
 |(with_reducible refine aD hQ ?_;exact ga))
theorem FL (c:UInt8) (s:St):aF Tryz.prog xx [.int .u8 (c.toNat:Int)] s (.bool (Ev c)) s:=by
 refine aF.pure ?_ rfl rfl s
 generalize h:Ev c=b
 unfold Ev at h
 unfold S0
 refine aF.go HI rfl fun B Q hB hQ=>?_
 have⟨hD,hY,hZ,gA⟩:=bP
 repeat' (first
 |simp only[go_sem,hD,hY,hZ,gA]
 |(with_reducible first|refine bo fun hc=>?_|refine bp fun hc=>?_|refine bq (fun hc=>?_) fun hc=>?_)<;>(try simp only[hc,bs,↓reduceIte]at h)<;>try simp only[hc]
 |(with_reducible refine aD hQ ?_;exact ga))
theorem acP (t:aG) (s:St):aF Tryz.prog ze [.str t] s (.bool (isWord t)) s:=by
 refine aF.pure ?_ rfl rfl s
 generalize h:isWord t=b
 unfold isWord at h
 unfold S0
 refine aF.go Jy rfl fun B Q hB hQ=>?_
 have⟨hD,hY,hZ,gA⟩:=bP
 repeat' (first
 |simp only[go_sem,hD,hY,hZ,gA]
 |(with_reducible first|refine bo fun hc=>?_|refine bp fun hc=>?_|refine bq (fun hc=>?_) fun hc=>?_)<;>(try simp only[hc,bs,↓reduceIte]at h)<;>try simp only[hc]
 |(with_reducible refine aD hQ ?_;exact ga))
theorem agU {text:aG} {pos:Nat} (hl:text.length<4611686018427387904) (s:St):aF Tryz.prog Bk [.str text, .int .i64 (pos:Int)] s (.int .i64 ((pos+pe (text.drop pos):Nat):Int)) s:=by
 refine aF.pure ?_ rfl rfl s
 unfold S0
 refine aF.go Lg rfl fun B Q hB hQ=>?_
 have⟨hD,hY,hZ,gA⟩:=bP
 repeat' (first
 |simp only[go_sem,hD,hY,hZ,gA]
 |(with_reducible refine aD hQ ?_;exact bb))
 refine fa 0 0 (bl.ind (ι:=aG×Nat) (fun i=>text.drop i.2=i.1∧i.2+pe i.1=pos+pe (text.drop pos)) (fun i=>i.1.length)
  (fun i=> [(0, .str text),(1, .int .i64 (i.2:Int))]) (fun i=>⟨[],[]⟩) ?_ (text.drop pos,pos) ⟨rfl,rfl⟩)
 rintro⟨rest,k⟩ ⟨h1,h2⟩ IH
 dsimp only at h1 h2
 cases rest with
 |nil=>
  have hD:=drop_nil h1
  simp only[pe,Nat.add_zero]at h2
  rw[← h2]at hQ
  repeat' (first
 |simp only[go_sem,hD,hY,hZ,gA]
 |(with_reducible refine aD hQ ?_;exact bb))
 | cons c rest=>
  obtain⟨hY,g2,hD,g4⟩:=drop_cons h1
  have hZ:k<4611686018427387904:=by omega
  cases hb:(Bs c ||Ev c)
  ·simp only [pe,hb,Bool.false_eq_true, ↓reduceIte,Nat.add_zero]at h2
   rw[← h2]at hQ
   simp only[Bool.or_eq_false_iff]at hb
   repeat' (first
 |simp only[go_sem,hD,hY,hZ,gA,hb.1,hb.2]
 |(with_reducible refine CU (su _ _) ?_)
 |(with_reducible refine CU (FL _ _) ?_)
 | (with_reducible refine aD hQ ?_;exact bb))
  ·simp only [pe,hb, ↓reduceIte]at h2
   cases ID:Bs c
   ·rw [ID,Bool.false_or]at hb
    repeat' (first
 |simp only[go_sem,hD,hY,hZ,gA,hb,ID]
 |(with_reducible refine CU (su _ _) ?_)
 |(with_reducible refine CU (FL _ _) ?_)
 | (with_reducible refine aD hQ ?_;exact bb))
    refine fa 0 0 (IH (rest,k+1) ⟨g2,by dsimp only;omega⟩ (Nat.lt_succ_self _))
   ·repeat' (first
 |simp only[go_sem,hD,hY,hZ,gA,ID]
 |(with_reducible refine CU (su _ _) ?_)
 |(with_reducible refine CU (FL _ _) ?_)
 | (with_reducible refine aD hQ ?_;exact bb))
    refine fa 0 0 (IH (rest,k+1) ⟨g2,by dsimp only;omega⟩ (Nat.lt_succ_self _))
def at7 (s:aG):Int×Bool:=match bC 0 s with|some n=>(n,true)|none=>(0,false)
open Go.Proofs
def anx (f:Int×Int):List D:= [.int .i64 f.1, .int .i64 f.2]
def agV (text:aG) (out:List qa) (pos:Nat):Tm:= [(0, .str text),(3, .ptr 0 0),(4, .slice (.tok 0) 4 (out.map jR)),(5, .ptr 1 0),(6, .int .i64 (pos:Int))]
def agW (out:List qa):St:=⟨[[.int .i64 0, .int .i64 0],[.junk, .junk, .junk, .junk]],[some out.length]⟩
attribute [go_sem] agV agW anx
end Go.Abs
namespace Go.Abs
set_option maxRecDepth 8000
open Go.Proofs
def aom (s:aG):Bool:=
 [103,108,111,98,97,108] == s || [112,114,111,99] == s || [118,97,114] == s || [114,101,102] == s || [105,102] == s || [101,108,115,101] == s || [119,104,105,108,101] == s || [98,114,101,97,107] == s || [99,111,110,116,105,110,117,101] == s || [114,101,116,117,114,110] == s || [103,111,116,111] == s || [114,101,97,100] == s || [112,114,105,110,116] == s
def OpR (p:Int×Int):Prop:=0≤p.2∧p.2≤6
@[go_sem] def avx (z:D) (r:Rd):List D:= [.slice .shared 4 (r.l.map jR), .int .i64 r.i, .int .i64 r.code, .int .i64 r.Jg,z]
class Cell (z:D):Prop where
 ok:D.ok 0 0 z=true
 fg : ∀ n m,D.fg n m z=z
instance (n:Int):Cell (.int .i64 n):=⟨rfl,fun _ _=>rfl⟩
instance:Cell .junk:=⟨rfl,fun _ _=>rfl⟩
theorem Zl (z:D) [h:Cell z] (n m:Nat):D.fg n m z=z:=h.fg n m
attribute [go_sem] Zl
def Rd.isO (text:aG) (r:Rd):Option Bool:=if r.good then r.is text else some false
end Go.Abs
namespace Go.Abs
open Go.Proofs
def acQ (s:aG):Int×Int:=
 if [42] == s then(6,5)else if [47] == s then(6,6)else if [37] == s then(6,7)else if [43] == s then(5,8)else if [45] == s then(5,9)
 else if [60] == s then(4,10)else if [60,61] == s then(4,11)else if [62] == s then(4,12)else if [62,61] == s then(4,13)
 else if [61,61] == s then(3,14)else if [33,61] == s then(3,15)else if [38,38] == s then(2,16)else if [124,124] == s then(1,17)else(0,0)
def BZ (p:Int×Int):Prop:=(p.2==0)=(p.1==0)
set_option maxRecDepth 8000
open Go.Proofs
structure Sm.ur (s:Sm):Prop where
 XC : ∀ t∈s.labels,t.length<4611686018427387904
 anz:s.labels.length<4611686018427387904
 name:s.name.length<4611686018427387904
 proc:s.proc.length<4611686018427387904
 x:s.x.size<4611686018427387904
 xt:s.x.texts
 anA:s.args.length<4611686018427387904
 arg : ∀ a∈s.args,a.x.size<4611686018427387904∧a.x.texts∧a.name.length<4611686018427387904
section
variable {v:Sm} {B:fU} {Q:Exit→Tm→St→Prop} {p:Bool}
end
theorem aF.goS {P:Program} {f:FuncId} {nt:Nat} {res:List (Nat×Option (Bool×Nat))} {body:AC} {args:List D} {s:St} {d:D} {s':St} (h0:Has P f nt res body) (hl:Nat.ble args.length nt=true)
 (h : ∀ (B:fU) (Q:Exit→Tm→St→Prop),B.s=s→pS s.ah.length s.aw.length res d s'=Q→Sem P B nt body Q (mR 0 args) s):aF P f args s d s':=by
 obtain⟨fn,hf,hc⟩:=h0
 exact aF.intro ⟨fn,hf,hc⟩ (Nat.le_of_ble_eq_true hl) fun B hB=>h B _ hB rfl
end Go.Abs
namespace Go.Abs
set_option maxRecDepth 8000
open Go.Proofs
def dt (i:Im):List D:= [.int .i64 i.s.id, .int .i64 i.s.kind, .slice .shared 1 (i.s.labels.map encStr), .str i.s.name, .str i.s.proc,
 .int .i64 i.s.x.op, .int .i64 i.s.x.n, .str i.s.x.name, .slice .shared 4 (i.s.x.kids.map cj), .bool i.s.has, .slice .shared 6 (i.s.args.map ew), .slice .shared 13 (i.s.aZ.map bd), .slice .shared 13 (i.s.aR.map bd), .int .i64 i.proc, .int .i64 i.up, .int .i64 i.next, .int .i64 i.loop]
def bE (n:Int):List D:= [.int .i64 n]
theorem OX (i:Im):D.bL 0 0 (dt i)=true:=by simp[dt,D.bL,D.ok,Tag.ok,fb,WL,HU,pC]
theorem HW (l:List Im):D.gS 0 0 (l.map dt)=true:=gT OX l
theorem XD (n m:Nat) (l:List Im):D.kz n m (l.map dt)=l.map dt:=lV OX n m l
theorem agX (n m:Nat) (i:Im):D.gu n m (dt i)=dt i:=ib n m _ (OX i)
theorem agY (x:Im):(dt x).length=17:=nd rfl
theorem Zm (x:Im):List.take 17 (dt x)=dt x:=nd rfl
theorem acR (x:Im):List.drop 17 (dt x) = []:=nd rfl
theorem acS (x:Im):List.take 13 (dt x)=bd x.s:=by simp only[dt,ej];rfl
theorem UY (x:Im):(dt x)[0]? = some (.int .i64 x.s.id):=nd rfl
theorem UZ (x:Im):(dt x)[1]? = some (.int .i64 x.s.kind):=nd rfl
theorem U0 (x:Im):(dt x)[4]? = some (.str x.s.proc):=nd rfl
theorem Rt (x:Im):(dt x)[13]? = some (.int .i64 x.proc):=nd rfl
theorem Ru (x:Im):(dt x)[14]? = some (.int .i64 x.up):=nd rfl
theorem Rv (x:Im):(dt x)[15]? = some (.int .i64 x.next):=nd rfl
theorem Rw (x:Im):(dt x)[16]? = some (.int .i64 x.loop):=nd rfl
theorem OY (s:Sm) (a b c d:Int):dt ⟨s,a,b,c,d⟩ = [.int .i64 s.id, .int .i64 s.kind, .slice .shared 1 (s.labels.map encStr), .str s.name, .str s.proc,
 .int .i64 s.x.op, .int .i64 s.x.n, .str s.x.name, .slice .shared 4 (s.x.kids.map cj), .bool s.has, .slice .shared 6 (s.args.map ew), .slice .shared 13 (s.aZ.map bd), .slice .shared 13 (s.aR.map bd), .int .i64 a, .int .i64 b, .int .i64 c, .int .i64 d]:=nd rfl
theorem XE (n:Int):D.bL 0 0 (bE n)=true:=rfl
theorem iw (l:List Int):D.gS 0 0 (l.map bE)=true:=gT XE l
theorem Rx (n m:Nat) (l:List Int):D.kz n m (l.map bE)=l.map bE:=lV XE n m l
attribute [go_sem] XD agX agY Zm acR acS UY UZ U0 Rt Ru Rv Rw Rx bE
theorem acT : ∀ n,n<1000000000→∀ v:Sm,v.size≤n→aF Tryz.prog mD [.agg (bd v)] S0 (.int .i64 (v.jy:Int)) S0:=by
 intro n
 induction n with
 |zero=>intro _ v h;obtain⟨_,_,_,_,_,_,_,_,_,_⟩:=v;simp only[Sm.size]at h;omega
 |succ n ih=>
 intro hn v hv
 have dM:Sm.aY v.aZ≤n∧Sm.aY v.aR≤n∧v.jy=1+Sm.jd v.aZ+Sm.jd v.aR:=by
  obtain⟨_,_,_,_,_,_,_,_,_,_⟩:=v
  simp only[Sm.size]at hv;exact⟨by dsimp only;omega,by dsimp only;omega,rfl⟩
 obtain⟨h1,h2,h3⟩:=dM
 have c1:=nL v.aZ
 have c2:=nL v.aR
 have l1:=Sm.eB v.aZ
 have l2:=Sm.eB v.aR
 have hk : ∀ y,y∈v.aZ∨y∈v.aR→∀ s,aF Tryz.prog mD [.agg (bd y)] s (.int .i64 (y.jy:Int)) s:=fun y hy s=>
  (ih (by omega) y (by rcases hy with hy|hy<;>(have:=Sm.dd hy;omega))).pure (by simp only[D.bL,D.ok,qD];rfl) rfl s
 rw[h3]
 unfold S0
 refine aF.go HF rfl fun B Q hB hQ=>?_
 have⟨hD,hY,hZ,gA⟩:=bP
 repeat' (first
 |simp only[go_sem,hD,hY,hZ,gA]
 |(with_reducible refine aD hQ ?_;exact bb))
 refine fa 1 0 (bl.ind (ι:=List Sm×Nat×Nat) (fun i=>v.aZ.drop i.2.1=i.1∧i.2.2+Sm.jd i.1=1+Sm.jd v.aZ) (fun i=>i.1.length)
  (fun i=> [(1, .ptr 0 0),(3, .int .i64 (i.2.2:Int)),(9, .slice .shared 13 (v.aZ.map bd)),(10, .int .i64 (v.aZ.length:Int)),(11, .int .i64 (i.2.1:Int))]) (fun i=>⟨[bd v],[]⟩) ?_ (v.aZ,0,1) ⟨rfl,rfl⟩)
 rintro⟨rest,k,c⟩ ⟨g1,g2⟩ IH
 dsimp only at g1 g2
 cases rest with
 |cons y rest=>
  obtain⟨hY,g3,hD,g4⟩:=drop_cons g1
  have hy:=hk y (.inl (List.mem_of_getElem? hY))
  simp only[Sm.jd]at g2
  have hcy:=Dq y
  have Gg:=Sm.dd (List.mem_of_getElem? hY)
  have w1:IntKind.wrap .i64 ((k:Int)+1)=((k+1:Nat):Int):=by rw[eg]<;>omega
  have w2:IntKind.wrap .i64 ((c:Int)+(y.jy:Int))=((c+y.jy:Nat):Int):=by rw[eg]<;>omega
  repeat' (first
 |simp only[go_sem,hD,hY,hZ,gA,w1,w2]
 |(with_reducible refine CU (hy _) ?_)
 |(with_reducible refine aD hQ ?_;exact bb))
  refine fa 1 0 (IH (rest,k+1,c+y.jy) ⟨g3,by dsimp only;omega⟩ (Nat.lt_succ_self _))
 |nil=>
  have hD:=drop_nil g1
  simp only[Sm.jd,Nat.add_zero]at g2
  subst g2
  repeat' (first
 |simp only[go_sem,hD,hY,hZ,gA]
 | (with_reducible refine aD hQ ?_;exact bb))
  refine fa 1 0 (bl.ind (ι:=List Sm×Nat×Nat) (fun i=>v.aR.drop i.2.1=i.1∧i.2.2+Sm.jd i.1=1+Sm.jd v.aZ+Sm.jd v.aR) (fun i=>i.1.length)
   (fun i=> [(1, .ptr 0 0),(3, .int .i64 (i.2.2:Int)),(21, .slice .shared 13 (v.aR.map bd)),(22, .int .i64 (v.aR.length:Int)),(23, .int .i64 (i.2.1:Int))]) (fun i=>⟨[bd v],[]⟩) ?_ (v.aR,0,1+Sm.jd v.aZ) ⟨rfl,rfl⟩)
  rintro⟨rest,k,c⟩ ⟨g1,g2⟩ IH
  dsimp only at g1 g2
  cases rest with
  |cons y rest=>
   obtain⟨hY,g3,hD,g4⟩:=drop_cons g1
   have hy:=hk y (.inr (List.mem_of_getElem? hY))
   simp only[Sm.jd]at g2
   have hcy:=Dq y
   have Gg:=Sm.dd (List.mem_of_getElem? hY)
   have w1:IntKind.wrap .i64 ((k:Int)+1)=((k+1:Nat):Int):=by rw[eg]<;>omega
   have w2:IntKind.wrap .i64 ((c:Int)+(y.jy:Int))=((c+y.jy:Nat):Int):=by rw[eg]<;>omega
   repeat' (first
 |simp only[go_sem,hD,hY,hZ,gA,w1,w2]
 |(with_reducible refine CU (hy _) ?_)
 | (with_reducible refine aD hQ ?_;exact bb))
   refine fa 1 0 (IH (rest,k+1,c+y.jy) ⟨g3,by dsimp only;omega⟩ (Nat.lt_succ_self _))
  |nil=>
   have hD:=drop_nil g1
   simp only[Sm.jd,Nat.add_zero]at g2
   subst g2
   repeat' (first
 |simp only[go_sem,hD,hY,hZ,gA]
 |(with_reducible refine aD hQ ?_;exact bb))
theorem acU {v:Sm} (h:v.size<1000000000) (s:St):aF Tryz.prog mD [.agg (bd v)] s (.int .i64 (v.jy:Int)) s:=
 (acT v.size h v (Nat.le_refl _)).pure (by simp only[D.bL,D.ok,qD];rfl) rfl s
end Go.Abs
namespace Go.Abs
set_option maxRecDepth 8000
open Go.Proofs
abbrev iS (g ps:D) (L:List Im) (lo hi:List Int):List D:= [g,ps, .slice (.tok 0) 17 (L.map dt), .slice (.tok 1) 1 (lo.map bE), .slice (.tok 2) 1 (hi.map bE)]
abbrev U1 (proc up next loop:Int):List D:= [.int .i64 0, .int .i64 0, .slice .full 0 [], .str [], .str [], .int .i64 0, .int .i64 0, .str [], .slice .full 0 [], .bool false, .slice .full 0 [], .slice .full 0 [], .slice .full 0 [], .int .i64 proc, .int .i64 up, .int .i64 next, .int .i64 loop]
theorem aF.agZ {P:Program} {f:Nat} {args:List D} {g ps:D} {L L':List Im} {lo hi Gl gY:List Int} {a b c a' b' c':Option Nat}
 (h:aF P f (.ptr 0 0::args) ⟨[iS g ps L lo hi],[a,b,c]⟩ (.tuple []) ⟨[iS g ps L' Gl gY],[a',b',c']⟩)
 (ha:D.bL 0 0 args=true) (hg:D.ok 0 0 g=true) (hp:D.ok 0 0 ps=true)
 {s:St} {o:Nat} (ho:s.ah[o]? = some (iS g ps L lo hi)) (ht:s.aw = [a,b,c]):aF P f (.ptr o 0::args) s (.tuple []) ⟨s.ah.set o (iS g ps L' Gl gY),[a',b',c']⟩:=by
 have hr : ∀ (L:List Im) (lo hi:List Int),D.e9 [o] [0,1,2] (iS g ps L lo hi)=iS g ps L lo hi:=fun L lo hi=>by
  simp[D.e9,D.cU,Tag.cU,qB _ _ _ hg,qB _ _ _ hp,jk _ _ _ (HW L),jk _ _ _ (iw lo),jk _ _ _ (iw hi)]
 have hk : ∀ (L:List Im) (lo hi:List Int),D.bL 1 3 (iS g ps L lo hi)=true:=fun L lo hi=>by
  simp[D.bL,D.ok,Tag.ok,Ft (Nat.zero_le 1) (Nat.zero_le 3) _ hg,Ft (Nat.zero_le 1) (Nat.zero_le 3) _ hp,mA (Nat.zero_le 1) (Nat.zero_le 3) _ (HW L),mA (Nat.zero_le 1) (Nat.zero_le 3) _ (iw lo),mA (Nat.zero_le 1) (Nat.zero_le 3) _ (iw hi)]
 refine bM.frame [o] [0,1,2] h (by simp) (by decide) (by simpa using (List.getElem?_eq_some_iff.1 ho).1) (by rw[ht];simp) rfl (fun i o' ds e1 e2=>?_) rfl (fun i t' e1=>?_)
  (by simp[D.e9,D.cU,fB _ _ _ ha])
  (by simp[D.bL,D.ok,iy (Nat.zero_le 1) (Nat.zero_le 3) _ ha]) ?_
 ·cases i with
  |zero=>simp only[List.getElem?_cons_zero,Option.some.injEq]at e1 e2;subst e1;subst e2;exact⟨by rw[hr];exact ho,hk L lo hi⟩
  |succ i=>simp at e1
 ·rw [ht]
  match i,e1 with
  | 0,e1=>simp at e1;subst e1;rfl
  | 1,e1=>simp at e1;subst e1;rfl
  | 2,e1=>simp at e1;subst e1;rfl
  |i+3,e1=>simp at e1
 ·rintro _ _ ⟨rfl,rfl⟩
  refine⟨by simp[D.back,D.cU,D.e9], ?_⟩
  have:=hr L' Gl gY
  simp[St.back,kF,kB,this,ht]
abbrev XF (N:Nat):Prop:=∀ (l:List Sm) (proc up next loop:Int) (out:List Im) (g ps:D) (lo hi:List Int) (b c:Option Nat),Sm.aY l<N→out.length+Sm.jd l<1000000000→D.ok 0 0 g=true→D.ok 0 0 ps=true→
 ∀ {s:St} {o:Nat},s.ah[o]? = some (iS g ps out lo hi)→s.aw = [some out.length,b,c]→
 aF Tryz.prog jZ [.ptr o 0, .slice .shared 13 (l.map bd), .agg (U1 proc up next loop)] s (.tuple []) ⟨s.ah.set o (iS g ps (Im.rows proc up next loop out l) lo hi),[some (Im.rows proc up next loop out l).length,b,c]⟩
theorem ag0 {N:Nat} (ih:XF N) {l:List Sm} {proc up next loop:Int} {out:List Im} {g ps:D} {lo hi:List Int} {b c:Option Nat} (hs:Sm.aY l<N+1) (hc:out.length+Sm.jd l<1000000000) (hg:D.ok 0 0 g=true) (hp:D.ok 0 0 ps=true) (hN:N<1000000000) :
 aF Tryz.prog jZ [.ptr 0 0, .slice .shared 13 (l.map bd), .agg (U1 proc up next loop)] ⟨[iS g ps out lo hi],[some out.length,b,c]⟩ (.tuple []) ⟨[iS g ps (Im.rows proc up next loop out l) lo hi],[some (Im.rows proc up next loop out l).length,b,c]⟩:=by
 obtain⟨R,hR⟩ : ∃ R,R=Im.rows proc up next loop out l:=⟨_,rfl⟩
 have hlR:R.length=out.length+Sm.jd l:=by rw[hR,gD]
 rw[← hR]
 have k1 : ∀ n m,D.fg n m g=g:=fun n m=>OB n m _ hg
 have k2 : ∀ n m,D.fg n m ps=ps:=fun n m=>OB n m _ hp
 refine aF.go Br rfl fun B Q hB hQ=>?_
 have⟨hD,hY,hZ,gA⟩:=bP
 repeat' (first
 |simp only[go_sem,hD,hY,hZ,gA,k1,k2]
 |(with_reducible first|refine bo fun hc=>?_|refine bp fun hc=>?_|refine bq (fun hc=>?_) fun hc=>?_)<;>(try simp only[hc,bs,↓reduceIte]at h)<;>try simp only[hc]
 |(with_reducible refine aD hQ ?_;simp only[aU,aV,bH,bI,go_sem,hD,hY,hZ,gA,k1,k2];try exact cv))
 refine eO 2 3 ?_ ?_ (bl.ind (ι:=List Sm×Nat×List Im) (fun i=>l.drop i.2.1=i.1∧Im.rows proc up next loop i.2.2 i.1=R∧i.2.2.length+Sm.jd i.1=out.length+Sm.jd l) (fun i=>i.1.length)
  (fun i=> [(0, .ptr 0 0),(1, .slice .shared 13 (l.map bd)),(5, .ptr 1 0),(11, .slice .shared 13 (l.map bd)),(12, .int .i64 (l.length:Int)),(13, .int .i64 (i.2.1:Int))]) (fun i=>⟨[iS g ps i.2.2 lo hi,U1 proc up next loop],[some i.2.2.length,b,c]⟩) ?_ (l,0,out) ⟨rfl,hR.symm,rfl⟩)
 ·(simp only[go_sem,hD,hY,hZ,gA,k1,k2];try exact bW)
 ·(simp only[go_sem,hD,hY,hZ,gA,k1,k2];try exact bW)
 rintro⟨rest,k,cE⟩ ⟨h1,h2,h3⟩ IH
 dsimp only at h1 h2 h3
 have hlen:l.length<1000000000:=by have:=Sm.eB l;omega
 cases rest with
 |nil=>
  have hD:=drop_nil h1
  simp only[Im.rows]at h2
  subst h2
  repeat' (first
 |simp only[go_sem,hD,hY,hZ,gA,k1,k2]
 |(with_reducible first|refine bo fun hc=>?_|refine bp fun hc=>?_|refine bq (fun hc=>?_) fun hc=>?_)<;>(try simp only[hc,bs,↓reduceIte]at h)<;>try simp only[hc]
 |(with_reducible refine aD hQ ?_;simp only[aU,aV,bH,bI,go_sem,hD,hY,hZ,gA,k1,k2];try exact cv))
 | cons v rest=>
  obtain⟨hY,g2,hD,g4⟩:=drop_cons h1
  have bO:k<4611686018427387904:=by omega
  have hv:=Sm.dd (List.mem_of_getElem? hY)
  have oY:Sm.aY v.aZ<N∧Sm.aY v.aR<N∧v.jy=1+Sm.jd v.aZ+Sm.jd v.aR:=by
   obtain⟨_,_,_,_,_,_,_,_,_,_⟩:=v
   simp only[Sm.size]at hv
   exact⟨by dsimp only;omega,by dsimp only;omega,rfl⟩
  obtain⟨xZ,IB,hv3⟩:=oY
  simp only[Sm.jd]at h3
  simp only[Im.rows,Im.acd]at h2
  have hZ:(cE.length+1)*241≤bA:=by unfold bA;omega
  have LO:IntKind.wrap .i64 ((cE.length:Int)+1)=(cE.length:Int)+1:=eg (by omega) (by omega)
  have tx:IntKind.wrap .i64 ((k:Int)+1)=((k+1:Nat):Int):=by rw[eg]<;>omega
  have XG:IntKind.wrap .i64 ((cE.length:Int)+1+(v.jy:Int))=(cE.length:Int)+1+(v.jy:Int):=eg (by omega) (by omega)
  have dM:=fun s=>acU (v:=v) (by omega) s
  simp only[ej]at dM
  have A2:rest.length=l.length - (k+1):=by rw[← g2,List.length_drop]
  by_cases avy:k+1<l.length
  ·have d1:decide (((k+1:Nat):Int)<(l.length:Int))=true:=by simp;omega
   have e1:(rest.length=0)=False:=by simp;intro h;rw[h]at A2;simp at A2;omega
   by_cases Ry:v.kind=6
   ·have d2:(v.kind==6)=true:=by simp [Ry]
    simp only[e1,d2,↓reduceIte,Bool.false_eq_true]at h2
    have f1:=fun {s:St} {o:Nat}=>@ih v.aZ proc ((cE.length:Int)+1) ((cE.length:Int)+1) ((cE.length:Int)+1) (cE++ [⟨v,proc,up,((cE.length:Int)+1+(v.jy:Int)),loop⟩]) g ps lo hi b c xZ (by simp;omega) hg hp s o
    have f2:=fun {s:St} {o:Nat}=>@ih v.aR proc ((cE.length:Int)+1) ((cE.length:Int)+1) ((cE.length:Int)+1) _ g ps lo hi b c IB (by rw[gD proc ((cE.length:Int)+1) ((cE.length:Int)+1) ((cE.length:Int)+1) (cE++ [⟨v,proc,up,((cE.length:Int)+1+(v.jy:Int)),loop⟩]) v.aZ];simp;omega) hg hp s o
    have hl:(Im.rows proc ((cE.length:Int)+1) ((cE.length:Int)+1) ((cE.length:Int)+1) (Im.rows proc ((cE.length:Int)+1) ((cE.length:Int)+1) ((cE.length:Int)+1) (cE++ [⟨v,proc,up,((cE.length:Int)+1+(v.jy:Int)),loop⟩]) v.aZ) v.aR).length=cE.length+v.jy:=by rw[gD,gD];simp;omega
    simp only[iS,List.map_append,List.map_cons,List.map_nil,OY,List.length_append,List.length_cons,List.length_nil]at f1
    repeat' (first
 |simp only[go_sem,hD,hY,hZ,gA,k1,k2,LO,tx,XG,d1,d2,ej]
 |(with_reducible refine CU (dM _) ?_)
 |(with_reducible refine CU (f1 (by with_unfolding_all rfl) (by with_unfolding_all rfl)) ?_)
 |(with_reducible refine CU (f2 (by with_unfolding_all rfl) (by with_unfolding_all rfl)) ?_)
 | (with_reducible refine aD hQ ?_;exact bb))
    refine eO 2 3 ?_ ?_ (IH (rest,k+1,_) ⟨g2,h2,by dsimp only;rw[hl];omega⟩ (Nat.lt_succ_self _))
    ·(simp only[go_sem,hD,hY,hZ,gA,tx,k1,k2];try exact bW)
    ·(simp only[go_sem,hD,hY,hZ,gA,tx,k1,k2];try exact bW)
   ·have d2:(v.kind==6)=false:=by simp [Ry]
    simp only[e1,d2,↓reduceIte,Bool.false_eq_true]at h2
    have f1:=fun {s:St} {o:Nat}=>@ih v.aZ proc ((cE.length:Int)+1) ((cE.length:Int)+1+(v.jy:Int)) loop (cE++ [⟨v,proc,up,((cE.length:Int)+1+(v.jy:Int)),loop⟩]) g ps lo hi b c xZ (by simp;omega) hg hp s o
    have f2:=fun {s:St} {o:Nat}=>@ih v.aR proc ((cE.length:Int)+1) ((cE.length:Int)+1+(v.jy:Int)) loop _ g ps lo hi b c IB (by rw[gD proc ((cE.length:Int)+1) ((cE.length:Int)+1+(v.jy:Int)) loop (cE++ [⟨v,proc,up,((cE.length:Int)+1+(v.jy:Int)),loop⟩]) v.aZ];simp;omega) hg hp s o
    have hl:(Im.rows proc ((cE.length:Int)+1) ((cE.length:Int)+1+(v.jy:Int)) loop (Im.rows proc ((cE.length:Int)+1) ((cE.length:Int)+1+(v.jy:Int)) loop (cE++ [⟨v,proc,up,((cE.length:Int)+1+(v.jy:Int)),loop⟩]) v.aZ) v.aR).length=cE.length+v.jy:=by rw[gD,gD];simp;omega
    simp only[iS,List.map_append,List.map_cons,List.map_nil,OY,List.length_append,List.length_cons,List.length_nil]at f1
    repeat' (first
 |simp only[go_sem,hD,hY,hZ,gA,k1,k2,LO,tx,XG,d1,d2,ej]
 |(with_reducible refine CU (dM _) ?_)
 |(with_reducible refine CU (f1 (by with_unfolding_all rfl) (by with_unfolding_all rfl)) ?_)
 |(with_reducible refine CU (f2 (by with_unfolding_all rfl) (by with_unfolding_all rfl)) ?_)
 | (with_reducible refine aD hQ ?_;exact bb))
    refine eO 2 3 ?_ ?_ (IH (rest,k+1,_) ⟨g2,h2,by dsimp only;rw[hl];omega⟩ (Nat.lt_succ_self _))
    ·(simp only[go_sem,hD,hY,hZ,gA,tx,k1,k2];try exact bW)
    ·(simp only[go_sem,hD,hY,hZ,gA,tx,k1,k2];try exact bW)
  ·have d1:decide (((k+1:Nat):Int)<(l.length:Int))=false:=by simp;omega
   have e1:(rest.length=0)=True:=by simp only[eq_iff_iff,iff_true];omega
   by_cases Ry:v.kind=6
   ·have d2:(v.kind==6)=true:=by simp [Ry]
    simp only[e1,d2,↓reduceIte,Bool.false_eq_true]at h2
    have f1:=fun {s:St} {o:Nat}=>@ih v.aZ proc ((cE.length:Int)+1) ((cE.length:Int)+1) ((cE.length:Int)+1) (cE++ [⟨v,proc,up,next,loop⟩]) g ps lo hi b c xZ (by simp;omega) hg hp s o
    have f2:=fun {s:St} {o:Nat}=>@ih v.aR proc ((cE.length:Int)+1) ((cE.length:Int)+1) ((cE.length:Int)+1) _ g ps lo hi b c IB (by rw[gD proc ((cE.length:Int)+1) ((cE.length:Int)+1) ((cE.length:Int)+1) (cE++ [⟨v,proc,up,next,loop⟩]) v.aZ];simp;omega) hg hp s o
    have hl:(Im.rows proc ((cE.length:Int)+1) ((cE.length:Int)+1) ((cE.length:Int)+1) (Im.rows proc ((cE.length:Int)+1) ((cE.length:Int)+1) ((cE.length:Int)+1) (cE++ [⟨v,proc,up,next,loop⟩]) v.aZ) v.aR).length=cE.length+v.jy:=by rw[gD,gD];simp;omega
    simp only[iS,List.map_append,List.map_cons,List.map_nil,OY,List.length_append,List.length_cons,List.length_nil]at f1
    repeat' (first
 |simp only[go_sem,hD,hY,hZ,gA,k1,k2,LO,tx,XG,d1,d2,ej]
 |(with_reducible refine CU (dM _) ?_)
 |(with_reducible refine CU (f1 (by with_unfolding_all rfl) (by with_unfolding_all rfl)) ?_)
 |(with_reducible refine CU (f2 (by with_unfolding_all rfl) (by with_unfolding_all rfl)) ?_)
 | (with_reducible refine aD hQ ?_;exact bb))
    refine eO 2 3 ?_ ?_ (IH (rest,k+1,_) ⟨g2,h2,by dsimp only;rw[hl];omega⟩ (Nat.lt_succ_self _))
    ·(simp only[go_sem,hD,hY,hZ,gA,tx,k1,k2];try exact bW)
    ·(simp only[go_sem,hD,hY,hZ,gA,tx,k1,k2];try exact bW)
   ·have d2:(v.kind==6)=false:=by simp [Ry]
    simp only[e1,d2,↓reduceIte,Bool.false_eq_true]at h2
    have f1:=fun {s:St} {o:Nat}=>@ih v.aZ proc ((cE.length:Int)+1) next loop (cE++ [⟨v,proc,up,next,loop⟩]) g ps lo hi b c xZ (by simp;omega) hg hp s o
    have f2:=fun {s:St} {o:Nat}=>@ih v.aR proc ((cE.length:Int)+1) next loop _ g ps lo hi b c IB (by rw[gD proc ((cE.length:Int)+1) next loop (cE++ [⟨v,proc,up,next,loop⟩]) v.aZ];simp;omega) hg hp s o
    have hl:(Im.rows proc ((cE.length:Int)+1) next loop (Im.rows proc ((cE.length:Int)+1) next loop (cE++ [⟨v,proc,up,next,loop⟩]) v.aZ) v.aR).length=cE.length+v.jy:=by rw[gD,gD];simp;omega
    simp only[iS,List.map_append,List.map_cons,List.map_nil,OY,List.length_append,List.length_cons,List.length_nil]at f1
    repeat' (first
 |simp only[go_sem,hD,hY,hZ,gA,k1,k2,LO,tx,XG,d1,d2,ej]
 |(with_reducible refine CU (dM _) ?_)
 |(with_reducible refine CU (f1 (by with_unfolding_all rfl) (by with_unfolding_all rfl)) ?_)
 |(with_reducible refine CU (f2 (by with_unfolding_all rfl) (by with_unfolding_all rfl)) ?_)
 | (with_reducible refine aD hQ ?_;exact bb))
    refine eO 2 3 ?_ ?_ (IH (rest,k+1,_) ⟨g2,h2,by dsimp only;rw[hl];omega⟩ (Nat.lt_succ_self _))
    ·(simp only[go_sem,hD,hY,hZ,gA,tx,k1,k2];try exact bW)
    ·(simp only[go_sem,hD,hY,hZ,gA,tx,k1,k2];try exact bW)
theorem Zn : ∀ N,N<1000000000→XF N:=by
 intro N
 induction N with
 |zero=>exact fun _ l proc up next loop out g ps lo hi b c h=>absurd h (Nat.not_lt_zero _)
 |succ N ih=>
  intro h l proc up next loop out g ps lo hi b c hs hc hg hp s o ho ht
  exact(ag0 (ih (by omega)) hs hc hg hp (by omega)).agZ (by simp[D.bL,D.ok,Tag.ok,pC,D.gS]) hg hp ho ht
def fx (p:Pg):List D:= [.slice .shared 1 (p.globals.map encStr), .slice .shared 5 (p.procs.map cq), .slice .shared 17 (p.aX.L.map dt), .slice .shared 1 (p.aX.lo.map bE), .slice .shared 1 (p.aX.hi.map bE)]
theorem nZ (p:Pg):fx p = [.slice .shared 1 (p.globals.map encStr), .slice .shared 5 (p.procs.map cq), .slice .shared 17 (p.aX.L.map dt), .slice .shared 1 (p.aX.lo.map bE), .slice .shared 1 (p.aX.hi.map bE)]:=nd rfl
theorem uu (p:Pg):D.bL 0 0 (fx p)=true:=by simp[fx,D.bL,D.ok,Tag.ok,fb,wC,HW,iw]
theorem Ey (p:Pg):cu p = [.slice .shared 1 (p.globals.map encStr), .slice .shared 5 (p.procs.map cq)]:=nd rfl
theorem ag1 {p:Pg} (hs:Pc.aY p.procs<1000000000):aF Tryz.prog kU [.agg (cu p)] S0 (.ptr 1 0) ⟨[cu p,iS (.slice .shared 1 (p.globals.map encStr)) (.slice .shared 5 (p.procs.map cq)) p.aX.L p.aX.lo p.aX.hi],[some p.aX.L.length,some p.aX.lo.length,some p.aX.hi.length]⟩:=by
 have hlen:p.procs.length<1000000000:=by have:=Pc.eB p.procs;omega
 obtain⟨R,hR⟩ : ∃ R,R=p.aX:=⟨_,rfl⟩
 have hR':=hR
 unfold Pg.aX at hR'
 unfold S0
 rw[Ey, ← hR]
 refine aF.goK 2 3 (Nat.zero_le _) (Nat.zero_le _) Jr rfl fun B Q hB hQ=>?_
 have⟨hD,hY,hZ,gA⟩:=bP
 repeat' (first
 |simp only[go_sem,hD,hY,hZ,gA,Ey]
 |(with_reducible refine aD hQ ?_;exact bb))
 refine bl.Dn 1 2 17 rfl rfl ?_
 simp only[go_sem,hD,hY,hZ,gA]
 refine bl.Dn 1 3 1 rfl rfl ?_
 simp only[go_sem,hD,hY,hZ,gA]
 refine bl.Dn 1 4 1 rfl rfl ?_
 simp only[go_sem,hD,hY,hZ,gA]
 refine eO 2 3 ?_ ?_ (bl.ind (ι:=List Pc×Nat×Sh×Nat×Nat) (fun i=>p.procs.drop i.2.1=i.1∧Sh.go i.2.1 i.2.2.1 i.1=R∧i.2.2.1.L.length+Pc.aY i.1≤Pc.aY p.procs∧i.2.2.1.lo.length=i.2.1∧i.2.2.1.hi.length=i.2.1∧i.2.2.2.1=i.2.2.1.lo.length∧i.2.2.2.2=i.2.2.1.hi.length) (fun i=>i.1.length)
  (fun i=> [(1, .ptr 0 0),(3, .ptr 1 0),(10, .slice .shared 5 (p.procs.map cq)),(11, .int .i64 (p.procs.length:Int)),(12, .int .i64 (i.2.1:Int))]) (fun i=>⟨[[.slice .shared 1 (p.globals.map encStr), .slice .shared 5 (p.procs.map cq)],iS (.slice .shared 1 (p.globals.map encStr)) (.slice .shared 5 (p.procs.map cq)) i.2.2.1.L i.2.2.1.lo i.2.2.1.hi],[some i.2.2.1.L.length,some i.2.2.2.1,some i.2.2.2.2]⟩) ?_ (p.procs,0,⟨[],[],[]⟩,0,0) ⟨rfl,hR'.symm,by simp,rfl,rfl,rfl,rfl⟩)
 ·(simp only[go_sem,hD,hY,hZ,gA,iS];try exact bW)
 ·(simp only[go_sem,hD,hY,hZ,gA,iS];try exact bW)
 rintro⟨rest,k,h,n1,n2⟩ ⟨h1,h2,h3,h4,h5,h6,h7⟩ IH
 dsimp only at h1 h2 h3 h4 h5 h6 h7
 subst h6 h7
 cases rest with
 |nil=>
  have hD:=drop_nil h1
  simp only[Sh.go]at h2
  rw[← h2]at hQ
  repeat' (first
 |simp only[go_sem,hD,hY,hZ,gA,iS]
 |(with_reducible refine aD hQ ?_;exact bb))
 |cons f rest=>
  obtain⟨hY,g2,hD,g4⟩:=drop_cons h1
  have bO:k<4611686018427387904:=by omega
  simp only[Pc.aY,Pc.size]at h3
  simp only[Sh.go]at h2
  have c1:=nL f.body
  have hZ:(h.lo.length+1)*9≤bA:=by unfold bA;omega
  have anC:(h.hi.length+1)*9≤bA:=by unfold bA;omega
  have LO:IntKind.wrap .i64 ((h.L.length:Int)+1)=(h.L.length:Int)+1:=eg (by omega) (by omega)
  have hl:(Im.rows (k:Int) 0 (-1) 0 h.L f.body).length=h.L.length+Sm.jd f.body:=gD ..
  have tx:IntKind.wrap .i64 (((Im.rows (k:Int) 0 (-1) 0 h.L f.body).length:Int)+1)=((Im.rows (k:Int) 0 (-1) 0 h.L f.body).length:Int)+1:=eg (by omega) (by omega)
  have hr:=fun {s:St} {o:Nat}=>@Zn (Sm.aY f.body+1) (by omega) f.body (k:Int) 0 (-1) 0 h.L (.slice .shared 1 (p.globals.map encStr)) (.slice .shared 5 (p.procs.map cq)) (h.lo++ [(h.L.length:Int)+1]) h.hi (some (h.lo.length+1)) (some h.hi.length) (Nat.lt_succ_self _) (by omega) (by simp[D.ok,Tag.ok,fb]) (by simp[D.ok,Tag.ok,wC]) s o
  simp only[iS,List.map_append,List.map_cons,List.map_nil,bE]at hr
  repeat' (first
 |simp only[go_sem,hD,hY,hZ,gA,LO,tx,anC,iS]
 |(with_reducible refine CU (hr (by with_unfolding_all rfl) (by with_unfolding_all rfl)) ?_)
 |(with_reducible refine aD hQ ?_;exact bb))
  refine eO 2 3 ?_ ?_ (IH (rest,k+1,⟨Im.rows (k:Int) 0 (-1) 0 h.L f.body,h.lo++ [(h.L.length:Int)+1],h.hi++ [((Im.rows (k:Int) 0 (-1) 0 h.L f.body).length:Int)+1]⟩,_,_) ⟨g2,h2,by dsimp only;rw[hl];omega,by simp[h4],by simp[h5],by simp,by simp⟩ (Nat.lt_succ_self _))
  ·(simp only[go_sem,hD,hY,hZ,gA,iS,aI bO,List.map_append,List.map_cons,List.map_nil,bE];try exact bW)
  ·(simp only[go_sem,hD,hY,hZ,gA,iS,aI bO,List.map_append,List.map_cons,List.map_nil,bE];try exact bW)
theorem Cf {p:Pg} (hs:Pc.aY p.procs<1000000000) (s:St):aF Tryz.prog kU [.agg (cu p)] s (.dv (fx p) 0) s:=by
 refine aF.pure ?_ (by simp only[D.bL,D.ok,jc];rfl) (by simp only[D.ok,uu]) s
 have h:=(ag1 hs).AH (n:=0) (m:=0) rfl (Nat.le_refl _) (Nat.zero_le _) (Nat.le_refl _)
 simpa[D.gu,D.fg,Tag.fg,Rj,WM,XD,Rx,St.cut,fx,S0]using h
def jf (x:aG) (k:Int):List aG→Int
 | []=> -1
 |s::l=>if x==s then k else jf x (k+1) l
def fu (l:List aG) (x:aG):Bool:=decide (jf x 0 l≥0)
def kZ {α:Type} (b:α→Bool) (k:Int):List α→Int
 | []=> -1
 |s::l=>if b s then k else kZ b (k+1) l
theorem LP (x:aG) : ∀ (l:List aG) (k:Int),0≤k→(jf x k l≥0↔x∈l)
 | [],k,h=>by simp[jf]
 | s::l,k,h=>by
  by_cases e:x=s
  ·simp[jf,e];omega
  ·have e':(x==s)=false:=by simp [e]
   simp only[jf,e',Bool.false_eq_true,if_false,List.mem_cons,e,false_or]
   exact LP x l (k+1) (by omega)
theorem jg (l:List aG) (x:aG):fu l x=true↔x∈l:=by
 simp only[fu,decide_eq_true_eq];exact LP x l 0 (Int.le_refl 0)
theorem FM {α:Type} (b:α→Bool) : ∀ (l:List α) (k:Int),0≤k→(kZ b k l≥0↔l.any b=true)
 | [],k,h=>by simp[kZ]
 | s::l,k,h=>by
  by_cases e:b s=true
  ·simp[kZ,e];omega
  ·have e':b s=false:=by simpa using e
   simp only[kZ,e',Bool.false_eq_true,if_false,List.any_cons,Bool.or_eq_true,false_or]
   exact FM b l (k+1) (by omega)
theorem Cg {l:List aG} (hl:l.length<4611686018427387904) (x:aG) (s:St):aF Tryz.prog fW [.slice .shared 1 (l.map encStr), .str x] s (.int .i64 (jf x 0 l)) s:=by
 refine aF.pure ?_ (by simp[D.bL,D.ok,Tag.ok,fb]) rfl s
 generalize h:jf x 0 l=p
 unfold S0
 refine aF.go wc rfl fun B Q hB hQ=>?_
 have⟨hD,hY,hZ,gA⟩:=bP
 repeat' (first
 |simp only[go_sem,hD,hY,hZ,gA]
 |(with_reducible first|refine bo fun hc=>?_|refine bp fun hc=>?_|refine bq (fun hc=>?_) fun hc=>?_)<;>(try simp only[hc,bs,↓reduceIte]at h)<;>try simp only[hc]
 |(with_reducible refine aD hQ ?_;exact ga))
 refine fa 0 0 (bl.ind (ι:=List aG×Nat) (fun i=>l.drop i.2=i.1∧jf x (i.2:Int) i.1=p) (fun i=>i.1.length)
  (fun i=> [(0, .slice .shared 1 (l.map encStr)),(1, .str x),(7, .int .i64 (l.length:Int)),(8, .int .i64 (i.2:Int))]) (fun i=>⟨[],[]⟩) ?_ (l,0) ⟨rfl,h⟩)
 rintro⟨rest,k⟩ ⟨h1,h⟩ IH
 dsimp only at h1 h
 cases rest with
 |nil=>
  have hD:=drop_nil h1
  simp only[jf]at h
  repeat' (first
 |simp only[go_sem,hD,hY,hZ,gA]
 |(with_reducible first|refine bo fun hc=>?_|refine bp fun hc=>?_|refine bq (fun hc=>?_) fun hc=>?_)<;>(try simp only[hc,bs,↓reduceIte]at h)<;>try simp only[hc]
 |(with_reducible refine aD hQ ?_;exact ga))
 |cons a rest=>
  obtain⟨hY,g2,hD,g4⟩:=drop_cons h1
  have bO:k<4611686018427387904:=by omega
  simp only[jf]at h
  repeat' (first
 |simp only[go_sem,hD,hY,hZ,gA]
 |(with_reducible first|refine bo fun hc=>?_|refine bp fun hc=>?_|refine bq (fun hc=>?_) fun hc=>?_)<;>(try simp only[hc,bs,↓reduceIte]at h)<;>try simp only[hc]
 |(with_reducible refine aD hQ ?_;exact ga))
  refine eO 0 0 ?_ ?_ (IH (rest,k+1) ⟨g2,h⟩ (Nat.lt_succ_self _))
  ·(simp only[go_sem,hD,hY,hZ,gA,aI bO];try exact bW)
  ·(simp only[go_sem,hD,hY,hZ,gA,aI bO];try exact bW)
theorem rN {l:List aG} (hl:l.length<4611686018427387904) (x:aG) (s:St):aF Tryz.prog cr [.slice .shared 1 (l.map encStr), .str x] s (.bool (fu l x)) s:=by
 refine aF.pure ?_ (by simp[D.bL,D.ok,Tag.ok,fb]) rfl s
 have hi:=fun s=>Cg hl x s
 unfold S0
 refine aF.go uq rfl fun B Q hB hQ=>?_
 have⟨hD,hY,hZ,gA⟩:=bP
 repeat' (first
 |simp only[go_sem,hD,hY,hZ,gA,fu]
 |(with_reducible refine CU (hi _) ?_)
 |(with_reducible first|refine bo fun hc=>?_|refine bp fun hc=>?_|refine bq (fun hc=>?_) fun hc=>?_)<;>(try simp only[hc,bs,↓reduceIte]at h)<;>try simp only[hc]
 |(with_reducible refine aD hQ ?_;simp only[aU,aV,bH,bI,go_sem,hD,hY,hZ,gA,fu];try exact cv))
theorem aF.XH {P:Program} {f:Nat} {d d':D} {r:List D} {s s':St} {x:D} (h:aF P f (d'::r) s x s') (hw:Wk d d'):aF P f (d::r) s x s':=bM.pR (.cons hw (ju.refl r)) h
theorem jB {l:List aG} (hl:l.length<4611686018427387904) (x:aG) (g:Tag) (s:St):aF Tryz.prog cr [.slice g 1 (l.map encStr), .str x] s (.bool (fu l x)) s:=
 (rN hl x s).XH (Wk.shared _ _ _)
theorem Jz (x:aG) (z:Nat) (g:Tag) (s:St):aF Tryz.prog cr [.slice g z [], .str x] s (.bool false) s:=
 (rN (l:= []) (by simp) x s).XH (Wk.nil _ _ _)
theorem Bt {l:List aG} (hl:l.length<4611686018427387904) {f:Nat} {row:List D} {b:aG→Bool} (uJ:D.bL 0 0 row=true) (he:enters Tryz.prog f=true)
 (hb : ∀ x∈l,aF Tryz.prog f ([.str x]++ [.ptr 0 0]) ⟨[row],[]⟩ (.bool (b x)) ⟨[row],[]⟩) :
 aF Tryz.prog kV [.slice .shared 1 (l.map encStr), .gd f [.ptr 0 0]] ⟨[row],[]⟩ (.int .i64 (kZ b 0 l)) ⟨[row],[]⟩:=by
 generalize h:kZ b 0 l=p
 have k1 : ∀ n m,D.gu n m row=row:=fun n m=>ib n m _ uJ
 refine aF.go tw rfl fun B Q hB hQ=>?_
 have⟨hD,hY,hZ,gA⟩:=bP
 repeat' (first
 |simp only[go_sem,hD,hY,hZ,gA,k1]
 |(with_reducible first|refine bo fun hc=>?_|refine bp fun hc=>?_|refine bq (fun hc=>?_) fun hc=>?_)<;>(try simp only[hc,bs,↓reduceIte]at h)<;>try simp only[hc]
 |(with_reducible refine aD hQ ?_;(try cases h);simp only[aU,aV,bH,bI,go_sem,hD,hY,hZ,gA,k1];try exact cv))
 refine eO 1 0 ?_ ?_ (bl.ind (ι:=List aG×Nat) (fun i=>l.drop i.2=i.1∧kZ b (i.2:Int) i.1=p) (fun i=>i.1.length)
  (fun i=> [(0, .slice .shared 1 (l.map encStr)),(1, .gd f [.ptr 0 0]),(7, .int .i64 (l.length:Int)),(8, .int .i64 (i.2:Int))]) (fun i=>⟨[row],[]⟩) ?_ (l,0) ⟨rfl,h⟩)
 ·(simp only[go_sem,hD,hY,hZ,gA,k1];try exact bW)
 ·(simp only[go_sem,hD,hY,hZ,gA,k1];try exact bW)
 rintro⟨rest,k⟩ ⟨h1,h⟩ IH
 dsimp only at h1 h
 cases rest with
 |nil=>
  have hD:=drop_nil h1
  simp only[kZ]at h
  repeat' (first
 |simp only[go_sem,hD,hY,hZ,gA,k1]
 |(with_reducible first|refine bo fun hc=>?_|refine bp fun hc=>?_|refine bq (fun hc=>?_) fun hc=>?_)<;>(try simp only[hc,bs,↓reduceIte]at h)<;>try simp only[hc]
 |(with_reducible refine aD hQ ?_;(try cases h);simp only[aU,aV,bH,bI,go_sem,hD,hY,hZ,gA,k1];try exact cv))
 |cons a rest=>
  obtain⟨hY,g2,hD,g4⟩:=drop_cons h1
  have bO:k<4611686018427387904:=by omega
  have hba:=hb a (List.mem_of_getElem? hY)
  simp only[kZ]at h
  repeat' (first
 |simp only[go_sem,hD,hY,hZ,gA,k1]
 |(with_reducible refine CV.use (he) (hba) ?_)
 |(with_reducible first|refine bo fun hc=>?_|refine bp fun hc=>?_|refine bq (fun hc=>?_) fun hc=>?_)<;>(try simp only[hc,bs,↓reduceIte]at h)<;>try simp only[hc]
 |(with_reducible refine aD hQ ?_;(try cases h);simp only[aU,aV,bH,bI,go_sem,hD,hY,hZ,gA,k1];try exact cv))
  refine eO 1 0 ?_ ?_ (IH (rest,k+1) ⟨g2,h⟩ (Nat.lt_succ_self _))
  ·(simp only[go_sem,hD,hY,hZ,gA,k1,aI bO];try exact bW)
  ·(simp only[go_sem,hD,hY,hZ,gA,k1,aI bO];try exact bW)
theorem Bu {P:Program} {g f:Nat} {row:List D} {rows:List (List D)} {z:Nat} {d:D} (h:aF P g [.slice .shared z rows, .gd f [.ptr 0 0]] ⟨[row],[]⟩ d ⟨[row],[]⟩) (uJ:D.bL 0 0 row=true) (hw:D.gS 0 0 rows=true) (hd:D.ok 0 0 d=true) {s:St} {o:Nat} (ho:s.ah[o]? = some row) :
 aF P g [.slice .shared z rows, .gd f [.ptr o 0]] s d s:=by
 refine bM.frame [o] [] h (by simp) List.nodup_nil (by simpa using (List.getElem?_eq_some_iff.1 ho).1) (by simp) rfl (fun i o' ds e1 e2=>?_) rfl (by simp) (by simp[D.e9,D.cU,Tag.cU,jk _ _ _ hw])
  (by simp[D.bL,D.ok,Tag.ok,mA (Nat.zero_le 1) (Nat.le_refl 0) _ hw]) ?_
 ·cases i with
  |zero=>simp at e1 e2;subst e1;subst e2;exact⟨by rw[fB _ _ _ uJ];exact ho,iy (Nat.zero_le 1) (Nat.le_refl 0) _ uJ⟩
  |succ i=>simp at e1
 ·rintro _ _ ⟨rfl,rfl⟩
  refine⟨qB _ _ _ hd, ?_⟩
  have:s.ah.set o row=s.ah:=by
   apply List.ext_getElem?
   intro i
   rw[List.getElem?_set]
   split
   ·rename_i e;subst e;rw [ho];split
    ·rfl
    ·rename_i hh;exact absurd (List.getElem?_eq_some_iff.1 ho).1 hh
   ·rfl
  simp[St.back,kF,fB _ _ _ uJ,this]
theorem yy {l:List aG} (hl:l.length<4611686018427387904) {f:Nat} {row:List D} {b:aG→Bool} (uJ:D.bL 0 0 row=true) (he:enters Tryz.prog f=true)
 (hb : ∀ x∈l,aF Tryz.prog f ([.str x]++ [.ptr 0 0]) ⟨[row],[]⟩ (.bool (b x)) ⟨[row],[]⟩) :
 aF Tryz.prog fX [.slice .shared 1 (l.map encStr), .gd f [.ptr 0 0]] ⟨[row],[]⟩ (.bool (l.any b)) ⟨[row],[]⟩:=by
 have k1 : ∀ n m,D.gu n m row=row:=fun n m=>ib n m _ uJ
 have hi:=Bt hl uJ he hb
 have e:decide (kZ b 0 l≥0)=l.any b:=by
  have:=FM b l 0 (Int.le_refl 0)
  cases hh:l.any b<;>simp_all
 refine aF.go rM rfl fun B Q hB hQ=>?_
 have⟨hD,hY,hZ,gA⟩:=bP
 repeat' (first
 |simp only[go_sem,hD,hY,hZ,gA,k1,e]
 |(with_reducible refine CU (hi) ?_)
 |(with_reducible first|refine bo fun hc=>?_|refine bp fun hc=>?_|refine bq (fun hc=>?_) fun hc=>?_)<;>(try simp only[hc,bs,↓reduceIte]at h)<;>try simp only[hc]
 |(with_reducible refine aD hQ ?_;simp only[aU,aV,bH,bI,go_sem,hD,hY,hZ,gA,k1,e];try exact cv))
theorem yz {l:List aG} (hl:l.length<4611686018427387904) {f:Nat} {row:List D} {b:aG→Bool} (uJ:D.bL 0 0 row=true) (he:enters Tryz.prog f=true)
 (hb : ∀ x∈l,aF Tryz.prog f ([.str x]++ [.ptr 0 0]) ⟨[row],[]⟩ (.bool (b x)) ⟨[row],[]⟩) {s:St} {o:Nat} (ho:s.ah[o]? = some row) :
 aF Tryz.prog fX [.slice .shared 1 (l.map encStr), .gd f [.ptr o 0]] s (.bool (l.any b)) s:=
 Bu (yy hl uJ he hb) uJ (fb l) rfl ho
theorem vL {l:List Pc} (hl:l.length<4611686018427387904) {f:Nat} {row:List D} {b:Pc→Bool} (uJ:D.bL 0 0 row=true) (he:enters Tryz.prog f=true)
 (hb : ∀ x∈l,aF Tryz.prog f ([.agg (cq x)]++ [.ptr 0 0]) ⟨[row],[]⟩ (.bool (b x)) ⟨[row],[]⟩) :
 aF Tryz.prog gh [.slice .shared 5 (l.map cq), .gd f [.ptr 0 0]] ⟨[row],[]⟩ (.int .i64 (kZ b 0 l)) ⟨[row],[]⟩:=by
 generalize h:kZ b 0 l=p
 have k1 : ∀ n m,D.gu n m row=row:=fun n m=>ib n m _ uJ
 refine aF.go rW rfl fun B Q hB hQ=>?_
 have⟨hD,hY,hZ,gA⟩:=bP
 repeat' (first
 |simp only[go_sem,hD,hY,hZ,gA,k1]
 |(with_reducible first|refine bo fun hc=>?_|refine bp fun hc=>?_|refine bq (fun hc=>?_) fun hc=>?_)<;>(try simp only[hc,bs,↓reduceIte]at h)<;>try simp only[hc]
 |(with_reducible refine aD hQ ?_;(try cases h);simp only[aU,aV,bH,bI,go_sem,hD,hY,hZ,gA,k1];try exact cv))
 refine eO 1 0 ?_ ?_ (bl.ind (ι:=List Pc×Nat) (fun i=>l.drop i.2=i.1∧kZ b (i.2:Int) i.1=p) (fun i=>i.1.length)
  (fun i=> [(0, .slice .shared 5 (l.map cq)),(1, .gd f [.ptr 0 0]),(7, .int .i64 (l.length:Int)),(8, .int .i64 (i.2:Int))]) (fun i=>⟨[row],[]⟩) ?_ (l,0) ⟨rfl,h⟩)
 ·(simp only[go_sem,hD,hY,hZ,gA,k1];try exact bW)
 ·(simp only[go_sem,hD,hY,hZ,gA,k1];try exact bW)
 rintro⟨rest,k⟩ ⟨h1,h⟩ IH
 dsimp only at h1 h
 cases rest with
 |nil=>
  have hD:=drop_nil h1
  simp only[kZ]at h
  repeat' (first
 |simp only[go_sem,hD,hY,hZ,gA,k1]
 |(with_reducible first|refine bo fun hc=>?_|refine bp fun hc=>?_|refine bq (fun hc=>?_) fun hc=>?_)<;>(try simp only[hc,bs,↓reduceIte]at h)<;>try simp only[hc]
 |(with_reducible refine aD hQ ?_;(try cases h);simp only[aU,aV,bH,bI,go_sem,hD,hY,hZ,gA,k1];try exact cv))
 |cons a rest=>
  obtain⟨hY,g2,hD,g4⟩:=drop_cons h1
  have bO:k<4611686018427387904:=by omega
  have hba:=hb a (List.mem_of_getElem? hY)
  simp only[kZ]at h
  repeat' (first
 |simp only[go_sem,hD,hY,hZ,gA,k1]
 |(with_reducible refine CV.use (he) (hba) ?_)
 |(with_reducible first|refine bo fun hc=>?_|refine bp fun hc=>?_|refine bq (fun hc=>?_) fun hc=>?_)<;>(try simp only[hc,bs,↓reduceIte]at h)<;>try simp only[hc]
 |(with_reducible refine aD hQ ?_;(try cases h);simp only[aU,aV,bH,bI,go_sem,hD,hY,hZ,gA,k1];try exact cv))
  refine eO 1 0 ?_ ?_ (IH (rest,k+1) ⟨g2,h⟩ (Nat.lt_succ_self _))
  ·(simp only[go_sem,hD,hY,hZ,gA,k1,aI bO];try exact bW)
  ·(simp only[go_sem,hD,hY,hZ,gA,k1,aI bO];try exact bW)
theorem Ax {l:List Pc} (hl:l.length<4611686018427387904) {f:Nat} {row:List D} {b:Pc→Bool} (uJ:D.bL 0 0 row=true) (he:enters Tryz.prog f=true)
 (hb : ∀ x∈l,aF Tryz.prog f ([.agg (cq x)]++ [.ptr 0 0]) ⟨[row],[]⟩ (.bool (b x)) ⟨[row],[]⟩) :
 aF Tryz.prog gN [.slice .shared 5 (l.map cq), .gd f [.ptr 0 0]] ⟨[row],[]⟩ (.bool (l.any b)) ⟨[row],[]⟩:=by
 have k1 : ∀ n m,D.gu n m row=row:=fun n m=>ib n m _ uJ
 have hi:=vL hl uJ he hb
 have e:decide (kZ b 0 l≥0)=l.any b:=by
  have:=FM b l 0 (Int.le_refl 0)
  cases hh:l.any b<;>simp_all
 refine aF.go qJ rfl fun B Q hB hQ=>?_
 have⟨hD,hY,hZ,gA⟩:=bP
 repeat' (first
 |simp only[go_sem,hD,hY,hZ,gA,k1,e]
 |(with_reducible refine CU (hi) ?_)
 |(with_reducible first|refine bo fun hc=>?_|refine bp fun hc=>?_|refine bq (fun hc=>?_) fun hc=>?_)<;>(try simp only[hc,bs,↓reduceIte]at h)<;>try simp only[hc]
 |(with_reducible refine aD hQ ?_;simp only[aU,aV,bH,bI,go_sem,hD,hY,hZ,gA,k1,e];try exact cv))
mutual
def Sm.pre:Sm→List Sm
 |⟨id,kind,labels,name,pc,x,has,args,aZ,aR⟩=>⟨id,kind,labels,name,pc,x,has,args,aZ,aR⟩::(Sm.dc aZ++Sm.dc aR)
def Sm.dc:List Sm→List Sm
 | []=> []
 |s::l=>s.pre++Sm.dc l
end
def Pg.pre (p:Pg):List Sm:=(p.procs.map fun f=>Sm.dc f.body).flatten
theorem Sm.qf (s:Sm):s.pre=s::(Sm.dc s.aZ++Sm.dc s.aR):=by cases s;simp only[Sm.pre]
mutual
theorem Zo (proc up next loop:Int) (out:List Im) : ∀ s:Sm,∃ e:List Im,Im.one proc up next loop out s=out++e∧e.map Im.s=s.pre
 |⟨id,kind,labels,name,pc,x,has,args,aZ,aR⟩=>by
  simp only[Im.one,Sm.pre]
  obtain⟨e1,h1,k1⟩:=zp proc ((out.length:Int)+1) (if kind==6 then(out.length:Int)+1 else next) (if kind==6 then(out.length:Int)+1 else loop) (out++ [⟨⟨id,kind,labels,name,pc,x,has,args,aZ,aR⟩,proc,up,next,loop⟩]) aZ
  obtain⟨e2,h2,k2⟩:=zp proc ((out.length:Int)+1) (if kind==6 then(out.length:Int)+1 else next) (if kind==6 then(out.length:Int)+1 else loop) (Im.rows proc ((out.length:Int)+1) (if kind==6 then(out.length:Int)+1 else next) (if kind==6 then(out.length:Int)+1 else loop) (out++ [⟨⟨id,kind,labels,name,pc,x,has,args,aZ,aR⟩,proc,up,next,loop⟩]) aZ) aR
  refine⟨⟨⟨id,kind,labels,name,pc,x,has,args,aZ,aR⟩,proc,up,next,loop⟩::(e1++e2), ?_, ?_⟩
  ·rw[h2,h1];simp
  ·simp[k1,k2]
theorem zp (proc up next loop:Int) (out:List Im) : ∀ l:List Sm,∃ e:List Im,Im.rows proc up next loop out l=out++e∧e.map Im.s=Sm.dc l
 | []=>⟨[],by simp[Im.rows],rfl⟩
 |s::l=>by
  simp only[Im.rows,Sm.dc]
  obtain⟨e1,h1,k1⟩:=Zo proc up (if l.length=0 then next else(out.length:Int)+1+(s.jy:Int)) loop out s
  obtain⟨e2,h2,k2⟩:=zp proc up next loop (Im.one proc up (if l.length=0 then next else(out.length:Int)+1+(s.jy:Int)) loop out s) l
  refine⟨e1++e2, ?_,by simp[k1,k2]⟩
  rw[h2,h1];simp
end
theorem Rz : ∀ (l:List Pc) (n:Nat) (h:Sh),h.lo.length=n→h.hi.length=n→
 ∃ e lo hi,Sh.go n h l = ⟨h.L++e,h.lo++lo,h.hi++hi⟩∧e.map Im.s=(l.map fun f=>Sm.dc f.body).flatten∧lo.length=l.length∧hi.length=l.length∧
  ∀ (i:Nat) (f:Pc),l[i]? = some f→∃ a b e' Lt:List Im,lo[i]? = some (((h.L++a).length:Int)+1)∧hi[i]? = some (((h.L++a++b).length:Int)+1)∧b.map Im.s=Sm.dc f.body∧e=a++b++e'
 | [],n,h,hl,hh=>⟨[],[],[],by simp[Sh.go],rfl,rfl,rfl,fun i f h=>by simp at h⟩
 | f::l,n,h,hl,hh=>by
  simp only[Sh.go]
  obtain⟨e1,h1,k1⟩:=zp (n:Int) 0 (-1) 0 h.L f.body
  obtain⟨e2,lo,hi,h2,k2,h3,h4,h5⟩:=Rz l (n+1) ⟨Im.rows (n:Int) 0 (-1) 0 h.L f.body,h.lo++ [(h.L.length:Int)+1],h.hi++ [((Im.rows (n:Int) 0 (-1) 0 h.L f.body).length:Int)+1]⟩ (by simp[hl]) (by simp[hh])
  refine⟨e1++e2,((h.L.length:Int)+1)::lo,(((Im.rows (n:Int) 0 (-1) 0 h.L f.body).length:Int)+1)::hi, ?_,by simp[k1,k2],by simp[h3],by simp[h4],fun i g gY=>?_⟩
  ·rw[h2,h1];simp
  ·cases i with
   |zero=>
    simp only[List.getElem?_cons_zero,Option.some.injEq]at gY
    subst gY
    exact⟨[],e1,e2,[],by simp,by rw[h1];simp,k1,by simp⟩
   |succ i=>
    simp only[List.getElem?_cons_succ]at gY
    obtain⟨a,b,e',Lt,g1,g2,g3,g4⟩:=h5 i g gY
    refine⟨e1++a,b,e',Lt, ?_, ?_,g3,by rw[g4];simp⟩
    ·rw[List.getElem?_cons_succ,g1,h1];simp
    ·rw[List.getElem?_cons_succ,g2,h1];simp
theorem kx (p:Pg):p.aX.L.map Im.s=p.pre∧∀ (i:Nat) (f:Pc),p.procs[i]? = some f→∃ a b e:List Im,p.aX.lo[i]? = some ((a.length:Int)+1)∧p.aX.hi[i]? = some (((a++b).length:Int)+1)∧b.map Im.s=Sm.dc f.body∧p.aX.L=a++b++e:=by
 obtain⟨e,lo,hi,h1,h2,h3,h4,h5⟩:=Rz p.procs 0 ⟨[],[],[]⟩ rfl rfl
 unfold Pg.aX
 rw[h1]
 refine⟨by simpa[Pg.pre]using h2,fun i f hf=>?_⟩
 obtain⟨a,b,e',_,g1,g2,g3,g4⟩:=h5 i f hf
 exact⟨a,b,e',by simpa using g1,by simpa using g2,g3,by simpa using g4⟩
def Pg.at (p:Pg) (name:aG):Int:=kZ (fun f:Pc=>f.name==name) 0 p.procs
theorem Zp (name:aG) (f:Pc):aF Tryz.prog lM ([.agg (cq f)]++ [.ptr 0 0]) ⟨[[.str name]],[]⟩ (.bool (f.name==name)) ⟨[[.str name]],[]⟩:=by
 show aF Tryz.prog lM [.agg (cq f), .ptr 0 0] _ _ _
 refine aF.go yk rfl fun B Q hB hQ=>?_
 have⟨hD,hY,hZ,gA⟩:=bP
 repeat' (first
 |simp only[go_sem,hD,hY,hZ,gA]
 |(with_reducible refine aD hQ ?_;exact bb))
theorem Ez {p:Pg} (hs:p.procs.length<4611686018427387904) (name:aG) (s:St):aF Tryz.prog iz [.dv (fx p) 0, .str name] s (.int .i64 (p.at name)) s:=by
 refine aF.pure ?_ (by simp[D.bL,D.ok,uu]) rfl s
 have hi:=fun {s:St} {o:Nat} (ho:s.ah[o]? = some [.str name])=>Bu (vL (l:=p.procs) (f:=lM) (row:= [.str name]) (b:=fun f:Pc=>f.name==name) hs rfl (by with_unfolding_all rfl) (fun x _=>Zp name x)) rfl (wC _) rfl ho
 have gY:=fun {s:St} {o:Nat} (ho:s.ah[o]? = some [.str name])=>(show aF Tryz.prog gh [.slice .shared 5 (p.procs.map cq), .gd 76 [.ptr o 0]] s (.int .i64 (p.at name)) s from hi ho)
 unfold S0
 rw[nZ]
 refine aF.go Av rfl fun B Q hB hQ=>?_
 have⟨hD,hY,hZ,gA⟩:=bP
 repeat' (first
 |simp only[go_sem,hD,hY,hZ,gA]
 |(with_reducible refine CU (gY (by with_unfolding_all rfl)) ?_)
 |(with_reducible refine aD hQ ?_;exact bb))
theorem RA : ∀ (l:List Pc) (n:Nat) (h:Sh),(Sh.go n h l).L.length≤h.L.length+Pc.aY l
 | [],n,h=>by simp[Sh.go]
 |f::l,n,h=>by
  simp only[Sh.go]
  refine Nat.le_trans (RA l _ _) ?_
  have:=gD (n:Int) 0 (-1) 0 h.L f.body
  have:=nL f.body
  simp only[Pc.aY,Pc.size];omega
theorem pf (p:Pg):p.aX.L.length≤Pc.aY p.procs:=by have:=RA p.procs 0 ⟨[],[],[]⟩;simpa[Pg.aX]using this
theorem acW {p:Pg} {i:Nat} (hs:Pc.aY p.procs<1000000000) {a b e:List Im} (h1:p.aX.lo[i]? = some ((a.length:Int)+1)) (h2:p.aX.hi[i]? = some (((a++b).length:Int)+1)) (h4:p.aX.L=a++b++e) (s:St) :
 aF Tryz.prog gM [.dv (fx p) 0, .int .i64 (i:Int)] s (.slice .shared 17 (b.map dt)) s:=by
 refine aF.pure ?_ (by simp[D.bL,D.ok,uu]) (by simp[D.ok,Tag.ok,HW]) s
 have hL:p.aX.L.length<1000000000:=Nat.lt_of_le_of_lt (pf p) hs
 have l1:(i:Int)<(p.aX.lo.length:Int):=by have:=(List.getElem?_eq_some_iff.1 h1).1;omega
 have l2:(i:Int)<(p.aX.hi.length:Int):=by have:=(List.getElem?_eq_some_iff.1 h2).1;omega
 have XI:a.length+b.length≤p.aX.L.length:=by rw[h4];simp
 have w1:IntKind.wrap .i64 ((a.length:Int)+1 - 1)=(a.length:Int):=by rw[show(a.length:Int)+1 - 1=(a.length:Int) by omega];exact eg (by omega) (by omega)
 have w2:IntKind.wrap .i64 (((a.length+b.length:Nat):Int)+1 - 1)=((a.length+b.length:Nat):Int):=by rw[show((a.length+b.length:Nat):Int)+1 - 1=((a.length+b.length:Nat):Int) by omega];exact eg (by omega) (by omega)
 have c1:((a.length:Int)≤((a.length+b.length:Nat):Int))=True:=by simp only[eq_iff_iff,iff_true];omega
 have c2:(((a.length+b.length:Nat):Int)≤(p.aX.L.length:Int))=True:=by simp only[eq_iff_iff,iff_true];omega
 have hb:List.drop a.length (List.take (a.length+b.length) (List.map dt p.aX.L))=List.map dt b:=by rw[h4];simp[List.map_append,List.take_append,List.drop_append]
 unfold S0
 rw[nZ]
 refine aF.go Cz rfl fun B Q hB hQ=>?_
 have⟨hD,hY,hZ,gA⟩:=bP
 repeat' (first
 |simp only[go_sem,hD,hY,hZ,gA,h1,h2,List.length_append,w1,w2,c1,c2,or_true,true_and,and_self,ite_self,Int.toNat_natCast,hb]
 |(with_reducible first|refine bo fun hc=>?_|refine bp fun hc=>?_|refine bq (fun hc=>?_) fun hc=>?_)<;>(try simp only[hc,bs,↓reduceIte]at h)<;>try simp only[hc]
 |(with_reducible refine aD hQ ?_;(try cases h);simp only[aU,aV,bH,bI,go_sem,hD,hY,hZ,gA,h1,h2,List.length_append,w1,w2,c1,c2,or_true,true_and,and_self,ite_self,Int.toNat_natCast,hb];try exact cv)
 |(cases h;done))
theorem U2 {p:Pg} {i:Nat} {f:Pc} (hf:p.procs[i]? = some f) (hs:Pc.aY p.procs<1000000000) : ∃ it:List Im,it.map Im.s=Sm.dc f.body∧∀ s,aF Tryz.prog gM [.dv (fx p) 0, .int .i64 (i:Int)] s (.slice .shared 17 (it.map dt)) s:=by
 obtain⟨a,b,e,h1,h2,h3,h4⟩:=(kx p).2 i f hf
 exact⟨b,h3,acW hs h1 h2 h4⟩
theorem Gx {r:aG} : Ce r=true↔pe r=r.length:=by
 induction r with
 |nil=>simp[Ce,pe]
 |cons c r ih=>
  simp only[Ce,pe]
  cases h1:Bs c<;>cases h2:Ev c<;>simp[ih]
theorem Bv (t:aG) (hl:t.length<4611686018427387904) (s:St):aF Tryz.prog nW [.str t] s (.bool (isName t)) s:=by
 refine aF.pure ?_ rfl rfl s
 have hr:=fun s=>agU (pos:=0) hl s
 simp only[List.drop_zero,Nat.zero_add]at hr
 unfold S0
 cases t with
 |nil=>
  have z:decide (((0:Nat):Int)<1)=true:=rfl
  have z':decide ((0:Int)<1)=true:=rfl
  have e:isName [] = false:=rfl
  rw[e]
  refine aF.go nr rfl fun B Q hB hQ=>?_
  have⟨hD,hY,hZ,gA⟩:=bP
  repeat' (first
 |simp only[go_sem,hD,hY,hZ,gA,z,z']
 |(with_reducible refine aD hQ ?_;exact bb))
 | cons c r=>
  have l1:decide (((r.length+1:Nat):Int)<1)=false:=by simp;omega
  generalize h:isName (c::r)=p
  simp only[isName]at h
  cases hL:Bs c
  ·simp only [hL,Bool.not_false,Bool.or_true, ↓reduceIte]at h
   subst h
   by_cases c8:decide (((r.length+1:Nat):Int) > 8)=true
   ·refine aF.go nr rfl fun B Q hB hQ=> ?_
    have⟨hD,hY,hZ,gA⟩:=bP
    repeat' (first
 |simp only[go_sem,hD,hY,hZ,gA,l1,c8]
 | (with_reducible refine aD hQ ?_;exact bb))
   ·have c8:decide (((r.length+1:Nat):Int) > 8)=false:=by simpa using c8
    refine aF.go nr rfl fun B Q hB hQ=>?_
    have⟨hD,hY,hZ,gA⟩:=bP
    repeat' (first
 |simp only[go_sem,hD,hY,hZ,gA,l1,c8,hL]
 |(with_reducible refine CU (su _ _) ?_)
 | (with_reducible refine aD hQ ?_;exact bb))
  ·simp only [hL,Bool.not_true,Bool.or_false]at h
   by_cases c8:decide (((r.length+1:Nat):Int) > 8)=true
   ·simp only [c8, ↓reduceIte]at h
    subst h
    refine aF.go nr rfl fun B Q hB hQ=>?_
    have⟨hD,hY,hZ,gA⟩:=bP
    repeat' (first
 |simp only[go_sem,hD,hY,hZ,gA,l1,c8]
 | (with_reducible refine aD hQ ?_;exact bb))
   ·have c8:decide (((r.length+1:Nat):Int) > 8)=false:=by simpa using c8
    simp only[c8,Bool.false_eq_true,↓reduceIte]at h
    have dE:pe (c::r)=pe r+1:=by simp[pe,hL]
    cases hn:Ce r
    ·simp only [hn,Bool.false_eq_true, ↓reduceIte]at h
     have:pe r≠r.length:=fun e=>by rw[Gx.2 e]at hn;cases hn
     have e:(((pe (c::r):Nat):Int)==((r.length+1:Nat):Int))=false:=by rw[dE];simp;omega
     subst h
     refine aF.go nr rfl fun B Q hB hQ=>?_
     have⟨hD,hY,hZ,gA⟩:=bP
     repeat' (first
 |simp only[go_sem,hD,hY,hZ,gA,l1,c8,hL,e]
 |(with_reducible refine CU (su _ _) ?_)
 |(with_reducible refine CU (hr _) ?_)
 | (with_reducible refine aD hQ ?_;exact bb))
    ·simp only [hn, ↓reduceIte]at h
     have:=Gx.1 hn
     have e:(((pe (c::r):Nat):Int)==((r.length+1:Nat):Int))=true:=by rw[dE];simp;omega
     subst h
     refine aF.go nr rfl fun B Q hB hQ=>?_
     have⟨hD,hY,hZ,gA⟩:=bP
     repeat' (first
 |simp only[go_sem,hD,hY,hZ,gA,l1,c8,hL,e]
 |(with_reducible refine CU (su _ _) ?_)
 |(with_reducible refine CU (hr _) ?_)
 |(with_reducible refine CU (acP _ _) ?_)
 |(with_reducible refine aD hQ ?_;exact bb))
theorem LQ (op:Int) (s:St):aF Tryz.prog xw [.int .i64 op] s (.int .i64 (oj op)) s:=by
 refine aF.pure ?_ rfl rfl s
 unfold S0
 generalize h:oj op=p
 unfold oj at h
 refine aF.go HC rfl fun B Q hB hQ=>?_
 have⟨hD,hY,hZ,gA⟩:=bP
 repeat' (first
 |simp only[go_sem,hD,hY,hZ,gA]
 |(with_reducible first|refine bo fun hc=>?_|refine bp fun hc=>?_|refine bq (fun hc=>?_) fun hc=>?_)<;>(try simp only[hc,bs,↓reduceIte]at h)<;>try simp only[hc]
 |(with_reducible refine aD hQ ?_;exact ga))
theorem zr {l:List aG} (hl:l.length<4611686018427387904) (hs : ∀ t∈l,t.length<4611686018427387904) (s:St):aF Tryz.prog nn [.slice .shared 1 (l.map encStr)] s (.bool (fc l)) s:=by
 refine aF.pure ?_ (by simp[D.bL,D.ok,fb,Tag.ok]) rfl s
 unfold S0
 generalize h:fc l=p
 refine aF.go FD rfl fun B Q hB hQ=>?_
 have⟨hD,hY,hZ,gA⟩:=bP
 repeat' (first
 |simp only[go_sem,hD,hY,hZ,gA]
 |(with_reducible first|refine bo fun hc=>?_|refine bp fun hc=>?_|refine bq (fun hc=>?_) fun hc=>?_)<;>(try simp only[hc,bs,↓reduceIte]at h)<;>try simp only[hc]
 |(with_reducible refine aD hQ ?_;exact ga))
 refine fa 0 0 (bl.ind (ι:=List aG×Nat) (fun i=>l.drop i.2=i.1∧fc i.1=p) (fun i=>i.1.length)
  (fun i=> [(5, .slice .shared 1 (l.map encStr)),(6, .int .i64 (l.length:Int)),(7, .int .i64 (i.2:Int))]) (fun i=>⟨[],[]⟩) ?_ (l,0) ⟨rfl,h⟩)
 rintro⟨rest,k⟩ ⟨h1,h⟩ IH
 dsimp only at h1 h
 cases rest with
 |nil=>
  have hD:=drop_nil h1
  simp only[fc]at h
  repeat' (first
 |simp only[go_sem,hD,hY,hZ,gA]
 |(with_reducible first|refine bo fun hc=>?_|refine bp fun hc=>?_|refine bq (fun hc=>?_) fun hc=>?_)<;>(try simp only[hc,bs,↓reduceIte]at h)<;>try simp only[hc]
 |(with_reducible refine aD hQ ?_;exact ga))
 |cons t rest=>
  obtain⟨hY,g2,hD,g4⟩:=drop_cons h1
  have hZ:k<4611686018427387904:=by omega
  have hn:=Bv t (hs t (List.mem_of_getElem? hY))
  simp only[fc]at h
  repeat' (first
 |simp only[go_sem,hD,hY,hZ,gA]
 |(with_reducible refine CU (hn _) ?_)
 |(with_reducible first|refine bo fun hc=>?_|refine bp fun hc=>?_|refine bq (fun hc=>?_) fun hc=>?_)<;>(try simp only[hc,bs,↓reduceIte]at h)<;>try simp only[hc]
 |(with_reducible refine aD hQ ?_;exact ga))
  refine fa 0 0 (IH (rest,k+1) ⟨g2,h⟩ (Nat.lt_succ_self _))
mutual
def Ex.dp (left:Int):Ex→Bool
 |⟨op,n,name,kids⟩=>
  if decide (left<1) ||(kids.length:Int) != oj op then false
  else if op==1 then decide (n≥0) && name == []
  else if op==2 then n==0 && isName name
  else if n != 0 || !(name == [])then false
  else Ex.Bw (left - 1) kids
def Ex.Bw (left:Int):List Ex→Bool
 | []=>true
 |x::l=>if !(Ex.dp left x)then false else Ex.Bw left l
end
theorem Zq : ∀ (m:Nat) (x:Ex),x.size≤m→x.size<4611686018427387904→x.texts→∀ left:Int,0≤left→left≤100→∀ s:St,aF Tryz.prog qc [.agg (cj x), .int .i64 left] s (.bool (x.dp left)) s:=by
 intro m
 induction m with
 |zero=>rintro⟨op,v,name,kids⟩ h;simp only[Ex.size]at h;omega
 | succ m ih=>
  rintro⟨op,v,name,kids⟩ h hx ht left h0 U3 s
  refine aF.pure ?_ (by simp[D.bL,D.ok,lR]) rfl s
  have hlen:kids.length<4611686018427387904:=by simp only[Ex.size]at hx;have:=Ex.eB kids;omega
  have hn:=Bv name ht.1
  generalize hp:Ex.dp left ⟨op,v,name,kids⟩=p
  simp only[Ex.dp]at hp
  unfold S0
  by_cases uK:left<1
  ·have d1:decide (left<1)=true:=by simpa using uK
   simp only[d1,Bool.true_or,↓reduceIte]at hp
   subst hp
   refine aF.go Aj rfl fun B Q hB hQ=>?_
   have⟨hD,hY,hZ,gA⟩:=bP
   repeat' (first
 |simp only[go_sem,hD,hY,hZ,gA,d1]
 |(with_reducible refine CU (LQ _ _) ?_)
 |(with_reducible refine CU (hn _) ?_)
 | (with_reducible refine aD hQ ?_;exact bb))
  ·have d1:decide (left<1)=false:=by simpa using uK
   have w1:IntKind.wrap .i64 (left - 1)=left - 1:=eg (by omega) (by omega)
   have hk : ∀ y∈kids,∀ s,aF Tryz.prog qc [.agg (cj y), .int .i64 (left - 1)] s (.bool (y.dp (left - 1))) s:=fun y hy s=>
    ih y (by simp only[Ex.size]at h;have:=Ex.dd hy;omega) (by simp only[Ex.size]at hx;have:=Ex.dd hy;omega) (Ex.Rs ht hy) (left - 1) (by omega) (by omega) s
   simp only[d1,Bool.false_or]at hp
   have h:=hp
   clear hp
   refine aF.go Aj rfl fun B Q hB hQ=>?_
   have⟨hD,hY,hZ,gA⟩:=bP
   repeat' (first
 |simp only[go_sem,hD,hY,hZ,gA,d1]
 |(with_reducible refine CU (LQ _ _) ?_)
 |(with_reducible refine CU (hn _) ?_)
 |(with_reducible first|refine bo fun hc=>?_|refine bp fun hc=>?_|refine bq (fun hc=>?_) fun hc=>?_)<;>(try simp only[hc,bs,↓reduceIte]at h)<;>try simp only[hc]
 | (with_reducible refine aD hQ ?_;(try cases h);simp only [aU,aV,bH,bI,go_sem,hD,hY,hZ,gA,d1];repeat' (first | exact Ok.out | with_reducible refine iZ ?_ ?_ | (simp;done))))
   all_goals
    refine fa 1 0 (bl.ind (ι:=List Ex×Nat) (fun i=>kids.drop i.2=i.1∧Ex.Bw (left - 1) i.1=p) (fun i=>i.1.length)
     (fun i=> [(1, .int .i64 left),(49, .slice .shared 4 (kids.map cj)),(50, .int .i64 (kids.length:Int)),(51, .int .i64 (i.2:Int))]) (fun i=>⟨[cj ⟨op,v,name,kids⟩],[]⟩) ?_ (kids,0) ⟨rfl,h⟩)
    rintro⟨rest,k⟩ ⟨h1,h⟩ IH
    dsimp only at h1 h
    cases rest with
    |nil=>
     have hD:=drop_nil h1
     simp only[Ex.Bw]at h
     repeat' (first
 |simp only[go_sem,hD,hY,hZ,gA]
 |(with_reducible first|refine bo fun hc=>?_|refine bp fun hc=>?_|refine bq (fun hc=>?_) fun hc=>?_)<;>(try simp only[hc,bs,↓reduceIte]at h)<;>try simp only[hc]
 |(with_reducible refine aD hQ ?_;exact ga)
 | (cases h;done))
    |cons y rest=>
     obtain⟨hY,g2,hD,g4⟩:=drop_cons h1
     have hy:=hk y (List.mem_of_getElem? hY)
     have hZ:k<4611686018427387904:=by omega
     simp only[Ex.Bw]at h
     repeat' (first
 |simp only[go_sem,hD,hY,hZ,gA,w1]
 |(with_reducible refine CU (hy _) ?_)
 |(with_reducible first|refine bo fun hc=>?_|refine bp fun hc=>?_|refine bq (fun hc=>?_) fun hc=>?_)<;>(try simp only[hc,bs,↓reduceIte]at h)<;>try simp only[hc]
 |(with_reducible refine aD hQ ?_;(try cases h);simp only[aU,aV,bH,bI,go_sem,hD,hY,hZ,gA,w1];try exact cv))
     refine fa 1 0 (IH (rest,k+1) ⟨g2,h⟩ (Nat.lt_succ_self _))
theorem zt {x:Ex} (hx:x.size<4611686018427387904) (ht:x.texts) (s:St):aF Tryz.prog nj [.agg (cj x)] s (.bool (x.dp 20)) s:=by
 refine aF.pure ?_ (by simp[D.bL,D.ok,lR]) rfl s
 have hd:=fun s=>Zq _ x (Nat.le_refl _) hx ht 20 (by omega) (by omega) s
 unfold S0
 refine aF.go Dx rfl fun B Q hB hQ=>?_
 have⟨hD,hY,hZ,gA⟩:=bP
 repeat' (first
 |simp only[go_sem,hD,hY,hZ,gA]
 |(with_reducible refine CU (hd _) ?_)
 |(with_reducible refine aD hQ ?_;exact bb))
theorem Zr (x:Ex) (s:St):aF Tryz.prog xA [.agg (cj x)] s (.bool x.none) s:=by
 refine aF.pure ?_ (by simp[D.bL,D.ok,lR]) rfl s
 unfold S0
 generalize h:Ex.none x=p
 unfold Ex.none at h
 refine aF.go HE rfl fun B Q hB hQ=>?_
 have⟨hD,hY,hZ,gA⟩:=bP
 repeat' (first
 |simp only[go_sem,hD,hY,hZ,gA]
 |(with_reducible first|refine bo fun hc=>?_|refine bp fun hc=>?_|refine bq (fun hc=>?_) fun hc=>?_)<;>(try simp only[hc,bs,↓reduceIte]at h)<;>try simp only[hc]
 |(with_reducible refine aD hQ ?_;exact ga))
def tz (t:aG) (is:Bool):Bool:=(is && isName t) ||(!is && t == [])
theorem DA (t:aG) (is:Bool) (hl:t.length<4611686018427387904) (s:St):aF Tryz.prog o8 [.str t, .bool is] s (.bool (tz t is)) s:=by
 refine aF.pure ?_ rfl rfl s
 have hn:=Bv t hl
 unfold S0
 generalize h:tz t is=p
 unfold tz at h
 refine aF.go FJ rfl fun B Q hB hQ=>?_
 have⟨hD,hY,hZ,gA⟩:=bP
 repeat' (first
 |simp only[go_sem,hD,hY,hZ,gA]
 |(with_reducible refine CU (hn _) ?_)
 |(with_reducible first|refine bo fun hc=>?_|refine bp fun hc=>?_|refine bq (fun hc=>?_) fun hc=>?_)<;>(try simp only[hc,bs,↓reduceIte]at h)<;>try simp only[hc]
 |(with_reducible refine aD hQ ?_;exact ga))
def vM (x:Ex) (is:Bool):Bool:=(is && x.dp 20) ||(!is && x.none)
theorem LR {x:Ex} (is:Bool) (hx:x.size<4611686018427387904) (ht:x.texts) (s:St):aF Tryz.prog rG [.agg (cj x), .bool is] s (.bool (vM x is)) s:=by
 refine aF.pure ?_ (by simp[D.bL,D.ok,lR]) rfl s
 have hm:=zt hx ht
 unfold S0
 generalize h:vM x is=p
 unfold vM at h
 refine aF.go FK rfl fun B Q hB hQ=>?_
 have⟨hD,hY,hZ,gA⟩:=bP
 repeat' (first
 |simp only[go_sem,hD,hY,hZ,gA]
 |(with_reducible refine CU (hm _) ?_)
 |(with_reducible refine CU (Zr _ _) ?_)
 |(with_reducible first|refine bo fun hc=>?_|refine bp fun hc=>?_|refine bq (fun hc=>?_) fun hc=>?_)<;>(try simp only[hc,bs,↓reduceIte]at h)<;>try simp only[hc]
 |(with_reducible refine aD hQ ?_;exact ga))
def pE:List Ar→Bool
 | []=>true
 |a::l=>if !(tz a.name a.ref) || !(vM a.x !a.ref)then false else pE l
theorem U4 {l:List Ar} (hl:l.length<4611686018427387904) (hs : ∀ a∈l,a.x.size<4611686018427387904∧a.x.texts∧a.name.length<4611686018427387904) (s:St) :
 aF Tryz.prog uh [.slice .shared 6 (l.map ew)] s (.bool (pE l)) s:=by
 refine aF.pure ?_ (by simp[D.bL,D.ok,HU,Tag.ok]) rfl s
 unfold S0
 generalize h:pE l=p
 refine aF.go Eu rfl fun B Q hB hQ=>?_
 have⟨hD,hY,hZ,gA⟩:=bP
 repeat' (first
 |simp only[go_sem,hD,hY,hZ,gA]
 |(with_reducible first|refine bo fun hc=>?_|refine bp fun hc=>?_|refine bq (fun hc=>?_) fun hc=>?_)<;>(try simp only[hc,bs,↓reduceIte]at h)<;>try simp only[hc]
 |(with_reducible refine aD hQ ?_;exact ga))
 refine fa 0 0 (bl.ind (ι:=List Ar×Nat) (fun i=>l.drop i.2=i.1∧pE i.1=p) (fun i=>i.1.length)
  (fun i=> [(5, .slice .shared 6 (l.map ew)),(6, .int .i64 (l.length:Int)),(7, .int .i64 (i.2:Int))]) (fun i=>⟨[],[]⟩) ?_ (l,0) ⟨rfl,h⟩)
 rintro⟨rest,k⟩ ⟨h1,h⟩ IH
 dsimp only at h1 h
 cases rest with
 |nil=>
  have hD:=drop_nil h1
  simp only[pE]at h
  repeat' (first
 |simp only[go_sem,hD,hY,hZ,gA]
 |(with_reducible first|refine bo fun hc=>?_|refine bp fun hc=>?_|refine bq (fun hc=>?_) fun hc=>?_)<;>(try simp only[hc,bs,↓reduceIte]at h)<;>try simp only[hc]
 |(with_reducible refine aD hQ ?_;exact ga))
 |cons a rest=>
  obtain⟨hY,g2,hD,g4⟩:=drop_cons h1
  have hZ:k<4611686018427387904:=by omega
  obtain⟨a1,a2,a3⟩:=hs a (List.mem_of_getElem? hY)
  have hn:=fun b s=>DA a.name b a3 s
  have hw:=fun b s=>LR b a1 a2 s
  simp only[pE]at h
  repeat' (first
 |simp only[go_sem,hD,hY,hZ,gA]
 |(with_reducible refine CU (hn _ _) ?_)
 |(with_reducible refine CU (hw _ _) ?_)
 |(with_reducible first|refine bo fun hc=>?_|refine bp fun hc=>?_|refine bq (fun hc=>?_) fun hc=>?_)<;>(try simp only[hc,bs,↓reduceIte]at h)<;>try simp only[hc]
 |(with_reducible refine aD hQ ?_;exact ga))
  refine fa 0 0 (IH (rest,k+1) ⟨g2,h⟩ (Nat.lt_succ_self _))
def Sm.flags (s:Sm):Option (Bool×Bool×Bool×Bool×Bool×Bool):=
 if s.kind==1 then some (true,false,true,s.has,false,false)
 else if s.kind==2 ||s.kind==10 then some (true,false,false,s.has,false,false)
 else if s.kind==3 then some (false,false,true,s.has,false,false)
 else if s.kind==4 then some (!(s.name == []),true,false,s.has,false,false)
 else if s.kind==5 then some (false,false,true,s.has,true,true)
 else if s.kind==6 then some (false,false,true,s.has,true,false)
 else if s.kind==9 then some (false,false,s.has,false,false,false)
 else if s.kind==7 ||s.kind==8 then some (false,false,false,s.has,false,false)
 else none
def Sm.HX (s:Sm) (nm pr x:Bool):Bool:=if !(tz s.name nm) || !(tz s.proc pr) || !(vM s.x x)then false else pE s.args
def Sm.HY (s:Sm) (f:Bool×Bool×Bool×Bool×Bool×Bool):Bool:=
 if f.2.2.2.1 ||(!f.2.2.2.2.1 && decide ((s.aZ.length:Int) > 0)) ||(!f.2.2.2.2.2 && decide ((s.aR.length:Int) > 0)) ||(!(s.kind==4) && decide ((s.args.length:Int) > 0))then false
 else s.HX f.1 f.2.1 f.2.2.1
def Sm.fields (s:Sm):Bool:=match s.flags with
 |none=>false
 |some f=>s.HY f
section
variable {v:Sm} {B:fU} {Q:Exit→Tm→St→Prop} {p:Bool}
theorem U5 {nm pr x:Bool} (hf:v.ur) (hB:B.s = ⟨[],[]⟩) (hQ:pS 0 0 [(2,none)] (.bool p) ⟨[],[]⟩=Q) (h:v.HX nm pr x=p) :
 Sem Tryz.prog B 93 acJ Q [(1, .ptr 0 0),(3, .bool nm),(4, .bool pr),(5, .bool x)] ⟨[bd v],[]⟩:=by
 have h1:=fun b s=>DA v.name b hf.name s
 have h2:=fun b s=>DA v.proc b hf.proc s
 have h3:=fun b s=>LR b hf.x hf.xt s
 have h4:=fun s=>U4 hf.anA hf.arg s
 unfold Sm.HX at h
 have⟨hD,hY,hZ,gA⟩:=bP
 refine iF ?_
 repeat' (first
 |simp only[go_sem,hD,hY,hZ,gA]
 |(with_reducible refine CU (h1 _ _) ?_)
 |(with_reducible refine CU (h2 _ _) ?_)
 |(with_reducible refine CU (h3 _ _) ?_)
 |(with_reducible refine CU (h4 _) ?_)
 |(with_reducible first|refine bo fun hc=>?_|refine bp fun hc=>?_|refine bq (fun hc=>?_) fun hc=>?_)<;>(try simp only[hc,bs,↓reduceIte]at h)<;>try simp only[hc]
 |(with_reducible refine aD hQ ?_;exact ga))
theorem U6 {nm pr x has th ot ar:Bool} (hf:v.ur) (hB:B.s = ⟨[],[]⟩) (hQ:pS 0 0 [(2,none)] (.bool p) ⟨[],[]⟩=Q) (e:(v.kind==4)=ar) (h:v.HY (nm,pr,x,has,th,ot)=p) :
 Sem Tryz.prog B 93 acK Q [(1, .ptr 0 0),(3, .bool nm),(4, .bool pr),(5, .bool x),(6, .bool has),(7, .bool th),(8, .bool ot),(9, .bool ar)] ⟨[bd v],[]⟩:=by
 simp only[Sm.HY,e]at h
 have⟨hD,hY,hZ,gA⟩:=bP
 refine Sem.ni ?_
 repeat' (first
 |simp only[go_sem,hD,hY,hZ,gA]
 |(with_reducible first|refine bo fun hc=>?_|refine bp fun hc=>?_|refine bq (fun hc=>?_) fun hc=>?_)<;>(try simp only[hc,bs,↓reduceIte]at h)<;>try simp only[hc]
 |(with_reducible refine aD hQ ?_;(try cases h);simp only[aU,aV,bH,bI,go_sem,hD,hY,hZ,gA];repeat' (first|exact Ok.out|with_reducible refine iZ ?_ ?_|(simp;done))))
 all_goals
  refine Sem.re _ _ 1 0 (by rw[hB];exact CY rfl) (by rw[hB];exact CY rfl) ?_ ?_ (U5 hf hB hQ h)
  ·(simp only[go_sem,hD,hY,hZ,gA];repeat' (first|exact Ok.out|with_reducible refine iZ ?_ ?_))
  ·(simp only[go_sem,hD,hY,hZ,gA];repeat' (first|exact Ok.out|with_reducible refine iZ ?_ ?_))
theorem U7 {ar:Bool} (hf:v.ur) (hB:B.s = ⟨[],[]⟩) (hQ:pS 0 0 [(2,none)] (.bool p) ⟨[],[]⟩=Q) (e:(v.kind==4)=ar) (h:v.fields=p) :
 Sem Tryz.prog B 93 UX Q [(1, .ptr 0 0),(3, .bool false),(4, .bool false),(5, .bool false),(6, .bool v.has),(7, .bool false),(8, .bool false),(9, .bool ar)] ⟨[bd v],[]⟩:=by
 simp only[Sm.fields,Sm.flags]at h
 have⟨hD,hY,hZ,gA⟩:=bP
 refine Sem.ni ?_
 repeat' (first
 |simp only[go_sem,hD,hY,hZ,gA]
 |(with_reducible first|refine bo fun hc=>?_|refine bp fun hc=>?_|refine bq (fun hc=>?_) fun hc=>?_)<;>(try simp only[hc,bs,↓reduceIte]at h)<;>try simp only[hc]
 |(with_reducible refine aD hQ ?_;(try cases h);simp only[aU,aV,bH,bI,go_sem,hD,hY,hZ,gA];repeat' (first|exact Ok.out|with_reducible refine iZ ?_ ?_|(simp;done))))
 all_goals
  refine Sem.re _ _ 1 0 (by rw[hB];exact CY rfl) (by rw[hB];exact CY rfl) ?_ ?_ (U6 hf hB hQ e h)
  ·(simp only[go_sem,hD,hY,hZ,gA];repeat' (first|exact Ok.out|with_reducible refine iZ ?_ ?_))
  ·(simp only[go_sem,hD,hY,hZ,gA];repeat' (first|exact Ok.out|with_reducible refine iZ ?_ ?_))
end
theorem U8 {v:Sm} (hf:v.ur) (s:St):aF Tryz.prog ug [.agg (bd v)] s (.bool v.fields) s:=by
 refine aF.pure ?_ (by simp[D.bL,D.ok,qD]) rfl s
 unfold S0
 refine aF.goS Er rfl fun B Q hB hQ=>?_
 have⟨hD,hY,hZ,gA⟩:=bP
 refine Sem.seq (b:=acM) (iF ?_)
 repeat' (first
 |simp only[go_sem,hD,hY,hZ,gA]
 |(with_reducible refine aD hQ ?_;exact bb))
 refine Sem.seq (b:=acL) (iF ?_)
 repeat' (first
 |simp only[go_sem,hD,hY,hZ,gA]
 |(with_reducible refine aD hQ ?_;exact bb))
 refine Sem.seq (b:=UX) (iF ?_)
 repeat' (first
 |simp only[go_sem,hD,hY,hZ,gA]
 |(with_reducible refine aD hQ ?_;exact bb))
 refine Sem.re _ _ 1 0 (by rw[hB];exact CY rfl) (by rw[hB];exact CY rfl) ?_ ?_ (U7 hf hB hQ rfl rfl)
 ·(simp only[go_sem,hD,hY,hZ,gA];repeat' (first|exact Ok.out|with_reducible refine iZ ?_ ?_))
 ·(simp only[go_sem,hD,hY,hZ,gA];repeat' (first|exact Ok.out|with_reducible refine iZ ?_ ?_))
end Go.Abs
namespace Go.Abs
set_option maxRecDepth 8000
open Go.Proofs
def fA (i:It):List D:= [.int .i64 i.s.id, .int .i64 i.s.kind, .slice .shared 1 (i.s.labels.map encStr), .str i.s.name, .str i.s.proc,
 .int .i64 i.s.x.op, .int .i64 i.s.x.n, .str i.s.x.name, .slice .shared 4 (i.s.x.kids.map cj), .bool i.s.has, .slice .shared 6 (i.s.args.map ew), .slice .shared 13 (i.s.aZ.map bd), .slice .shared 13 (i.s.aR.map bd), .int .i64 i.deep, .int .i64 i.cf, .bool i.aR]
theorem O0 (i:It):D.bL 0 0 (fA i)=true:=by simp[fA,D.bL,D.ok,Tag.ok,fb,WL,HU,pC]
theorem EB (l:List It):D.gS 0 0 (l.map fA)=true:=gT O0 l
theorem ag2 (n m:Nat) (l:List It):D.kz n m (l.map fA)=l.map fA:=lV O0 n m l
theorem ag3 (n m:Nat) (i:It):D.gu n m (fA i)=fA i:=ib n m _ (O0 i)
theorem ag4 (x:It):(fA x).length=16:=nd rfl
theorem JA (x:It):List.take 13 (fA x)=bd x.s:=by simp only[fA,ej];rfl
theorem U9 (x:It):(fA x)[0]? = some (.int .i64 x.s.id):=nd rfl
theorem RB (x:It):(fA x)[13]? = some (.int .i64 x.deep):=nd rfl
theorem FN (s:Sm) (d n:Int) (e:Bool):fA ⟨s,d,n,e⟩ = [.int .i64 s.id, .int .i64 s.kind, .slice .shared 1 (s.labels.map encStr), .str s.name, .str s.proc,
 .int .i64 s.x.op, .int .i64 s.x.n, .str s.x.name, .slice .shared 4 (s.x.kids.map cj), .bool s.has, .slice .shared 6 (s.args.map ew), .slice .shared 13 (s.aZ.map bd), .slice .shared 13 (s.aR.map bd), .int .i64 d, .int .i64 n, .bool e]:=nd rfl
attribute [go_sem] ag2 ag3 ag4 JA U9 RB
theorem JB (deep cf:Int) (aR:Bool) (out:List It) (s:Sm) :
 iR deep cf aR out s=if decide (deep≤12)then dQ (deep+1) s.id true (dQ (deep+1) s.id false (out++ [⟨s,deep,cf,aR⟩]) s.aZ) s.aR else out++ [⟨s,deep,cf,aR⟩]:=by
 cases s;simp only[iR]
mutual
theorem RC (deep cf:Int) (aR:Bool) (out:List It) (h:out.length≤200) : ∀ s:Sm,(iR deep cf aR out s).length≤201
 |⟨id,kind,labels,name,proc,x,has,args,aZ,e⟩=>by
  simp only[iR]
  have h1:(out++ [(⟨⟨id,kind,labels,name,proc,x,has,args,aZ,e⟩,deep,cf,aR⟩:It)]).length≤201:=by simp;omega
  split
  ·exact lj _ _ _ _ (lj _ _ _ _ h1 aZ) e
  ·exact h1
theorem lj (deep cf:Int) (aR:Bool) (out:List It) (h:out.length≤201) : ∀ l:List Sm,(dQ deep cf aR out l).length≤201
 | []=>by simpa only[dQ]using h
 | s::l=>by
  simp only[dQ]
  split
  ·rename_i hc
   simp only[decide_eq_true_eq]at hc
   exact lj deep cf aR _ (RC _ _ _ _ (by omega) s) l
  ·exact h
end
abbrev RE (N:Nat):Prop:=∀ (l:List Sm) (deep cf:Int) (aR:Bool) (out:List It),Sm.aY l<N→0≤deep→deep≤13→out.length≤201→∀ {s:St} {t:Nat},s.aw[t]? = some (some out.length)→
 aF Tryz.prog mE [.slice .shared 13 (l.map bd), .int .i64 deep, .int .i64 cf, .bool aR, .slice (.tok t) 16 (out.map fA)] s (.slice (.tok t) 16 ((dQ deep cf aR out l).map fA)) ⟨s.ah,s.aw.set t (some (dQ deep cf aR out l).length)⟩
theorem acY {N:Nat} (hN:N<4611686018427387904) (ih:RE N) {l:List Sm} {deep cf:Int} {aR:Bool} {out:List It} (hs:Sm.aY l<N+1) (Gy:0≤deep) (hd:deep≤13) (ho:out.length≤201) :
 aF Tryz.prog mE [.slice .shared 13 (l.map bd), .int .i64 deep, .int .i64 cf, .bool aR, .slice (.tok 0) 16 (out.map fA)] ⟨[],[some out.length]⟩ (.slice (.tok 0) 16 ((dQ deep cf aR out l).map fA)) ⟨[],[some (dQ deep cf aR out l).length]⟩:=by
 generalize hR:dQ deep cf aR out l=R
 refine aF.go Al rfl fun B Q hB hQ=>?_
 have⟨hD,hY,hZ,gA⟩:=bP
 repeat' (first
 |simp only[go_sem,hD,hY,hZ,gA]
 |(with_reducible refine aD hQ ?_;exact bb))
 refine fa 0 1 (bl.ind (ι:=List Sm×Nat×List It×Nat) (fun i=>l.drop i.2.1=i.1∧dQ deep cf aR i.2.2.1 i.1=R∧i.2.2.1.length≤201∧i.2.2.2=i.2.2.1.length) (fun i=>i.1.length)
  (fun i=> [(0, .slice .shared 13 (l.map bd)),(1, .int .i64 deep),(2, .int .i64 cf),(3, .bool aR),(4, .slice (.tok 0) 16 (i.2.2.1.map fA)),(11, .int .i64 (i.2.1:Int))]) (fun i=>⟨[],[some i.2.2.2]⟩) ?_ (l,0,out,out.length) ⟨rfl,hR,ho,rfl⟩)
 rintro⟨rest,k,out,n⟩ ⟨h1,h2,h3,h4⟩ IH
 dsimp only at h1 h2 h3 h4
 subst h4
 have hlen:l.length<4611686018427387904:=by have:=Sm.eB l;omega
 cases rest with
 |nil=>
  have hD:=drop_nil h1
  simp only[dQ]at h2
  subst h2
  repeat' (first
 |simp only[go_sem,hD,hY,hZ,gA]
 |(with_reducible refine aD hQ ?_;exact bb))
 | cons v rest=>
  obtain⟨hY,g2,hD,g4⟩:=drop_cons h1
  have bO:k<4611686018427387904:=by omega
  have hv:=Sm.dd (List.mem_of_getElem? hY)
  have oY:Sm.aY v.aZ<N∧Sm.aY v.aR<N:=by
   obtain⟨_,_,_,_,_,_,_,_,_,_⟩:=v
   simp only[Sm.size]at hv ⊢;omega
  simp only[dQ]at h2
  by_cases hc:out.length≤200
  ·have c1:decide ((out.length:Int)≤200)=true:=by simp;omega
   simp only[c1,↓reduceIte,JB]at h2
   have hZ:(out.length+1)*233≤bA:=by unfold bA;omega
   have iL:(out++ [(⟨v,deep,cf,aR⟩:It)]).length≤201:=by simp;omega
   have hw:IntKind.wrap .i64 (deep+1)=deep+1:=eg (by omega) (by omega)
   by_cases anD:deep≤12
   ·have c2:decide (deep≤12)=true:=by simp;omega
    simp only[c2,↓reduceIte]at h2
    have f1:=fun {s:St} {t:Nat} (ht:s.aw[t]? = some (some (out++ [(⟨v,deep,cf,aR⟩:It)]).length))=>ih v.aZ (deep+1) v.id false _ oY.1 (by omega) (by omega) iL ht
    have f2:=fun {s:St} {t:Nat} (ht:s.aw[t]? = some (some (dQ (deep+1) v.id false (out++ [(⟨v,deep,cf,aR⟩:It)]) v.aZ).length))=>ih v.aR (deep+1) v.id true _ oY.2 (by omega) (by omega) (lj _ _ _ _ iL _) ht
    simp only[List.map_append,List.map_cons,List.map_nil,FN,List.length_append,List.length_cons,List.length_nil]at f1
    repeat' (first
 |simp only[go_sem,hD,hY,hZ,gA,c1,c2,hw,ej]
 |(with_reducible refine CU (f1 (by with_unfolding_all rfl)) ?_)
 |(with_reducible refine CU (f2 (by with_unfolding_all rfl)) ?_)
 | (with_reducible refine aD hQ ?_;exact bb))
    refine eO 0 1 ?_ ?_ (IH (rest,k+1,_,_) ⟨g2,h2,lj _ _ _ _ (lj _ _ _ _ iL _) _,rfl⟩ (Nat.lt_succ_self _))
    ·(simp only[go_sem,hD,hY,hZ,gA,aI bO];try exact bW)
    ·(simp only[go_sem,hD,hY,hZ,gA,aI bO];try exact bW)
   ·have c2:decide (deep≤12)=false:=by simp;omega
    simp only[c2,Bool.false_eq_true,↓reduceIte]at h2
    repeat' (first
 |simp only[go_sem,hD,hY,hZ,gA,c1,c2,ej]
 | (with_reducible refine aD hQ ?_;exact bb))
    refine eO 0 1 ?_ ?_ (IH (rest,k+1,out++ [⟨v,deep,cf,aR⟩],out.length+1) ⟨g2,h2,iL,by simp⟩ (Nat.lt_succ_self _))
    ·(simp only[go_sem,hD,hY,hZ,gA,aI bO,FN,List.map_append,List.map_cons,List.map_nil];try exact bW)
    ·(simp only[go_sem,hD,hY,hZ,gA,aI bO,FN,List.map_append,List.map_cons,List.map_nil];try exact bW)
  ·have c1:decide ((out.length:Int)≤200)=false:=by simp;omega
   simp only[c1,Bool.false_eq_true,↓reduceIte]at h2
   subst h2
   repeat' (first
 |simp only[go_sem,hD,hY,hZ,gA,c1]
 |(with_reducible refine aD hQ ?_;exact bb))
theorem Va : ∀ N,N<4611686018427387904→RE N:=by
 intro N
 induction N with
 |zero=>exact fun _ l deep cf aR out h=>absurd h (Nat.not_lt_zero _)
 |succ N ih=>
  intro h l deep cf aR out hs Gy hd ho s t ht
  exact(acY (by omega) (ih (by omega)) hs Gy hd ho).aa7 (pre:= [_,_,_,_]) (post:= []) (by simp[D.bL,D.ok,Tag.ok,pC]) rfl (EB out) (EB _) ht
theorem Vb {l:List Sm} (hs:Sm.aY l<4611686018427387000) (s:St) :
 aF Tryz.prog mE [.slice .shared 13 (l.map bd), .int .i64 1, .int .i64 0, .bool false, .slice .full 0 []] s (.slice .shared 16 ((dQ 1 0 false [] l).map fA)) s:=by
 refine aF.pure ?_ (by simp[D.bL,D.ok,Tag.ok,pC,D.gS]) (by simp[D.ok,Tag.ok,EB]) s
 obtain⟨N,hN⟩ : ∃ N,N=Sm.aY l:=⟨_,rfl⟩
 have ih:=Va N (by omega)
 replace hs:Sm.aY l<N+1∧N<4611686018427387000:=by omega
 obtain⟨hs,hN⟩:=hs
 generalize hR:dQ 1 0 false [] l=R
 obtain⟨deep,O1⟩ : ∃ d:Int,d=1:=⟨_,rfl⟩
 obtain⟨cf,Vc⟩ : ∃ d:Int,d=0:=⟨_,rfl⟩
 obtain⟨aR,Vd⟩ : ∃ d:Bool,d=false:=⟨_,rfl⟩
 rw[← O1, ← Vc, ← Vd]at hR
 rw[← O1, ← Vc, ← Vd]
 have Gy:0≤deep:=by omega
 have hd:deep≤13:=by omega
 clear O1 Vc Vd
 have ho:([] : List It).length≤201:=Nat.zero_le _
 unfold S0
 refine aF.go Al rfl fun B Q hB hQ=>?_
 have⟨hD,hY,hZ,gA⟩:=bP
 repeat' (first
 |simp only[go_sem,hD,hY,hZ,gA]
 |(with_reducible refine aD hQ ?_;exact bb))
 refine bl.qC 4 16 rfl ?_
 simp only[go_sem,hD,hY,hZ,gA]
 refine fa 0 1 (bl.ind (ι:=List Sm×Nat×List It×Nat) (fun i=>l.drop i.2.1=i.1∧dQ deep cf aR i.2.2.1 i.1=R∧i.2.2.1.length≤201∧i.2.2.2=i.2.2.1.length) (fun i=>i.1.length)
  (fun i=> [(0, .slice .shared 13 (l.map bd)),(1, .int .i64 deep),(2, .int .i64 cf),(3, .bool aR),(4, .slice (.tok 0) 16 (i.2.2.1.map fA)),(11, .int .i64 (i.2.1:Int))]) (fun i=>⟨[],[some i.2.2.2]⟩) ?_ (l,0,[],0) ⟨rfl,hR,ho,rfl⟩)
 rintro⟨rest,k,out,n⟩ ⟨h1,h2,h3,h4⟩ IH
 dsimp only at h1 h2 h3 h4
 subst h4
 have hlen:l.length<4611686018427387904:=by have:=Sm.eB l;omega
 cases rest with
 |nil=>
  have hD:=drop_nil h1
  simp only[dQ]at h2
  subst h2
  repeat' (first
 |simp only[go_sem,hD,hY,hZ,gA]
 |(with_reducible refine aD hQ ?_;exact bb))
 | cons v rest=>
  obtain⟨hY,g2,hD,g4⟩:=drop_cons h1
  have bO:k<4611686018427387904:=by omega
  have hv:=Sm.dd (List.mem_of_getElem? hY)
  have oY:Sm.aY v.aZ<N∧Sm.aY v.aR<N:=by
   obtain⟨_,_,_,_,_,_,_,_,_,_⟩:=v
   simp only[Sm.size]at hv ⊢;omega
  simp only[dQ]at h2
  by_cases hc:out.length≤200
  ·have c1:decide ((out.length:Int)≤200)=true:=by simp;omega
   simp only[c1,↓reduceIte,JB]at h2
   have hZ:(out.length+1)*233≤bA:=by unfold bA;omega
   have iL:(out++ [(⟨v,deep,cf,aR⟩:It)]).length≤201:=by simp;omega
   have hw:IntKind.wrap .i64 (deep+1)=deep+1:=eg (by omega) (by omega)
   by_cases anD:deep≤12
   ·have c2:decide (deep≤12)=true:=by simp;omega
    simp only[c2,↓reduceIte]at h2
    have f1:=fun {s:St} {t:Nat} (ht:s.aw[t]? = some (some (out++ [(⟨v,deep,cf,aR⟩:It)]).length))=>ih v.aZ (deep+1) v.id false _ oY.1 (by omega) (by omega) iL ht
    have f2:=fun {s:St} {t:Nat} (ht:s.aw[t]? = some (some (dQ (deep+1) v.id false (out++ [(⟨v,deep,cf,aR⟩:It)]) v.aZ).length))=>ih v.aR (deep+1) v.id true _ oY.2 (by omega) (by omega) (lj _ _ _ _ iL _) ht
    simp only[List.map_append,List.map_cons,List.map_nil,FN,List.length_append,List.length_cons,List.length_nil]at f1
    repeat' (first
 |simp only[go_sem,hD,hY,hZ,gA,c1,c2,hw,ej]
 |(with_reducible refine CU (f1 (by with_unfolding_all rfl)) ?_)
 |(with_reducible refine CU (f2 (by with_unfolding_all rfl)) ?_)
 | (with_reducible refine aD hQ ?_;exact bb))
    refine eO 0 1 ?_ ?_ (IH (rest,k+1,_,_) ⟨g2,h2,lj _ _ _ _ (lj _ _ _ _ iL _) _,rfl⟩ (Nat.lt_succ_self _))
    ·(simp only[go_sem,hD,hY,hZ,gA,aI bO];try exact bW)
    ·(simp only[go_sem,hD,hY,hZ,gA,aI bO];try exact bW)
   ·have c2:decide (deep≤12)=false:=by simp;omega
    simp only[c2,Bool.false_eq_true,↓reduceIte]at h2
    repeat' (first
 |simp only[go_sem,hD,hY,hZ,gA,c1,c2,ej]
 | (with_reducible refine aD hQ ?_;exact bb))
    refine eO 0 1 ?_ ?_ (IH (rest,k+1,out++ [⟨v,deep,cf,aR⟩],out.length+1) ⟨g2,h2,iL,by simp⟩ (Nat.lt_succ_self _))
    ·(simp only[go_sem,hD,hY,hZ,gA,aI bO,FN,List.map_append,List.map_cons,List.map_nil];try exact bW)
    ·(simp only[go_sem,hD,hY,hZ,gA,aI bO,FN,List.map_append,List.map_cons,List.map_nil];try exact bW)
  ·have c1:decide ((out.length:Int)≤200)=false:=by simp;omega
   simp only[c1,Bool.false_eq_true,↓reduceIte]at h2
   subst h2
   repeat' (first
 |simp only[go_sem,hD,hY,hZ,gA,c1]
 |(with_reducible refine aD hQ ?_;exact bb))
theorem RF {f:Pc} (hs:Sm.aY f.body<4611686018427387000) (s:St):aF Tryz.prog sP [.agg (cq f)] s (.slice .shared 16 (f.flat.map fA)) s:=by
 refine aF.pure ?_ (by simp only[D.bL,D.ok,xm];rfl) (by simp[D.ok,Tag.ok,EB]) s
 have h:=fun s=>Vb hs s
 unfold S0
 refine aF.go HA rfl fun B Q hB hQ=>?_
 have⟨hD,hY,hZ,gA⟩:=bP
 repeat' (first
 |simp only[go_sem,hD,hY,hZ,gA,Pc.flat]
 |(with_reducible refine CU (h _) ?_)
 |(with_reducible first|refine bo fun hc=>?_|refine bp fun hc=>?_|refine bq (fun hc=>?_) fun hc=>?_)<;>(try simp only[hc,bs,↓reduceIte]at h)<;>try simp only[hc]
 |(with_reducible refine aD hQ ?_;simp only[aU,aV,bH,bI,go_sem,hD,hY,hZ,gA,Pc.flat];try exact cv))
end Go.Abs
namespace Go.Abs
set_option maxRecDepth 8000
open Go.Proofs
theorem Pc.JC (f:Pc):f.flat.length≤201:=lj _ _ _ _ (Nat.zero_le _) _
theorem ag5 {p:Pg} (hs:Pc.aY p.procs<4611686018427387000) (s:St):aF Tryz.prog zc [.agg (cu p)] s (.slice .shared 16 (p.all.map fA)) s:=by
 refine aF.pure ?_ (by simp only[D.bL,D.ok,jc];rfl) (by simp[D.ok,Tag.ok,EB]) s
 have hlen:p.procs.length<4611686018427387904:=by have:=Pc.eB p.procs;omega
 generalize hR:p.all=R
 unfold Pg.all at hR
 unfold S0
 refine aF.go Js rfl fun B Q hB hQ=>?_
 have⟨hD,hY,hZ,gA⟩:=bP
 repeat' (first
 |simp only[go_sem,hD,hY,hZ,gA]
 |(with_reducible refine aD hQ ?_;exact bb))
 refine bl.qC 3 16 rfl ?_
 simp only[go_sem,hD,hY,hZ,gA]
 refine fa 1 1 (bl.ind (ι:=List Pc×Nat×List It×Nat) (fun i=>p.procs.drop i.2.1=i.1∧allM i.2.2.1 i.1=R∧i.2.2.1.length≤200∧i.2.2.2=i.2.2.1.length) (fun i=>i.1.length)
  (fun i=> [(1, .ptr 0 0),(3, .slice (.tok 0) 16 (i.2.2.1.map fA)),(7, .slice .shared 5 (p.procs.map cq)),(8, .int .i64 (p.procs.length:Int)),(9, .int .i64 (i.2.1:Int))]) (fun i=>⟨[cu p],[some i.2.2.2]⟩) ?_ (p.procs,0,[],0) ⟨rfl,hR,Nat.zero_le _,rfl⟩)
 rintro⟨rest,k,out,n⟩ ⟨h1,h,h3,h4⟩ IH
 dsimp only at h1 h h3 h4
 subst h4
 cases rest with
 |nil=>
  have hD:=drop_nil h1
  simp only[allM]at h
  subst h
  repeat' (first
 |simp only[go_sem,hD,hY,hZ,gA]
 |(with_reducible refine aD hQ ?_;exact bb))
 |cons f rest=>
  obtain⟨hY,g2,hD,g4⟩:=drop_cons h1
  have bO:k<4611686018427387904:=by omega
  have hf:=Pc.dd (List.mem_of_getElem? hY)
  have hb:Sm.aY f.body<4611686018427387000:=by simp only[Pc.size]at hf;omega
  have gR:=fun s=>RF hb s
  have avK:=f.JC
  have hZ:(out.length+f.flat.length)*233≤bA:=by unfold bA;omega
  simp only[allM,List.length_append]at h
  have eK:=fun(o:List (List D))=>nV (size:=16) (bytes:=232) (t:=0) (rows:=out.map fA) (new:=f.flat.map fA) (g:= .shared) (s:=⟨o,[some out.length]⟩) (by simpa using hZ) (by simp)
  repeat' (first
 |simp only[go_sem,hD,hY,hZ,gA,eK]
 |(with_reducible refine CU (gR _) ?_)
 |(with_reducible first|refine bo fun hc=>?_|refine bp fun hc=>?_|refine bq (fun hc=>?_) fun hc=>?_)<;>(try simp only[hc,bs,↓reduceIte]at h)<;>try simp only[hc]
 |(with_reducible refine aD hQ ?_;(try cases h);simp only[aU,aV,bH,bI,go_sem,hD,hY,hZ,gA,eK];try exact cv))
  refine eO 1 1 ?_ ?_ (IH (rest,k+1,out++f.flat,out.length+f.flat.length) ⟨g2,h,by rename_i hc;simp only[decide_eq_false_iff_not]at hc;simp only[List.length_append];omega,by simp⟩ (Nat.lt_succ_self _))
  ·(simp only[go_sem,hD,hY,hZ,gA,aI bO];try exact bW)
  ·(simp only[go_sem,hD,hY,hZ,gA,aI bO];try exact bW)
structure Pg.ur (p:Pg):Prop where
 sz:p.size<4611686018427387000
 uv : ∀ t∈p.globals,t.length<4611686018427387904
 nY : ∀ f∈p.procs,f.name.length<4611686018427387904∧(∀ t∈f.vars,t.length<4611686018427387904)∧(∀ t∈f.fin,t.length<4611686018427387904)∧∀ a∈f.params,a.name.length<4611686018427387904
 items : ∀ i∈p.all,i.s.ur
def gate (nest:Int) (len n:Nat) (r:Bool×Nat):Bool×Nat:=if decide (nest > 12) && decide ((len:Int) > 0)then(false,n)else r
mutual
def Sm.pV (nest:Int) (n:Nat):Sm→Bool×Nat
 |⟨id,kind,labels,name,proc,x,has,args,aZ,aR⟩=>
  if decide (((n+1:Nat):Int) > 200) ||id != ((n+1:Nat):Int) || !(fc labels) || !(Sm.fields ⟨id,kind,labels,name,proc,x,has,args,aZ,aR⟩)then(false,n+1)
  else if !(gate (nest+1) aZ.length (n+1) (Sm.fh (nest+1) (n+1) aZ)).1 then(false,(gate (nest+1) aZ.length (n+1) (Sm.fh (nest+1) (n+1) aZ)).2)
  else gate (nest+1) aR.length (gate (nest+1) aZ.length (n+1) (Sm.fh (nest+1) (n+1) aZ)).2 (Sm.fh (nest+1) (gate (nest+1) aZ.length (n+1) (Sm.fh (nest+1) (n+1) aZ)).2 aR)
def Sm.fh (nest:Int) (n:Nat):List Sm→Bool×Nat
 | []=>(true,n)
 |s::l=>if !(Sm.pV nest n s).1 then(false,(Sm.pV nest n s).2)else Sm.fh nest (Sm.pV nest n s).2 l
end
def Sm.gv (nest:Int) (n:Nat) (l:List Sm):Bool×Nat:=gate nest l.length n (Sm.fh nest n l)
theorem FP (nest:Int) (n:Nat) (s:Sm):Sm.pV nest n s =
 if decide (((n+1:Nat):Int) > 200) ||s.id != ((n+1:Nat):Int) || !(fc s.labels) || !(s.fields)then(false,n+1)
 else if !(Sm.gv (nest+1) (n+1) s.aZ).1 then(false,(Sm.gv (nest+1) (n+1) s.aZ).2)
 else Sm.gv (nest+1) (Sm.gv (nest+1) (n+1) s.aZ).2 s.aR:=by
 cases s;simp only[Sm.pV,Sm.gv];rfl
mutual
def Sm.wM:Sm→Prop
 |⟨id,kind,labels,name,proc,x,has,args,aZ,aR⟩=>Sm.ur ⟨id,kind,labels,name,proc,x,has,args,aZ,aR⟩∧Sm.ky aZ∧Sm.ky aR
def Sm.ky:List Sm→Prop
 | []=>True
 |s::l=>s.wM∧Sm.ky l
end
theorem DB (s:Sm):s.wM↔s.ur∧Sm.ky s.aZ∧Sm.ky s.aR:=by cases s;simp only[Sm.wM]
theorem EC {s:Sm} : ∀ {l:List Sm},Sm.ky l→s∈l→s.wM
 |y::l,h,m=>by
  simp only[Sm.ky]at h
  rcases List.mem_cons.1 m with rfl|m
  ·exact h.1
  ·exact EC h.2 m
mutual
theorem Zs (nest:Int) (n:Nat) : ∀ s:Sm,n≤201→(Sm.pV nest n s).2≤202∧((Sm.pV nest n s).1=true→(Sm.pV nest n s).2≤200)
 | ⟨id,kind,labels,name,proc,x,has,args,aZ,aR⟩,hn=>by
  simp only[Sm.pV]
  split
  ·exact⟨by dsimp only;omega,fun h=>by cases h⟩
  rename_i hc
  simp only[Bool.or_eq_true,decide_eq_true_eq,not_or]at hc
  have Am:n+1≤200:=by omega
  have g1 : ∀ (nest:Int) (l:List Sm) (m:Nat),m≤200→(Sm.fh nest m l).2≤202∧((Sm.fh nest m l).1=true→(Sm.fh nest m l).2≤200)→
   (gate nest l.length m (Sm.fh nest m l)).2≤202∧((gate nest l.length m (Sm.fh nest m l)).1=true→(gate nest l.length m (Sm.fh nest m l)).2≤200):=by
   intro nest l m hm h
   unfold gate
   split
   ·exact⟨by dsimp only;omega,fun h=>by cases h⟩
   ·exact h
  have h1:=g1 (nest+1) aZ (n+1) Am (Ch (nest+1) (n+1) aZ Am)
  split
  ·exact⟨h1.1,fun h=>by cases h⟩
  rename_i Il
  have h2:=h1.2 (by simpa using Il)
  exact g1 (nest+1) aR _ h2 (Ch (nest+1) _ aR h2)
theorem Ch (nest:Int) (n:Nat) : ∀ l:List Sm,n≤200→(Sm.fh nest n l).2≤202∧((Sm.fh nest n l).1=true→(Sm.fh nest n l).2≤200)
 | [],hn=>by simp only[Sm.fh];exact⟨by omega,fun _=>hn⟩
 |s::l,hn=>by
  simp only[Sm.fh]
  have h1:=Zs nest n s (by omega)
  split
  ·exact⟨h1.1,fun h=>by cases h⟩
  rename_i hc
  exact Ch nest _ l (h1.2 (by simpa using hc))
end
theorem FQ {nest:Int} {n:Nat} {l:List Sm} (hn:n≤200):(Sm.gv nest n l).2≤202∧((Sm.gv nest n l).1=true→(Sm.gv nest n l).2≤200):=by
 unfold Sm.gv gate
 split
 ·exact⟨by dsimp only;omega,fun h=>by cases h⟩
 ·exact Ch nest n l hn
theorem Zt : ∀ (m:Nat) (l:List Sm),Sm.aY l≤m→Sm.aY l<4611686018427387000→Sm.ky l→∀ (nest:Int) (n:Nat),0≤nest→nest≤13→n≤200→
 aF Tryz.prog kr [.ptr 0 0, .slice .shared 13 (l.map bd), .int .i64 nest] ⟨[[.int .i64 n]],[]⟩ (.bool (Sm.gv nest n l).1) ⟨[[.int .i64 (Sm.gv nest n l).2]],[]⟩:=by
 intro m
 induction m with
 | zero=>
  intro l h hs hf nest n h0 h13 hn
  cases l with
  |nil=>
   have d1:decide ((0:Int) > 0)=false:=rfl
   have e:Sm.gv nest n [] = (true,n):=by simp[Sm.gv,gate,Sm.fh]
   have z:decide ((0:Int)<0)=false:=rfl
   rw[e]
   refine aF.go rK rfl fun B Q hB hQ=>?_
   have⟨hD,hY,hZ,gA⟩:=bP
   repeat' (first
 |simp only[go_sem,hD,hY,hZ,gA,d1,z]
 |(with_reducible refine bl.kT ?_)
 |(with_reducible first|refine bo fun hc=>?_|refine bp fun hc=>?_|refine bq (fun hc=>?_) fun hc=>?_)<;>(try simp only[hc,bs,↓reduceIte]at h)<;>try simp only[hc]
 |(with_reducible refine aD hQ ?_;exact bb))
  |cons s l=>simp only[Sm.aY]at h;omega
 |succ m ih=>
  intro l h hs hf nest n h0 h13 hn
  generalize hR:Sm.gv nest n l=R
  have hlen:=Sm.eB l
  unfold Sm.gv gate at hR
  have h:=hR
  refine aF.go rK rfl fun B Q hB hQ=>?_
  have⟨hD,hY,hZ,gA⟩:=bP
  repeat' (first
 |simp only[go_sem,hD,hY,hZ,gA]
 |(with_reducible first|refine bo fun hc=>?_|refine bp fun hc=>?_|refine bq (fun hc=>?_) fun hc=>?_)<;>(try simp only[hc,bs,↓reduceIte]at h)<;>try simp only[hc]
 | (with_reducible refine aD hQ ?_;(try cases h);simp only [aU,aV,bH,bI,go_sem,hD,hY,hZ,gA];repeat' (first | exact Ok.out | with_reducible refine iZ ?_ ?_ | (simp;done))))
  all_goals
   have ag6:l≠ []→nest≤12:=by
    intro eJ
    have:l.length≠0:=by simpa using eJ
    simp_all<;>omega
   refine fa 1 0 (bl.ind (ι:=List Sm×Nat×Nat) (fun i=>l.drop i.2.1=i.1∧Sm.fh nest i.2.2 i.1=R∧i.2.2≤200) (fun i=>i.1.length)
    (fun i=> [(0, .ptr 0 0),(2, .int .i64 nest),(16, .slice .shared 13 (l.map bd)),(17, .int .i64 (l.length:Int)),(18, .int .i64 (i.2.1:Int))]) (fun i=>⟨[[.int .i64 (i.2.2:Int)]],[]⟩) ?_ (l,0,n) ⟨rfl,h,hn⟩)
   rintro⟨rest,k,j⟩ ⟨h1,h,hj⟩ IH
   dsimp only at h1 h hj
   cases rest with
   |nil=>
    have hD:=drop_nil h1
    simp only[Sm.fh]at h
    repeat' (first
 |simp only[go_sem,hD,hY,hZ,gA]
 |(with_reducible first|refine bo fun hc=>?_|refine bp fun hc=>?_|refine bq (fun hc=>?_) fun hc=>?_)<;>(try simp only[hc,bs,↓reduceIte]at h)<;>try simp only[hc]
 | (with_reducible refine aD hQ ?_;exact ga))
   | cons s rest=>
    obtain⟨hY,g2,hD,g4⟩:=drop_cons h1
    have hZ:k<4611686018427387904:=by omega
    have gC:=List.mem_of_getElem? hY
    have dM:=Sm.dd gC
    have avL:=ag6 (by rintro rfl;simp at gC)
    obtain⟨D6,hft,hfe⟩:=(DB s).1 (EC hf gC)
    have To:Sm.aY s.aZ<s.size∧Sm.aY s.aR<s.size:=by cases s;simp only[Sm.size];omega
    have w1:IntKind.wrap .i64 ((j:Int)+1)=((j+1:Nat):Int):=by rw[eg]<;>omega
    have w2:IntKind.wrap .i64 (nest+1)=nest+1:=eg (by omega) (by omega)
    have c1:=fun s=>zr D6.anz D6.XC s
    have c2:=fun s=>U8 D6 s
    simp only[Sm.fh,FP]at h
    by_cases RG:j+1≤200
    ·have r1:=FQ (nest:=nest+1) (l:=s.aZ) RG
     have c3:=fun s' ho=>(ih s.aZ (by omega) (by omega) hft (nest+1) (j+1) (by omega) (by omega) RG).Tv (s:=s') (o:=0) (by simp[D.bL,D.ok,pC,Tag.ok]) rfl rfl rfl ho
     by_cases wD:(Sm.gv (nest+1) (j+1) s.aZ).1=true
     ·have c4:=fun s' ho=>(ih s.aR (by omega) (by omega) hfe (nest+1) _ (by omega) (by omega) (r1.2 wD)).Tv (s:=s') (o:=0) (by simp [D.bL,D.ok,pC,Tag.ok]) rfl rfl rfl ho
      have r2:=FQ (nest:=nest+1) (l:=s.aR) (r1.2 wD)
      simp only[wD]at c3
      simp only[wD,Bool.not_true,Bool.false_eq_true,↓reduceIte]at h
      repeat' (first
 |simp only[go_sem,hD,hY,hZ,gA,w1,w2,wD]
 |(with_reducible refine CU (c1 _) ?_)
 |(with_reducible refine CU (c2 _) ?_)
 |(with_reducible refine CU (c3 _ rfl) ?_)
 |(with_reducible refine CU (c4 _ rfl) ?_)
 |(with_reducible first|refine bo fun hc=>?_|refine bp fun hc=>?_|refine bq (fun hc=>?_) fun hc=>?_)<;>(try simp only[hc,bs,↓reduceIte]at h)<;>try simp only[hc]
 |(with_reducible refine aD hQ ?_;(try cases h);simp only[aU,aV,bH,bI,go_sem,hD,hY,hZ,gA,w1,w2,wD];try exact cv))
      refine fa 1 0 (IH (rest,k+1,(Sm.gv (nest+1) (Sm.gv (nest+1) (j+1) s.aZ).2 s.aR).2) ⟨g2,h,r2.2 (by assumption)⟩ (Nat.lt_succ_self _))
     ·have wD:(Sm.gv (nest+1) (j+1) s.aZ).1=false:=by simpa using wD
      simp only[wD]at c3
      simp only[wD,Bool.not_false,↓reduceIte]at h
      repeat' (first
 |simp only[go_sem,hD,hY,hZ,gA,w1,w2,wD]
 |(with_reducible refine CU (c1 _) ?_)
 |(with_reducible refine CU (c2 _) ?_)
 |(with_reducible refine CU (c3 _ rfl) ?_)
 |(with_reducible first|refine bo fun hc=>?_|refine bp fun hc=>?_|refine bq (fun hc=>?_) fun hc=>?_)<;>(try simp only[hc,bs,↓reduceIte]at h)<;>try simp only[hc]
 | (with_reducible refine aD hQ ?_;(try cases h);simp only [aU,aV,bH,bI,go_sem,hD,hY,hZ,gA,w1,w2,wD];try exact cv))
    ·have d1:decide (((j+1:Nat):Int) > 200)=true:=by simp;omega
     simp only[d1,Bool.true_or,Bool.not_false,↓reduceIte]at h
     repeat' (first
 |simp only[go_sem,hD,hY,hZ,gA,w1,w2,d1]
 |(with_reducible refine CU (c1 _) ?_)
 |(with_reducible refine CU (c2 _) ?_)
 |(with_reducible first|refine bo fun hc=>?_|refine bp fun hc=>?_|refine bq (fun hc=>?_) fun hc=>?_)<;>(try simp only[hc,bs,↓reduceIte]at h)<;>try simp only[hc]
 |(with_reducible refine aD hQ ?_;(try cases h);simp only[aU,aV,bH,bI,go_sem,hD,hY,hZ,gA,w1,w2,d1];try exact cv))
def Pc.fh (n:Nat):List Pc→Bool
 | []=>true
 |f::l=>
  if decide ((f.params.length:Int) > 8) ||decide ((f.vars.length:Int) > 16) || !(isName f.name) || !(fc f.vars) || !(fc f.fin)then false
  else if !(Pm.fM f.params)then false
  else if !(Sm.gv 1 n f.body).1 then false
  else Pc.fh (Sm.gv 1 n f.body).2 l
def Pg.FR (p:Pg):Bool:=
 if decide ((p.globals.length:Int) > 16) ||decide ((p.procs.length:Int) > 16) || !(fc p.globals)then false
 else Pc.fh 0 p.procs
structure Pg.HZ (p:Pg):Prop where
 sz:p.size<4611686018427387000
 uv : ∀ t∈p.globals,t.length<4611686018427387904
 nY : ∀ f∈p.procs,f.name.length<4611686018427387904∧(∀ t∈f.vars,t.length<4611686018427387904)∧(∀ t∈f.fin,t.length<4611686018427387904)∧∀ a∈f.params,a.name.length<4611686018427387904
 body : ∀ f∈p.procs,Sm.ky f.body
theorem JD {p:Pg} (hf:p.HZ) (s:St):aF Tryz.prog rB [.agg (cu p)] s (.bool p.FR) s:=by
 refine aF.pure ?_ (by simp only[D.bL,D.ok,jc];rfl) rfl s
 obtain⟨dM,qT,acZ,B7⟩:=hf
 have qU:Pc.aY p.procs<4611686018427387000:=by simp only[Pg.size]at dM;omega
 have ag7:p.globals.length<4611686018427387904:=by simp only[Pg.size]at dM;omega
 have avz:p.procs.length<4611686018427387904:=by have:=Pc.eB p.procs;omega
 have hg:=fun s=>zr ag7 qT s
 unfold S0
 generalize h:p.FR=R
 unfold Pg.FR at h
 refine aF.go Jq rfl fun B Q hB hQ=>?_
 have⟨hD,hY,hZ,gA⟩:=bP
 repeat' (first
 |simp only[go_sem,hD,hY,hZ,gA]
 |(with_reducible refine CU (hg _) ?_)
 |(with_reducible first|refine bo fun hc=>?_|refine bp fun hc=>?_|refine bq (fun hc=>?_) fun hc=>?_)<;>(try simp only[hc,bs,↓reduceIte]at h)<;>try simp only[hc]
 |(with_reducible refine aD hQ ?_;exact ga))
 refine fa 2 0 (bl.ind (ι:=List Pc×Nat×Nat) (fun i=>p.procs.drop i.2.1=i.1∧Pc.fh i.2.2 i.1=R∧i.2.2≤200) (fun i=>i.1.length)
  (fun i=> [(1, .ptr 0 0),(3, .ptr 1 0),(27, .slice .shared 5 (p.procs.map cq)),(28, .int .i64 (p.procs.length:Int)),(29, .int .i64 (i.2.1:Int))]) (fun i=>⟨[cu p,[.int .i64 (i.2.2:Int)]],[]⟩) ?_ (p.procs,0,0) ⟨rfl,h,Nat.zero_le _⟩)
 rintro⟨rest,k,n⟩ ⟨h1,h,hn⟩ IH
 dsimp only at h1 h hn
 cases rest with
 |nil=>
  have hD:=drop_nil h1
  simp only[Pc.fh]at h
  repeat' (first
 |simp only[go_sem,hD,hY,hZ,gA]
 |(with_reducible first|refine bo fun hc=>?_|refine bp fun hc=>?_|refine bq (fun hc=>?_) fun hc=>?_)<;>(try simp only[hc,bs,↓reduceIte]at h)<;>try simp only[hc]
 |(with_reducible refine aD hQ ?_;exact ga))
 |cons f rest=>
  obtain⟨hY,g2,hD,g4⟩:=drop_cons h1
  have bO:k<4611686018427387904:=by omega
  have gC:=List.mem_of_getElem? hY
  have An:=Pc.dd gC
  simp only[Pc.size]at An
  obtain⟨Ao,hfv,hff,hfp⟩:=acZ f gC
  have hnm:=Bv f.name Ao
  have hv:=fun s=>zr (by omega) hfv s
  have he:=fun s=>zr (by omega) hff s
  have hb:=fun s' o ho=>(Zt _ f.body (Nat.le_refl _) (by omega) (B7 f gC) 1 n (by omega) (by omega) hn).Tv (s:=s') (o:=o) (by simp[D.bL,D.ok,pC,Tag.ok]) rfl rfl rfl ho
  have hle:=FQ (nest:=1) (l:=f.body) hn
  simp only[Pc.fh]at h
  repeat' (first
 |simp only[go_sem,hD,hY,hZ,gA]
 |(with_reducible refine CU (hnm _) ?_)
 |(with_reducible refine CU (hv _) ?_)
 |(with_reducible refine CU (he _) ?_)
 |(with_reducible first|refine bo fun hc=>?_|refine bp fun hc=>?_|refine bq (fun hc=>?_) fun hc=>?_)<;>(try simp only[hc,bs,↓reduceIte]at h)<;>try simp only[hc]
 |(with_reducible refine aD hQ ?_;exact ga)
 | (cases h;done))
  refine fa 3 0 (bl.ind (ι:=List Pm×Nat) (fun i=>f.params.drop i.2=i.1∧(if !(Pm.fM i.1)then false else if !(Sm.gv 1 n f.body).1 then false else Pc.fh (Sm.gv 1 n f.body).2 rest)=R) (fun i=>i.1.length)
   (fun i=> [(1, .ptr 0 0),(3, .ptr 1 0),(5, .ptr 2 0),(27, .slice .shared 5 (p.procs.map cq)),(28, .int .i64 (p.procs.length:Int)),(29, .int .i64 (k:Int)),(62, .slice .shared 2 (f.params.map iG)),(63, .int .i64 (f.params.length:Int)),(64, .int .i64 (i.2:Int))]) (fun i=>⟨[cu p,[.int .i64 (n:Int)],cq f],[]⟩) ?_ (f.params,0) ⟨rfl,h⟩)
  rintro⟨O2,j⟩ ⟨j1,h⟩ By
  dsimp only at j1 h
  cases O2 with
  |nil=>
   have hD:=drop_nil j1
   simp only[Pm.fM,Bool.not_true,Bool.false_eq_true,↓reduceIte]at h
   repeat' (first
 |simp only[go_sem,hD,hY,hZ,gA]
 |(with_reducible refine CU (hb _ _ rfl) ?_)
 |(with_reducible first|refine bo fun hc=>?_|refine bp fun hc=>?_|refine bq (fun hc=>?_) fun hc=>?_)<;>(try simp only[hc,bs,↓reduceIte]at h)<;>try simp only[hc]
 |(with_reducible refine aD hQ ?_;exact ga)
 | (cases h;done))
   refine eO 2 0 ?_ ?_ (IH (rest,k+1,(Sm.gv 1 n f.body).2) ⟨g2,h,hle.2 (by assumption)⟩ (Nat.lt_succ_self _))
   ·(simp only[go_sem,hD,hY,hZ,gA,aI bO];try exact bW)
   ·(simp only[go_sem,hD,hY,hZ,gA,aI bO];try exact bW)
  |cons a O2=>
   obtain⟨hY,b2,hD,b4⟩:=drop_cons j1
   have RG:j<4611686018427387904:=by omega
   have ha:=Bv a.name (hfp a (List.mem_of_getElem? hY))
   simp only[Pm.fM]at h
   repeat' (first
 |simp only[go_sem,hD,hY,hZ,gA]
 |(with_reducible refine CU (ha _) ?_)
 |(with_reducible first|refine bo fun hc=>?_|refine bp fun hc=>?_|refine bq (fun hc=>?_) fun hc=>?_)<;>(try simp only[hc,bs,↓reduceIte]at h)<;>try simp only[hc]
 |(with_reducible refine aD hQ ?_;exact ga)
 | (cases h;done))
   refine eO 3 0 ?_ ?_ (By (O2,j+1) ⟨b2,h⟩ (Nat.lt_succ_self _))
   ·(simp only[go_sem,hD,hY,hZ,gA,aI RG];try exact bW)
   ·(simp only[go_sem,hD,hY,hZ,gA,aI RG];try exact bW)
theorem zu {s:aG} (h:isName s=true):s.length≤8:=by
 cases s with
 |nil=>simp
 | cons c r=>
  simp only[isName]at h
  split at h
  ·cases h
  ·rename_i hc
   simp only[Bool.or_eq_true,decide_eq_true_eq,not_or]at hc
   simp only[List.length_cons];omega
theorem pg {t:aG} : ∀ {l:List aG},fc l=true→t∈l→isName t=true
 | s::l,h,m=>by
  simp only[fc]at h
  cases hs:isName s
  ·simp[hs]at h
  ·simp [hs]at h
   rcases List.mem_cons.1 m with rfl|m
   ·exact hs
   ·exact pg h m
theorem JE {a:Ar} : ∀ {l:List Ar},Ar.fM l=true→a∈l→a.may=true
 | s::l,h,m=>by
  simp only[Ar.fM]at h
  cases hs:s.may
  ·simp[hs]at h
  ·simp [hs]at h
   rcases List.mem_cons.1 m with rfl|m
   ·exact hs
   ·exact JE h m
theorem Gz {a:Pm} : ∀ {l:List Pm},Pm.fM l=true→a∈l→isName a.name=true
 | s::l,h,m=>by
  simp only[Pm.fM]at h
  cases hs:isName s.name
  ·simp[hs]at h
  ·simp [hs]at h
   rcases List.mem_cons.1 m with rfl|m
   ·exact hs
   ·exact Gz h m
mutual
theorem ED : ∀ x:Ex,x.form=true→x.texts
 | ⟨op,n,name,kids⟩,h=>by
  simp only[Ex.form]at h
  split at h
  ·cases h
  ·rename_i hc
   refine⟨?_,C1 kids h⟩
   simp only[Bool.or_eq_true,Bool.and_eq_true,Bool.not_eq_true',not_or,not_and,Bool.not_eq_false]at hc
   cases hn:(name == [])
   ·have:=zu (hc.2 hn);omega
   ·simp at hn;subst hn;simp
theorem C1 : ∀ l:List Ex,Ex.sR l=true→Ex.vK l
 | [],_=>trivial
 | x::l,h=>by
  simp only[Ex.sR]at h
  cases hx:x.form
  ·simp[hx]at h
  ·simp [hx]at h
   exact⟨ED x hx,C1 l h⟩
end
theorem GC {x:Ex} (h:x.may=true):x.texts:=by
 unfold Ex.may at h
 simp only[Bool.and_eq_true]at h
 exact ED x h.2
theorem EE {x:Ex} (h:x.none=true):x.texts:=by
 obtain⟨op,n,name,kids⟩:=x
 simp[Ex.none]at h
 obtain⟨⟨_,h1⟩,h2⟩:=h
 subst h1 h2
 exact⟨by simp,trivial⟩
mutual
theorem RH {deep cf:Int} {aR:Bool} {out:List It} {i:It} : ∀ s:Sm,i∈iR deep cf aR out s→i∈out∨i.s.size≤s.size
 | ⟨id,kind,labels,name,proc,x,has,args,aZ,e⟩,h=>by
  simp only[iR]at h
  have key:i∈out++ [(⟨⟨id,kind,labels,name,proc,x,has,args,aZ,e⟩,deep,cf,aR⟩:It)]→i∈out∨i.s.size≤(⟨id,kind,labels,name,proc,x,has,args,aZ,e⟩:Sm).size:=by
   intro h
   rcases List.mem_append.1 h with h|h
   ·exact .inl h
   ·simp at h;subst h;exact .inr (Nat.le_refl _)
  split at h
  ·rcases wN e h with h | h
   ·rcases wN aZ h with h | h
    ·exact key h
    ·right;simp only[Sm.size];omega
   ·right;simp only[Sm.size];omega
  ·exact key h
theorem wN {deep cf:Int} {aR:Bool} {out:List It} {i:It} : ∀ l:List Sm,i∈dQ deep cf aR out l→i∈out∨i.s.size<Sm.aY l
 | [],h=>by simp only[dQ]at h;exact .inl h
 | s::l,h=>by
  simp only[dQ]at h
  split at h
  ·rcases wN l h with h | h
   ·rcases RH s h with h | h
    ·exact .inl h
    ·right;simp only[Sm.aY];omega
   ·right;simp only[Sm.aY];omega
  ·exact .inl h
end
theorem JF {i:It} : ∀ (l:List Pc) (out:List It),i∈allM out l→i∈out∨i.s.size<Pc.aY l
 | [],out,h=>by simp only[allM]at h;exact .inl h
 | f::l,out,h=>by
  have key:i∈out++f.flat→i∈out∨i.s.size<Pc.aY (f::l):=by
   intro h
   rcases List.mem_append.1 h with h|h
   ·exact .inl h
   ·rcases wN _ h with h | h
    ·simp at h
    ·right;simp only[Pc.aY,Pc.size];omega
  simp only[allM]at h
  split at h
  ·exact key h
  ·rcases JF l _ h with h | h
   ·exact key h
   ·right;simp only[Pc.aY];omega
theorem EF {i:It} : ∀ (l:List It) (n:Nat),It.fM n l=true→i∈l→i.s.one=true
 | s::l,n,h,m=>by
  simp only[It.fM]at h
  split at h
  ·cases h
  ·rename_i hc
   simp only[Bool.or_eq_true,Bool.not_eq_true',not_or,Bool.not_eq_false]at hc
   rcases List.mem_cons.1 m with rfl|m
   ·exact hc.2
   ·exact EF l (n+1) h m
theorem JG {s:Sm} (h:s.one=true) (hs:s.size<4611686018427387000):s.ur:=by
 unfold Sm.one at h
 split at h
 ·cases h
 split at h
 ·cases h
 split at h
 ·cases h
 split at h
 ·cases h
 rename_i c1 c2 c3 c4
 simp only[Bool.or_eq_true,Bool.and_eq_true,Bool.not_eq_true',not_or,not_and,Bool.not_eq_false,decide_eq_true_eq]at c1 c2 c3 c4
 obtain⟨⟨⟨⟨⟨_,_⟩,anE⟩,cx⟩,cn⟩,_⟩:=c1
 obtain⟨c21,c22⟩:=c2
 obtain⟨⟨c31,c32⟩,c33⟩:=c3
 have nm : ∀ {t:aG},isName t=true→t.length<4611686018427387904:=fun h=>by have:=zu h;omega
 have dM:1+s.labels.length+s.x.size+Ar.aY s.args≤s.size:=by cases s;simp only[Sm.size];omega
 have yf:=Ar.eB s.args
 refine⟨fun t ht=>nm (pg anE ht),by omega, ?_, ?_,by omega, ?_,by omega,fun a ha=>?_⟩
 ·cases hn:s.hasName
  ·cases he:(s.name == [])
   ·exact nm (c22 ⟨hn,he⟩).2
   ·simp at he;rw[he];simp
  ·exact nm (c21 hn)
 ·cases oK:s.yx
  ·rw [oK]at c31
   have:s.proc = []:=by simpa using c31
   rw[this];simp
  ·exact nm (c32 oK)
 ·cases hx:s.OW
  ·exact EE (cn hx)
  ·exact GC (cx hx)
 ·have hm:=JE c4 ha
  have XJ:=Ar.dd ha
  unfold Ar.may at hm
  split at hm
  ·simp only [Bool.and_eq_true]at hm
   exact⟨by omega,EE hm.2,nm hm.1⟩
  ·simp only [Bool.and_eq_true,beq_iff_eq]at hm
   exact⟨by omega,GC hm.2,by rw[hm.1];simp⟩
theorem GD {f:Pc} : ∀ {l:List Pc},Pc.nY l=true→f∈l→isName f.name=true∧fc f.vars=true∧fc f.fin=true∧Pm.fM f.params=true
 |s::l,h,m=>by
  simp only[Pc.nY]at h
  split at h
  ·cases h
  split at h
  ·cases h
  rename_i c1 c2
  simp only[Bool.or_eq_true,Bool.not_eq_true',not_or,Bool.not_eq_false]at c1 c2
  rcases List.mem_cons.1 m with rfl|m
  ·exact⟨c1.1.1.1.1,c1.1.2,c1.2,c2⟩
  ·exact GD h m
theorem Ve {p:Pg} (h:p.may=true) (hs:p.size<4611686018427387000):p.ur:=by
 unfold Pg.may at h
 split at h
 ·cases h
 split at h
 ·cases h
 split at h
 ·cases h
 rename_i c1 c2 c3
 simp only[Bool.or_eq_true,Bool.not_eq_true',not_or,Bool.not_eq_false]at c1 c2
 have nm : ∀ {t:aG},isName t=true→t.length<4611686018427387904:=fun h=>by have:=zu h;omega
 refine⟨hs,fun t ht=>nm (pg c1.2 ht),fun f hf=>?_,fun i hi=>?_⟩
 ·obtain⟨a,b,c,d⟩:=GD c2 hf
  exact⟨nm a,fun t ht=>nm (pg b ht),fun t ht=>nm (pg c ht),fun t ht=>nm (Gz d ht)⟩
 ·refine JG (EF _ _ h hi) ?_
  rcases JF _ _ hi with h1|h1
  ·simp at h1
  ·simp only[Pg.size]at hs;omega
theorem RI {t:aG} (h:isName t=true):t≠ []:=by rintro rfl;cases h
theorem Vf (op n:Int) (name:aG) (kids:List Ex):Ex.form ⟨op,n,name,kids⟩=true↔
 oj op=(kids.length:Int)∧(op=1∨n=0)∧0≤n∧(op=2↔name≠ [])∧(name = []∨isName name=true)∧Ex.sR kids=true:=by
 simp only[Ex.form]
 split
 ·rename_i h
  simp only[Bool.or_eq_true,Bool.and_eq_true,bne_iff_ne,ne_eq,decide_eq_true_eq,Bool.not_eq_true']at h
  refine⟨fun h=>(Bool.false_ne_true h).elim,fun⟨h1,h2,h3,h4,h5,_⟩=>?_⟩
  exfalso
  rcases h with (((h|h)|h)|h)|h
  ·exact h h1
  ·rcases h2 with h2 | h2
   ·exact h.1 h2
   ·exact h.2 h2
  ·omega
  ·by_cases h2:op=2<;>cases name<;>simp_all
  ·rcases h5 with h5 | h5
   ·subst h5;simp at h
   ·rw[h5]at h;simp at h
 ·rename_i h
  simp only[Bool.or_eq_true,Bool.and_eq_true,bne_iff_ne,ne_eq,decide_eq_true_eq,Bool.not_eq_true',not_or,not_and,Decidable.not_not,Bool.not_eq_false]at h
  obtain⟨⟨⟨⟨h1,h2⟩,h3⟩,h4⟩,h5⟩:=h
  refine⟨fun h=>⟨h1, ?_,by omega, ?_, ?_,h⟩,fun h=>h.2.2.2.2.2⟩
  ·by_cases h:op=1
   ·exact .inl h
   ·exact .inr (h2 h)
  ·by_cases h2:op=2<;>cases name<;>simp_all
  ·cases name with
   |nil=>exact .inl rfl
   |cons c r=>exact .inr (h5 rfl)
theorem JH (op n:Int) (name:aG) (kids:List Ex) (k:Int):Ex.dp k ⟨op,n,name,kids⟩=true↔
 1≤k∧(kids.length:Int)=oj op∧(if op=1 then 0≤n∧name = []else if op=2 then n=0∧isName name=true else n=0∧name = []∧Ex.Bw (k - 1) kids=true):=by
 simp only[Ex.dp]
 split
 ·rename_i h
  simp only[Bool.or_eq_true,decide_eq_true_eq,bne_iff_ne,ne_eq]at h
  refine⟨fun h=>(Bool.false_ne_true h).elim,fun⟨h1,h2,_⟩=>?_⟩
  rcases h with h|h
  ·omega
  ·exact(h h2).elim
 rename_i h
 simp only[Bool.or_eq_true,decide_eq_true_eq,bne_iff_ne,ne_eq,not_or,Decidable.not_not]at h
 have h1:1≤k:=by omega
 simp only[h1,h.2,true_and]
 by_cases o1:op=1
 ·subst o1
  cases name<;>simp
 ·have RJ : ¬ (op==1)=true:=by simpa using o1
  rw[if_neg RJ,if_neg o1]
  by_cases o2:op=2
  ·subst o2;simp
  ·have RK : ¬ (op==2)=true:=by simpa using o2
   rw[if_neg RK,if_neg o2]
   by_cases hn:n=0
   ·subst hn
    cases name<;>simp
   ·simp[hn]
mutual
theorem XK : ∀ (x:Ex) (k:Int),0≤k→(x.dp k=true↔(x.depth:Int)≤k∧x.form=true)
 | ⟨op,n,name,kids⟩,k,hk=>by
  rw[JH,Vf]
  have hd:Ex.depth ⟨op,n,name,kids⟩=Ex.qb kids+1:=by simp only[Ex.depth]
  rw[hd]
  by_cases h1:1≤k
  ·have ih:=RL kids (k - 1) (by omega)
   by_cases o1:op=1
   ·subst o1
    have ha:oj 1=0:=rfl
    rw[ha,if_pos rfl]
    constructor
    ·rintro⟨_,h2,h3,h4⟩
     have:kids = []:=List.eq_nil_of_length_eq_zero (by omega)
     subst this;subst h4
     simp[Ex.qb,Ex.sR,h3];omega
    ·rintro⟨h2,h3,_,h4,h5,_⟩
     refine⟨h1,h3.symm,h4, ?_⟩
     cases name
     ·rfl
     ·simp at h5
   ·rw [if_neg o1]
    by_cases o2:op=2
    ·subst o2
     have ha:oj 2=0:=rfl
     rw[ha,if_pos rfl]
     constructor
     ·rintro⟨_,h2,h3,h4⟩
      have:kids = []:=List.eq_nil_of_length_eq_zero (by omega)
      subst this;subst h3
      have:=RI h4
      simp[Ex.qb,Ex.sR,h4,this];omega
     ·rintro⟨h2,h3,h4,_,h5,h6,_⟩
      refine⟨h1,h3.symm,h4.resolve_left o1, ?_⟩
      exact h6.resolve_left (h5.1 rfl)
    ·rw [if_neg o2,ih]
     constructor
     ·rintro⟨_,h2,h3,h4,h5,h6⟩
      subst h3;subst h4
      exact⟨by omega,h2.symm, .inr rfl,Int.le_refl _,by simp[o2], .inl rfl,h6⟩
     ·rintro⟨h2,h3,h4,_,h5,h6,h7⟩
      refine⟨h1,h3.symm,h4.resolve_left o1, ?_,by omega,h7⟩
      exact Decidable.byContradiction fun h=>o2 (h5.2 h)
  ·constructor
   ·rintro⟨h,_⟩;exact(h1 h).elim
   ·rintro⟨h,_⟩;omega
theorem RL : ∀ (l:List Ex) (k:Int),0≤k→(Ex.Bw k l=true↔(Ex.qb l:Int)≤k∧Ex.sR l=true)
 | [],k,hk=>by simp[Ex.Bw,Ex.qb,Ex.sR,hk]
 | x::l,k,hk=>by
  have h1:=XK x k hk
  have h2:=RL l k hk
  have hd:Ex.qb (x::l)=max x.depth (Ex.qb l):=by simp only[Ex.qb]
  rw[hd]
  simp only[Ex.Bw,Ex.sR]
  cases hx:Ex.dp k x
  ·simp only [Bool.not_false, ↓reduceIte,Bool.false_eq_true,false_iff,not_and]
   intro h3
   have : ¬ ((x.depth:Int)≤k∧x.form=true):=by rw[← h1,hx];simp
   have hf:x.form=false:=by
    cases hf:x.form
    ·rfl
    ·exact(this ⟨by omega,hf⟩).elim
   simp[hf]
  ·have:=h1.1 hx
   simp only[Bool.not_true,Bool.false_eq_true,↓reduceIte,this.2,h2]
   have h3:=this.1
   refine and_congr_left fun _=>?_
   omega
end
theorem EG (x:Ex):x.dp 20=x.may:=by
 rw[Bool.eq_iff_iff,XK x 20 (by omega)]
 unfold Ex.may
 simp only[Bool.and_eq_true,decide_eq_true_eq]
 refine and_congr_left fun _=>?_
 omega
theorem GF (x:Ex) (b:Bool):vM x b=if b then x.may else x.none:=by
 unfold vM
 rw[EG]
 cases b<;>simp
theorem GG (t:aG) (b:Bool):tz t b=if b then isName t else t == []:=by
 unfold tz
 cases b<;>simp
theorem C2 : ∀ l:List Ar,pE l=Ar.fM l
 | []=>rfl
 |a::l=>by
  simp only[pE,Ar.fM,Ar.may,GF,GG,C2 l]
  grind
theorem M6 {α:Type} (l:List α):((l.length:Int)==0) = !(decide ((l.length:Int) > 0)):=by
 cases l with
 |nil=>rfl
 |cons a l=>
  have h1:(((a::l).length:Int)==0)=false:=by simp only[List.length_cons,beq_eq_false_iff_ne];omega
  have h2:decide (((a::l).length:Int) > 0)=true:=by simp only[List.length_cons,decide_eq_true_eq];omega
  rw[h1,h2];rfl
theorem EH (s:Sm):s.one=(fc s.labels && s.fields):=by
 have hk:s.kind=1∨s.kind=2∨s.kind=3∨s.kind=4∨s.kind=5∨s.kind=6∨s.kind=7∨s.kind=8∨s.kind=9∨s.kind=10∨s.kind<1∨s.kind > 10:=by omega
 unfold Sm.one Sm.fields Sm.flags Sm.OW Sm.hasName Sm.yx
 have p1:isName [] = false:=rfl
 rcases hk with h|h|h|h|h|h|h|h|h|h|h|h
 all_goals
  simp only[h,M6,C2,GF,GG,Sm.HY,Sm.HX]
  grind
mutual
def Ex.mF (out:List aG):Ex→List aG
 |⟨op,_,name,kids⟩=>Ex.lN (if op==2 && !(fu out name)then out++ [name]else out) kids
def Ex.lN (out:List aG):List Ex→List aG
 | []=>out
 |x::l=>Ex.lN (Ex.mF out x) l
end
def Ex.names (x:Ex):List aG:=if x.may then x.mF []else []
mutual
theorem sv (out:List aG) : ∀ x:Ex,(Ex.mF out x).length≤out.length+x.size
 |⟨op,n,name,kids⟩=>by
  simp only[Ex.mF,Ex.size]
  have h:=GH (if op==2 && !(fu out name)then out++ [name]else out) kids
  refine Nat.le_trans h ?_
  split<;>simp<;>omega
theorem GH (out:List aG) : ∀ l:List Ex,(Ex.lN out l).length≤out.length+Ex.aY l
 | []=>by simp[Ex.lN,Ex.aY]
 |x::l=>by
  simp only[Ex.lN,Ex.aY]
  have h1:=sv out x
  have h2:=GH (Ex.mF out x) l
  omega
end
def Ci (out:List aG) (x:aG):List aG:=if fu out x then out else out++ [x]
def ag8 (x:aG):List aG→Bool
 | []=>false
 |s::l=>if s==x then true else ag8 x l
abbrev RM (N:Nat):Prop:=∀ (x:Ex),x.size≤N→∀ out:List aG,out.length+x.size≤1000000000→∀ {s:St} {t:Nat},s.aw[t]? = some (some out.length)→
 aF Tryz.prog iQ [.agg (cj x), .slice (.tok t) 1 (out.map encStr)] s (.slice (.tok t) 1 ((x.mF out).map encStr)) ⟨s.ah,s.aw.set t (some (x.mF out).length)⟩
theorem ac2 {N:Nat} (ih:RM N) {op m:Int} {name:aG} {kids:List Ex} (h:Ex.size ⟨op,m,name,kids⟩≤N+1) {out:List aG} (ho:out.length+Ex.size ⟨op,m,name,kids⟩≤1000000000) :
 aF Tryz.prog iQ [.agg (cj ⟨op,m,name,kids⟩), .slice (.tok 0) 1 (out.map encStr)] ⟨[],[some out.length]⟩ (.slice (.tok 0) 1 ((Ex.mF out ⟨op,m,name,kids⟩).map encStr)) ⟨[],[some (Ex.mF out ⟨op,m,name,kids⟩).length]⟩:=by
 obtain⟨R,hG⟩ : ∃ R,Ex.mF out ⟨op,m,name,kids⟩=R:=⟨_,rfl⟩
 rw[hG]
 simp only[Ex.mF]at hG
 simp only[Ex.size]at h ho
 have hlen:kids.length<1000000000:=by have:=Ex.eB kids;omega
 have hk : ∀ y∈kids,∀ out:List aG,out.length+y.size≤1000000000→∀ {s:St} {t:Nat},s.aw[t]? = some (some out.length)→
  aF Tryz.prog iQ [.agg (cj y), .slice (.tok t) 1 (out.map encStr)] s (.slice (.tok t) 1 ((y.mF out).map encStr)) ⟨s.ah,s.aw.set t (some (y.mF out).length)⟩:=fun y hy out ho=>
  ih y (by have:=Ex.dd hy;omega) out ho
 refine aF.go rL rfl fun B Q hB hQ=>?_
 have⟨hD,hY,hZ,gA⟩:=bP
 have hZ:(out.length+1)*17≤bA:=by unfold bA;omega
 rcases Bool.eq_false_or_eq_true (op==2)with b1|b1
 ·rcases Bool.eq_false_or_eq_true (fu out name)with b2 | b2
  ·simp only [b1,b2,Bool.not_true,Bool.and_false,Bool.false_eq_true,if_false]at hG
   repeat' (first
 |simp only[go_sem,hD,hY,hZ,gA,b1,b2]
 |(with_reducible refine CU (jB (l:=out) (by omega) name _ _) ?_)
 | (with_reducible refine aD hQ ?_;exact bb))
   refine fa 1 1 (bl.ind (ι:=List Ex×Nat×List aG×Nat) (fun i=>kids.drop i.2.1=i.1∧Ex.lN i.2.2.1 i.1=R∧i.2.2.1.length+Ex.aY i.1≤1000000000∧i.2.2.2=i.2.2.1.length) (fun i=>i.1.length)
    (fun i=> [(1, .slice (.tok 0) 1 (i.2.2.1.map encStr)),(2, .ptr 0 0),(23, .slice .shared 4 (kids.map cj)),(24, .int .i64 (kids.length:Int)),(25, .int .i64 (i.2.1:Int))]) (fun i=>⟨[cj ⟨op,m,name,kids⟩],[some i.2.2.2]⟩) ?_ (kids,0,out,out.length) ⟨rfl,hG,by simp;omega,by simp⟩)
   rintro⟨rest,k,cE,n'⟩ ⟨h1,h2,h3,h4⟩ IH
   dsimp only at h1 h2 h3 h4
   subst h4
   cases rest with
   |nil=>
    have hD:=drop_nil h1
    simp only[Ex.lN]at h2
    subst h2
    repeat' (first
 |simp only[go_sem,hD,hY,hZ,gA]
 | (with_reducible refine aD hQ ?_;exact bb))
   |cons y rest=>
    obtain⟨hY,g2,hD,g4⟩:=drop_cons h1
    have bO:k<4611686018427387904:=by omega
    simp only[Ex.lN]at h2
    simp only[Ex.aY]at h3
    have hy:=fun {s:St} {t:Nat} (ht:s.aw[t]? = some (some cE.length))=>hk y (List.mem_of_getElem? hY) cE (by omega) ht
    have hl:=sv cE y
    repeat' (first
 |simp only[go_sem,hD,hY,hZ,gA]
 |(with_reducible refine CU (hy (by with_unfolding_all rfl)) ?_)
 | (with_reducible refine aD hQ ?_;exact bb))
    refine eO 1 1 ?_ ?_ (IH (rest,k+1,_,_) ⟨g2,h2,by dsimp only;omega,rfl⟩ (Nat.lt_succ_self _))
    ·(simp only[go_sem,hD,hY,hZ,gA,aI bO];try exact bW)
    ·(simp only[go_sem,hD,hY,hZ,gA,aI bO];try exact bW)
  ·simp only [b1,b2,Bool.not_false,Bool.and_true,if_true]at hG
   repeat' (first
 |simp only[go_sem,hD,hY,hZ,gA,b1,b2]
 |(with_reducible refine CU (jB (l:=out) (by omega) name _ _) ?_)
 | (with_reducible refine aD hQ ?_;exact bb))
   refine eO 1 1 ?_ ?_ (bl.ind (ι:=List Ex×Nat×List aG×Nat) (fun i=>kids.drop i.2.1=i.1∧Ex.lN i.2.2.1 i.1=R∧i.2.2.1.length+Ex.aY i.1≤1000000000∧i.2.2.2=i.2.2.1.length) (fun i=>i.1.length)
    (fun i=> [(1, .slice (.tok 0) 1 (i.2.2.1.map encStr)),(2, .ptr 0 0),(23, .slice .shared 4 (kids.map cj)),(24, .int .i64 (kids.length:Int)),(25, .int .i64 (i.2.1:Int))]) (fun i=>⟨[cj ⟨op,m,name,kids⟩],[some i.2.2.2]⟩) ?_ (kids,0,(out++ [name]),(out.length+1)) ⟨rfl,hG,by simp;omega,by simp⟩)
   ·(simp only[go_sem,hD,hY,hZ,gA,List.map_append,List.map_cons,List.map_nil,List.length_append,List.length_cons,List.length_nil,encStr];try exact bW)
   ·(simp only[go_sem,hD,hY,hZ,gA,List.map_append,List.map_cons,List.map_nil,List.length_append,List.length_cons,List.length_nil,encStr];try exact bW)
   rintro⟨rest,k,cE,n'⟩ ⟨h1,h2,h3,h4⟩ IH
   dsimp only at h1 h2 h3 h4
   subst h4
   cases rest with
   |nil=>
    have hD:=drop_nil h1
    simp only[Ex.lN]at h2
    subst h2
    repeat' (first
 |simp only[go_sem,hD,hY,hZ,gA]
 | (with_reducible refine aD hQ ?_;exact bb))
   |cons y rest=>
    obtain⟨hY,g2,hD,g4⟩:=drop_cons h1
    have bO:k<4611686018427387904:=by omega
    simp only[Ex.lN]at h2
    simp only[Ex.aY]at h3
    have hy:=fun {s:St} {t:Nat} (ht:s.aw[t]? = some (some cE.length))=>hk y (List.mem_of_getElem? hY) cE (by omega) ht
    have hl:=sv cE y
    repeat' (first
 |simp only[go_sem,hD,hY,hZ,gA]
 |(with_reducible refine CU (hy (by with_unfolding_all rfl)) ?_)
 | (with_reducible refine aD hQ ?_;exact bb))
    refine eO 1 1 ?_ ?_ (IH (rest,k+1,_,_) ⟨g2,h2,by dsimp only;omega,rfl⟩ (Nat.lt_succ_self _))
    ·(simp only[go_sem,hD,hY,hZ,gA,aI bO];try exact bW)
    ·(simp only[go_sem,hD,hY,hZ,gA,aI bO];try exact bW)
 ·simp only [b1,Bool.false_and,Bool.false_eq_true,if_false]at hG
  repeat' (first
 |simp only[go_sem,hD,hY,hZ,gA,b1]
 | (with_reducible refine aD hQ ?_;exact bb))
  refine fa 1 1 (bl.ind (ι:=List Ex×Nat×List aG×Nat) (fun i=>kids.drop i.2.1=i.1∧Ex.lN i.2.2.1 i.1=R∧i.2.2.1.length+Ex.aY i.1≤1000000000∧i.2.2.2=i.2.2.1.length) (fun i=>i.1.length)
   (fun i=> [(1, .slice (.tok 0) 1 (i.2.2.1.map encStr)),(2, .ptr 0 0),(23, .slice .shared 4 (kids.map cj)),(24, .int .i64 (kids.length:Int)),(25, .int .i64 (i.2.1:Int))]) (fun i=>⟨[cj ⟨op,m,name,kids⟩],[some i.2.2.2]⟩) ?_ (kids,0,out,out.length) ⟨rfl,hG,by simp;omega,by simp⟩)
  rintro⟨rest,k,cE,n'⟩ ⟨h1,h2,h3,h4⟩ IH
  dsimp only at h1 h2 h3 h4
  subst h4
  cases rest with
  |nil=>
   have hD:=drop_nil h1
   simp only[Ex.lN]at h2
   subst h2
   repeat' (first
 |simp only[go_sem,hD,hY,hZ,gA]
 | (with_reducible refine aD hQ ?_;exact bb))
  |cons y rest=>
   obtain⟨hY,g2,hD,g4⟩:=drop_cons h1
   have bO:k<4611686018427387904:=by omega
   simp only[Ex.lN]at h2
   simp only[Ex.aY]at h3
   have hy:=fun {s:St} {t:Nat} (ht:s.aw[t]? = some (some cE.length))=>hk y (List.mem_of_getElem? hY) cE (by omega) ht
   have hl:=sv cE y
   repeat' (first
 |simp only[go_sem,hD,hY,hZ,gA]
 |(with_reducible refine CU (hy (by with_unfolding_all rfl)) ?_)
 | (with_reducible refine aD hQ ?_;exact bb))
   refine eO 1 1 ?_ ?_ (IH (rest,k+1,_,_) ⟨g2,h2,by dsimp only;omega,rfl⟩ (Nat.lt_succ_self _))
   ·(simp only[go_sem,hD,hY,hZ,gA,aI bO];try exact bW)
   ·(simp only[go_sem,hD,hY,hZ,gA,aI bO];try exact bW)
theorem Vg : ∀ N,RM N:=by
 intro N
 induction N with
 |zero=>rintro⟨op,m,name,kids⟩ h;simp only[Ex.size]at h;omega
 |succ N ih=>
  rintro⟨op,m,name,kids⟩ h out ho s t ht
  exact(ac2 ih h ho).aa7 (pre:= [_]) (post:= []) (by simp only[D.bL,D.ok,lR];rfl) rfl (fb out) (fb _) ht
abbrev aon (N:Nat):Prop:=∀ (x:Ex),x.size≤N→∀ out:List aG,out.length+x.size≤1000000000→∀ {s:St} {t:Nat},s.aw[t]? = some (some out.length)→
 aF Tryz.prog Ld [.agg (cj x), .slice (.tok t) 1 (out.map encStr)] s (.slice (.tok t) 1 ((x.mF out).map encStr)) ⟨s.ah,s.aw.set t (some (x.mF out).length)⟩
theorem RN {op m:Int} {name:aG} {kids:List Ex} (h:Ex.form ⟨op,m,name,kids⟩=true) (h2:(op==2)=true):kids = []:=by
 have e:op=2:=by simpa using h2
 subst e
 simp only[Ex.form]at h
 split at h
 ·cases h
 ·rename_i hh
  simp only[Bool.or_eq_true,not_or,bne_iff_ne,ne_eq,Decidable.not_not]at hh
  have:=hh.1.1.1.1
  have e:oj 2=0:=rfl
  rw[e]at this
  exact List.length_eq_zero_iff.1 (by omega)
theorem Vh {op m:Int} {name:aG} {kids:List Ex} (hf:(op==2)=true→kids = []) (ho:Ex.size ⟨op,m,name,kids⟩≤1000000000) (s:St) :
 aF Tryz.prog iQ [.agg (cj ⟨op,m,name,kids⟩), .slice .full 0 []] s (.slice .shared 1 ((Ex.mF [] ⟨op,m,name,kids⟩).map encStr)) s:=by
 refine aF.pure ?_ (by simp only[D.bL,D.ok,lR];rfl) (by simp only[D.ok,Tag.ok,fb];rfl) s
 obtain⟨R,hG⟩ : ∃ R,Ex.mF [] ⟨op,m,name,kids⟩=R:=⟨_,rfl⟩
 rw[hG]
 simp only[Ex.mF]at hG
 simp only[Ex.size]at ho
 have hlen:kids.length<1000000000:=by have:=Ex.eB kids;omega
 have hk : ∀ y∈kids,∀ out:List aG,out.length+y.size≤1000000000→∀ {s:St} {t:Nat},s.aw[t]? = some (some out.length)→
  aF Tryz.prog iQ [.agg (cj y), .slice (.tok t) 1 (out.map encStr)] s (.slice (.tok t) 1 ((y.mF out).map encStr)) ⟨s.ah,s.aw.set t (some (y.mF out).length)⟩:=fun y hy out ho=>
  Vg y.size y (Nat.le_refl _) out ho
 unfold S0
 rcases Bool.eq_false_or_eq_true (op==2)with b1|b1
 ·have hk0:=hf b1
  subst hk0
  have e:fu [] name=false:=rfl
  simp only[b1,e,Bool.not_false,Bool.and_true,if_true,Ex.lN,List.nil_append]at hG
  subst hG
  refine aF.go rL rfl fun B Q hB hQ=>?_
  have⟨hD,hY,hZ,gA⟩:=bP
  have hZ:17≤bA:=by unfold bA;omega
  repeat' (first
 |simp only[go_sem,hD,hY,hZ,gA,b1,List.map_nil,List.map_cons,List.length_nil,encStr,Int.natCast_zero,Int.lt_irrefl,decide_false]
 |(with_reducible refine CU (Jz name _ _ _) ?_)
 |(with_reducible refine bl.kT ?_)
 |(with_reducible refine aD hQ ?_;exact bb))
 ·simp only [b1,Bool.false_and,Bool.false_eq_true,if_false]at hG
  refine aF.go rL rfl fun B Q hB hQ=>?_
  have⟨hD,hY,hZ,gA⟩:=bP
  repeat' (first
 |simp only[go_sem,hD,hY,hZ,gA,b1]
 | (with_reducible refine aD hQ ?_;exact bb))
  refine bl.qC 1 1 rfl ?_
  simp only[go_sem,hD,hY,hZ,gA]
  refine fa 1 1 (bl.ind (ι:=List Ex×Nat×List aG×Nat) (fun i=>kids.drop i.2.1=i.1∧Ex.lN i.2.2.1 i.1=R∧i.2.2.1.length+Ex.aY i.1≤1000000000∧i.2.2.2=i.2.2.1.length) (fun i=>i.1.length)
   (fun i=> [(1, .slice (.tok 0) 1 (i.2.2.1.map encStr)),(2, .ptr 0 0),(23, .slice .shared 4 (kids.map cj)),(24, .int .i64 (kids.length:Int)),(25, .int .i64 (i.2.1:Int))]) (fun i=>⟨[cj ⟨op,m,name,kids⟩],[some i.2.2.2]⟩) ?_ (kids,0,[],0) ⟨rfl,hG,by simp;omega,by simp⟩)
  rintro⟨rest,k,cE,n'⟩ ⟨h1,h2,h3,h4⟩ IH
  dsimp only at h1 h2 h3 h4
  subst h4
  cases rest with
  |nil=>
   have hD:=drop_nil h1
   simp only[Ex.lN]at h2
   subst h2
   repeat' (first
 |simp only[go_sem,hD,hY,hZ,gA]
 | (with_reducible refine aD hQ ?_;exact bb))
  |cons y rest=>
   obtain⟨hY,g2,hD,g4⟩:=drop_cons h1
   have bO:k<4611686018427387904:=by omega
   simp only[Ex.lN]at h2
   simp only[Ex.aY]at h3
   have hy:=fun {s:St} {t:Nat} (ht:s.aw[t]? = some (some cE.length))=>hk y (List.mem_of_getElem? hY) cE (by omega) ht
   have hl:=sv cE y
   repeat' (first
 |simp only[go_sem,hD,hY,hZ,gA]
 |(with_reducible refine CU (hy (by with_unfolding_all rfl)) ?_)
 | (with_reducible refine aD hQ ?_;exact bb))
   refine eO 1 1 ?_ ?_ (IH (rest,k+1,_,_) ⟨g2,h2,by dsimp only;omega,rfl⟩ (Nat.lt_succ_self _))
   ·(simp only[go_sem,hD,hY,hZ,gA,aI bO];try exact bW)
   ·(simp only[go_sem,hD,hY,hZ,gA,aI bO];try exact bW)
theorem nu {x:Ex} (hx:x.size≤1000000000) (ht:x.texts) (s:St):aF Tryz.prog rJ [.agg (cj x)] s (.slice .shared 1 (x.names.map encStr)) s:=by
 refine aF.pure ?_ (by simp only[D.bL,D.ok,lR];rfl) (by simp only[D.ok,Tag.ok,fb];rfl) s
 have hm:=fun s=>zt (x:=x) (by omega) ht s
 simp only[EG]at hm
 unfold Ex.names
 unfold S0
 cases hb:x.may
 ·simp only [hb]at hm
  simp only[Bool.false_eq_true,if_false,List.map_nil]
  refine aF.go yr rfl fun B Q hB hQ=>?_
  have⟨hD,hY,hZ,gA⟩:=bP
  repeat' (first
 |simp only[go_sem,hD,hY,hZ,gA]
 |(with_reducible refine CU (hm _) ?_)
 |(with_reducible refine aD hQ ?_;exact bb))
 ·simp only [hb]at hm
  simp only[if_true]
  have hg : ∀ s,aF Tryz.prog iQ [.agg (cj x), .slice .full 0 []] s (.slice .shared 1 ((x.mF []).map encStr)) s:=by
   intro s
   obtain⟨op,m,name,kids⟩:=x
   exact Vh (fun h2=>RN (by simp only[Ex.may,Bool.and_eq_true]at hb;exact hb.2) h2) hx s
  refine aF.go yr rfl fun B Q hB hQ=>?_
  have⟨hD,hY,hZ,gA⟩:=bP
  repeat' (first
 |simp only[go_sem,hD,hY,hZ,gA]
 |(with_reducible refine CU (hm _) ?_)
 |(with_reducible refine CU (hg _) ?_)
 |(with_reducible refine aD hQ ?_;exact bb))
def Ar.said (out:List aG):List Ar→List aG
 | []=>out
 |a::l=>Ar.said ((if a.ref then out++ [a.name]else out)++a.x.names) l
def Sm.sS (v:Sm):List aG:=if v.kind != 10 && v.name != []then [v.name]else []
def Sm.said (v:Sm):List aG:=Ar.said (v.sS++v.x.names) v.args
theorem lk (x:Ex):x.names.length≤x.size:=by
 unfold Ex.names
 split
 ·simpa using sv [] x
 ·exact Nat.zero_le _
def Ar.vK:List Ar→Prop
 | []=>True
 |a::l=>a.x.texts∧Ar.vK l
def Sm.nw (v:Sm):Prop:=v.x.texts∧(∀ a∈v.args,a.x.texts)∧v.x.size+Ar.aY v.args<1000000
theorem kL {l nx:List aG} {n:Nat} (hn:n=l.length) (h:l.length+nx.length≤1000000000) {g:Tag} (o:List (List D)) :
 ix 1 16 (.slice (.tok 0) 1 (l.map encStr)) (.slice g 1 (nx.map encStr)) ⟨o,[some n]⟩=some (.slice (.tok 0) 1 ((l++nx).map encStr),⟨o,[some (l++nx).length]⟩):=by
 subst hn
 have:=nV (size:=1) (bytes:=16) (t:=0) (rows:=l.map encStr) (new:=nx.map encStr) (g:=g) (s:=⟨o,[some l.length]⟩) (by simp only[List.length_map];unfold bA;omega) (by simp)
 rw[this]
 simp
theorem Bz {v:Sm} (hv:v.nw) (s:St):aF Tryz.prog rH [.agg (bd v)] s (.slice .shared 1 (v.said.map encStr)) s:=by
 refine aF.pure ?_ (by simp only[D.bL,D.ok,qD];rfl) (by simp only[D.ok,Tag.ok,fb];rfl) s
 obtain⟨wO,tA,dM⟩:=hv
 obtain⟨R,hG⟩ : ∃ R,v.said=R:=⟨_,rfl⟩
 rw[hG]
 simp only[Sm.said]at hG
 have hlen:v.args.length<1000000000:=by have:=Ar.eB v.args;omega
 have hx:=fun s=>nu (x:=v.x) (by omega) wO s
 have LS:=lk v.x
 unfold S0
 refine aF.go FF rfl fun B Q hB hQ=>?_
 have⟨hD,hY,hZ,gA⟩:=bP
 have hZ:17≤bA:=by unfold bA;omega
 by_cases hb:(v.kind != 10 && v.name != [])=true
 ·simp only [Sm.sS,hb,if_true]at hG
  rw[Bool.and_eq_true]at hb
  obtain⟨b1,b2⟩:=hb
  have eK:=kL (l:= [v.name]) (nx:=v.x.names) (n:=1) rfl (by simp;omega) (g:= .shared)
  simp only[List.map_append,List.map_cons,List.map_nil,encStr]at eK
  have b3:(v.name == [])=false:=by simpa using b2
  repeat' (first
 |simp only[go_sem,hD,hY,hZ,gA,b1,b2,b3,eK]
 |(with_reducible refine CU (hx _) ?_)
 | (with_reducible refine aD hQ ?_;exact bb))
  refine eO 1 1 ?_ ?_ (bl.ind (ι:=List Ar×Nat×List aG×Nat) (fun i=>v.args.drop i.2.1=i.1∧Ar.said i.2.2.1 i.1=R∧i.2.2.1.length+Ar.aY i.1≤2000000∧i.2.2.2=i.2.2.1.length) (fun i=>i.1.length)
   (fun i=> [(3, .slice (.tok 0) 1 (i.2.2.1.map encStr)),(1, .ptr 0 0),(25, .slice .shared 6 (v.args.map ew)),(26, .int .i64 (v.args.length:Int)),(27, .int .i64 (i.2.1:Int))]) (fun i=>⟨[bd v],[some i.2.2.2]⟩) ?_ (v.args,0,([v.name]++v.x.names),(v.x.names.length+1)) ⟨rfl,hG,by simp at LS ⊢;omega,by simp⟩)
  ·(simp only[go_sem,hD,hY,hZ,gA,List.map_append,List.map_cons,List.map_nil,encStr];try exact bW)
  ·(simp only[go_sem,hD,hY,hZ,gA,List.map_append,List.map_cons,List.map_nil,encStr];try exact bW)
  rintro⟨rest,k,out,n'⟩ ⟨h1,h2,h3,h4⟩ IH
  dsimp only at h1 h2 h3 h4
  subst h4
  cases rest with
  |nil=>
   have hD:=drop_nil h1
   simp only[Ar.said]at h2
   subst h2
   repeat' (first
 |simp only[go_sem,hD,hY,hZ,gA]
 | (with_reducible refine aD hQ ?_;exact bb))
  | cons a rest=>
   obtain⟨hY,g2,hD,g4⟩:=drop_cons h1
   have bO:k<4611686018427387904:=by omega
   simp only[Ar.said]at h2
   simp only[Ar.aY]at h3
   have wP:=fun s=>nu (x:=a.x) (by have:=Ar.dd (List.mem_of_getElem? hY);omega) (tA a (List.mem_of_getElem? hY)) s
   have hl:=lk a.x
   have hZ:(out.length+1)*17≤bA:=by unfold bA;omega
   rcases Bool.eq_false_or_eq_true a.ref with b1|b1
   ·simp only [b1,if_true]at h2
    have eK:=kL (l:=out++ [a.name]) (nx:=a.x.names) (n:=out.length+1) (by simp) (by simp;omega) (g:= .shared)
    simp only[List.map_append,List.map_cons,List.map_nil,encStr]at eK
    repeat' (first
 |simp only[go_sem,hD,hY,hZ,gA,b1,eK]
 |(with_reducible refine CU (wP _) ?_)
 | (with_reducible refine aD hQ ?_;exact bb))
    refine eO 1 1 ?_ ?_ (IH (rest,k+1,out++ [a.name]++a.x.names,_) ⟨g2,h2,by simp;omega,by simp<;>omega⟩ (Nat.lt_succ_self _))
    ·(simp only[go_sem,hD,hY,hZ,gA,aI bO,List.map_append,List.map_cons,List.map_nil,encStr];try exact bW)
    ·(simp only[go_sem,hD,hY,hZ,gA,aI bO,List.map_append,List.map_cons,List.map_nil,encStr];try exact bW)
   ·simp only [b1,Bool.false_eq_true,if_false]at h2
    have eK:=kL (l:=out) (nx:=a.x.names) rfl (by omega) (g:= .shared)
    repeat' (first
 |simp only[go_sem,hD,hY,hZ,gA,b1,eK]
 |(with_reducible refine CU (wP _) ?_)
 | (with_reducible refine aD hQ ?_;exact bb))
    refine eO 1 1 ?_ ?_ (IH (rest,k+1,out++a.x.names,_) ⟨g2,h2,by simp;omega,by simp<;>omega⟩ (Nat.lt_succ_self _))
    ·(simp only[go_sem,hD,hY,hZ,gA,aI bO];try exact bW)
    ·(simp only[go_sem,hD,hY,hZ,gA,aI bO];try exact bW)
 ·simp only [Sm.sS,hb,Bool.false_eq_true,if_false,List.nil_append]at hG
  have rY:(v.kind != 10 && v.name != [])=false:=by simpa using hb
  obtain⟨nx,hnx⟩ : ∃ nx,nx=v.x.names:=⟨_,rfl⟩
  rw[← hnx]at hG LS
  simp only[← hnx]at hx
  by_cases IA:nx = []
  ·subst IA
   simp only[List.map_nil]at hx
   have eK : ∀ o:List (List D),ix 1 16 (.slice .full 0 []) (.slice .shared 1 []) ⟨o,[]⟩=some (.slice .full 0 [],⟨o,[]⟩):=fun o=>by simp[ix,bA]
   have HB:(v.kind != 10)=false∨(v.kind != 10)=true∧(v.name != [])=false:=by
    cases h1:(v.kind != 10)
    ·exact .inl rfl
    ·rw[h1]at rY;exact .inr ⟨rfl,by simpa using rY⟩
   rcases HB with b1|⟨b1,b2⟩
   ·rcases Bool.eq_false_or_eq_true (v.name != [])with b2 | b2
    all_goals
     have b3:(v.name == []) = !(v.name != []):=by simp only[bne,Bool.not_not]
     rw[b2]at b3
     repeat' (first
 |simp only[go_sem,hD,hY,hZ,gA,b1,b2,b3,Bool.not_true,Bool.not_false,eK]
 |(with_reducible refine CU (hx _) ?_)
 | (with_reducible refine aD hQ ?_;simp only [aU,aV,bH,bI,go_sem,hD,hY,hZ,gA];repeat' (first | exact Ok.out | with_reducible refine iZ ?_ ?_ | (simp;done))))
    all_goals
     refine bl.qC 3 1 rfl ?_
     simp only[go_sem,hD,hY,hZ,gA]
     refine fa 1 1 (bl.ind (ι:=List Ar×Nat×List aG×Nat) (fun i=>v.args.drop i.2.1=i.1∧Ar.said i.2.2.1 i.1=R∧i.2.2.1.length+Ar.aY i.1≤2000000∧i.2.2.2=i.2.2.1.length) (fun i=>i.1.length)
      (fun i=> [(3, .slice (.tok 0) 1 (i.2.2.1.map encStr)),(1, .ptr 0 0),(25, .slice .shared 6 (v.args.map ew)),(26, .int .i64 (v.args.length:Int)),(27, .int .i64 (i.2.1:Int))]) (fun i=>⟨[bd v],[some i.2.2.2]⟩) ?_ (v.args,0,[],0) ⟨rfl,hG,by simp at LS ⊢;omega,by simp⟩)
     rintro⟨rest,k,out,n'⟩ ⟨h1,h2,h3,h4⟩ IH
     dsimp only at h1 h2 h3 h4
     subst h4
     cases rest with
     |nil=>
      have hD:=drop_nil h1
      simp only[Ar.said]at h2
      subst h2
      repeat' (first
 |simp only[go_sem,hD,hY,hZ,gA]
 |(with_reducible refine aD hQ ?_;exact bb))
     | cons a rest=>
      obtain⟨hY,g2,hD,g4⟩:=drop_cons h1
      have bO:k<4611686018427387904:=by omega
      simp only[Ar.said]at h2
      simp only[Ar.aY]at h3
      have wP:=fun s=>nu (x:=a.x) (by have:=Ar.dd (List.mem_of_getElem? hY);omega) (tA a (List.mem_of_getElem? hY)) s
      have hl:=lk a.x
      have hZ:(out.length+1)*17≤bA:=by unfold bA;omega
      rcases Bool.eq_false_or_eq_true a.ref with b1|b1
      ·simp only [b1,if_true]at h2
       have eK:=kL (l:=out++ [a.name]) (nx:=a.x.names) (n:=out.length+1) (by simp) (by simp;omega) (g:= .shared)
       simp only[List.map_append,List.map_cons,List.map_nil,encStr]at eK
       repeat' (first
 |simp only[go_sem,hD,hY,hZ,gA,b1,eK]
 |(with_reducible refine CU (wP _) ?_)
 |(with_reducible refine aD hQ ?_;exact bb))
       refine eO 1 1 ?_ ?_ (IH (rest,k+1,out++ [a.name]++a.x.names,_) ⟨g2,h2,by simp;omega,by simp<;>omega⟩ (Nat.lt_succ_self _))
       ·(simp only[go_sem,hD,hY,hZ,gA,aI bO,List.map_append,List.map_cons,List.map_nil,encStr];try exact bW)
       ·(simp only[go_sem,hD,hY,hZ,gA,aI bO,List.map_append,List.map_cons,List.map_nil,encStr];try exact bW)
      ·simp only [b1,Bool.false_eq_true,if_false]at h2
       have eK:=kL (l:=out) (nx:=a.x.names) rfl (by omega) (g:= .shared)
       repeat' (first
 |simp only[go_sem,hD,hY,hZ,gA,b1,eK]
 |(with_reducible refine CU (wP _) ?_)
 | (with_reducible refine aD hQ ?_;exact bb))
       refine eO 1 1 ?_ ?_ (IH (rest,k+1,out++a.x.names,_) ⟨g2,h2,by simp;omega,by simp<;>omega⟩ (Nat.lt_succ_self _))
       ·(simp only[go_sem,hD,hY,hZ,gA,aI bO];try exact bW)
       ·(simp only[go_sem,hD,hY,hZ,gA,aI bO];try exact bW)
   ·have b3:(v.name == [])=true:=by simpa using b2
    repeat' (first
 |simp only[go_sem,hD,hY,hZ,gA,b1,b2,b3,eK]
 |(with_reducible refine CU (hx _) ?_)
 | (with_reducible refine aD hQ ?_;exact bb))
    refine bl.qC 3 1 rfl ?_
    simp only[go_sem,hD,hY,hZ,gA]
    refine fa 1 1 (bl.ind (ι:=List Ar×Nat×List aG×Nat) (fun i=>v.args.drop i.2.1=i.1∧Ar.said i.2.2.1 i.1=R∧i.2.2.1.length+Ar.aY i.1≤2000000∧i.2.2.2=i.2.2.1.length) (fun i=>i.1.length)
     (fun i=> [(3, .slice (.tok 0) 1 (i.2.2.1.map encStr)),(1, .ptr 0 0),(25, .slice .shared 6 (v.args.map ew)),(26, .int .i64 (v.args.length:Int)),(27, .int .i64 (i.2.1:Int))]) (fun i=>⟨[bd v],[some i.2.2.2]⟩) ?_ (v.args,0,[],0) ⟨rfl,hG,by simp at LS ⊢;omega,by simp⟩)
    rintro⟨rest,k,out,n'⟩ ⟨h1,h2,h3,h4⟩ IH
    dsimp only at h1 h2 h3 h4
    subst h4
    cases rest with
    |nil=>
     have hD:=drop_nil h1
     simp only[Ar.said]at h2
     subst h2
     repeat' (first
 |simp only[go_sem,hD,hY,hZ,gA]
 | (with_reducible refine aD hQ ?_;exact bb))
    | cons a rest=>
     obtain⟨hY,g2,hD,g4⟩:=drop_cons h1
     have bO:k<4611686018427387904:=by omega
     simp only[Ar.said]at h2
     simp only[Ar.aY]at h3
     have wP:=fun s=>nu (x:=a.x) (by have:=Ar.dd (List.mem_of_getElem? hY);omega) (tA a (List.mem_of_getElem? hY)) s
     have hl:=lk a.x
     have hZ:(out.length+1)*17≤bA:=by unfold bA;omega
     rcases Bool.eq_false_or_eq_true a.ref with b1|b1
     ·simp only [b1,if_true]at h2
      have eK:=kL (l:=out++ [a.name]) (nx:=a.x.names) (n:=out.length+1) (by simp) (by simp;omega) (g:= .shared)
      simp only[List.map_append,List.map_cons,List.map_nil,encStr]at eK
      repeat' (first
 |simp only[go_sem,hD,hY,hZ,gA,b1,eK]
 |(with_reducible refine CU (wP _) ?_)
 |(with_reducible refine aD hQ ?_;exact bb))
      refine eO 1 1 ?_ ?_ (IH (rest,k+1,out++ [a.name]++a.x.names,_) ⟨g2,h2,by simp;omega,by simp<;>omega⟩ (Nat.lt_succ_self _))
      ·(simp only[go_sem,hD,hY,hZ,gA,aI bO,List.map_append,List.map_cons,List.map_nil,encStr];try exact bW)
      ·(simp only[go_sem,hD,hY,hZ,gA,aI bO,List.map_append,List.map_cons,List.map_nil,encStr];try exact bW)
     ·simp only [b1,Bool.false_eq_true,if_false]at h2
      have eK:=kL (l:=out) (nx:=a.x.names) rfl (by omega) (g:= .shared)
      repeat' (first
 |simp only[go_sem,hD,hY,hZ,gA,b1,eK]
 |(with_reducible refine CU (wP _) ?_)
 | (with_reducible refine aD hQ ?_;exact bb))
      refine eO 1 1 ?_ ?_ (IH (rest,k+1,out++a.x.names,_) ⟨g2,h2,by simp;omega,by simp<;>omega⟩ (Nat.lt_succ_self _))
      ·(simp only[go_sem,hD,hY,hZ,gA,aI bO];try exact bW)
      ·(simp only[go_sem,hD,hY,hZ,gA,aI bO];try exact bW)
  ·have eK : ∀ o:List (List D),ix 1 16 (.slice .full 0 []) (.slice .shared 1 (nx.map encStr)) ⟨o,[]⟩=some (.slice (.tok 0) 1 (nx.map encStr),⟨o,[some nx.length]⟩):=fun o=>by
    have:nx.length*17≤bA:=by unfold bA;omega
    cases nx with
    |nil=>exact absurd rfl IA
    |cons a r=>simp only[List.length_cons]at this;simp[ix,this]
   have HB:(v.kind != 10)=false∨(v.kind != 10)=true∧(v.name != [])=false:=by
    cases h1:(v.kind != 10)
    ·exact .inl rfl
    ·rw[h1]at rY;exact .inr ⟨rfl,by simpa using rY⟩
   rcases HB with b1|⟨b1,b2⟩
   ·rcases Bool.eq_false_or_eq_true (v.name != [])with b2 | b2
    all_goals
     have b3:(v.name == []) = !(v.name != []):=by simp only[bne,Bool.not_not]
     rw[b2]at b3
     repeat' (first
 |simp only[go_sem,hD,hY,hZ,gA,b1,b2,b3,Bool.not_true,Bool.not_false,eK]
 |(with_reducible refine CU (hx _) ?_)
 | (with_reducible refine aD hQ ?_;simp only [aU,aV,bH,bI,go_sem,hD,hY,hZ,gA];repeat' (first | exact Ok.out | with_reducible refine iZ ?_ ?_ | (simp;done))))
    all_goals
     refine fa 1 1 (bl.ind (ι:=List Ar×Nat×List aG×Nat) (fun i=>v.args.drop i.2.1=i.1∧Ar.said i.2.2.1 i.1=R∧i.2.2.1.length+Ar.aY i.1≤2000000∧i.2.2.2=i.2.2.1.length) (fun i=>i.1.length)
      (fun i=> [(3, .slice (.tok 0) 1 (i.2.2.1.map encStr)),(1, .ptr 0 0),(25, .slice .shared 6 (v.args.map ew)),(26, .int .i64 (v.args.length:Int)),(27, .int .i64 (i.2.1:Int))]) (fun i=>⟨[bd v],[some i.2.2.2]⟩) ?_ (v.args,0,nx,_) ⟨rfl,hG,by simp at LS ⊢;omega,by simp⟩)
     rintro⟨rest,k,out,n'⟩ ⟨h1,h2,h3,h4⟩ IH
     dsimp only at h1 h2 h3 h4
     subst h4
     cases rest with
     |nil=>
      have hD:=drop_nil h1
      simp only[Ar.said]at h2
      subst h2
      repeat' (first
 |simp only[go_sem,hD,hY,hZ,gA]
 |(with_reducible refine aD hQ ?_;exact bb))
     | cons a rest=>
      obtain⟨hY,g2,hD,g4⟩:=drop_cons h1
      have bO:k<4611686018427387904:=by omega
      simp only[Ar.said]at h2
      simp only[Ar.aY]at h3
      have wP:=fun s=>nu (x:=a.x) (by have:=Ar.dd (List.mem_of_getElem? hY);omega) (tA a (List.mem_of_getElem? hY)) s
      have hl:=lk a.x
      have hZ:(out.length+1)*17≤bA:=by unfold bA;omega
      rcases Bool.eq_false_or_eq_true a.ref with b1|b1
      ·simp only [b1,if_true]at h2
       have eK:=kL (l:=out++ [a.name]) (nx:=a.x.names) (n:=out.length+1) (by simp) (by simp;omega) (g:= .shared)
       simp only[List.map_append,List.map_cons,List.map_nil,encStr]at eK
       repeat' (first
 |simp only[go_sem,hD,hY,hZ,gA,b1,eK]
 |(with_reducible refine CU (wP _) ?_)
 |(with_reducible refine aD hQ ?_;exact bb))
       refine eO 1 1 ?_ ?_ (IH (rest,k+1,out++ [a.name]++a.x.names,_) ⟨g2,h2,by simp;omega,by simp<;>omega⟩ (Nat.lt_succ_self _))
       ·(simp only[go_sem,hD,hY,hZ,gA,aI bO,List.map_append,List.map_cons,List.map_nil,encStr];try exact bW)
       ·(simp only[go_sem,hD,hY,hZ,gA,aI bO,List.map_append,List.map_cons,List.map_nil,encStr];try exact bW)
      ·simp only [b1,Bool.false_eq_true,if_false]at h2
       have eK:=kL (l:=out) (nx:=a.x.names) rfl (by omega) (g:= .shared)
       repeat' (first
 |simp only[go_sem,hD,hY,hZ,gA,b1,eK]
 |(with_reducible refine CU (wP _) ?_)
 | (with_reducible refine aD hQ ?_;exact bb))
       refine eO 1 1 ?_ ?_ (IH (rest,k+1,out++a.x.names,_) ⟨g2,h2,by simp;omega,by simp<;>omega⟩ (Nat.lt_succ_self _))
       ·(simp only[go_sem,hD,hY,hZ,gA,aI bO];try exact bW)
       ·(simp only[go_sem,hD,hY,hZ,gA,aI bO];try exact bW)
   ·have b3:(v.name == [])=true:=by simpa using b2
    repeat' (first
 |simp only[go_sem,hD,hY,hZ,gA,b1,b2,b3,eK]
 |(with_reducible refine CU (hx _) ?_)
 | (with_reducible refine aD hQ ?_;exact bb))
    refine fa 1 1 (bl.ind (ι:=List Ar×Nat×List aG×Nat) (fun i=>v.args.drop i.2.1=i.1∧Ar.said i.2.2.1 i.1=R∧i.2.2.1.length+Ar.aY i.1≤2000000∧i.2.2.2=i.2.2.1.length) (fun i=>i.1.length)
     (fun i=> [(3, .slice (.tok 0) 1 (i.2.2.1.map encStr)),(1, .ptr 0 0),(25, .slice .shared 6 (v.args.map ew)),(26, .int .i64 (v.args.length:Int)),(27, .int .i64 (i.2.1:Int))]) (fun i=>⟨[bd v],[some i.2.2.2]⟩) ?_ (v.args,0,nx,_) ⟨rfl,hG,by simp at LS ⊢;omega,by simp⟩)
    rintro⟨rest,k,out,n'⟩ ⟨h1,h2,h3,h4⟩ IH
    dsimp only at h1 h2 h3 h4
    subst h4
    cases rest with
    |nil=>
     have hD:=drop_nil h1
     simp only[Ar.said]at h2
     subst h2
     repeat' (first
 |simp only[go_sem,hD,hY,hZ,gA]
 | (with_reducible refine aD hQ ?_;exact bb))
    | cons a rest=>
     obtain⟨hY,g2,hD,g4⟩:=drop_cons h1
     have bO:k<4611686018427387904:=by omega
     simp only[Ar.said]at h2
     simp only[Ar.aY]at h3
     have wP:=fun s=>nu (x:=a.x) (by have:=Ar.dd (List.mem_of_getElem? hY);omega) (tA a (List.mem_of_getElem? hY)) s
     have hl:=lk a.x
     have hZ:(out.length+1)*17≤bA:=by unfold bA;omega
     rcases Bool.eq_false_or_eq_true a.ref with b1|b1
     ·simp only [b1,if_true]at h2
      have eK:=kL (l:=out++ [a.name]) (nx:=a.x.names) (n:=out.length+1) (by simp) (by simp;omega) (g:= .shared)
      simp only[List.map_append,List.map_cons,List.map_nil,encStr]at eK
      repeat' (first
 |simp only[go_sem,hD,hY,hZ,gA,b1,eK]
 |(with_reducible refine CU (wP _) ?_)
 |(with_reducible refine aD hQ ?_;exact bb))
      refine eO 1 1 ?_ ?_ (IH (rest,k+1,out++ [a.name]++a.x.names,_) ⟨g2,h2,by simp;omega,by simp<;>omega⟩ (Nat.lt_succ_self _))
      ·(simp only[go_sem,hD,hY,hZ,gA,aI bO,List.map_append,List.map_cons,List.map_nil,encStr];try exact bW)
      ·(simp only[go_sem,hD,hY,hZ,gA,aI bO,List.map_append,List.map_cons,List.map_nil,encStr];try exact bW)
     ·simp only [b1,Bool.false_eq_true,if_false]at h2
      have eK:=kL (l:=out) (nx:=a.x.names) rfl (by omega) (g:= .shared)
      repeat' (first
 |simp only[go_sem,hD,hY,hZ,gA,b1,eK]
 |(with_reducible refine CU (wP _) ?_)
 |(with_reducible refine aD hQ ?_;exact bb))
      refine eO 1 1 ?_ ?_ (IH (rest,k+1,out++a.x.names,_) ⟨g2,h2,by simp;omega,by simp<;>omega⟩ (Nat.lt_succ_self _))
      ·(simp only[go_sem,hD,hY,hZ,gA,aI bO];try exact bW)
      ·(simp only[go_sem,hD,hY,hZ,gA,aI bO];try exact bW)
theorem k8 : ∀ (a b:List It) (n:Nat),It.fM n (a++b)=(It.fM n a && It.fM (n+a.length) b)
 | [],b,n=>by simp[It.fM]
 |i::a,b,n=>by
  simp only[List.cons_append,It.fM,k8 a b (n+1),List.length_cons]
  have:n+1+a.length=n+(a.length+1):=by omega
  rw[this]
  split<;>simp
theorem EI (n:Nat) (i:It):It.fM n [i] = true↔i.s.id=((n+1:Nat):Int)∧i.deep≤12∧i.s.one=true:=by
 simp only[It.fM]
 split
 ·rename_i h
  simp only[Bool.or_eq_true,bne_iff_ne,ne_eq,decide_eq_true_eq,Bool.not_eq_true']at h
  refine⟨fun h=>(Bool.false_ne_true h).elim,fun⟨h1,h2,h3⟩=>?_⟩
  rcases h with (h|h)|h
  ·exact(h h1).elim
  ·omega
  ·rw[h]at h3;cases h3
 ·rename_i h
  simp only[Bool.or_eq_true,bne_iff_ne,ne_eq,decide_eq_true_eq,Bool.not_eq_true',not_or,Decidable.not_not,Bool.not_eq_false]at h
  exact⟨fun _=>⟨h.1.1,by omega,h.2⟩,fun _=>rfl⟩
mutual
theorem BA (deep cf:Int) (aR:Bool) : ∀ (s:Sm) (out:List It),∃ new,iR deep cf aR out s=out++(⟨s,deep,cf,aR⟩::new)
 | ⟨id,kind,labels,name,proc,x,has,args,aZ,e⟩,out=>by
  simp only[iR]
  split
  ·obtain⟨n1,h1⟩:=qV (deep+1) id false aZ (out++ [⟨⟨id,kind,labels,name,proc,x,has,args,aZ,e⟩,deep,cf,aR⟩])
   obtain⟨n2,h2⟩:=qV (deep+1) id true e (dQ (deep+1) id false (out++ [⟨⟨id,kind,labels,name,proc,x,has,args,aZ,e⟩,deep,cf,aR⟩]) aZ)
   rw[h2,h1]
   exact⟨n1++n2,by simp⟩
  ·exact⟨[],rfl⟩
theorem qV (deep cf:Int) (aR:Bool) : ∀ (l:List Sm) (out:List It),∃ new,dQ deep cf aR out l=out++new
 | [],out=>⟨[],by simp[dQ]⟩
 | s::l,out=>by
  simp only[dQ]
  split
  ·obtain⟨n1,h1⟩:=BA deep cf aR s out
   obtain⟨n2,h2⟩:=qV deep cf aR l (iR deep cf aR out s)
   rw[h2,h1]
   exact⟨⟨s,deep,cf,aR⟩::n1++n2,by simp⟩
  ·exact⟨[],by simp⟩
end
theorem GK {nest:Int} {n:Nat} {s:Sm} (h:(Sm.pV nest n s).1=true) :
 n+1≤200∧s.id=((n+1:Nat):Int)∧s.one=true∧(Sm.gv (nest+1) (n+1) s.aZ).1=true∧(Sm.gv (nest+1) (Sm.gv (nest+1) (n+1) s.aZ).2 s.aR).1=true∧
 (Sm.pV nest n s).2=(Sm.gv (nest+1) (Sm.gv (nest+1) (n+1) s.aZ).2 s.aR).2:=by
 rw[FP]at h ⊢
 split at h
 ·cases h
 rename_i h1
 simp only[Bool.or_eq_true,bne_iff_ne,ne_eq,decide_eq_true_eq,Bool.not_eq_true',not_or,Decidable.not_not,Bool.not_eq_false]at h1
 split at h
 ·cases h
 rename_i h2
 have uE:(Sm.gv (nest+1) (n+1) s.aZ).1=true:=by simpa using h2
 refine⟨by omega,h1.1.1.2, ?_,uE,h, ?_⟩
 ·rw[EH,h1.1.2,h1.2];rfl
 ·rw[if_neg (by simp only[Bool.or_eq_true,bne_iff_ne,ne_eq,decide_eq_true_eq,Bool.not_eq_true',not_or,Decidable.not_not,Bool.not_eq_false];exact h1),if_neg h2]
theorem tB {nest:Int} {n:Nat} {l:List Sm} (h:(Sm.gv nest n l).1=true):(l = []∨nest≤12)∧Sm.gv nest n l=Sm.fh nest n l:=by
 unfold Sm.gv gate at *
 split at h
 ·cases h
 ·rename_i hc
  rw[if_neg hc]
  refine⟨?_,rfl⟩
  simp only[Bool.and_eq_true,decide_eq_true_eq,not_and]at hc
  cases l with
  |nil=>exact .inl rfl
  |cons s l=>right;simp only[List.length_cons]at hc;omega
mutual
theorem RO : ∀ (s:Sm) (nest cf:Int) (aR:Bool) (n:Nat) (out:List It),nest≤12→out.length≤n→n≤200→(Sm.pV nest n s).1=true→
 ∃ new,iR nest cf aR out s=out++new∧It.fM n new=true∧n+new.length=(Sm.pV nest n s).2∧(Sm.pV nest n s).2≤200
 | ⟨id,kind,labels,name,proc,x,has,args,aZ,e⟩,nest,cf,aR,n,out,RP,ho,hn,h=>by
  obtain⟨h1,h2,h3,h4,h5,h6⟩:=GK h
  dsimp only at h2 h4 h5 h6
  rw[h6]
  obtain⟨g1,e1⟩:=tB h4
  rw[e1]at h4 h5 ⊢
  obtain⟨g2,e2⟩:=tB h5
  rw[e2]at h5 ⊢
  have pN:It.fM n [(⟨⟨id,kind,labels,name,proc,x,has,args,aZ,e⟩,nest,cf,aR⟩:It)] = true:=(EI _ _).2 ⟨h2,RP,h3⟩
  obtain⟨n1,k1,k2,k3,k4⟩:=wQ aZ (nest+1) id false (n+1) (out++ [⟨⟨id,kind,labels,name,proc,x,has,args,aZ,e⟩,nest,cf,aR⟩]) g1 (by simp;omega) h1 h4
  obtain⟨n2,j1,j2,j3,j4⟩:=wQ e (nest+1) id true _ (out++ [⟨⟨id,kind,labels,name,proc,x,has,args,aZ,e⟩,nest,cf,aR⟩]++n1) g2 (by simp;omega) k4 h5
  simp only[iR]
  rw[if_pos (by simpa using RP),k1,j1]
  refine⟨⟨⟨id,kind,labels,name,proc,x,has,args,aZ,e⟩,nest,cf,aR⟩::(n1++n2),by simp, ?_, ?_,j4⟩
  ·have:(⟨⟨id,kind,labels,name,proc,x,has,args,aZ,e⟩,nest,cf,aR⟩:It)::(n1++n2) = [⟨⟨id,kind,labels,name,proc,x,has,args,aZ,e⟩,nest,cf,aR⟩]++n1++n2:=by simp
   rw[this,k8,k8,pN,Bool.true_and]
   have e3:n+([(⟨⟨id,kind,labels,name,proc,x,has,args,aZ,e⟩,nest,cf,aR⟩:It)]++n1).length=(Sm.fh (nest+1) (n+1) aZ).2:=by simp;omega
   rw[e3,j2]
   have e4:n + [(⟨⟨id,kind,labels,name,proc,x,has,args,aZ,e⟩,nest,cf,aR⟩:It)].length=n+1:=rfl
   rw[e4,k2];rfl
  ·simp only[List.length_cons,List.length_append];omega
theorem wQ : ∀ (l:List Sm) (nest cf:Int) (aR:Bool) (n:Nat) (out:List It),(l = []∨nest≤12)→out.length≤n→n≤200→(Sm.fh nest n l).1=true→
 ∃ new,dQ nest cf aR out l=out++new∧It.fM n new=true∧n+new.length=(Sm.fh nest n l).2∧(Sm.fh nest n l).2≤200
 | [],nest,cf,aR,n,out,RP,ho,hn,h=>⟨[],by simp[dQ],rfl,by simp[Sm.fh],by simpa[Sm.fh]using hn⟩
 |s::l,nest,cf,aR,n,out,RP,ho,hn,h=>by
  have ac4:nest≤12:=RP.resolve_left (by simp)
  simp only[Sm.fh]at h ⊢
  split at h
  ·cases h
  rename_i hc
  rw[if_neg hc]
  obtain⟨n1,k1,k2,k3,k4⟩:=RO s nest cf aR n out ac4 ho hn (by simpa using hc)
  obtain⟨n2,j1,j2,j3,j4⟩:=wQ l nest cf aR _ (out++n1) (.inr ac4) (by simp;omega) k4 h
  simp only[dQ]
  rw[if_pos (by simp only[decide_eq_true_eq];omega),k1,j1]
  refine⟨n1++n2,by simp, ?_,by simp;omega,j4⟩
  rw[k8,k2,k3,j2];rfl
end
mutual
theorem RQ : ∀ (s:Sm) (nest cf:Int) (aR:Bool) (n:Nat) (out new:List It),iR nest cf aR out s=out++new→It.fM n new=true→out.length≤n→n+new.length≤200→
 Sm.pV nest n s=(true,n+new.length)∧nest≤12
 | ⟨id,kind,labels,name,proc,x,has,args,aZ,e⟩,nest,cf,aR,n,out,new,gR,hm,ho,hn=>by
  obtain⟨n0,h0⟩:=BA nest cf aR ⟨id,kind,labels,name,proc,x,has,args,aZ,e⟩ out
  have e0:new = ⟨⟨id,kind,labels,name,proc,x,has,args,aZ,e⟩,nest,cf,aR⟩::n0:=List.append_cancel_left (gR.symm.trans h0)
  subst e0
  have ag9:(⟨⟨id,kind,labels,name,proc,x,has,args,aZ,e⟩,nest,cf,aR⟩:It)::n0 = [⟨⟨id,kind,labels,name,proc,x,has,args,aZ,e⟩,nest,cf,aR⟩]++n0:=rfl
  rw[ag9,k8,Bool.and_eq_true]at hm
  obtain⟨ny,jC⟩:=hm
  obtain⟨c1,c2,c3⟩:=(EI _ _).1 ny
  dsimp only at c1 c2 c3
  simp only[List.length_cons]at hn ⊢
  have Vi:dQ (nest+1) id true (dQ (nest+1) id false (out++ [⟨⟨id,kind,labels,name,proc,x,has,args,aZ,e⟩,nest,cf,aR⟩]) aZ) e=out++([⟨⟨id,kind,labels,name,proc,x,has,args,aZ,e⟩,nest,cf,aR⟩]++n0):=by
   simp only[iR]at gR
   rw[if_pos (by simpa using c2)]at gR
   exact gR
  obtain⟨n1,g1⟩:=qV (nest+1) id false aZ (out++ [⟨⟨id,kind,labels,name,proc,x,has,args,aZ,e⟩,nest,cf,aR⟩])
  obtain⟨n2,g2⟩:=qV (nest+1) id true e (dQ (nest+1) id false (out++ [⟨⟨id,kind,labels,name,proc,x,has,args,aZ,e⟩,nest,cf,aR⟩]) aZ)
  have en:n0=n1++n2:=by
   rw[g2,g1]at Vi
   simp only[List.append_assoc,List.append_cancel_left_eq]at Vi
   exact Vi.symm
  subst en
  have Vj:It.fM (n+1) (n1++n2)=true:=jC
  rw[k8,Bool.and_eq_true]at Vj
  simp only[List.length_append]at hn ⊢
  obtain⟨r1,r2⟩:=wR aZ (nest+1) id false (n+1) _ n1 g1 Vj.1 (by simp;omega) (by omega)
  obtain⟨q1,q2⟩:=wR e (nest+1) id true (n+1+n1.length) _ n2 g2 Vj.2 (by rw[g1];simp;omega) (by omega)
  refine⟨?_,c2⟩
  have gg : ∀ {l:List Sm} {m:Nat} {r:Bool×Nat},Sm.fh (nest+1) m l=r→(l = []∨nest+1≤12)→Sm.gv (nest+1) m l=r:=by
   intro l m r h1 h2
   unfold Sm.gv gate
   rw[if_neg]
   ·exact h1
   ·simp only [Bool.and_eq_true,decide_eq_true_eq,not_and]
    rcases h2 with h2|h2
    ·subst h2;simp
    ·omega
  have t1:=gg r1 r2
  have t2:=gg q1 q2
  rw[FP]
  dsimp only
  rw[t1]
  dsimp only
  rw[t2]
  rw[EH,Bool.and_eq_true]at c3
  rw[if_neg]
  ·simp;omega
  ·simp only [Bool.or_eq_true,bne_iff_ne,ne_eq,decide_eq_true_eq,Bool.not_eq_true',not_or,Decidable.not_not,Bool.not_eq_false]
   exact⟨⟨⟨by omega,c1⟩,c3.1⟩,c3.2⟩
theorem wR : ∀ (l:List Sm) (nest cf:Int) (aR:Bool) (n:Nat) (out new:List It),dQ nest cf aR out l=out++new→It.fM n new=true→out.length≤n→n+new.length≤200→
 Sm.fh nest n l=(true,n+new.length)∧(l = []∨nest≤12)
 | [],nest,cf,aR,n,out,new,gR,hm,ho,hn=>by
  simp only[dQ]at gR
  have:new = []:=by simpa using gR
  subst this
  exact⟨by simp[Sm.fh], .inl rfl⟩
 | s::l,nest,cf,aR,n,out,new,gR,hm,ho,hn=>by
  simp only[dQ]at gR
  rw[if_pos (by simp only[decide_eq_true_eq];omega)]at gR
  obtain⟨n1,g1⟩:=BA nest cf aR s out
  obtain⟨n2,g2⟩:=qV nest cf aR l (iR nest cf aR out s)
  have en:new=(⟨s,nest,cf,aR⟩::n1)++n2:=by
   rw[g2,g1,List.append_assoc,List.append_cancel_left_eq]at gR
   exact gR.symm
  subst en
  rw[k8,Bool.and_eq_true]at hm
  rw[List.length_append]at hn ⊢
  obtain⟨r1,r2⟩:=RQ s nest cf aR n out _ g1 hm.1 ho (by omega)
  obtain⟨q1,q2⟩:=wR l nest cf aR (n+(⟨s,nest,cf,aR⟩::n1:List It).length) _ n2 g2 hm.2 (by rw[g1,List.length_append];omega) (by omega)
  refine⟨?_, .inr r2⟩
  simp only[Sm.fh,r1,Bool.not_true,Bool.false_eq_true,↓reduceIte,q1]
  congr 1;omega
end
theorem BB : ∀ (l:List Pc) (out:List It),out.length≤200→(Pc.fh out.length l=true↔Pc.nY l=true∧∃ new,allM out l=out++new∧(out++new).length≤200∧It.fM out.length new=true)
 | [],out,ho=>by simp[Pc.fh,Pc.nY,allM,It.fM];exact ho
 | f::l,out,ho=>by
  have pW : ∀ (l:List Pc) (out:List It),∃ new,allM out l=out++new:=by
   intro l
   induction l with
   |nil=>intro out;exact⟨[],by simp[allM]⟩
   | cons f l ih=>
    intro out
    simp only[allM]
    split
    ·exact⟨_,rfl⟩
    ·obtain⟨n1,h1⟩:=ih (out++f.flat)
     exact⟨f.flat++n1,by rw[h1,List.append_assoc]⟩
  simp only[Pc.fh,Pc.nY]
  have aha:(decide ((f.params.length:Int) > 8) ||decide ((f.vars.length:Int) > 16) || !(isName f.name) || !(fc f.vars) || !(fc f.fin))=(!(isName f.name) ||decide ((f.params.length:Int) > 8) ||decide ((f.vars.length:Int) > 16) || !(fc f.vars) || !(fc f.fin)):=by
   cases isName f.name<;>simp
  rw[aha]
  split
  ·simp
  split
  ·simp
  have hg:Sm.gv 1 out.length f.body=Sm.fh 1 out.length f.body:=by unfold Sm.gv gate;rw[if_neg (by simp)]
  rw[hg]
  constructor
  ·intro h
   split at h
   ·cases h
   rename_i hc
   obtain⟨n1,k1,k2,k3,k4⟩:=wQ f.body 1 0 false out.length [] (.inr (by omega)) (by simp) ho (by simpa using hc)
   have gR:f.flat=n1:=by unfold Pc.flat;rw[k1];rfl
   rw[← k3, ← List.length_append]at h
   obtain⟨hh,n2,j1,j2,j3⟩:=(BB l (out++n1) (by rw[List.length_append];omega)).1 h
   refine⟨hh,n1++n2, ?_,by simpa using j2, ?_⟩
   ·simp only [allM,gR]
    rw[if_neg (by simp only[List.length_append,decide_eq_true_eq];omega),j1,List.append_assoc]
   ·rw[k8,k2, ← List.length_append,j3];rfl
  ·rintro⟨hh,new,j1,j2,j3⟩
   simp only[allM]at j1
   split at j1
   ·rename_i hc
    have:new=f.flat:=(List.append_cancel_left j1).symm
    subst this
    simp only[decide_eq_true_eq]at hc
    omega
   rename_i hc
   simp only[decide_eq_true_eq]at hc
   obtain⟨n2,g2⟩:=pW l (out++f.flat)
   have en:new=f.flat++n2:=by
    rw[g2,List.append_assoc]at j1
    exact(List.append_cancel_left j1).symm
   subst en
   rw[k8,Bool.and_eq_true]at j3
   rw[List.length_append,List.length_append]at j2
   obtain⟨r1,_⟩:=wR f.body 1 0 false out.length [] f.flat (by unfold Pc.flat;rfl) j3.1 (by simp) (by omega)
   rw[r1]
   simp only[Bool.not_true,Bool.false_eq_true,↓reduceIte]
   rw[← List.length_append]
   exact(BB l (out++f.flat) (by rw[List.length_append];omega)).2 ⟨hh,n2,g2,by simp;omega,by rw[List.length_append];exact j3.2⟩
theorem Cj (p:Pg):p.FR=p.may:=by
 have h:=BB p.procs [] (by simp)
 unfold Pg.FR Pg.may
 split
 ·rfl
 ·have e:Pc.fh 0 p.procs=(if !(Pc.nY p.procs)then false else if decide ((p.all.length:Int) > 200)then false else It.fM 0 p.all):=by
   rw[Bool.eq_iff_iff]
   have h':Pc.fh 0 p.procs=true↔_:=h
   rw[h']
   have ha:p.all=allM [] p.procs:=rfl
   constructor
   ·rintro⟨h1,new,h2,h3,h4⟩
    rw[ha,h2,h1]
    simp only[List.nil_append]at h3 ⊢
    simp only[Bool.not_true,Bool.false_eq_true,↓reduceIte]
    rw[if_neg (by simp only[decide_eq_true_eq];omega)]
    exact h4
   ·intro h1
    cases hh:Pc.nY p.procs
    ·rw[hh]at h1;simp at h1
    ·rw [hh]at h1
     simp only[Bool.not_true,Bool.false_eq_true,↓reduceIte]at h1
     split at h1
     ·cases h1
     ·rename_i hc
      simp only[decide_eq_true_eq]at hc
      exact⟨rfl,p.all,by rw[ha];rfl,by simp;omega,h1⟩
  exact e
def anG (x:aG):List aG→Bool
 | []=>false
 |s::l=>if x==s then true else anG x l
def qg (pre:List aG):List aG→Bool
 | []=>false
 |s::l=>if fu pre s then true else qg (pre++ [s]) l
def fF (l:List aG):Bool:=qg [] l
theorem RR {l:List aG} {k:Nat} {a:aG} (h:l[k]? = some a):l.take (k+1)=l.take k++ [a]:=by rw[List.take_add_one,h];rfl
theorem DC {l:List aG} (hl:l.length<4611686018427387904) (g:Tag) (s:St):aF Tryz.prog oh [.slice g 1 (l.map encStr)] s (.bool (fF l)) s:=by
 refine aF.XH (d':= .slice .shared 1 (l.map encStr)) ?_ (Wk.shared _ _ _)
 refine aF.pure ?_ (by simp[D.bL,D.ok,Tag.ok,fb]) rfl s
 generalize h:fF l=p
 simp only[fF]at h
 unfold S0
 refine aF.go Es rfl fun B Q hB hQ=>?_
 have⟨hD,hY,hZ,gA⟩:=bP
 repeat' (first
 |simp only[go_sem,hD,hY,hZ,gA]
 |(with_reducible first|refine bo fun hc=>?_|refine bp fun hc=>?_|refine bq (fun hc=>?_) fun hc=>?_)<;>(try simp only[hc,bs,↓reduceIte]at h)<;>try simp only[hc]
 |(with_reducible refine aD hQ ?_;exact ga))
 refine fa 0 0 (bl.ind (ι:=List aG×Nat) (fun i=>l.drop i.2=i.1∧qg (l.take i.2) i.1=p) (fun i=>i.1.length)
  (fun i=> [(0, .slice .shared 1 (l.map encStr)),(5, .slice .shared 1 (l.map encStr)),(6, .int .i64 (l.length:Int)),(7, .int .i64 (i.2:Int))]) (fun i=>⟨[],[]⟩) ?_ (l,0) ⟨rfl,h⟩)
 rintro⟨rest,k⟩ ⟨h1,h⟩ IH
 dsimp only at h1 h
 cases rest with
 |nil=>
  have hD:=drop_nil h1
  simp only[qg]at h
  repeat' (first
 |simp only[go_sem,hD,hY,hZ,gA]
 |(with_reducible first|refine bo fun hc=>?_|refine bp fun hc=>?_|refine bq (fun hc=>?_) fun hc=>?_)<;>(try simp only[hc,bs,↓reduceIte]at h)<;>try simp only[hc]
 |(with_reducible refine aD hQ ?_;exact ga))
 |cons a rest=>
  obtain⟨hY,g2,hD,g4⟩:=drop_cons h1
  have bO:k<4611686018427387904:=by omega
  simp only[qg]at h
  have hc:=jB (l:=l.take k) (by rw[List.length_take];omega) a
  have e1:List.drop 0 (List.take k (l.map encStr))=(l.take k).map encStr:=by simp[List.map_take]
  have c1:((0:Int)≤(k:Int))=True:=by simp
  have c2:((k:Int)≤(l.length:Int))=True:=by simp only[eq_iff_iff,iff_true];omega
  have e2:List.take k (l.map encStr)=(l.take k).map encStr:=by simp[List.map_take]
  repeat' (first
 |simp only[go_sem,hD,hY,hZ,gA,e1,e2,c1,c2,or_true,true_and,and_self,ite_self,Int.toNat_natCast,List.drop_zero]
 |(with_reducible refine CU (hc _ _) ?_)
 |(with_reducible first|refine bo fun hc=>?_|refine bp fun hc=>?_|refine bq (fun hc=>?_) fun hc=>?_)<;>(try simp only[hc,bs,↓reduceIte]at h)<;>try simp only[hc]
 |(with_reducible refine aD hQ ?_;(try cases h);simp only[aU,aV,bH,bI,go_sem,hD,hY,hZ,gA,e1,e2,c1,c2,or_true,true_and,and_self,ite_self,Int.toNat_natCast,List.drop_zero];try exact cv))
  refine eO 0 0 ?_ ?_ (IH (rest,k+1) ⟨g2,by dsimp only;rw[RR (by assumption)];exact h⟩ (Nat.lt_succ_self _))
  ·(simp only[go_sem,hD,hY,hZ,gA,aI bO];try exact bW)
  ·(simp only[go_sem,hD,hY,hZ,gA,aI bO];try exact bW)
end Go.Abs
