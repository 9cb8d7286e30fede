/-
  What is proved here: part 2 of the road to the claim (Codes1, Have1, Codes2, Have2, Codes3, Codes4, Have4, Codes5, Have5, Have3, MirLex, MirMay, Prs, Lex1, Lex2, RefLex1, Prs2, Ref1, Ref2, RefMay2, Flat1, Flat2, Flat3, Sl1, MirFlat2, Sl2, TMay1, TMay2, RefMay3, RefMay4, TMay3, TMay4, MayFine, MayEq, Nm1, Nm2, Nm3, MayEq2, Sc1).
  No conditions.
-/
import Derived.Test.YtpjadlleefgcpaaGreatRnG1
import Derived.Test.YtpjadlleefgcpaaGreatProg
import Derived.KernelRfl

set_option linter.unusedSimpArgs false
set_option linter.unusedVariables false
namespace Go.Abs
abbrev Q9O:AC:= .seq (.run [.o 1 (.box bt),(.o 2 (.mv (.k (.val (.complex .f64 0 0)))))]) (.seq (.run [.o 3 (.aq bu 1), .o 4 (.load cB false 1), .o 5 (.qK (.ofInt .f64) fi fi), .o 6 (.aq bu 2), .o 7 (.load dD false 1), .o 8 (.qK (.ofInt .f64) cW cW), .o 9 (.qK .Ig cm de), .m 2 dq]) .ret)
abbrev Q9Q:AC:= .run [(.o 3 (.dt [(.str [])] 1 1 [(0,(.k (.str [118])))])), .c 4 rj [(.k (.int .i64 2))],(.o 5 (.build [(.int .i64 0),(.int .i64 0),(.slice .full 0 []),(.str []),(.str []),(.int .i64 0),(.int .i64 0),(.str []),(.slice .full 0 []),(.bool false),(.slice .full 0 []),(.slice .full 0 []),(.slice .full 0 [])] [(0,(1,(.k (.int .i64 1)))),(1,(1,(.k (.int .i64 1)))),(3,(1,(.k (.str [118])))),(5,(4,fi))])), .c 6 rj [(.k (.int .i64 3))], .o 7 (.build [(.bool false),(.str []),(.int .i64 0),(.int .i64 0),(.str []),(.slice .full 0 [])] [(2,(4,dD))]),(.o 8 (.build [(.bool false),(.str []),(.int .i64 0),(.int .i64 0),(.str []),(.slice .full 0 [])] [(0,(1,(.k (.bool true)))),(1,(1,(.k (.str [118]))))])), .o 9 (.dt [(.bool false),(.str []),(.int .i64 0),(.int .i64 0),(.str []),(.slice .full 0 [])] 6 2 [(0,cW),(1,de)]),(.o 10 (.build [(.int .i64 0),(.int .i64 0),(.slice .full 0 []),(.str []),(.str []),(.int .i64 0),(.int .i64 0),(.str []),(.slice .full 0 []),(.bool false),(.slice .full 0 []),(.slice .full 0 []),(.slice .full 0 [])] [(0,(1,(.k (.int .i64 2)))),(1,(1,(.k (.int .i64 4)))),(3,(1,(.k (.str [103])))),(4,(1,(.k (.str [112])))),(10,(1,dq))])),(.c 11 ld [(.k (.str [118]))]),(.o 12 (.build [(.int .i64 0),(.int .i64 0),(.slice .full 0 []),(.str []),(.str []),(.int .i64 0),(.int .i64 0),(.str []),(.slice .full 0 []),(.bool false),(.slice .full 0 []),(.slice .full 0 []),(.slice .full 0 [])] [(0,(1,(.k (.int .i64 3)))),(1,(1,(.k (.int .i64 3)))),(5,(4,cH))])),(.c 13 ld [(.k (.str [103]))]),(.o 14 (.build [(.int .i64 0),(.int .i64 0),(.slice .full 0 []),(.str []),(.str []),(.int .i64 0),(.int .i64 0),(.str []),(.slice .full 0 []),(.bool false),(.slice .full 0 []),(.slice .full 0 []),(.slice .full 0 [])] [(0,(1,(.k (.int .i64 4)))),(1,(1,(.k (.int .i64 3)))),(5,(4,c6))])), .o 15 (.dt [(.int .i64 0),(.int .i64 0),(.slice .full 0 []),(.str []),(.str []),(.int .i64 0),(.int .i64 0),(.str []),(.slice .full 0 []),(.bool false),(.slice .full 0 []),(.slice .full 0 []),(.slice .full 0 [])] 13 4 [(0,cm),(1,cf),(2,cT),(3,cO)]),(.o 16 (.build [(.str []),(.slice .full 0 []),(.slice .full 0 []),(.slice .full 0 []),(.slice .full 0 [])] [(0,(1,(.k (.str [109,97,105,110])))),(2,(1,cB)),(3,(1,dC))])), .o 1 (.alloc [(.str []),(.slice .full 0 []),(.slice .full 0 []),(.slice .full 0 []),(.slice .full 0 [])]), .op none none (.store bu dc 5)]
abbrev Q9R:AC:= .run [(.o 17 (.build [(.str []),(.bool false)] [(0,(1,(.k (.str [120]))))])),(.o 18 (.build [(.str []),(.bool false)] [(0,(1,(.k (.str [121])))),(1,(1,(.k (.bool true))))])), .o 19 (.dt [(.str []),(.bool false)] 2 2 [(0,dE),(1,dA)]),(.o 20 (.dt [(.str [])] 1 1 [(0,(.k (.str [101])))])),(.c 21 ld [(.k (.str [121]))]),(.c 22 ld [(.k (.str [120]))]), .c 23 uO [(.k (.int .i64 8)),dW,ew],(.o 24 (.build [(.int .i64 0),(.int .i64 0),(.slice .full 0 []),(.str []),(.str []),(.int .i64 0),(.int .i64 0),(.str []),(.slice .full 0 []),(.bool false),(.slice .full 0 []),(.slice .full 0 []),(.slice .full 0 [])] [(0,(1,(.k (.int .i64 5)))),(1,(1,(.k (.int .i64 1)))),(3,(1,(.k (.str [121])))),(5,(4,ey))])),(.c 25 ld [(.k (.str [121]))]), .c 26 rj [(.k (.int .i64 9))], .c 27 uO [(.k (.int .i64 12)),eU,fk],(.o 28 (.build [(.int .i64 0),(.int .i64 0),(.slice .full 0 []),(.str []),(.str []),(.int .i64 0),(.int .i64 0),(.str []),(.slice .full 0 []),(.bool false),(.slice .full 0 []),(.slice .full 0 []),(.slice .full 0 [])] [(0,(1,(.k (.int .i64 7)))),(1,(1,(.k (.int .i64 10)))),(3,(1,(.k (.str [101]))))])), .o 29 (.dt [(.int .i64 0),(.int .i64 0),(.slice .full 0 []),(.str []),(.str []),(.int .i64 0),(.int .i64 0),(.str []),(.slice .full 0 []),(.bool false),(.slice .full 0 []),(.slice .full 0 []),(.slice .full 0 [])] 13 1 [(0,fR)]),(.o 30 (.build [(.int .i64 0),(.int .i64 0),(.slice .full 0 []),(.str []),(.str []),(.int .i64 0),(.int .i64 0),(.str []),(.slice .full 0 []),(.bool false),(.slice .full 0 []),(.slice .full 0 []),(.slice .full 0 [])] [(0,(1,(.k (.int .i64 6)))),(1,(1,(.k (.int .i64 5)))),(5,(4,fl)),(11,(1,gb))])),(.c 31 ld [(.k (.str [121]))]),(.o 32 (.build [(.int .i64 0),(.int .i64 0),(.slice .full 0 []),(.str []),(.str []),(.int .i64 0),(.int .i64 0),(.str []),(.slice .full 0 []),(.bool false),(.slice .full 0 []),(.slice .full 0 []),(.slice .full 0 [])] [(0,(1,(.k (.int .i64 8)))),(1,(1,(.k (.int .i64 9)))),(9,(1,(.k (.bool true)))),(5,(4,gf))])), .o 33 (.dt [(.int .i64 0),(.int .i64 0),(.slice .full 0 []),(.str []),(.str []),(.int .i64 0),(.int .i64 0),(.str []),(.slice .full 0 []),(.bool false),(.slice .full 0 []),(.slice .full 0 []),(.slice .full 0 [])] 13 3 [(0,eR),(1,gw),(2,gF)]),(.o 34 (.build [(.str []),(.slice .full 0 []),(.slice .full 0 []),(.slice .full 0 []),(.slice .full 0 [])] [(0,(1,(.k (.str [112])))),(1,(1,dV)),(4,(1,ej)),(3,(1,gG))])), .o 2 (.alloc [(.str []),(.slice .full 0 []),(.slice .full 0 []),(.slice .full 0 []),(.slice .full 0 [])]), .op none none (.store dw iE 5)]
abbrev Q9T:AC:= .seq (.run [(.o 35 (.dt [(.str [])] 1 1 [(0,(.k (.str [103])))])), .o 36 (.load bu true 5), .o 37 (.load dw true 5), .o 38 (.dt [(.str []),(.slice .full 0 []),(.slice .full 0 []),(.slice .full 0 []),(.slice .full 0 [])] 5 2 [(0,iw),(1,jg)]), .o 39 (.build [(.slice .full 0 []),(.slice .full 0 [])] [(0,(1,gR)),(1,(1,jO))]), .op none none (.store bt jB 2)]) .ret
abbrev Q9W:AC:= .seq (.run [.o 0 (.alloc [(.slice .full 0 []),(.slice .full 0 [])])]) (.seq Q9Q (.seq Q9R Q9T))
abbrev QA6:AC:= .seq (.seq (.run [.m 6 cm, .m 7 bt, .o 8 (.len cW), .o 9 (.bin .lss dD de), .m 10 dq, .g 11 10 true (.mv bu), .g 12 10 true (.bin .leq cH (.k (.int .i64 20000))), .o 13 (.pick cf cT (.k (.bool false)))]) (.cond c6 .skip (.exit 0))) (.seq (.block 1 (.run [.m 16 bt, .m 17 cm, .o 18 (.cd dc dE 1), .o 19 (.load dA false 1), .m 20 bu, .c 21 gv [dV,ej], .m 1 dW])) (.run [.m 14 cm, .o 15 (.bin .add cO (.k (.int .i64 1))), .m 5 dC]))
abbrev QAC:AC:= .seq (.seq (.run [.o 5 (.mv (.k (.int .i64 0)))]) (.block 0 (.loop QA6))) (.seq (.run [.m 22 bu, .m 4 ew]) .ret)
abbrev QAD:AC:= .seq (.run [.o 4 (.mv (.k (.int .i64 0)))]) QAC
abbrev QAI:AC:= .cond c6 (.seq (.run [.o 4 (.mv (.k (.int .i64 20001)))]) .ret) .skip
abbrev QAM:AC:= .seq (.seq (.run [.m 5 bu, .o 6 (.bin .gtr cm (.k (.int .i64 20000))), .m 7 dD, .g 8 7 false (.mv bt), .g 9 7 false (.u7 de), .g 10 7 false (.mv bu), .g 11 7 false (.bin .sub (.k (.int .i64 20000)) cf), .g 12 7 false (.bin .geq dq cH), .o 13 (.pick cW (.k (.bool true)) cT)]) QAI) (.seq (.run [.m 14 bu, .o 15 (.bin .add cO (.k (.int .i64 1))), .m 16 bt, .o 17 (.u7 dc), .o 18 (.bin .add dC dE), .m 4 dA]) .ret)
abbrev QAN:AC:= .seq (.run [.o 4 (.mv (.k (.int .i64 0)))]) QAM
abbrev QAU:AC:= .par [.o 22 (.aq dD 4), .o 23 (.load ew false 1), .o 24 (.aq dD 3), .o 25 (.load eR false 1), .o 26 (.aq dD 2), .o 27 (.load fk false 1), .o 28 (.aq dD 5), .o 29 (.load fR true 4), .m 30 bu, .c 31 j7 [gb,gw], .c 32 jI [fl,gf], .c 33 gv [eU,gF], .c 34 gv [ey,gG], .m 1 iE] [(6,0),(7,0),(8,0),(9,0),(4,0),(5,1),(10,0),(2,0),(3,2),(11,0),(0,0),(1,3),(12,0),(13,0)]
abbrev QAZ:AC:= .par [.o 46 (.aq dD 10), .o 47 (.load lK false 1), .m 48 cW, .o 49 (.cd lV kT 6), .o 50 (.aq kU 1), .o 51 (.load lL false 1), .o 52 (.aq dD 10), .o 53 (.load kW false 1), .m 54 cW, .o 55 (.cd lM lW 6), .o 56 (.aq lX 2), .o 57 (.load nZ true 4), .m 58 bu, .c 59 j7 [pd,oI], .c 60 gv [kV,mJ], .m 1 pT] [(6,0),(7,0),(8,0),(9,0),(10,0),(11,0),(12,0),(13,0),(0,0),(1,1),(2,0),(3,0),(4,0),(5,1),(14,0),(15,0)]
abbrev QB3:AC:= .seq (.seq (.run [.m 35 cW, .o 36 (.aq dD 10), .o 37 (.load iw false 1), .o 38 (.len jg), .o 39 (.bin .lss gR jO), .m 40 jB, .g 41 40 true (.mv bu), .g 42 40 true (.bin .leq jP (.k (.int .i64 20000))), .o 43 (.pick j9 kF (.k (.bool false)))]) (.cond ku .skip (.exit 2))) (.seq (.block 3 QAZ) (.run [.m 44 cW, .o 45 (.bin .add kG (.k (.int .i64 1))), .m 7 lJ]))
abbrev QB7:AC:= .par [.o 61 (.aq dD 12), .o 62 (.load rz false 1), .o 63 (.aq dD 11), .o 64 (.load rA false 1), .m 65 bu, .c 66 kK [rB,vB], .c 67 kK [qw,xA], .m 1 xB] [(2,0),(3,0),(4,0),(5,0),(0,0),(1,1),(6,0),(7,0)]
abbrev QB8:AC:= .seq (.seq (.run [.o 7 (.mv (.k (.int .i64 0)))]) (.block 2 (.loop QB3))) QB7
abbrev QBD:AC:= .seq (.block 1 (.seq (.run [.m 18 bt, .m 19 cm, .o 20 (.cd dA dV 13), .o 21 (.load ej true 13), .o 6 (.alloc [(.int .i64 0),(.int .i64 0),(.slice .full 0 []),(.str []),(.str []),(.int .i64 0),(.int .i64 0),(.str []),(.slice .full 0 []),(.bool false),(.slice .full 0 []),(.slice .full 0 []),(.slice .full 0 [])]), .op none none (.store dD dW 13)]) (.seq QAU QB8))) (.run [.m 16 cm, .o 17 (.bin .add dc (.k (.int .i64 1))), .m 5 dE])
abbrev QBE:AC:= .seq (.seq (.run [.m 8 cm, .m 9 bt, .o 10 (.len dq), .o 11 (.bin .lss de cf), .m 12 cH, .g 13 12 true (.mv bu), .g 14 12 true (.bin .leq c6 (.k (.int .i64 20000))), .o 15 (.pick cT cO (.k (.bool false)))]) (.cond dC .skip (.exit 0))) QBD
abbrev QBK:AC:= .seq (.seq (.run [.o 5 (.mv (.k (.int .i64 0)))]) (.block 0 (.loop QBE))) (.seq (.run [.m 68 bu, .m 4 vC]) .ret)
abbrev QBL:AC:= .seq (.run [.o 4 (.mv (.k (.int .i64 0)))]) QBK
abbrev QBS:AC:= .par [.m 17 cB, .m 18 cB, .o 19 (.bT dA), .o 20 (.aq dV 3), .o 21 (.load ej false 1), .m 22 cB, .o 23 (.bT ew), .o 24 (.aq ey 2), .o 25 (.load eR false 1), .o 26 (.len eU), .o 27 (.bin .add fk (.k (.int .i64 1))), .o 28 (.dt [(.int .i64 0)] 1 1 [(0,fl)]), .o 29 (.app 1 8 dW fR), .o 30 (.bT dE), .o 31 (.aq gw 3), .op none none (.store gf gb 1)] [(1,0),(2,0),(3,0),(4,0),(5,0),(6,0),(7,0),(8,0),(9,0),(10,0),(11,0),(12,0),(0,0),(13,0),(14,0),(15,0)]
abbrev QBU:AC:= .par [.m 38 cB, .m 39 cB, .o 40 (.bT jB), .o 41 (.aq j9 4), .o 42 (.load jP false 1), .m 43 cB, .o 44 (.bT ku), .o 45 (.aq kG 2), .o 46 (.load lJ false 1), .o 47 (.len lK), .o 48 (.bin .add lV (.k (.int .i64 1))), .o 49 (.dt [(.int .i64 0)] 1 1 [(0,kT)]), .o 50 (.app 1 8 kF kU), .o 51 (.bT jO), .o 52 (.aq kV 4), .op none none (.store kW lL 1)] [(1,0),(2,0),(3,0),(4,0),(5,0),(6,0),(7,0),(8,0),(9,0),(10,0),(11,0),(12,0),(0,0),(13,0),(14,0),(15,0)]
abbrev QBV:AC:= .seq (.run [.m 32 cB, .o 33 (.aq cm 3), .o 34 (.load gG false 1), .m 35 fi,(.o 36 (.build [(.int .i64 0),(.int .i64 0),(.slice .full 0 []),(.str []),(.str []),(.int .i64 0),(.int .i64 0),(.str []),(.slice .full 0 []),(.bool false),(.slice .full 0 []),(.slice .full 0 []),(.slice .full 0 []),(.int .i64 0),(.int .i64 0),(.int .i64 0),(.int .i64 0)] [(13,(1,gR)),(15,(1,(.k (.int .i64 (-1)))))])), .c 37 j8 [gF,iE,iw]]) QBU
abbrev QC0:AC:= .seq (.block 1 (.seq (.run [.m 14 cT, .o 15 (.cd cf cT 5), .o 16 (.load dC true 5), .o 5 (.alloc [(.str []),(.slice .full 0 []),(.slice .full 0 []),(.slice .full 0 []),(.slice .full 0 [])]), .m 4 cO, .op none none (.store cm dc 5)]) (.seq QBS QBV))) (.run [.o 53 (.bin .add cT (.k (.int .i64 1))), .m 12 lM])
abbrev QC4:AC:= .block 0 (.loop (.seq (.run [.o 13 (.bin .lss cT cH)]) (.seq (.cond c6 .skip (.exit 0)) QC0)))
abbrev QC8:AC:= .seq (.seq (.run [.o 9 (.aq bu 1), .o 10 (.load dq false 1), .o 11 (.len cf), .o 12 (.mv (.k (.int .i64 0)))]) QC4) (.seq (.run [.m 54 cB, .m 2 lW]) .ret)
abbrev QCA:AC:= .seq (.run [.o 1 (.box bt), .o 2 (.mv (.k .dS))]) (.seq (.run [.o 6 (.load bu true 2), .o 7 (.build [(.slice .full 0 []),(.slice .full 0 []),(.slice .full 0 []),(.slice .full 0 []),(.slice .full 0 [])] [(0,(2,dD))]), .o 8 (.box cW), .m 3 de]) QC8)
abbrev QCD:AC:= .par [.m 22 bu, .m 23 bt, .o 24 (.bT ey), .o 25 (.aq eR 0), .o 26 (.load eU false 1), .o 27 (.bT fk), .o 28 (.aq fl 0), .o 29 (.load fR true 2), .o 30 (.aq dq 0), .o 31 (.load gw false 1), .c 32 vv [gb,gf], .m 33 cB, .o 34 (.build [(.int .i64 0),(.slice .full 0 []),(.slice .full 0 []),(.int .i64 0)] [(0,(1,ew)),(1,(1,gF)),(3,(1,gG))]), .o 35 (.box iE), .m 10 gR] [(1,0),(2,0),(3,0),(4,0),(5,0),(6,0),(7,0),(8,0),(9,0),(10,0),(0,0),(11,0),(12,0),(13,0),(14,0)]
abbrev QCE:AC:= .par [.m 36 cf, .m 37 cf, .o 38 (.bT jg), .o 39 (.aq jO 2), .o 40 (.load jB false 1), .m 41 bt, .o 42 (.bT jP), .o 43 (.aq kF 1), .o 44 (.load ku false 1), .o 45 (.app 1 8 j9 kG), .m 46 dw, .o 47 (.app 1 8 lJ lK), .o 48 (.bT iw), .o 49 (.aq kT 2), .op none none (.store kU lV 1)] [(1,0),(2,0),(3,0),(4,0),(5,0),(6,0),(7,0),(8,0),(9,0),(10,0),(11,0),(0,0),(12,0),(13,0),(14,0)]
abbrev QCM:AC:= .seq (.cond lW .skip (.exit 0)) (.seq (.block 1 (.run [.m 55 cf, .m 56 cf, .o 57 (.bT nZ), .o 58 (.aq pd 2), .o 59 (.load oI false 1), .o 60 (.alloc [(.int .i64 0)]), .o 61 (.dt [.dS] 1 1 [(0,pT)]), .o 62 (.app 1 8 mJ rz), .o 63 (.bT lX), .o 64 (.aq rA 2), .op none none (.store rB qw 1)])) (.run [.o 65 (.bin .add lM (.k (.int .i64 1))), .m 53 vB]))
abbrev QCN:AC:= .seq (.run [.o 54 (.bin .lss lM kW)]) QCM
abbrev QCU:AC:= .seq (.run [.m 66 bt, .m 67 bt, .o 68 (.bT xB), .o 69 (.aq vC 4), .o 70 (.load zk false 1), .m 71 cf, .o 72 (.dt [.dS] 1 1 [(0,Du)]), .o 73 (.app 1 8 zl Bo), .o 74 (.bT xA), .o 75 (.aq Dv 4), .op none none (.store Dw Bp 1)]) (.seq (.run [.m 76 bt, .o 77 (.bT Bq), .o 78 (.aq Dx 0), .o 79 (.load zm false 1), .m 80 bu, .c 81 o8 [FI,FJ], .m 8 FK]) .ret)
abbrev QCV:AC:= .seq (.seq (.run [.o 50 (.aq dq 2), .o 51 (.load lL false 1), .o 52 (.len kV), .o 53 (.mv (.k (.int .i64 0)))]) (.block 0 (.loop QCN))) QCU
abbrev QCZ:AC:= .seq (.run [.o 8 (.mv (.k (.int .i64 0)))]) (.seq (.run [.m 11 bt, .o 12 (.bT cH), .o 13 (.aq cT 0), .o 14 (.load c6 false 1), .o 15 (.bT cO), .o 16 (.aq dC 0), .o 17 (.aq dc 1), .o 18 (.load dE false 1), .m 19 bu, .o 20 (.cd dA dV 5), .o 21 (.load ej true 5), .o 9 (.alloc [(.str []),(.slice .full 0 []),(.slice .full 0 []),(.slice .full 0 []),(.slice .full 0 [])]), .op none none (.store dq dW 5)]) (.seq QCD (.seq QCE QCV)))
abbrev QD3:AC:= .seq (.run [.o 3 (.box bu), .o 4 (.mv (.k (.int .i64 0)))]) (.seq (.run [.m 5 bt, .o 6 (.bT cm), .o 7 (.aq dD 0), .o 8 (.aq cW 1), .o 9 (.load de false 1), .o 10 (.uJ 76 [cB]), .c 11 gk [dq,cf], .m 4 cH]) .ret)
abbrev QDE:AC:= .seq (.run [.o 18 (.aq cW 0), .o 19 (.load dA false 1)]) (.cond dV (.seq (.run [.m 20 cm, .m 21 bt, .o 22 (.aq cW 1), .o 23 (.load ew false 1), .c 24 iN [dW,ey], .o 25 (.dt [.dS] 1 1 [(0,eR)]), .o 26 (.app 1 8 ej eU), .m 5 fk]) (.exit 1)) .skip)
abbrev QDI:AC:= .seq (.run [(.o 4 (.mv (.k (.int .i64 (-1)))))]) .ret
abbrev QDP:AC:= .seq (.run [.m 28 bt, .o 29 (.aq cW 2), .o 30 (.load gb true 4), .c 31 jV [fR,gw], .m 27 gf, .o 32 (.ext fl 0), .o 33 (.ext fl 1), .m 8 gF, .m 9 gG]) (.seq (.seq (.run [.m 34 dq, .o 35 (.un .not iE)]) (.cond gR QDI .skip)) (.seq (.run [.m 36 de, .o 10 (.alloc [(.int .i64 0)]), .op none none (.store cf iw 1)]) (.run [.m 37 cm, .o 38 (.dt [.dS] 1 1 [(0,cf)]), .o 39 (.app 1 8 jg jO), .m 5 jB])))
abbrev QDU:AC:= .seq (.block 1 (.seq (.run [.o 16 (.cd cT cO 6), .o 17 (.load dc true 6), .o 7 (.alloc [(.bool false),(.str []),(.int .i64 0),(.int .i64 0),(.str []),(.slice .full 0 [])]), .op none none (.store cW dE 6)]) (.seq QDE QDP))) (.run [.o 40 (.bin .add cO (.k (.int .i64 1))), .m 14 j9])
abbrev QDW:AC:= .seq (.run [.o 15 (.bin .lss cO c6)]) (.seq (.cond dC .skip (.exit 0)) QDU)
abbrev QE3:AC:= .seq (.run [(.o 4 (.mv (.k (.int .i64 (-1)))))]) .ret
abbrev QE5:AC:= .cond lK (.seq (.run [.m 47 bt, .o 48 (.bT lV), .o 49 (.aq kT 6), .o 50 (.aq kU 0), .op none none (.store lL (.k (.int .i64 5)) 1)]) QE3) .skip
abbrev QE8:AC:= .par [.m 55 bt, .m 56 bt, .o 57 (.bT nZ), .o 58 (.aq pd 0), .o 59 (.load oI false 1), .o 60 (.aq cB 4), .o 61 (.load pT false 1), .c 62 iD [mJ,rz], .m 63 cm, .o 64 (.aq cB 0), .o 65 (.load rB false 1), .c 66 jn [lX,qw,rA,vB], .m 4 xA] [(1,0),(2,0),(3,0),(4,0),(5,0),(6,0),(7,0),(0,0),(8,0),(9,0),(10,1),(11,0),(12,0)]
abbrev QEB:AC:= .seq (.seq (.run [.m 41 bt, .o 42 (.bT jP), .o 43 (.aq kF 4), .o 44 (.load ku false 1), .o 45 (.len kG), .o 46 (.bin .gtr lJ (.k (.int .i64 100)))]) QE5) (.seq (.run [.m 51 bt, .o 52 (.aq cB 0), .o 53 (.load kW false 1),(.c 54 ez [kV,lM,(.k (.slice .full 0 []))])]) (.seq QE8 .ret))
abbrev QEC:AC:= .seq (.seq (.run [.o 11 (.aq cB 10), .o 12 (.load cH false 1), .o 13 (.len cT), .o 14 (.mv (.k (.int .i64 0)))]) (.block 0 (.loop QDW))) QEB
abbrev QEE:AC:= .seq (.run [.o 3 (.box bu), .o 4 (.mv (.k (.int .i64 0)))]) (.seq (.run [.o 5 (.mv (.k (.slice .full 0 [])))]) QEC)
abbrev QEK:AC:= .seq (.run [.m 10 bt, .o 11 (.aq cB 0), .o 12 (.load cH false 1),(.c 13 ez [cf,cT,(.k (.slice .full 0 []))])]) (.seq (.run [.o 4 (.mv (.k (.int .i64 0)))]) .ret)
abbrev QEU:AC:= .seq (.seq (.run [.m 21 dD]) (.cond dW (.run [.m 22 bt, .o 23 (.aq cB 0), .o 24 (.load ey false 1), .m 25 cm, .o 26 (.dt [(.int .i64 0)] 1 1 [(0,eU)]), .c 27 ez [ew,eR,fk]]) .skip)) (.seq (.run [.m 28 cm, .m 4 fR]) .ret)
abbrev QEX:AC:= .seq (.run [.o 3 (.box bu), .o 4 (.mv (.k (.int .i64 0)))]) (.seq (.seq (.run [.o 7 (.aq cB 9), .o 8 (.load cW false 1), .o 9 (.un .not de)]) (.cond dq QEK .skip)) (.seq (.run [.m 15 bt, .o 16 (.aq cB 5), .o 17 (.load dc true 4), .c 18 jV [dC,dE], .m 14 dA, .o 19 (.ext cO 0), .o 20 (.ext cO 1), .m 5 dV, .m 6 ej]) QEU))
abbrev QF3:AC:= .par [.m 21 bt, .o 22 (.bT dW), .o 23 (.aq ew 0), .o 24 (.load ey false 1), .o 25 (.bT eR), .o 26 (.aq eU 2), .o 27 (.load fk false 1), .o 28 (.aq cB 16), .o 29 (.load fR false 1), .o 30 (.bin .sub gb (.k (.int .i64 1))), .o 31 (.cd fl gw 17), .o 32 (.aq gf 15), .o 33 (.load gF false 1), .m 4 gG] [(0,0),(1,0),(2,0),(3,0),(4,0),(5,0),(6,0),(7,0),(8,0),(9,0),(10,0),(11,0),(12,0),(13,0)]
abbrev QFD:AC:= .par [.m 49 bt, .o 50 (.bT kU), .o 51 (.aq lL 0), .o 52 (.load kV false 1), .o 53 (.aq cB 13), .o 54 (.load lM false 1), .o 55 (.aq cm 3), .o 56 (.load lX false 1), .c 57 oQ [kW,lW,nZ], .m 48 pd, .o 58 (.ext kT 0), .o 59 (.ext kT 1), .m 6 oI, .m 7 mJ] [(0,0),(1,0),(2,0),(3,0),(4,0),(5,0),(6,0),(7,0),(8,0),(9,0),(10,0),(11,0),(12,0),(13,0)]
abbrev QFJ:AC:= .par [.m 63 bt, .o 64 (.bT rA), .o 65 (.aq rB 6), .o 66 (.aq vB 2), .o 67 (.load xA false 1), .m 68 bt, .o 69 (.bT vC), .o 70 (.aq zk 2), .o 71 (.load zl false 1), .o 72 (.len Du), .o 73 (.bin .geq xB Bo)] [(0,0),(1,0),(2,0),(3,0),(4,0),(5,0),(6,0),(7,0),(8,0),(9,0),(10,0)]
abbrev QFM:AC:= .seq (.run [(.o 4 (.mv (.k (.int .i64 (-1)))))]) .ret
abbrev QFO:AC:= .cond Bp (.seq (.run [.m 74 bt, .o 75 (.bT Dv), .o 76 (.aq Dw 6), .o 77 (.aq Bq 0), .op none none (.store Dx (.k (.int .i64 3)) 1)]) QFM) .skip
abbrev QFQ:AC:= .par [.m 78 bt, .o 79 (.bT zm), .o 80 (.aq FI 2), .o 81 (.load FJ false 1), .m 82 bt, .o 83 (.bT Jp), .o 84 (.aq Jq 6), .o 85 (.aq Jr 2), .o 86 (.load Js false 1), .o 87 (.cd FK Jt 1), .o 88 (.load Ju false 1), .m 8 Jv] [(0,0),(1,0),(2,0),(3,0),(4,0),(5,0),(6,0),(7,0),(8,0),(9,0),(10,0),(11,0)]
abbrev QFY:AC:= .seq (.run [.m 89 bt, .o 90 (.bT Dy), .o 91 (.aq FL 6), .o 92 (.aq Jw 2), .o 93 (.load OZ false 1), .o 94 (.bin .add U2 (.k (.int .i64 1))), .o 95 (.bT Dy), .o 96 (.aq U4 6), .o 97 (.aq acP 2), .op none none (.store acQ U3 1)]) (.seq (.run [.m 98 bt, .o 99 (.aq cm 3), .o 100 (.load acS false 1), .c 101 iN [acR,Xl], .m 102 de, .o 103 (.bT Xm), .op none none (.store Xo Xn 1)]) (.seq (.run [.m 104 bt, .o 105 (.aq cm 0), .o 106 (.load Xq false 1), .m 107 de, .o 108 (.dt [(.int .i64 0)] 1 1 [(0,Xs)]), .c 109 ez [Xp,Xr,Xt]]) (.seq (.run [.o 110 (.aq cB 15), .o 111 (.load Xu false 1), .m 4 Xv]) .ret)))
abbrev QG3:AC:= .cond kF (.seq (.run [.m 44 bt, .o 45 (.aq cm 0), .o 46 (.load lJ false 1),(.c 47 ez [kG,lK,(.k (.slice .full 0 []))])]) (.seq QFD (.seq (.run [.m 60 dD, .m 4 pT]) .ret))) (.seq (.run [.o 62 (.bin .eql cO (.k (.int .i64 2))), .m 61 qw]) (.cond rz (.seq (.seq QFJ QFO) (.seq QFQ QFY)) .skip))
abbrev QG5:AC:= .cond iE (.seq (.run [.m 36 bt, .o 37 (.aq cm 0), .o 38 (.load jg false 1),(.c 39 ez [iw,jO,(.k (.slice .full 0 []))])]) (.seq (.run [.o 40 (.aq cB 16), .o 41 (.load j9 false 1), .m 4 jP]) .ret)) (.seq (.run [.o 43 (.bin .eql cO (.k (.int .i64 10))), .m 42 ku]) QG3)
abbrev QG7:AC:= .cond dC (.seq (.run [.m 17 bt, .o 18 (.aq cm 0), .o 19 (.load dA false 1),(.c 20 ez [dE,dV,(.k (.slice .full 0 []))])]) (.seq QF3 .ret)) (.seq (.run [.o 35 (.bin .eql cO (.k (.int .i64 8))), .m 34 gR]) QG5)
abbrev QG9:AC:= .block 0 (.seq (.run [.o 16 (.bin .eql cO (.k (.int .i64 7))), .m 15 dc]) QG7)
abbrev QGE:AC:= .seq (.run [(.o 4 (.mv (.k (.int .i64 (-1)))))]) .ret
abbrev QGV:AC:= .seq (.seq (.run [.m 153 dq, .o 154 (.bin .neq agK (.k (.int .i64 0)))]) (.cond agL (.seq (.run [.o 155 (.aq cm 11), .o 156 (.load agM false 1), .o 157 (.aq cB 15), .o 158 (.load agO false 1), .c 159 qa [agN,agP], .m 4 agQ]) .ret) .skip)) (.seq (.run [.o 160 (.aq cm 12), .o 161 (.load agR false 1), .o 162 (.aq cB 15), .o 163 (.load agT false 1), .c 164 qa [agS,agU], .m 4 agV]) .ret)
abbrev QH2:AC:= .cond agW (.seq (.run [.m 167 dq, .o 168 (.bin .neq agY (.k (.int .i64 0)))]) (.cond agZ (.seq (.run [.o 169 (.aq cm 11), .o 170 (.load ag0 false 1), .o 171 (.aq cm 0), .o 172 (.load ag2 false 1), .c 173 qa [ag1,ag3], .m 4 ag4]) .ret) .skip)) .skip
abbrev QH4:AC:= .cond agI QGV (.seq (.run [.o 166 (.bin .eql Eu (.k (.int .i64 6))), .m 165 agX]) QH2)
abbrev QH6:AC:= .cond agu (.run [.m 139 bt, .m 140 bt, .o 141 (.bT agx), .o 142 (.aq agy 6), .o 143 (.aq agz 3), .o 144 (.load agA false 1), .m 145 dq, .o 146 (.dt [(.int .i64 0)] 1 1 [(0,agC)]), .o 147 (.app 1 8 agB agD), .o 148 (.bT agw), .o 149 (.aq agF 6), .o 150 (.aq agG 3), .op none none (.store agH agE 1)]) (.seq (.run [.o 152 (.bin .eql Eu (.k (.int .i64 5))), .m 151 agJ]) QH4)
abbrev QH8:AC:= .cond XK (.run [.m 131 bt, .o 132 (.aq cm 3), .o 133 (.load agp false 1), .c 134 iN [ago,agq], .m 135 dq, .o 136 (.bT agr), .op none none (.store agt ags 1)]) (.seq (.run [.o 138 (.bin .eql Eu (.k (.int .i64 3))), .m 137 agv]) QH6)
abbrev QHA:AC:= .block 1 (.seq (.run [.o 130 (.bin .eql Eu (.k (.int .i64 1))), .m 129 XL]) QH8)
abbrev QHG:AC:= .seq (.seq (.run [.m 119 cf, .o 120 (.un .not XC)]) (.cond XD QGE .skip)) (.seq (.run [.m 121 bt, .o 122 (.aq cm 0), .o 123 (.load XF false 1), .m 124 dq, .o 125 (.dt [(.int .i64 0)] 1 1 [(0,XH)]), .c 126 ez [XE,XG,XI]]) (.seq (.seq (.run [.o 127 (.aq cm 1), .o 128 (.load XJ false 1)]) QHA) (.seq (.run [.o 174 (.aq cB 15), .o 175 (.load ag5 false 1), .m 4 ag6]) .ret)))
abbrev QHK:AC:= .seq (.run [.o 3 (.box bu), .o 4 (.mv (.k (.int .i64 0)))]) (.seq (.run [.o 11 (.aq cB 0), .o 12 (.load cH true 13), .o 5 (.alloc [(.int .i64 0),(.int .i64 0),(.slice .full 0 []),(.str []),(.str []),(.int .i64 0),(.int .i64 0),(.str []),(.slice .full 0 []),(.bool false),(.slice .full 0 []),(.slice .full 0 []),(.slice .full 0 [])]), .op none none (.store cm cT 13)]) (.seq (.seq (.run [.o 13 (.aq cm 1), .o 14 (.load c6 false 1)]) QG9) (.seq (.run [.m 113 bt, .o 114 (.aq cm 5), .o 115 (.load Xx true 4), .c 116 jV [Xw,Xy], .m 112 Xz, .o 117 (.ext O0 0), .o 118 (.ext O0 1), .m 9 XA, .m 10 XB]) QHG)))
abbrev QHN:AC:= .par [.m 12 bt, .m 13 bt, .o 14 (.bT c6), .o 15 (.aq cO 4), .o 16 (.load dC false 1), .m 17 bt, .o 18 (.bT dE), .o 19 (.aq dA 4), .o 20 (.load dV false 1), .o 21 (.len ej), .o 22 (.bin .sub dW (.k (.int .i64 1))), .o 23 (.D0 1 dc none (some ew)), .o 24 (.bT cT), .o 25 (.aq eR 4), .op none none (.store eU ey 1)] [(0,0),(1,0),(2,0),(3,0),(4,0),(5,0),(6,0),(7,0),(8,0),(9,0),(10,0),(11,0),(12,0),(13,0),(14,0)]
abbrev QHR:AC:= .seq (.run [(.o 4 (.mv (.k (.int .i64 (-1)))))]) .ret
abbrev QHT:AC:= .cond fl (.seq (.run [.m 28 bt, .o 29 (.bT fR), .o 30 (.aq gb 6), .o 31 (.aq gw 0), .op none none (.store gf (.k (.int .i64 1)) 1)]) QHR) .skip
abbrev QI2:AC:= .seq (.seq (.run [.o 43 (.aq dD 0), .o 44 (.aq ku 3), .o 45 (.load kG false 1), .o 46 (.bin .neq lJ (.k (.str [])))]) (.cond lK (.run [.m 47 bt, .o 48 (.aq dD 0), .o 49 (.aq kT 3), .o 50 (.load kU false 1), .c 51 iN [lV,lL], .m 52 bu, .o 53 (.bT kV), .op none none (.store lM kW 1)]) .skip)) (.seq (.run [.o 54 (.aq dD 15), .o 55 (.load lW false 1), .m 4 lX]) .ret)
abbrev QI4:AC:= .seq (.seq (.run [.m 26 cm, .o 27 (.bin .eql fk (.k (.int .i64 0)))]) QHT) (.seq (.run [.m 32 bt, .o 33 (.bT gF), .o 34 (.aq gG 0), .o 35 (.load iE false 1), .o 36 (.bT gR), .o 37 (.aq iw 2), .o 38 (.load jg false 1), .m 39 cm, .o 40 (.bin .sub jB (.k (.int .i64 1))), .o 41 (.cd jO j9 17), .o 42 (.load jP true 17), .o 6 (.alloc [(.int .i64 0),(.int .i64 0),(.slice .full 0 []),(.str []),(.str []),(.int .i64 0),(.int .i64 0),(.str []),(.slice .full 0 []),(.bool false),(.slice .full 0 []),(.slice .full 0 []),(.slice .full 0 []),(.int .i64 0),(.int .i64 0),(.int .i64 0),(.int .i64 0)]), .op none none (.store dD kF 17)]) QI2)
abbrev QI7:AC:= .seq (.run [.o 4 (.mv (.k (.int .i64 0)))]) (.seq (.run [.m 7 bt, .c 8 kL [cW], .o 9 (.bT de), .o 10 (.aq dq 3), .o 11 (.load cf false 1), .m 5 cH]) (.seq QHN QI4))
abbrev QIB:AC:= .seq (.run [(.o 7 (.build [(.int .i64 0),(.int .i64 0)] [(0,(1,(.k (.int .i64 1))))])), .op none none (.store dw cW 2)]) .ret
abbrev QIT:AC:= .seq (.seq (.run [.o 20 (.aq cB 0), .o 21 (.load ej false 1), .o 22 (.bin .eql dW (.k (.int .i64 0)))]) (.cond ew (.run [.o 23 (.load bu true 2), .c 24 tX [ey], .op none none (.store cB eR 2)]) .skip)) (.seq (.run [.o 25 (.load cB true 2), .op none none (.store dw eU 2)]) .ret)
abbrev QIU:AC:= .seq (.seq (.run [.o 15 (.aq cB 0), .o 16 (.load dC false 1), .o 17 (.bin .eql dc (.k (.int .i64 0)))]) (.cond dE (.run [.o 18 (.load bu true 2), .c 19 vw [dA], .op none none (.store cB dV 2)]) .skip)) QIT
abbrev QIV:AC:= .seq (.seq (.run [.o 10 (.aq cB 0), .o 11 (.load cf false 1), .o 12 (.bin .eql cH (.k (.int .i64 0)))]) (.cond cT (.run [.o 13 (.load bu true 2), .c 14 qk [c6], .op none none (.store cB cO 2)]) .skip)) QIU
abbrev QIY:AC:= .seq (.run [.o 1 (.box bt), .o 2 (.alloc [(.int .i64 0),(.int .i64 0)])]) (.seq (.seq (.run [.o 4 (.load bu true 2), .c 5 ri [fi], .o 6 (.un .not cm)]) (.cond dD QIB .skip)) (.seq (.run [.o 8 (.load bu true 2), .c 9 lZ [de], .o 3 (.alloc [(.int .i64 0),(.int .i64 0)]), .op none none (.store cB dq 2)]) QIV))
abbrev QJ0:AC:= .par [.m 7 bu, .o 8 (.bin .lss cW (.k (.int .i64 1))), .m 9 de, .g 10 9 false (.aq dw 3), .g 11 9 false (.load cf false 1), .g 12 9 false (.len cH), .g 13 9 false (.aq dw 0), .g 14 9 false (.load c6 false 1), .d 15 9 false xv [cO], .g 16 9 false (.bin .neq cT dC), .o 17 (.pick dq (.k (.bool true)) dc)] [(0,0),(1,0),(2,0),(6,0),(7,0),(8,0),(3,0),(4,1),(5,0),(9,0),(10,0)]
abbrev QJ3:AC:= .cond dE (.seq (.run [.o 4 (.mv (.k (.bool false)))]) .ret) .skip
abbrev QJC:AC:= .cond gw (.seq (.run [.o 32 (.aq dw 1), .o 33 (.load gF false 1), .o 34 (.bin .eql gG (.k (.int .i64 0))), .m 35 iE, .g 36 35 true (.aq dw 2), .g 37 35 true (.load iw false 1), .d 38 35 true nY [jg], .o 39 (.pick gR jO (.k (.bool false))), .m 4 jB]) .ret) .skip
abbrev QJE:AC:= .cond ej (.seq (.run [.o 22 (.aq dw 1), .o 23 (.load ew false 1), .o 24 (.bin .geq ey (.k (.int .i64 0))), .m 25 eR, .g 26 25 true (.aq dw 2), .g 27 25 true (.load fk false 1), .g 28 25 true (.bin .eql fl (.k (.str []))), .o 29 (.pick eU fR (.k (.bool false))), .m 4 gb]) .ret) (.seq (.run [.o 31 (.bin .eql dV (.k (.int .i64 2))), .m 30 gf]) QJC)
abbrev QJG:AC:= .block 0 (.seq (.run [.o 21 (.bin .eql dV (.k (.int .i64 1))), .m 20 dW]) QJE)
abbrev QJL:AC:= .cond lV (.seq (.run [.o 4 (.mv (.k (.bool false)))]) .ret) .skip
abbrev QJU:AC:= .cond mJ (.seq (.run [.o 4 (.mv (.k (.bool false)))]) .ret) .skip
abbrev QJW:AC:= .seq (.run [.o 53 (.cd kU kV 4), .o 54 (.load lM true 4), .o 6 (.alloc [(.int .i64 0),(.int .i64 0),(.str []),(.slice .full 0 [])]), .op none none (.store dD lW 4)]) (.seq (.run [.o 55 (.load dD true 4), .m 56 bu, .o 57 (.bin .sub nZ (.k (.int .i64 1))), .c 58 p9 [lX,pd], .o 59 (.un .not oI)]) QJU)
abbrev QK0:AC:= .seq (.cond kW .skip (.exit 1)) (.seq (.block 2 QJW) (.run [.o 60 (.bin .add kV (.k (.int .i64 1))), .m 51 pT]))
abbrev QK4:AC:= .seq (.run [.o 48 (.aq dw 3), .o 49 (.load kT false 1), .o 50 (.len kU), .o 51 (.mv (.k (.int .i64 0)))]) (.block 1 (.loop (.seq (.run [.o 52 (.bin .lss kV lL)]) QK0)))
abbrev QK7:AC:= .seq QK4 (.seq (.run [.o 4 (.mv (.k (.bool true)))]) .ret)
abbrev QK8:AC:= .seq (.seq (.run [.o 40 (.aq dw 1), .o 41 (.load j9 false 1), .o 42 (.bin .neq jP (.k (.int .i64 0))), .m 43 kF, .g 44 43 false (.aq dw 2), .g 45 43 false (.load kG false 1), .g 46 43 false (.bin .neq lJ (.k (.str []))), .o 47 (.pick ku (.k (.bool true)) lK)]) QJL) QK7
abbrev QKB:AC:= .seq (.run [.o 2 (.box bt), .o 4 (.mv (.k (.bool false)))]) (.seq (.seq QJ0 QJ3) (.seq (.seq (.run [.o 18 (.aq dw 0), .o 19 (.load dA false 1)]) QJG) QK8))
abbrev QKO:AC:= .seq (.run [.m 13 cB, .o 14 (.load cm true 5), .c 15 xu [cO], .o 16 (.app 16 232 c6 dC), .m 3 dc]) (.seq (.run [.m 17 cB, .o 18 (.len dE), .o 19 (.bin .gtr dA (.k (.int .i64 200)))]) (.cond dV (.seq (.run [.m 20 cB, .m 2 ej]) .ret) .skip))
abbrev QKS:AC:= .seq (.block 1 (.seq (.run [.o 11 (.cd cW dq 5), .o 12 (.load cH true 5), .o 5 (.alloc [(.str []),(.slice .full 0 []),(.slice .full 0 []),(.slice .full 0 []),(.slice .full 0 [])]), .op none none (.store cm cT 5)]) QKO)) (.run [.o 21 (.bin .add dq (.k (.int .i64 1))), .m 9 dW])
abbrev QKW:AC:= .block 0 (.loop (.seq (.run [.o 10 (.bin .lss dq de)]) (.seq (.cond cf .skip (.exit 0)) QKS)))
abbrev QL0:AC:= .seq (.seq (.run [.o 6 (.aq bu 1), .o 7 (.load dD false 1), .o 8 (.len cW), .o 9 (.mv (.k (.int .i64 0)))]) QKW) (.seq (.run [.m 22 cB, .m 2 ew]) .ret)
abbrev QL2:AC:= .seq (.run [.o 1 (.box bt), .o 2 (.mv (.k (.slice .full 0 [])))]) (.seq (.run [.o 3 (.mv (.k (.slice .full 0 [])))]) QL0)
open Go.Proofs
theorem HF:Has Tryz.prog xp 10 [(2,none)] Q9O:=⟨Tryz.f38,by kernel_rfl,by kernel_rfl⟩
theorem HG:Has Tryz.prog xq 40 [(0,(some (true,2)))] Q9W:=⟨Tryz.f39,by kernel_rfl,by kernel_rfl⟩
theorem Ax:Has Tryz.prog jI 23 [(4,none)] QAD:=⟨Tryz.f40,by kernel_rfl,by kernel_rfl⟩
theorem pe:Has Tryz.prog gv 19 [(4,none)] QAN:=⟨Tryz.f41,by kernel_rfl,by kernel_rfl⟩
theorem sa:Has Tryz.prog kK 69 [(4,none)] QBL:=⟨Tryz.f42,by kernel_rfl,by kernel_rfl⟩
theorem JA:Has Tryz.prog kR 55 [(2,none)] QCA:=⟨Tryz.f43,by kernel_rfl,by kernel_rfl⟩
theorem zn:Has Tryz.prog jn 82 [(8,none)] QCZ:=⟨Tryz.f44,by kernel_rfl,by kernel_rfl⟩
theorem Ay:Has Tryz.prog iD 12 [(4,none)] QD3:=⟨Tryz.f45,by kernel_rfl,by kernel_rfl⟩
theorem zo:Has Tryz.prog o7 67 [(4,none)] QEE:=⟨Tryz.f46,by kernel_rfl,by kernel_rfl⟩
theorem yh:Has Tryz.prog oG 29 [(4,none)] QEX:=⟨Tryz.f47,by kernel_rfl,by kernel_rfl⟩
theorem ig:Has Tryz.prog qv 176 [(4,none)] QHK:=⟨Tryz.f48,by kernel_rfl,by kernel_rfl⟩
theorem qH:Has Tryz.prog oH 56 [(4,none)] QI7:=⟨Tryz.f49,by kernel_rfl,by kernel_rfl⟩
theorem oj:Has Tryz.prog xr 26 [(2,(some (true,2)))] QIY:=⟨Tryz.f53,by kernel_rfl,by kernel_rfl⟩
theorem An:Has Tryz.prog p9 61 [(4,none)] QKB:=⟨Tryz.f55,by kernel_rfl,by kernel_rfl⟩
theorem JB:Has Tryz.prog zf 23 [(2,none)] QL2:=⟨Tryz.f62,by kernel_rfl,by kernel_rfl⟩
abbrev QLB:AC:= .cond c6 (.seq (.run [.o 2 (.mv (.k (.bool false)))]) .ret) .skip
abbrev QLG:AC:= .seq (.block 1 (.seq (.run [.o 9 (.cd cm cW 1), .o 10 (.load dq false 1), .m 4 cf]) (.seq (.run [.m 11 fi, .c 12 nY [cH], .o 13 (.un .not cT)]) QLB))) (.run [.o 14 (.bin .add cW (.k (.int .i64 1))), .m 7 cO])
abbrev QLK:AC:= .block 0 (.loop (.seq (.run [.o 8 (.bin .lss cW dD)]) (.seq (.cond de .skip (.exit 0)) QLG)))
abbrev QLO:AC:= .seq (.seq (.run [.m 5 bt, .o 6 (.len cm), .o 7 (.mv (.k (.int .i64 0)))]) QLK) (.seq (.run [.o 2 (.mv (.k (.bool true)))]) .ret)
abbrev QLP:AC:= .seq (.run [.o 2 (.mv (.k (.bool false)))]) QLO
abbrev QLU:AC:= .cond dc (.seq (.run [.o 2 (.mv (.k (.bool false)))]) .ret) .skip
abbrev QLY:AC:= .seq (.seq (.run [.m 3 bt, .o 4 (.u7 cB), .o 5 (.bin .lss fi (.k (.int .i64 1))), .m 6 cm, .g 7 6 false (.mv bt), .g 8 6 false (.u7 cW), .g 9 6 false (.bin .gtr de (.k (.int .i64 8))), .o 10 (.pick dD (.k (.bool true)) dq), .m 11 cf, .g 12 11 false (.mv bt), .g 13 11 false (.AP cT (.k (.int .i64 0))), .d 14 11 false rk [c6], .g 15 11 false (.un .not cO), .o 16 (.pick cH (.k (.bool true)) dC)]) QLU) (.seq (.run [.m 17 bt, .c 18 Bl [dE,(.k (.int .i64 0))], .m 19 bt, .o 20 (.u7 dV), .o 21 (.bin .eql dA ej), .m 22 dW, .g 23 22 true (.mv bt), .d 24 22 true zh [ey], .g 25 22 true (.un .not eR), .o 26 (.pick ew eU (.k (.bool false))), .m 2 fk]) .ret)
abbrev QLZ:AC:= .seq (.run [.o 2 (.mv (.k (.bool false)))]) QLY
abbrev QM4:AC:= .cond dC (.seq (.run [.o 6 (.mv (.k (.bool false)))]) .ret) .skip
abbrev QMB:AC:= .par [.m 29 bt, .o 30 (.bT gb), .o 31 (.aq gw 0), .o 32 (.load gf false 1), .o 33 (.bin .gtr gF (.k (.int .i64 200))), .m 34 gG, .g 35 34 false (.aq de 0), .g 36 34 false (.load gR false 1), .g 37 34 false (.mv bt), .g 38 34 false (.bT jg), .g 39 34 false (.aq jO 0), .g 40 34 false (.load jB false 1), .g 41 34 false (.bin .neq iw j9), .o 42 (.pick iE (.k (.bool true)) jP), .m 43 kF, .g 44 43 false (.aq de 2), .g 45 43 false (.load kG false 1), .d 46 43 false np [lJ], .g 47 43 false (.un .not lK), .o 48 (.pick ku (.k (.bool true)) lV), .m 49 kT, .g 50 49 false (.load de true 13), .d 51 49 false tY [lL], .g 52 49 false (.un .not kV), .o 53 (.pick kU (.k (.bool true)) kW)] [(0,0),(1,0),(2,0),(3,0),(4,0),(5,0),(6,0),(7,0),(8,0),(9,0),(10,0),(11,0),(12,0),(13,0),(14,0),(15,0),(16,0),(17,0),(18,0),(19,0),(20,0),(21,0),(22,0),(23,0),(24,0)]
abbrev QME:AC:= .cond lM (.seq (.run [.o 6 (.mv (.k (.bool false)))]) .ret) .skip
abbrev QMJ:AC:= .cond zk (.seq (.run [.o 6 (.mv (.k (.bool false)))]) .ret) .skip
abbrev QML:AC:= .seq (.seq QMB QME) (.seq (.run [.m 54 bt, .o 55 (.aq de 11), .o 56 (.load lX false 1), .m 57 dw, .o 58 (.bin .add pd (.k (.int .i64 1))), .c 59 kr [lW,nZ,oI], .o 60 (.un .not mJ), .m 61 pT, .g 62 61 false (.mv bt), .g 63 61 false (.aq de 12), .g 64 61 false (.load rA false 1), .g 65 61 false (.mv dw), .g 66 61 false (.bin .add vB (.k (.int .i64 1))), .d 67 61 false kr [qw,rB,xA], .g 68 61 false (.un .not xB), .o 69 (.pick rz (.k (.bool true)) vC)]) QMJ)
abbrev QMN:AC:= .seq (.run [.o 20 (.cd dc dA 13), .o 21 (.load ej true 13), .o 8 (.alloc [(.int .i64 0),(.int .i64 0),(.slice .full 0 []),(.str []),(.str []),(.int .i64 0),(.int .i64 0),(.str []),(.slice .full 0 []),(.bool false),(.slice .full 0 []),(.slice .full 0 []),(.slice .full 0 [])]), .op none none (.store de dW 13)]) (.seq (.run [.m 22 bt, .o 23 (.bT ew), .o 24 (.aq ey 0), .o 25 (.load eR false 1), .o 26 (.bin .add eU (.k (.int .i64 1))), .o 27 (.bT ew), .o 28 (.aq fl 0), .op none none (.store fR fk 1)]) QML)
abbrev QMR:AC:= .seq (.cond dV .skip (.exit 0)) (.seq (.block 1 QMN) (.run [.o 70 (.bin .add dA (.k (.int .i64 1))), .m 18 zl]))
abbrev QMV:AC:= .seq (.run [.m 16 bu, .o 17 (.len dc), .o 18 (.mv (.k (.int .i64 0)))]) (.block 0 (.loop (.seq (.run [.o 19 (.bin .lss dA dE)]) QMR)))
abbrev QMY:AC:= .seq QMV (.seq (.run [.o 6 (.mv (.k (.bool true)))]) .ret)
abbrev QMZ:AC:= .seq (.seq (.run [.m 9 dw, .o 10 (.bin .gtr dq (.k (.int .i64 12))), .m 11 cf, .g 12 11 true (.mv bu), .g 13 11 true (.len cT), .g 14 11 true (.bin .gtr c6 (.k (.int .i64 0))), .o 15 (.pick cH cO (.k (.bool false)))]) QM4) QMY
abbrev QN0:AC:= .seq (.run [.o 6 (.mv (.k (.bool false)))]) QMZ
abbrev QN3:AC:= .seq (.run [.m 3 bt,(.o 4 (.build [(.int .i64 0),(.int .i64 0),(.str []),(.slice .full 0 [])] [(0,(1,(.k (.int .i64 1)))),(1,(1,cB))])), .op none none (.store dw fi 4)]) .ret
abbrev QN4:AC:= .seq (.run [.o 2 (.alloc [(.int .i64 0),(.int .i64 0),(.str []),(.slice .full 0 [])])]) QN3
abbrev QN7:AC:= .seq (.run [.m 3 bt,(.o 4 (.build [(.int .i64 0),(.int .i64 0),(.str []),(.slice .full 0 [])] [(0,(1,(.k (.int .i64 2)))),(2,(1,cB))])), .op none none (.store dw fi 4)]) .ret
abbrev QN8:AC:= .seq (.run [.o 2 (.alloc [(.int .i64 0),(.int .i64 0),(.str []),(.slice .full 0 [])])]) QN7
abbrev QNC:AC:= .seq (.run [.o 4 (.box bu), .o 5 (.box dw), .o 6 (.alloc [(.int .i64 0),(.int .i64 0),(.str []),(.slice .full 0 [])])]) (.seq (.run [.m 7 bt, .o 8 (.load fi true 4), .o 9 (.load cm true 4), .o 10 (.dt [(.int .i64 0),(.int .i64 0),(.str []),(.slice .full 0 [])] 4 2 [(0,de),(1,dq)]), .o 11 (.build [(.int .i64 0),(.int .i64 0),(.str []),(.slice .full 0 [])] [(0,(1,cW)),(3,(1,cf))]), .op none none (.store dD cH 4)]) .ret)
abbrev QNN:AC:= .seq (.seq (.run [.m 10 cm, .o 11 (.aq dw 3), .o 12 (.load cH false 1), .o 13 (.len cT), .o 14 (.bin .lss cf c6), .m 15 cO, .g 16 15 true (.mv bu), .g 17 15 true (.bin .leq dc (.k (.int .i64 20000))), .o 18 (.pick dC dE (.k (.bool false)))]) (.cond dA .skip (.exit 0))) (.seq (.block 1 (.run [.o 21 (.aq dw 3), .o 22 (.load dW false 1), .m 23 cm, .o 24 (.cd ew ey 4), .o 25 (.load eR true 4), .m 26 bu, .c 27 j7 [eU,fk], .m 1 fl])) (.run [.m 19 cm, .o 20 (.bin .add dV (.k (.int .i64 1))), .m 5 ej]))
abbrev QNT:AC:= .seq (.seq (.run [.o 5 (.mv (.k (.int .i64 0)))]) (.block 0 (.loop QNN))) (.seq (.run [.m 28 bu, .m 4 fR]) .ret)
abbrev QNV:AC:= .seq (.run [.o 2 (.box bt), .o 4 (.mv (.k (.int .i64 0)))]) (.seq (.run [.o 6 (.aq dw 2), .o 7 (.load dD false 1), .m 8 bu, .c 9 gv [cW,de], .m 1 dq]) QNT)
abbrev QO8:AC:= .par [.m 37 bt, .m 38 bt, .o 39 (.bT jO), .o 40 (.aq jB 2), .o 41 (.load j9 false 1), .o 42 (.load dq true 17), .o 43 (.dt [(.int .i64 0),(.int .i64 0),(.slice .full 0 []),(.str []),(.str []),(.int .i64 0),(.int .i64 0),(.str []),(.slice .full 0 []),(.bool false),(.slice .full 0 []),(.slice .full 0 []),(.slice .full 0 []),(.int .i64 0),(.int .i64 0),(.int .i64 0),(.int .i64 0)] 17 1 [(0,kF)]), .o 44 (.app 17 240 jP ku), .o 45 (.bT jg), .o 46 (.aq lJ 2), .op none none (.store lK kG 1)] [(1,0),(2,0),(3,0),(4,0),(5,0),(6,0),(7,0),(0,0),(8,0),(9,0),(10,0)]
abbrev QO9:AC:= .run [.o 47 (.aq cm 13), .o 48 (.load lV false 1), .m 49 de, .o 50 (.aq dq 15), .o 51 (.load lL false 1), .o 52 (.aq cm 16), .o 53 (.load kW false 1), .o 54 (.build [(.int .i64 0),(.int .i64 0),(.slice .full 0 []),(.str []),(.str []),(.int .i64 0),(.int .i64 0),(.str []),(.slice .full 0 []),(.bool false),(.slice .full 0 []),(.slice .full 0 []),(.slice .full 0 []),(.int .i64 0),(.int .i64 0),(.int .i64 0),(.int .i64 0)] [(13,(1,kT)),(14,(1,kU)),(15,(1,kV)),(16,(1,lM))]), .o 10 (.alloc [(.int .i64 0),(.int .i64 0),(.slice .full 0 []),(.str []),(.str []),(.int .i64 0),(.int .i64 0),(.str []),(.slice .full 0 []),(.bool false),(.slice .full 0 []),(.slice .full 0 []),(.slice .full 0 []),(.int .i64 0),(.int .i64 0),(.int .i64 0),(.int .i64 0)]), .op none none (.store cf lW 17)]
abbrev QOH:AC:= .seq (.seq (.run [.o 55 (.aq cW 1), .o 56 (.load lX false 1), .o 57 (.bin .eql nZ (.k (.int .i64 6)))]) (.cond pd (.run [.m 58 de, .m 59 de, .o 60 (.aq cf 15), .op none none (.store pT oI 1), .o 61 (.aq cf 16), .op none none (.store rz mJ 1)]) .skip)) (.seq (.run [.m 62 bt, .o 63 (.aq cW 11), .o 64 (.load rA false 1), .o 65 (.load cf true 17), .c 66 j8 [qw,rB,vB]]) (.run [.m 67 bt, .o 68 (.aq cW 12), .o 69 (.load vC false 1), .o 70 (.load cf true 17), .c 71 j8 [xB,zk,zl]]))
abbrev QOK:AC:= .seq (.seq (.run [.m 27 dD, .o 28 (.bin .add fl (.k (.int .i64 1))), .m 29 bu, .o 30 (.len gb), .o 31 (.bin .lss fR gw)]) (.cond gf (.run [.m 32 de, .o 33 (.load cW true 13), .c 34 mH [gG], .o 35 (.bin .add gF iE), .o 36 (.aq dq 15), .op none none (.store iw gR 1)]) .skip)) (.seq QO8 (.seq QO9 QOH))
abbrev QOO:AC:= .seq (.run [.m 15 c6, .o 16 (.cd cH c6 13), .o 17 (.load dc true 13), .o 7 (.alloc [(.int .i64 0),(.int .i64 0),(.slice .full 0 []),(.str []),(.str []),(.int .i64 0),(.int .i64 0),(.str []),(.slice .full 0 []),(.bool false),(.slice .full 0 []),(.slice .full 0 []),(.slice .full 0 [])]), .m 6 dC, .op none none (.store cW dE 13)]) (.seq (.run [.m 18 bt, .o 19 (.bT dA), .o 20 (.aq dV 2), .o 21 (.load ej false 1), .o 22 (.len dW), .o 23 (.bin .add ew (.k (.int .i64 1))), .m 8 ey]) (.seq (.run [.o 24 (.load cm true 17), .o 9 (.alloc [(.int .i64 0),(.int .i64 0),(.slice .full 0 []),(.str []),(.str []),(.int .i64 0),(.int .i64 0),(.str []),(.slice .full 0 []),(.bool false),(.slice .full 0 []),(.slice .full 0 []),(.slice .full 0 []),(.int .i64 0),(.int .i64 0),(.int .i64 0),(.int .i64 0)]), .op none none (.store dq eR 17)]) (.seq (.run [.o 25 (.load cW true 13), .o 26 (.aq dq 0), .op none none (.store fk eU 13)]) QOK)))
abbrev QOS:AC:= .seq (.cond cO .skip (.exit 0)) (.seq (.block 1 QOO) (.run [.o 72 (.bin .add c6 (.k (.int .i64 1))), .m 13 Bo]))
abbrev QOW:AC:= .seq (.run [.m 11 bu, .o 12 (.len cH), .o 13 (.mv (.k (.int .i64 0)))]) (.block 0 (.loop (.seq (.run [.o 14 (.bin .lss c6 cT)]) QOS)))
abbrev QOX:AC:= .seq (.run [.o 5 (.box dw)]) QOW
abbrev QP2:AC:= .cond dq (.seq (.run [.o 4 (.mv (.k (.slice .full 0 [])))]) .ret) .skip
abbrev QP9:AC:= .par [.o 21 (.aq dw 0), .o 22 (.load dW false 1), .c 23 kA [ew], .o 24 (.load dD true 5), .c 25 sN [eR], .o 26 (.app 1 16 ey eU), .m 4 fk] [(0,0),(1,0),(2,0),(3,1),(4,0),(5,0),(6,0)]
abbrev QPG:AC:= .seq (.block 1 (.seq (.run [.o 15 (.cd cH c6 5), .o 16 (.load dC true 5), .o 6 (.alloc [(.str []),(.slice .full 0 []),(.slice .full 0 []),(.slice .full 0 []),(.slice .full 0 [])]), .op none none (.store dD dc 5)]) (.seq (.run [.o 17 (.aq dD 0), .o 18 (.load dE false 1), .m 19 bu, .o 20 (.bin .eql dA dV)]) (.cond ej (.seq QP9 .ret) .skip)))) (.run [.o 27 (.bin .add c6 (.k (.int .i64 1))), .m 13 fl])
abbrev QPK:AC:= .block 0 (.loop (.seq (.run [.o 14 (.bin .lss c6 cT)]) (.seq (.cond cO .skip (.exit 0)) QPG)))
abbrev QPO:AC:= .seq (.seq (.run [.o 10 (.aq dw 1), .o 11 (.load cf false 1), .o 12 (.len cH), .o 13 (.mv (.k (.int .i64 0)))]) QPK) (.seq (.run [.o 4 (.mv (.k (.slice .full 0 [])))]) .ret)
abbrev QPQ:AC:= .seq (.run [.o 2 (.box bt), .o 4 (.mv (.k (.slice .full 0 [])))]) (.seq (.seq (.run [.o 7 (.load dw true 2), .c 8 ri [cW], .o 9 (.un .not de)]) QP2) QPO)
abbrev QPS:AC:= .par [.m 5 bt, .o 6 (.bT cm), .o 7 (.aq dD 3), .o 8 (.load cW false 1), .m 9 bu, .o 10 (.cd de dq 1), .o 11 (.load cf false 1), .m 12 bt, .o 13 (.bT cT), .o 14 (.aq c6 4), .o 15 (.load cO false 1), .m 16 bu, .o 17 (.cd dC dc 1), .o 18 (.load dE false 1), .o 19 (.bin .lss cH dA)] [(0,0),(1,0),(2,0),(3,0),(4,0),(5,0),(6,0),(7,0),(8,0),(9,0),(10,0),(11,0),(12,0),(13,0),(14,0)]
abbrev QPY:AC:= .seq (.run [(.o 4 (.mv (.k (.int .i64 (-1)))))]) .ret
abbrev QPZ:AC:= .seq (.seq QPS (.cond dV (.seq (.run [.m 20 bt, .o 21 (.bT ej), .o 22 (.aq dW 3), .o 23 (.load ew false 1), .m 24 bu, .o 25 (.cd ey eR 1), .o 26 (.load eU false 1), .m 4 fk]) .ret) .skip)) QPY
abbrev QQ0:AC:= .seq (.run [.o 4 (.mv (.k (.int .i64 0)))]) QPZ
abbrev QQC:AC:= .block 1 (.seq (.run [.m 10 de, .m 5 cf]) (.seq (.run [.m 11 bu, .m 12 bt, .m 13 cm, .o 14 (.cd cT c6 5), .o 15 (.load cO true 5),(.jt (some 16) none 11 [dC])]) (.cond dc (.seq (.run [.m 17 cm, .m 4 dE]) .ret) .skip)))
abbrev QQF:AC:= .seq (.cond dq .skip (.exit 0)) (.seq QQC (.run [.o 18 (.bin .add de (.k (.int .i64 1))), .m 8 dA]))
abbrev QQJ:AC:= .seq (.run [.m 6 bt, .o 7 (.len dD), .o 8 (.mv (.k (.int .i64 0)))]) (.block 0 (.loop (.seq (.run [.o 9 (.bin .lss de cW)]) QQF)))
abbrev QQL:AC:= .seq (.run [(.o 4 (.mv (.k (.int .i64 (-1)))))]) .ret
abbrev QQN:AC:= .seq (.run [.o 4 (.mv (.k (.int .i64 0)))]) (.seq QQJ QQL)
abbrev QQR:AC:= .seq (.run [.o 2 (.box bt), .o 3 (.mv (.k (.bool false)))]) (.seq (.run [.o 4 (.aq dw 0), .o 5 (.load fi false 1), .o 6 (.load bu false 1), .o 7 (.bin .eql cm dD), .m 3 cW]) .ret)
abbrev QQU:AC:= .par [.m 8 cm, .o 9 (.bT de), .o 10 (.aq dq 2), .o 11 (.load cf false 1), .m 12 cm, .o 13 (.bT cT), .o 14 (.aq c6 1), .o 15 (.load cO false 1), .m 16 bu, .c 17 fZ [dC,dc], .o 18 (.cd cH dE 1), .o 19 (.load dA false 1), .m 4 dV] [(4,0),(5,0),(6,0),(7,0),(8,0),(9,0),(0,0),(1,0),(2,0),(3,1),(10,0),(11,0),(12,0)]
abbrev QQX:AC:= .seq (.run [.o 4 (.mv (.k .dS))]) (.seq (.run [.m 6 bt, .c 7 kL [dD], .m 5 cW]) (.seq QQU .ret))
abbrev QR5:AC:= .par [.m 30 bt, .m 31 bt, .o 32 (.bT gf), .o 33 (.aq gF 5), .o 34 (.load gG false 1), .m 35 de, .o 36 (.bT gR), .o 37 (.load iw false 1), .o 38 (.dt [(.int .i64 0)] 1 1 [(0,jg)]), .o 39 (.app 1 8 iE jO), .o 40 (.bT gw), .o 41 (.aq j9 5), .op none none (.store jP jB 1)] [(1,0),(2,0),(3,0),(4,0),(5,0),(6,0),(7,0),(8,0),(9,0),(0,0),(10,0),(11,0),(12,0)]
abbrev QRA:AC:= .seq (.cond fl .skip (.exit 0)) (.seq (.block 1 (.seq (.run [.o 28 (.cd eR fk 1), .o 29 (.load fR false 1), .m 8 gb]) QR5)) (.run [.o 42 (.bin .add fk (.k (.int .i64 1))), .m 26 kF]))
abbrev QRB:AC:= .seq (.run [.o 27 (.bin .lss fk eU)]) QRA
abbrev QRF:AC:= .par [.o 44 (.load cB true 4), .m 45 dD, .o 46 (.bT lJ), .o 47 (.aq lK 1), .o 48 (.load lV false 1), .m 49 bt, .o 50 (.bT kU), .o 51 (.aq lL 5), .o 52 (.load kV false 1), .c 53 wD [kG,kT,kW], .m 43 lM, .o 54 (.ext ku 0), .o 55 (.ext ku 1), .m 9 lW, .m 10 lX] [(0,0),(1,0),(2,0),(3,0),(4,0),(5,0),(6,0),(7,0),(8,0),(9,0),(10,0),(11,0),(12,0),(13,0),(14,0)]
abbrev QRJ:AC:= .seq (.run [.m 56 cf, .o 57 (.un .not nZ)]) (.cond pd (.run [.m 58 bt, .o 59 (.bT oI), .o 60 (.aq mJ 6), .o 61 (.aq pT 0), .op none none (.store rz (.k (.int .i64 4)) 1)]) .skip)
abbrev QRN:AC:= .seq QRF (.seq QRJ (.seq (.run [.m 62 dq, .m 63 cf, .m 4 qw, .m 5 rA]) .ret))
abbrev QRO:AC:= .seq (.seq (.run [.m 21 dD, .o 22 (.bT dW), .o 23 (.aq ew 2), .o 24 (.load ey false 1), .o 25 (.len eR), .o 26 (.mv (.k (.int .i64 0)))]) (.block 0 (.loop QRB))) QRN
abbrev QRP:AC:= .seq (.run [.m 13 bt, .m 14 bt, .o 15 (.bT cO), .o 16 (.aq dC 5), .o 17 (.load dc false 1),(.o 18 (.D0 1 dE none (some (.k (.int .i64 0))))), .o 19 (.bT c6), .o 20 (.aq dV 5), .op none none (.store ej dA 1)]) QRO
abbrev QRR:AC:= .seq (.run [.o 3 (.box bu), .o 4 (.mv (.k (.int .i64 0))), .o 5 (.mv (.k (.bool false)))]) (.seq (.run [.m 11 bt, .c 12 kL [cH], .m 6 cT]) QRP)
abbrev QRV:AC:= .seq (.run [.m 6 bt, .o 7 (.bT dD), .o 8 (.aq cW 3), .o 9 (.load de false 1), .m 10 bu, .c 11 nq [dq,cf]]) (.cond cH (.run [.m 12 bt, .m 13 bt, .o 14 (.bT c6), .o 15 (.aq cO 6), .o 16 (.aq dC 4), .o 17 (.load dc false 1), .m 18 bu, .m 19 dw, .o 20 (.build [(.int .i64 0),(.slice .full 0 [])] [(0,(1,dA)),(1,(1,dV))]), .o 21 (.dt [(.int .i64 0),(.slice .full 0 [])] 2 1 [(0,ej)]), .o 22 (.app 2 32 dE dW), .o 23 (.bT cT), .o 24 (.aq ey 6), .o 25 (.aq eR 4), .op none none (.store eU ew 1)]) .skip)
abbrev QS4:AC:= .cond ew (.seq (.run [.o 23 (.aq dq 0), .o 24 (.aq ey 0), .o 25 (.load eR false 1), .m 6 eU, .o 7 (.mv (.k (.bool true)))]) .ret) .skip
abbrev QS9:AC:= .seq (.block 1 (.seq (.run [.o 16 (.cd cT cO 17), .o 17 (.load dc true 17), .o 9 (.alloc [(.int .i64 0),(.int .i64 0),(.slice .full 0 []),(.str []),(.str []),(.int .i64 0),(.int .i64 0),(.str []),(.slice .full 0 []),(.bool false),(.slice .full 0 []),(.slice .full 0 []),(.slice .full 0 []),(.int .i64 0),(.int .i64 0),(.int .i64 0),(.int .i64 0)]), .op none none (.store dq dE 17)]) (.seq (.run [.o 18 (.aq dq 0), .o 19 (.aq dA 2), .o 20 (.load dV false 1), .m 21 dw, .c 22 ct [ej,dW]]) QS4))) (.run [.o 26 (.bin .add cO (.k (.int .i64 1))), .m 14 fk])
abbrev QSD:AC:= .block 0 (.loop (.seq (.run [.o 15 (.bin .lss cO c6)]) (.seq (.cond dC .skip (.exit 0)) QS9)))
abbrev QSH:AC:= .seq (.run [(.o 6 (.mv (.k (.int .i64 (-1))))), .o 7 (.mv (.k (.bool true)))]) .ret
abbrev QSM:AC:= .seq (.seq (.run [.m 27 bt, .o 28 (.bT fl), .o 29 (.aq fR 0), .o 30 (.aq gb 1), .o 31 (.load gw false 1), .m 32 bu, .o 33 (.cd gf gF 5), .o 34 (.aq gG 4), .o 35 (.load iE false 1), .m 36 dw, .c 37 ct [gR,iw]]) (.cond jg QSH .skip)) (.seq (.run [.o 6 (.mv (.k (.int .i64 0))), .o 7 (.mv (.k (.bool false)))]) .ret)
abbrev QSN:AC:= .seq (.seq (.run [.m 10 bt, .m 11 bu, .c 12 gN [cf,cH], .o 13 (.len cT), .o 14 (.mv (.k (.int .i64 0)))]) QSD) QSM
abbrev QSO:AC:= .seq (.run [.o 6 (.mv (.k (.int .i64 0))), .o 7 (.mv (.k (.bool false)))]) QSN
abbrev QST:AC:= .cond cW (.seq (.run [.m 8 bt, .o 9 (.cd de (.k (.int .i64 0)) 13), .o 10 (.aq dq 0), .o 11 (.load cf false 1), .m 4 cH]) .ret) .skip
abbrev QSX:AC:= .seq (.seq (.run [.m 5 bt, .o 6 (.len cm), .o 7 (.bin .gtr dD (.k (.int .i64 0)))]) QST) (.seq (.run [.m 12 bu, .m 4 cT]) .ret)
abbrev QSY:AC:= .seq (.run [.o 4 (.mv (.k (.int .i64 0)))]) QSX
abbrev QT0:AC:= .par [.m 3 bt, .o 4 (.bT cB), .o 5 (.aq fi 4), .o 6 (.load cm false 1), .m 7 bt, .o 8 (.bT cW), .o 9 (.aq de 4), .o 10 (.load dq false 1), .o 11 (.len cf), .o 12 (.bin .sub cH (.k (.int .i64 1))), .o 13 (.cd dD cT 1), .o 14 (.load c6 false 1), .m 2 cO] [(0,0),(1,0),(2,0),(3,0),(4,0),(5,0),(6,0),(7,0),(8,0),(9,0),(10,0),(11,0),(12,0)]
abbrev QT2:AC:= .seq (.run [.o 2 (.mv (.k .dS))]) (.seq QT0 .ret)
abbrev QT6:AC:= .seq (.run [.o 1 (.box bt), .o 2 (.mv (.k (.slice .full 0 [])))]) (.seq (.run [.o 3 (.aq bu 3), .o 4 (.load cB false 1),(.c 5 mI [fi,(.k (.int .i64 1)),(.k (.int .i64 0)),(.k (.bool false)),(.k (.slice .full 0 []))]), .m 2 cm]) .ret)
abbrev QTA:AC:= .seq (.run [(.o 16 (.build [(.int .i64 0),(.int .i64 0)] [(0,(1,(.k (.int .i64 1))))])), .op none none (.store dw dc 2)]) .ret
abbrev QTM:AC:= .seq (.block 1 (.seq (.run [.o 22 (.cd dA ej 5), .o 23 (.load ew true 5), .o 5 (.alloc [(.str []),(.slice .full 0 []),(.slice .full 0 []),(.slice .full 0 []),(.slice .full 0 [])]), .op none none (.store cm ey 5)]) (.run [.m 24 cB, .o 25 (.aq cm 0), .o 26 (.load eU false 1), .o 27 (.dt [(.str [])] 1 1 [(0,fk)]), .o 28 (.app 1 16 eR fl), .m 3 fR]))) (.run [.o 29 (.bin .add ej (.k (.int .i64 1))), .m 20 gb])
abbrev QTQ:AC:= .block 0 (.loop (.seq (.run [.o 21 (.bin .lss ej dV)]) (.seq (.cond dW .skip (.exit 0)) QTM)))
abbrev QTV:AC:= .seq (.run [(.o 53 (.build [(.int .i64 0),(.int .i64 0)] [(0,(1,(.k (.int .i64 5))))])), .op none none (.store dw lM 2)]) .ret
abbrev QU6:AC:= .seq (.run [(.o 73 (.build [(.int .i64 0),(.int .i64 0)] [(0,(1,(.k (.int .i64 5))))])), .op none none (.store dw Bp 2)]) .ret
abbrev QUF:AC:= .seq (.run [.o 89 (.aq cT 0), .o 90 (.aq Dy 0), .o 91 (.load FL false 1),(.o 92 (.build [(.int .i64 0),(.int .i64 0)] [(0,(1,(.k (.int .i64 5)))),(1,(1,Jw))])), .op none none (.store dw OZ 2)]) .ret
abbrev QUL:AC:= .seq (.block 5 (.seq (.run [.o 80 (.cd Bq zm 17), .o 81 (.load FJ true 17), .o 12 (.alloc [(.int .i64 0),(.int .i64 0),(.slice .full 0 []),(.str []),(.str []),(.int .i64 0),(.int .i64 0),(.str []),(.slice .full 0 []),(.bool false),(.slice .full 0 []),(.slice .full 0 []),(.slice .full 0 []),(.int .i64 0),(.int .i64 0),(.int .i64 0),(.int .i64 0)]), .op none none (.store cT FK 17)]) (.seq (.run [.o 82 (.load bu true 2), .o 83 (.load dq true 5), .m 84 cB, .o 85 (.aq cT 0), .o 86 (.load Js true 13), .c 87 ql [Jp,Jq,Jr,Jt], .o 88 (.un .not Ju)]) (.cond Jv QUF .skip)))) (.run [.o 93 (.bin .add zm (.k (.int .i64 1))), .m 78 U2])
abbrev QUP:AC:= .block 4 (.loop (.seq (.run [.o 79 (.bin .lss zm Dx)]) (.seq (.cond FI .skip (.exit 4)) QUL)))
abbrev QUR:AC:= .seq (.seq (.run [.m 66 cf, .c 67 oi [xA], .m 68 xB, .g 69 68 false (.mv cf), .g 70 68 false (.uJ 130 [bu]), .d 71 68 false ga [zk,zl], .o 72 (.pick vC (.k (.bool true)) Du)]) (.cond Bo QU6 .skip)) (.seq (.run [.m 74 cW, .m 75 de, .c 76 gN [Dv,Dw], .o 77 (.len Bq), .o 78 (.mv (.k (.int .i64 0)))]) QUP)
abbrev QUW:AC:= .seq (.block 3 (.seq (.run [.m 61 mJ, .o 62 (.cd pd mJ 5), .o 63 (.load qw true 5), .o 9 (.alloc [(.str []),(.slice .full 0 []),(.slice .full 0 []),(.slice .full 0 []),(.slice .full 0 [])]), .m 8 rz, .op none none (.store dq rA 5)]) (.seq (.run [.o 64 (.load dq true 5), .c 65 sN [rB], .m 10 vB]) QUR))) (.run [.o 94 (.bin .add mJ (.k (.int .i64 1))), .m 59 U3])
abbrev QV0:AC:= .block 2 (.loop (.seq (.run [.o 60 (.bin .lss mJ oI)]) (.seq (.cond pT .skip (.exit 2)) QUW)))
abbrev QV4:AC:= .seq (.seq (.run [.o 56 (.aq bu 1), .o 57 (.load nZ false 1), .o 58 (.len pd), .o 59 (.mv (.k (.int .i64 0)))]) QV0) (.seq (.run [.o 95 (.build [(.int .i64 0),(.int .i64 0)] []), .op none none (.store dw U4 2)]) .ret)
abbrev QV6:AC:= .seq (.seq (.run [.o 32 (.aq bu 0), .o 33 (.load gF false 1), .c 34 oi [gG], .m 35 iE, .g 36 35 false (.mv cB), .d 37 35 false oi [iw], .o 38 (.pick gR (.k (.bool true)) jg), .m 39 jO, .g 40 39 false (.mv dD), .g 41 39 false (.bin .lss j9 (.k (.int .i64 0))), .o 42 (.pick jB (.k (.bool true)) jP), .m 43 kF, .g 44 43 false (.aq bu 1), .g 45 43 false (.load kG false 1), .g 46 43 false (.mv dD), .g 47 43 false (.cd lJ lK 5), .g 48 43 false (.aq lV 1), .g 49 43 false (.load kT false 1), .g 50 43 false (.len kU), .g 51 43 false (.bin .gtr lL (.k (.int .i64 0))), .o 52 (.pick ku (.k (.bool true)) kV)]) (.cond kW QTV .skip)) (.seq (.run [.o 54 (.load bu true 2), .c 55 kR [lW], .m 7 lX]) QV4)
abbrev QV8:AC:= .seq (.seq (.run [.o 17 (.aq bu 1), .o 18 (.load dE false 1), .o 19 (.len dA), .o 20 (.mv (.k (.int .i64 0)))]) QTQ) (.seq (.run [.m 30 cB,(.c 31 fZ [gw,(.k (.str [109,97,105,110]))]), .m 6 gf]) QV6)
abbrev QVA:AC:= .seq (.seq (.run [.o 13 (.load bu true 2), .c 14 ri [c6], .o 15 (.un .not cO)]) (.cond dC QTA .skip)) (.seq (.run [.o 3 (.mv (.k (.slice .full 0 [])))]) QV8)
abbrev QVB:AC:= .seq (.run [.o 1 (.box bt), .o 2 (.alloc [(.int .i64 0),(.int .i64 0)])]) QVA
abbrev QVF:AC:= .seq (.run [(.o 9 (.build [(.int .i64 0),(.int .i64 0)] [(0,(1,(.k (.int .i64 1))))])), .op none none (.store dw dq 2)]) .ret
abbrev QVO:AC:= .seq (.run [.o 31 (.aq fi 0), .o 32 (.aq gf 0), .o 33 (.load gF false 1),(.o 34 (.build [(.int .i64 0),(.int .i64 0)] [(0,(1,(.k (.int .i64 6)))),(1,(1,gG))])), .op none none (.store dw iE 2)]) .ret
abbrev QVR:AC:= .seq (.run [.o 18 (.cd cO dc 17), .o 19 (.load dA true 17), .o 4 (.alloc [(.int .i64 0),(.int .i64 0),(.slice .full 0 []),(.str []),(.str []),(.int .i64 0),(.int .i64 0),(.str []),(.slice .full 0 []),(.bool false),(.slice .full 0 []),(.slice .full 0 []),(.slice .full 0 []),(.int .i64 0),(.int .i64 0),(.int .i64 0),(.int .i64 0)]), .op none none (.store fi dV 17)]) (.seq (.run [.o 20 (.aq fi 0), .o 21 (.aq ej 1), .o 22 (.load dW false 1), .o 23 (.bin .eql ew (.k (.int .i64 4))), .m 24 ey, .g 25 24 true (.load bu true 2), .g 26 24 true (.aq fi 0), .g 27 24 true (.load fk true 13), .d 28 24 true vx [eU,fl], .g 29 24 true (.un .not fR), .o 30 (.pick eR gb (.k (.bool false)))]) (.cond gw QVO .skip))
abbrev QVV:AC:= .seq (.cond dE .skip (.exit 0)) (.seq (.block 1 QVR) (.run [.o 35 (.bin .add dc (.k (.int .i64 1))), .m 16 gR]))
abbrev QVZ:AC:= .seq (.run [.o 10 (.load bu true 2), .c 11 kR [cf], .o 12 (.bT cH), .o 13 (.aq cT 2), .o 14 (.load c6 false 1), .o 15 (.len cO), .o 16 (.mv (.k (.int .i64 0)))]) (.block 0 (.loop (.seq (.run [.o 17 (.bin .lss dc dC)]) QVV)))
abbrev QW3:AC:= .seq (.seq (.run [.o 5 (.load bu true 2), .c 6 lZ [cm], .o 7 (.CJ dD 0 false 1), .o 8 (.bin .neq cW (.k (.int .i64 0)))]) (.cond de QVF .skip)) (.seq QVZ (.seq (.run [.o 36 (.build [(.int .i64 0),(.int .i64 0)] []), .op none none (.store dw iw 2)]) .ret))
abbrev QW4:AC:= .seq (.run [.o 1 (.box bt), .o 2 (.alloc [(.int .i64 0),(.int .i64 0)])]) QW3
abbrev QW9:AC:= .seq (.run [(.o 14 (.build [(.int .i64 0),(.int .i64 0)] [(0,(1,(.k (.int .i64 1))))])), .op none none (.store dw cO 2)]) .ret
abbrev QWP:AC:= .seq (.run [.o 47 (.aq dq 0), .o 48 (.aq lV 0), .o 49 (.load kT false 1),(.o 50 (.build [(.int .i64 0),(.int .i64 0)] [(0,(1,(.k (.int .i64 7)))),(1,(1,kU))])), .op none none (.store dw lL 2)]) .ret
abbrev QWS:AC:= .seq (.run [.m 32 dD, .o 33 (.aq dq 0), .o 34 (.aq gG 2), .o 35 (.load iE false 1), .c 36 qb [gF,gR], .m 31 iw, .o 37 (.ext gf 0), .o 38 (.ext gf 1), .m 6 jg, .m 7 jO]) (.seq (.run [.m 39 cW, .o 40 (.un .not jB), .m 41 j9, .g 42 41 false (.mv cB), .g 43 41 false (.load dq true 17), .d 44 41 false vy [kF,ku], .g 45 41 false (.un .not kG), .o 46 (.pick jP (.k (.bool true)) lJ)]) (.cond lK QWP .skip))
abbrev QWW:AC:= .seq (.block 3 (.seq (.run [.o 29 (.cd eU fl 17), .o 30 (.load gb true 17), .o 9 (.alloc [(.int .i64 0),(.int .i64 0),(.slice .full 0 []),(.str []),(.str []),(.int .i64 0),(.int .i64 0),(.str []),(.slice .full 0 []),(.bool false),(.slice .full 0 []),(.slice .full 0 []),(.slice .full 0 []),(.int .i64 0),(.int .i64 0),(.int .i64 0),(.int .i64 0)]), .op none none (.store dq gw 17)]) QWS)) (.run [.o 51 (.bin .add fl (.k (.int .i64 1))), .m 27 kV])
abbrev QX0:AC:= .block 2 (.loop (.seq (.run [.o 28 (.bin .lss fl fk)]) (.seq (.cond fR .skip (.exit 2)) QWW)))
abbrev QX5:AC:= .seq (.run [(.o 61 (.build [(.int .i64 0),(.int .i64 0)] [(0,(1,(.k (.int .i64 7))))])), .op none none (.store dw rz 2)]) .ret
abbrev QX9:AC:= .seq (.seq (.run [.m 23 cB, .m 24 fi, .c 25 gN [ey,eR], .o 26 (.len eU), .o 27 (.mv (.k (.int .i64 0)))]) QX0) (.seq (.run [.m 53 dD, .o 54 (.aq cm 4), .o 55 (.load lW false 1), .c 56 qb [lM,lX], .m 52 nZ, .o 57 (.ext kW 0), .o 58 (.ext kW 1), .m 7 oI]) (.seq (.run [.m 59 cW, .o 60 (.un .not mJ)]) (.cond pT QX5 .skip)))
abbrev QXB:AC:= .seq (.run [.o 6 (.mv (.k (.slice .full 0 [])))]) (.seq (.run [.o 7 (.mv (.k (.bool true)))]) QX9)
abbrev QXF:AC:= .seq (.block 1 (.seq (.run [.m 20 dA, .o 21 (.cd dc dA 5), .o 22 (.load dW true 5), .o 5 (.alloc [(.str []),(.slice .full 0 []),(.slice .full 0 []),(.slice .full 0 []),(.slice .full 0 [])]), .m 4 ej, .op none none (.store cm ew 5)]) QXB)) (.run [.o 62 (.bin .add dA (.k (.int .i64 1))), .m 18 qw])
abbrev QXJ:AC:= .block 0 (.loop (.seq (.run [.o 19 (.bin .lss dA dE)]) (.seq (.cond dV .skip (.exit 0)) QXF)))
abbrev QXN:AC:= .seq (.seq (.run [.o 15 (.aq bu 1), .o 16 (.load dC false 1), .o 17 (.len dc), .o 18 (.mv (.k (.int .i64 0)))]) QXJ) (.seq (.run [.o 63 (.build [(.int .i64 0),(.int .i64 0)] []), .op none none (.store dw rA 2)]) .ret)
abbrev QXP:AC:= .seq (.run [.o 10 (.load bu true 2), .c 11 rl [cf], .m 3 cH]) (.seq (.seq (.run [.m 12 cB, .o 13 (.Gl false cT (.k .dS))]) (.cond c6 QW9 .skip)) QXN)
abbrev QXQ:AC:= .seq (.run [.o 1 (.box bt), .o 2 (.alloc [(.int .i64 0),(.int .i64 0)])]) QXP
abbrev QXU:AC:= .seq (.run [(.o 12 (.build [(.int .i64 0),(.int .i64 0)] [(0,(1,(.k (.int .i64 1))))])), .op none none (.store dw cT 2)]) .ret
abbrev QY2:AC:= .par [.m 21 cB, .o 22 (.aq cm 0), .o 23 (.load ew false 1), .o 24 (.load bu true 2), .o 25 (.aq cm 0), .o 26 (.load eU false 1), .c 27 rm [eR,fk], .op none none (.yK dW ey fl)] [(3,0),(4,0),(5,0),(6,0),(0,0),(1,0),(2,1),(7,0)]
abbrev QY6:AC:= .seq (.block 1 (.seq (.run [.o 19 (.cd dC dE 5), .o 20 (.load dV true 5), .o 5 (.alloc [(.str []),(.slice .full 0 []),(.slice .full 0 []),(.slice .full 0 []),(.slice .full 0 [])]), .op none none (.store cm ej 5)]) QY2)) (.run [.o 28 (.bin .add dE (.k (.int .i64 1))), .m 17 fR])
abbrev QYA:AC:= .block 0 (.loop (.seq (.run [.o 18 (.bin .lss dE dc)]) (.seq (.cond dA .skip (.exit 0)) QY6)))
abbrev QYI:AC:= .seq (.run [.o 54 (.aq cW 0), .o 55 (.aq lW 0), .o 56 (.load lX false 1),(.o 57 (.build [(.int .i64 0),(.int .i64 0)] [(0,(1,(.k (.int .i64 8)))),(1,(1,nZ))])), .op none none (.store dw pd 2)]) .ret
abbrev QYL:AC:= .seq (.run [.o 37 (.cd gG gR 17), .o 38 (.load jg true 17), .o 7 (.alloc [(.int .i64 0),(.int .i64 0),(.slice .full 0 []),(.str []),(.str []),(.int .i64 0),(.int .i64 0),(.str []),(.slice .full 0 []),(.bool false),(.slice .full 0 []),(.slice .full 0 []),(.slice .full 0 []),(.int .i64 0),(.int .i64 0),(.int .i64 0),(.int .i64 0)]), .op none none (.store cW jO 17)]) (.seq (.run [.o 39 (.aq cW 0), .o 40 (.aq jB 1), .o 41 (.load j9 false 1), .o 42 (.bin .eql jP (.k (.int .i64 4))), .m 43 kF, .g 44 43 true (.aq cW 0), .g 45 43 true (.load kG true 13), .g 46 43 true (.mv cB), .g 47 43 true (.aq cW 0), .g 48 43 true (.aq lV 4), .g 49 43 true (.load kT false 1), .g 50 43 true (.wc lK kU (.slice .full 0 [])), .d 51 43 true sq [lJ,lL], .g 52 43 true (.un .not kV), .o 53 (.pick ku kW (.k (.bool false)))]) (.cond lM QYI .skip))
abbrev QYP:AC:= .seq (.cond iw .skip (.exit 2)) (.seq (.block 3 QYL) (.run [.o 58 (.bin .add gR (.k (.int .i64 1))), .m 35 oI]))
abbrev QYT:AC:= .seq (.run [.o 29 (.load bu true 2), .c 30 kR [gb], .o 31 (.bT gw), .o 32 (.aq gf 2), .o 33 (.load gF false 1), .o 34 (.len gG), .o 35 (.mv (.k (.int .i64 0)))]) (.block 2 (.loop (.seq (.run [.o 36 (.bin .lss gR iE)]) QYP)))
abbrev QYX:AC:= .seq (.seq (.run [.o 14 (.aq bu 1), .o 15 (.load cO false 1), .o 16 (.len dC), .o 17 (.mv (.k (.int .i64 0)))]) QYA) (.seq QYT (.seq (.run [.o 59 (.build [(.int .i64 0),(.int .i64 0)] []), .op none none (.store dw mJ 2)]) .ret))
abbrev QYZ:AC:= .seq (.seq (.run [.o 8 (.load bu true 2), .c 9 qk [de], .o 10 (.CJ dq 0 false 1), .o 11 (.bin .neq cf (.k (.int .i64 0)))]) (.cond cH QXU .skip)) (.seq (.run [.op (some 13) none .uK, .m 3 c6]) QYX)
abbrev QZ0:AC:= .seq (.run [.o 1 (.box bt), .o 2 (.alloc [(.int .i64 0),(.int .i64 0)])]) QYZ
abbrev QZB:AC:= .cond dE (.seq (.run [.o 2 (.mv (.k (.int .i64 2)))]) .ret) .skip
abbrev QZD:AC:= .cond cf (.seq (.run [.o 2 (.mv (.k (.int .i64 1)))]) .ret) (.seq (.run [.m 18 bt, .o 19 (.bin .geq dA (.k (.int .i64 5))), .m 20 dV, .g 21 20 true (.mv bt), .g 22 20 true (.bin .leq dW (.k (.int .i64 17))), .o 23 (.pick ej ew (.k (.bool false))), .m 17 ey]) QZB)
abbrev QZF:AC:= .cond cB (.seq (.run [.o 2 (.mv (.k (.int .i64 0)))]) .ret) (.seq (.run [.m 11 bt, .o 12 (.bin .eql cH (.k (.int .i64 3))), .m 13 cT, .g 14 13 false (.mv bt), .g 15 13 false (.bin .eql cO (.k (.int .i64 4))), .o 16 (.pick c6 (.k (.bool true)) dC), .m 10 dc]) QZD)
abbrev QZH:AC:= .block 0 (.seq (.run [.m 4 bt, .o 5 (.bin .eql fi (.k (.int .i64 1))), .m 6 cm, .g 7 6 false (.mv bt), .g 8 6 false (.bin .eql cW (.k (.int .i64 2))), .o 9 (.pick dD (.k (.bool true)) de), .m 3 dq]) QZF)
abbrev QZJ:AC:= .seq (.run [(.o 2 (.mv (.k (.int .i64 (-1)))))]) .ret
abbrev QZL:AC:= .seq (.run [.o 2 (.mv (.k (.int .i64 0)))]) (.seq QZH QZJ)
open Go.Proofs
theorem FM:Has Tryz.prog np 15 [(2,none)] QLP:=⟨Tryz.f64,by kernel_rfl,by kernel_rfl⟩
theorem nr:Has Tryz.prog nY 27 [(2,none)] QLZ:=⟨Tryz.f65,by kernel_rfl,by kernel_rfl⟩
theorem rC:Has Tryz.prog kr 71 [(6,none)] QN0:=⟨Tryz.f66,by kernel_rfl,by kernel_rfl⟩
theorem JC:Has Tryz.prog rj 5 [(2,(some (true,4)))] QN4:=⟨Tryz.f68,by kernel_rfl,by kernel_rfl⟩
theorem HH:Has Tryz.prog ld 5 [(2,(some (true,4)))] QN8:=⟨Tryz.f69,by kernel_rfl,by kernel_rfl⟩
theorem JD:Has Tryz.prog uO 12 [(6,(some (true,4)))] QNC:=⟨Tryz.f70,by kernel_rfl,by kernel_rfl⟩
theorem Br:Has Tryz.prog j7 29 [(4,none)] QNV:=⟨Tryz.f71,by kernel_rfl,by kernel_rfl⟩
theorem Bs:Has Tryz.prog j8 73 [] QOX:=⟨Tryz.f72,by kernel_rfl,by kernel_rfl⟩
theorem FN:Has Tryz.prog vv 28 [(4,none)] QPQ:=⟨Tryz.f73,by kernel_rfl,by kernel_rfl⟩
theorem zp:Has Tryz.prog o8 27 [(4,none)] QQ0:=⟨Tryz.f74,by kernel_rfl,by kernel_rfl⟩
theorem rT:Has Tryz.prog gk 19 [(4,none)] QQN:=⟨Tryz.f75,by kernel_rfl,by kernel_rfl⟩
theorem yi:Has Tryz.prog lN 8 [(3,none)] QQR:=⟨Tryz.f76,by kernel_rfl,by kernel_rfl⟩
theorem yj:Has Tryz.prog iN 20 [(4,none)] QQX:=⟨Tryz.f77,by kernel_rfl,by kernel_rfl⟩
theorem yk:Has Tryz.prog jV 64 [(4,none),(5,none)] QRR:=⟨Tryz.f78,by kernel_rfl,by kernel_rfl⟩
theorem yl:Has Tryz.prog ez 26 [] QRV:=⟨Tryz.f79,by kernel_rfl,by kernel_rfl⟩
theorem CA:Has Tryz.prog oQ 38 [(6,none),(7,none)] QSO:=⟨Tryz.f80,by kernel_rfl,by kernel_rfl⟩
theorem Ao:Has Tryz.prog qa 13 [(4,none)] QSY:=⟨Tryz.f81,by kernel_rfl,by kernel_rfl⟩
theorem Az:Has Tryz.prog kL 15 [(2,none)] QT2:=⟨Tryz.f82,by kernel_rfl,by kernel_rfl⟩
theorem HI:Has Tryz.prog xu 6 [(2,none)] QT6:=⟨Tryz.f85,by kernel_rfl,by kernel_rfl⟩
theorem wE:Has Tryz.prog lZ 96 [(2,(some (true,2)))] QVB:=⟨Tryz.f95,by kernel_rfl,by kernel_rfl⟩
theorem wF:Has Tryz.prog qk 37 [(2,(some (true,2)))] QW4:=⟨Tryz.f96,by kernel_rfl,by kernel_rfl⟩
theorem ym:Has Tryz.prog vw 64 [(2,(some (true,2)))] QXQ:=⟨Tryz.f97,by kernel_rfl,by kernel_rfl⟩
theorem wG:Has Tryz.prog tX 60 [(2,(some (true,2)))] QZ0:=⟨Tryz.f98,by kernel_rfl,by kernel_rfl⟩
theorem HJ:Has Tryz.prog xv 24 [(2,none)] QZL:=⟨Tryz.f99,by kernel_rfl,by kernel_rfl⟩
abbrev QZP:AC:= .seq (.run [.o 2 (.mv (.k (.bool false)))]) (.seq (.run [.m 3 bt, .o 4 (.bin .geq cB (.k (.int .u8 97))), .m 5 fi, .g 6 5 true (.mv bt), .g 7 5 true (.bin .leq dD (.k (.int .u8 122))), .o 8 (.pick cm cW (.k (.bool false))), .m 2 de]) .ret)
abbrev QZW:AC:= .seq (.seq (.run [.m 5 bu, .m 6 bt, .o 7 (.u7 dD), .o 8 (.bin .lss cm cW), .m 9 de, .g 10 9 true (.mv bt), .g 11 9 true (.mv bu), .g 12 9 true (.AP cf cH), .d 13 9 true rk [cT], .g 14 9 true (.mv c6), .g 15 14 false (.mv bt), .g 16 14 false (.mv bu), .g 17 14 false (.AP dC dc), .d 18 14 false xw [dE], .g 19 9 true (.pick cO (.k (.bool true)) dA), .o 20 (.pick dq dV (.k (.bool false)))]) (.cond ej .skip (.exit 0))) (.block 1 (.run [.m 21 bu, .o 22 (.bin .add dW (.k (.int .i64 1))), .m 1 ew]))
abbrev ajU:AC:= .seq (.run [.o 4 (.mv (.k (.int .i64 0)))]) (.seq (.block 0 (.loop QZW)) (.seq (.run [.m 23 bu, .m 4 ey]) .ret))
abbrev ajV:AC:= .seq (.run [.o 16 (.bin .eql cB (.k (.str [114,101,97,100]))), .m 4 dc]) (.cond fi .skip (.run [.o 17 (.bin .eql cB (.k (.str [112,114,105,110,116]))), .m 4 dE]))
abbrev ajW:AC:= .cond fi .skip (.seq (.run [.o 15 (.bin .eql cB (.k (.str [103,111,116,111]))), .m 4 dC]) (.cond fi .skip ajV))
abbrev ajX:AC:= .cond fi .skip (.seq (.run [.o 14 (.bin .eql cB (.k (.str [114,101,116,117,114,110]))), .m 4 cO]) ajW)
abbrev ajY:AC:= .cond fi .skip (.seq (.run [.o 13 (.bin .eql cB (.k (.str [99,111,110,116,105,110,117,101]))), .m 4 c6]) ajX)
abbrev ajZ:AC:= .cond fi .skip (.seq (.run [.o 12 (.bin .eql cB (.k (.str [98,114,101,97,107]))), .m 4 cT]) ajY)
abbrev aj0:AC:= .cond fi .skip (.seq (.run [.o 11 (.bin .eql cB (.k (.str [119,104,105,108,101]))), .m 4 cH]) ajZ)
abbrev aj1:AC:= .cond fi .skip (.seq (.run [.o 10 (.bin .eql cB (.k (.str [101,108,115,101]))), .m 4 cf]) aj0)
abbrev aj2:AC:= .cond fi .skip (.seq (.run [.o 9 (.bin .eql cB (.k (.str [105,102]))), .m 4 dq]) aj1)
abbrev aj3:AC:= .cond fi .skip (.seq (.run [.o 8 (.bin .eql cB (.k (.str [114,101,102]))), .m 4 de]) aj2)
abbrev aj4:AC:= .cond fi .skip (.seq (.run [.o 7 (.bin .eql cB (.k (.str [118,97,114]))), .m 4 cW]) aj3)
abbrev aj5:AC:= .cond fi .skip (.seq (.run [.o 6 (.bin .eql cB (.k (.str [112,114,111,99]))), .m 4 dD]) aj4)
abbrev aj6:AC:= .cond fi (.seq (.run [.o 2 (.mv (.k (.bool true)))]) .ret) .skip
abbrev aj7:AC:= .seq (.seq (.run [.o 5 (.bin .eql cB (.k (.str [103,108,111,98,97,108]))), .m 4 cm]) aj5) aj6
abbrev aj8:AC:= .seq (.seq (.run [.m 3 bt]) (.block 0 aj7)) (.seq (.run [.o 2 (.mv (.k (.bool false)))]) .ret)
abbrev aj9:AC:= .seq (.run [.o 2 (.mv (.k (.bool false)))]) aj8
abbrev aka:AC:= .par [.o 10 (.aq bu 9), .o 11 (.load cf false 1), .o 3 (.mv (.k (.bool false))), .o 4 (.mv (.k (.bool false))), .o 5 (.mv (.k (.bool false))), .m 6 cH, .o 7 (.mv (.k (.bool false))), .o 8 (.mv (.k (.bool false)))] [(0,0),(1,0),(2,0),(3,0),(4,0),(5,0),(6,0),(7,0)]
abbrev akb:AC:= .seq (.run [.o 20 (.bin .eql dc (.k (.int .i64 2))), .m 19 ej]) (.cond dV .skip (.run [.o 21 (.bin .eql dc (.k (.int .i64 10))), .m 19 dW]))
abbrev akc:AC:= .seq (.run [.o 38 (.bin .eql dc (.k (.int .i64 7))), .m 37 jO]) (.cond jg .skip (.run [.o 39 (.bin .eql dc (.k (.int .i64 8))), .m 37 jB]))
abbrev akd:AC:= .cond jg .skip (.seq (.run [.o 2 (.mv (.k (.bool false)))]) .ret)
abbrev ake:AC:= .seq (.run [.o 34 (.bin .eql dc (.k (.int .i64 9))), .m 33 iE]) (.cond gG (.run [.o 35 (.aq bu 9), .o 36 (.load gR false 1), .m 5 iw, .o 6 (.mv (.k (.bool false)))]) (.seq akc akd))
abbrev akf:AC:= .seq (.run [.o 32 (.bin .eql dc (.k (.int .i64 6))), .m 31 gF]) (.cond gf (.run [.o 5 (.mv (.k (.bool true))), .o 7 (.mv (.k (.bool true)))]) ake)
abbrev akg:AC:= .seq (.run [.o 30 (.bin .eql dc (.k (.int .i64 5))), .m 29 gw]) (.cond gb (.run [.o 5 (.mv (.k (.bool true))), .o 7 (.mv (.k (.bool true))), .o 8 (.mv (.k (.bool true)))]) akf)
abbrev akh:AC:= .seq (.run [.o 25 (.bin .eql dc (.k (.int .i64 4))), .m 24 eU]) (.cond eR (.run [.o 26 (.aq bu 3), .o 27 (.load fk false 1), .o 28 (.bin .neq fl (.k (.str []))), .m 3 fR, .o 4 (.mv (.k (.bool true)))]) akg)
abbrev aki:AC:= .seq (.run [.o 23 (.bin .eql dc (.k (.int .i64 3))), .m 22 ey]) (.cond ew (.run [.o 5 (.mv (.k (.bool true)))]) akh)
abbrev akj:AC:= .seq akb (.cond dV (.run [.o 3 (.mv (.k (.bool true)))]) aki)
abbrev akk:AC:= .seq (.run [.o 18 (.bin .eql dc (.k (.int .i64 1))), .m 17 dA]) (.cond dE (.run [.o 3 (.mv (.k (.bool true))), .o 5 (.mv (.k (.bool true)))]) akj)
abbrev akl:AC:= .run [.m 40 dD, .m 41 j9, .g 42 41 false (.mv cW), .g 43 41 false (.un .not kF), .g 44 41 false (.mv ku), .g 45 44 true (.aq bu 11), .g 46 44 true (.load lJ false 1), .g 47 44 true (.len lK), .g 48 44 true (.bin .gtr lV (.k (.int .i64 0))), .g 49 41 false (.pick kG kT (.k (.bool false))), .o 50 (.pick jP (.k (.bool true)) kU), .m 51 lL, .g 52 51 false (.mv de), .g 53 51 false (.un .not kW), .g 54 51 false (.mv lM), .g 55 54 true (.aq bu 12), .g 56 54 true (.load lX false 1), .g 57 54 true (.len nZ), .g 58 54 true (.bin .gtr pd (.k (.int .i64 0))), .g 59 51 false (.pick lW oI (.k (.bool false))), .o 60 (.pick kV (.k (.bool true)) mJ), .m 61 pT, .g 62 61 false (.mv dq), .g 63 61 false (.un .not qw), .g 64 61 false (.mv rA), .g 65 64 true (.aq bu 10), .g 66 64 true (.load vB false 1), .g 67 64 true (.len xA), .g 68 64 true (.bin .gtr xB (.k (.int .i64 0))), .g 69 61 false (.pick rB vC (.k (.bool false))), .o 70 (.pick rz (.k (.bool true)) zk)]
abbrev akm:AC:= .cond zl (.seq (.run [.o 2 (.mv (.k (.bool false)))]) .ret) .skip
abbrev akn:AC:= .cond Dy (.seq (.run [.o 2 (.mv (.k (.bool false)))]) .ret) .skip
abbrev acV:AC:= .seq (.seq (.run [.o 71 (.aq bu 3), .o 72 (.load Du false 1), .m 73 cB, .c 74 o9 [Bo,Bp], .o 75 (.un .not Dv), .m 76 Dw, .g 77 76 false (.aq bu 4), .g 78 76 false (.load Dx false 1), .g 79 76 false (.mv fi), .d 80 76 false o9 [zm,FI], .g 81 76 false (.un .not FJ), .o 82 (.pick Bq (.k (.bool true)) FK), .m 83 Jp, .g 84 83 false (.aq bu 5), .g 85 83 false (.load Jr true 4), .g 86 83 false (.mv cm), .d 87 83 false rn [Js,Jt], .g 88 83 false (.un .not Ju), .o 89 (.pick Jq (.k (.bool true)) Jv)]) akn) (.seq (.run [.o 90 (.aq bu 10), .o 91 (.load FL false 1), .c 92 tZ [Jw], .m 2 OZ]) .ret)
abbrev acW:AC:= .seq (.seq akl akm) acV
abbrev U5:AC:= .seq (.seq (.run [.o 15 (.aq bu 1), .o 16 (.load dC false 1)]) (.block 0 akk)) acW
abbrev acX:AC:= .seq (.run [.o 12 (.aq bu 1), .o 13 (.load cT false 1), .o 14 (.bin .eql c6 (.k (.int .i64 4))), .m 9 cO]) U5
abbrev acY:AC:= .seq aka acX
abbrev ako:AC:= .seq (.run [.o 1 (.box bt), .o 2 (.mv (.k (.bool false)))]) acY
abbrev akp:AC:= .seq (.block 1 (.seq (.run [.o 13 (.cd dq cH 13), .o 14 (.load c6 true 13), .o 5 (.alloc [(.int .i64 0),(.int .i64 0),(.slice .full 0 []),(.str []),(.str []),(.int .i64 0),(.int .i64 0),(.str []),(.slice .full 0 []),(.bool false),(.slice .full 0 []),(.slice .full 0 []),(.slice .full 0 [])]), .op none none (.store cm cO 13)]) (.run [.m 15 cB, .o 16 (.load cm true 13), .c 17 mH [dc], .o 18 (.bin .add dC dE), .m 3 dA]))) (.run [.o 19 (.bin .add cH (.k (.int .i64 1))), .m 11 dV])
abbrev akq:AC:= .block 0 (.loop (.seq (.run [.o 12 (.bin .lss cH cf)]) (.seq (.cond cT .skip (.exit 0)) akp)))
abbrev akr:AC:= .seq (.block 3 (.seq (.run [.o 25 (.cd dW ey 13), .o 26 (.load eU true 13), .o 7 (.alloc [(.int .i64 0),(.int .i64 0),(.slice .full 0 []),(.str []),(.str []),(.int .i64 0),(.int .i64 0),(.str []),(.slice .full 0 []),(.bool false),(.slice .full 0 []),(.slice .full 0 []),(.slice .full 0 [])]), .op none none (.store cW fk 13)]) (.run [.m 27 cB, .o 28 (.load cW true 13), .c 29 mH [fR], .o 30 (.bin .add fl gb), .m 3 gw]))) (.run [.o 31 (.bin .add ey (.k (.int .i64 1))), .m 23 gf])
abbrev aks:AC:= .block 2 (.loop (.seq (.run [.o 24 (.bin .lss ey ew)]) (.seq (.cond eR .skip (.exit 2)) akr)))
abbrev akt:AC:= .seq (.seq (.run [.o 20 (.aq bu 12), .o 21 (.load ej false 1), .o 22 (.len dW), .o 23 (.mv (.k (.int .i64 0)))]) aks) (.seq (.run [.m 32 cB, .m 2 gF]) .ret)
abbrev aku:AC:= .seq (.seq (.run [.o 8 (.aq bu 11), .o 9 (.load de false 1), .o 10 (.len dq), .o 11 (.mv (.k (.int .i64 0)))]) akq) akt
abbrev akv:AC:= .seq (.run [.o 1 (.box bt), .o 2 (.mv (.k (.int .i64 0)))]) (.seq (.run [.o 3 (.mv (.k (.int .i64 1)))]) aku)
abbrev akw:AC:= .cond fi (.seq (.run [.o 2 (.mv (.k (.slice .full 0 [])))]) .ret) .skip
abbrev akx:AC:= .seq (.run [.o 2 (.mv (.k (.slice .full 0 [])))]) (.seq (.seq (.run [.m 3 bt, .nil (some 4) none false cB]) akw) (.seq (.run [.o 5 (.dt [(.str [])] 1 0 []), .m 6 bt, .o 7 (.app 1 16 cm dD), .m 2 cW]) .ret))
abbrev aky:AC:= .seq (.block 1 (.seq (.run [.o 11 (.cd cW dq 2), .o 12 (.load cH true 2), .o 5 (.alloc [(.str []),(.bool false)]), .op none none (.store cm cT 2)]) (.run [.m 13 cB, .o 14 (.aq cm 0), .o 15 (.load cO false 1), .o 16 (.dt [(.str [])] 1 1 [(0,dC)]), .o 17 (.app 1 16 c6 dc), .m 3 dE]))) (.run [.o 18 (.bin .add dq (.k (.int .i64 1))), .m 9 dA])
abbrev akz:AC:= .block 0 (.loop (.seq (.run [.o 10 (.bin .lss dq de)]) (.seq (.cond cf .skip (.exit 0)) aky)))
abbrev akA:AC:= .seq (.seq (.run [.o 6 (.aq bu 1), .o 7 (.load dD false 1), .o 8 (.len cW), .o 9 (.mv (.k (.int .i64 0)))]) akz) (.seq (.run [.m 19 cB, .o 20 (.aq bu 2), .o 21 (.load ej false 1), .o 22 (.app 1 16 dV dW), .m 2 ew]) .ret)
abbrev akB:AC:= .seq (.run [.o 1 (.box bt), .o 2 (.mv (.k (.slice .full 0 [])))]) (.seq (.run [.o 3 (.mv (.k (.slice .full 0 [])))]) akA)
abbrev akC:AC:= .block 1 (.seq (.run [.m 10 de, .m 5 cf]) (.seq (.run [.m 11 bu, .m 12 bt, .m 13 cm, .o 14 (.cd cT c6 1), .o 15 (.load cO false 1), .o 16 (.bin .eql cH dC)]) (.cond dc (.seq (.run [.m 17 cm, .m 4 dE]) .ret) .skip)))
abbrev akD:AC:= .seq (.cond dq .skip (.exit 0)) (.seq akC (.run [.o 18 (.bin .add de (.k (.int .i64 1))), .m 8 dA]))
abbrev akE:AC:= .seq (.run [.m 6 bt, .o 7 (.len dD), .o 8 (.mv (.k (.int .i64 0)))]) (.block 0 (.loop (.seq (.run [.o 9 (.bin .lss de cW)]) akD)))
abbrev akF:AC:= .seq (.run [(.o 4 (.mv (.k (.int .i64 (-1)))))]) .ret
abbrev akG:AC:= .seq (.run [.o 4 (.mv (.k (.int .i64 0)))]) (.seq akE akF)
abbrev akH:AC:= .cond cf (.seq (.run [.o 6 (.mv (.k (.int .i64 0))), .o 7 (.mv (.k (.bool false)))]) .ret) .skip
abbrev akI:AC:= .seq (.run [.o 3 (.box bt), .o 6 (.mv (.k (.int .i64 0))), .o 7 (.mv (.k (.bool false)))]) (.seq (.seq (.run [.o 8 (.load cB true 4), .c 9 nn [de], .o 10 (.un .not dq)]) akH) (.seq (.run [.o 11 (.load cB true 4), .m 12 bu, .m 13 dw, .c 14 lf [cH,cT,c6], .o 15 (.ext cO 0), .o 16 (.ext cO 1), .m 6 dC, .m 7 dc]) .ret))
abbrev akJ:AC:= .seq (.run [.o 4 (.mv (.k (.bool false)))]) (.seq (.run [.m 5 bt, .m 6 bu, .c 7 pb [cm,dD], .o 8 (.bin .geq cW (.k (.int .i64 0))), .m 4 de]) .ret)
abbrev akK:AC:= .par [.m 5 bt, .o 6 (.bT cm), .o 7 (.aq dD 2), .o 8 (.load cW false 1), .m 9 bt, .o 10 (.bT dq), .o 11 (.aq cf 3), .o 12 (.load cH false 1), .m 13 bu, .o 14 (.cd cT c6 1), .o 15 (.load cO false 1), .o 16 (.bin .sub dC (.k (.int .i64 1))), .m 17 bt, .o 18 (.bT dE), .o 19 (.aq dA 4), .o 20 (.load dV false 1), .m 21 bu, .o 22 (.cd ej dW 1), .o 23 (.load ew false 1), .o 24 (.bin .sub ey (.k (.int .i64 1))), .o 25 (.D0 17 de (some dc) (some eR)), .m 4 eU] [(0,0),(1,0),(2,0),(3,0),(4,0),(5,0),(6,0),(7,0),(8,0),(9,0),(10,0),(11,0),(12,0),(13,0),(14,0),(15,0),(16,0),(17,0),(18,0),(19,0),(20,0),(21,0)]
abbrev akL:AC:= .seq (.run [.o 4 (.mv (.k (.slice .full 0 [])))]) (.seq akK .ret)
abbrev akM:AC:= .seq (.run [.o 4 (.mv (.k (.bool false)))]) (.seq (.run [.m 5 bt, .m 6 bu, .c 7 fZ [cm,dD], .o 8 (.bin .geq cW (.k (.int .i64 0))), .m 4 de]) .ret)
abbrev akN:AC:= .run [.m 23 fi, .m 24 bt, .m 25 cH, .o 26 (.cd eR eU 13), .o 27 (.load fk true 13), .m 28 bu, .m 29 dw, .m 30 cB, .o 31 (.build [(.int .i64 0),(.int .i64 0),(.slice .full 0 []),(.str []),(.str []),(.int .i64 0),(.int .i64 0),(.str []),(.slice .full 0 []),(.bool false),(.slice .full 0 []),(.slice .full 0 []),(.slice .full 0 []),(.int .i64 0),(.int .i64 0),(.bool false)] [(0,(13,fl)),(13,(1,fR)),(14,(1,gb)),(15,(1,gw))]), .o 32 (.dt [(.int .i64 0),(.int .i64 0),(.slice .full 0 []),(.str []),(.str []),(.int .i64 0),(.int .i64 0),(.str []),(.slice .full 0 []),(.bool false),(.slice .full 0 []),(.slice .full 0 []),(.slice .full 0 []),(.int .i64 0),(.int .i64 0),(.bool false)] 16 1 [(0,gf)]), .o 33 (.app 16 232 ey gF), .m 4 gG]
abbrev akO:AC:= .par [.m 36 bt, .m 37 cH, .o 38 (.cd iw jg 13), .o 39 (.aq jO 11), .o 40 (.load jB false 1), .m 41 bu, .o 42 (.bin .add jP (.k (.int .i64 1))), .m 43 bt, .m 44 cH, .o 45 (.cd ku kG 13), .o 46 (.aq lJ 0), .o 47 (.load lK false 1), .m 48 fi, .c 49 mI [j9,kF,lV,(.k (.bool false)),kT], .m 4 kU] [(0,0),(1,0),(2,0),(3,0),(4,0),(5,0),(6,0),(7,0),(8,0),(9,0),(10,0),(11,0),(12,0),(13,0),(14,0)]
abbrev akP:AC:= .par [.m 50 bt, .m 51 cH, .o 52 (.cd lL kV 13), .o 53 (.aq kW 12), .o 54 (.load lM false 1), .m 55 bu, .o 56 (.bin .add lX (.k (.int .i64 1))), .m 57 bt, .m 58 cH, .o 59 (.cd pd oI 13), .o 60 (.aq mJ 0), .o 61 (.load pT false 1), .m 62 fi, .c 63 mI [lW,nZ,rz,(.k (.bool true)),qw], .m 4 rA] [(0,0),(1,0),(2,0),(3,0),(4,0),(5,0),(6,0),(7,0),(8,0),(9,0),(10,0),(11,0),(12,0),(13,0),(14,0)]
abbrev akQ:AC:= .seq akN (.seq (.run [.m 34 bu, .o 35 (.bin .leq iE (.k (.int .i64 12)))]) (.cond gR (.seq akO akP) .skip))
abbrev akR:AC:= .seq (.seq (.run [.m 12 cH, .m 13 bt, .o 14 (.len c6), .o 15 (.bin .lss cT cO), .m 16 dC, .g 17 16 true (.mv fi), .g 18 16 true (.len dE), .g 19 16 true (.bin .leq dA (.k (.int .i64 200))), .o 20 (.pick dc dV (.k (.bool false)))]) (.cond ej .skip (.exit 0))) (.seq (.block 1 akQ) (.run [.m 21 cH, .o 22 (.bin .add dW (.k (.int .i64 1))), .m 11 ew]))
abbrev akS:AC:= .seq (.seq (.run [.o 11 (.mv (.k (.int .i64 0)))]) (.block 0 (.loop akR))) (.seq (.run [.m 64 fi, .m 10 rB]) .ret)
abbrev akT:AC:= .seq (.run [.o 10 (.mv (.k (.slice .full 0 [])))]) akS
abbrev akU:AC:= .cond dc (.seq (.run [.o 2 (.mv (.k (.bool true)))]) .ret) .skip
abbrev akV:AC:= .block 1 (.seq (.run [.m 9 cW, .o 10 (.cd cm cW 1), .o 11 (.load cf false 1), .m 3 dq, .m 4 cH]) (.seq (.run [.m 12 bt, .m 13 cB, .o 14 (.D0 1 cT none (some c6)), .m 15 fi, .c 16 ct [cO,dC]]) akU))
abbrev akW:AC:= .seq (.cond de .skip (.exit 0)) (.seq akV (.run [.o 17 (.bin .add cW (.k (.int .i64 1))), .m 7 dE]))
abbrev akX:AC:= .seq (.run [.m 5 bt, .o 6 (.len cm), .o 7 (.mv (.k (.int .i64 0)))]) (.block 0 (.loop (.seq (.run [.o 8 (.bin .lss cW dD)]) akW)))
abbrev akY:AC:= .seq akX (.seq (.run [.o 2 (.mv (.k (.bool false)))]) .ret)
abbrev akZ:AC:= .seq (.run [.o 2 (.mv (.k (.bool false)))]) akY
abbrev ak0:AC:= .seq (.run [.o 4 (.mv (.k (.bool false)))]) (.seq (.run [.m 5 bt, .m 6 bu, .c 7 kS [cm,dD], .o 8 (.bin .geq cW (.k (.int .i64 0))), .m 4 de]) .ret)
abbrev ak1:AC:= .seq (.run [.o 3 (.mv (.k (.bool false)))]) (.seq (.run [.o 4 (.aq bu 0), .o 5 (.load fi false 1), .m 6 bt, .c 7 ct [cm,dD], .m 3 cW]) .ret)
abbrev ak2:AC:= .cond ew (.seq (.run [.o 8 (.mv (.k (.bool false)))]) .ret) .skip
abbrev ak3:AC:= .seq (.run [.o 16 (.cd cT cO 1), .o 17 (.load dc false 1), .m 10 dE]) (.seq (.run [.o 18 (.load fi true 2), .o 19 (.load cm true 5), .m 20 cf, .c 21 vz [dA,dV,ej], .o 22 (.bin .eql dW (.k (.int .i64 0)))]) ak2)
abbrev ak4:AC:= .seq (.cond dC .skip (.exit 0)) (.seq (.block 1 ak3) (.run [.o 23 (.bin .add cO (.k (.int .i64 1))), .m 14 ey]))
abbrev ak5:AC:= .seq (.run [.o 11 (.load cW true 13), .c 12 rp [cH], .o 13 (.len cT), .o 14 (.mv (.k (.int .i64 0)))]) (.block 0 (.loop (.seq (.run [.o 15 (.bin .lss cO c6)]) ak4)))
abbrev ak6:AC:= .seq ak5 (.seq (.run [.o 24 (.aq cW 1), .o 25 (.load eR false 1), .o 26 (.bin .neq eU (.k (.int .i64 4))), .m 27 fk, .g 28 27 false (.aq cW 4), .g 29 27 false (.load fR false 1), .g 30 27 false (.bin .neq gb (.k (.str [109,97,105,110]))), .g 31 27 false (.mv gw), .g 32 31 true (.mv dw), .g 33 31 true (.aq cW 4), .g 34 31 true (.load gG false 1), .d 35 31 true ct [gF,iE], .g 36 27 false (.pick gf gR (.k (.bool false))), .o 37 (.pick fl (.k (.bool true)) iw), .m 8 jg]) .ret)
abbrev ak7:AC:= .seq (.run [.o 4 (.box bt), .o 5 (.box bu), .o 7 (.box cB), .o 8 (.mv (.k (.bool false)))]) ak6
abbrev ak8:AC:= .cond dq (.seq (.run [.o 4 (.mv (.k (.bool false)))]) .ret) .skip
abbrev ak9:AC:= .seq (.run [.o 15 (.cd cH c6 5), .o 16 (.load dC true 5), .o 6 (.alloc [(.str []),(.slice .full 0 []),(.slice .full 0 []),(.slice .full 0 []),(.slice .full 0 [])]), .op none none (.store dD dc 5)]) (.seq (.run [.o 17 (.aq dD 0), .o 18 (.load dE false 1), .o 19 (.aq cB 4), .o 20 (.load dV false 1), .o 21 (.bin .eql dA ej)]) (.cond dW (.seq (.run [.o 22 (.aq dD 1), .o 23 (.load ew false 1), .o 24 (.aq cB 10), .o 25 (.load eR false 1), .c 26 vA [ey,eU], .m 4 fk]) .ret) .skip))
abbrev ala:AC:= .seq (.cond cO .skip (.exit 0)) (.seq (.block 1 ak9) (.run [.o 27 (.bin .add c6 (.k (.int .i64 1))), .m 13 fl]))
abbrev alb:AC:= .seq (.run [.o 10 (.aq dw 1), .o 11 (.load cf false 1), .o 12 (.len cH), .o 13 (.mv (.k (.int .i64 0)))]) (.block 0 (.loop (.seq (.run [.o 14 (.bin .lss c6 cT)]) ala)))
abbrev alc:AC:= .seq alb (.seq (.run [.o 4 (.mv (.k (.bool false)))]) .ret)
abbrev ald:AC:= .seq (.seq (.run [.o 7 (.aq cB 1), .o 8 (.load cW false 1), .o 9 (.bin .neq de (.k (.int .i64 4)))]) ak8) alc
abbrev ale:AC:= .seq (.run [.o 2 (.box bt), .o 3 (.box bu), .o 4 (.mv (.k (.bool false)))]) ald
abbrev alf:AC:= .seq (.run [.o 3 (.load bu true 2), .c 4 lZ [cB], .o 5 (.CJ fi 0 false 1), .o 6 (.bin .neq cm (.k (.int .i64 0)))]) (.cond dD (.seq (.run [.o 2 (.mv (.k .dS))]) .ret) .skip)
abbrev alg:AC:= .seq (.run [.o 1 (.box bt), .o 2 (.mv (.k .dS))]) (.seq alf (.seq (.run [.o 7 (.load bu true 2), .c 8 kR [cW], .m 2 de]) .ret))
abbrev alh:AC:= .cond dc (.seq (.run [.m 17 bt, .m 4 dE, .o 5 (.mv (.k (.bool false)))]) .ret) .skip
abbrev ali:AC:= .block 1 (.seq (.run [.o 12 (.cd de cf 1), .o 13 (.load cT false 1), .m 7 c6]) (.seq (.seq (.run [.m 14 bt, .m 15 cW, .c 16 ct [cO,dC]]) alh) (.run [.m 18 bt, .m 19 cW, .o 20 (.dt [(.str [])] 1 1 [(0,dV)]), .o 21 (.app 1 16 dA ej), .m 0 dW])))
abbrev alj:AC:= .seq (.cond cH .skip (.exit 0)) (.seq ali (.run [.o 22 (.bin .add cf (.k (.int .i64 1))), .m 10 ew]))
abbrev alk:AC:= .seq (.run [.m 8 bu, .o 9 (.len de), .o 10 (.mv (.k (.int .i64 0)))]) (.block 0 (.loop (.seq (.run [.o 11 (.bin .lss cf dq)]) alj)))
abbrev alm:AC:= .seq alk (.seq (.run [.m 23 bt, .m 4 ey, .o 5 (.mv (.k (.bool true)))]) .ret)
abbrev aln:AC:= .seq (.run [.o 4 (.mv (.k (.slice .full 0 []))), .o 5 (.mv (.k (.bool false)))]) alm
abbrev alo:AC:= .seq (.run [.o 11 (.bin .eql dq (.k (.int .i64 7))), .m 10 cH]) (.cond cf .skip (.run [.o 12 (.bin .eql dq (.k (.int .i64 8))), .m 10 cT]))
abbrev alp:AC:= .cond cf (.seq (.run [.o 13 (.aq cB 16), .o 14 (.load c6 false 1), .o 15 (.bin .neq cO (.k (.int .i64 0))), .m 4 dC]) .ret) (.seq (.run [.o 17 (.bin .eql dq (.k (.int .i64 10))), .m 16 dE]) (.cond dc (.seq (.run [.m 19 bt, .o 20 (.aq cB 13), .o 21 (.load ej false 1), .o 22 (.aq cB 0), .o 23 (.aq ew 3), .o 24 (.load ey false 1), .c 25 oQ [dV,dW,eR], .m 18 eU, .o 26 (.ext dA 0), .o 27 (.ext dA 1), .m 5 fk, .m 6 fl]) (.seq (.run [.m 28 dD, .m 4 fR]) .ret)) .skip))
abbrev alq:AC:= .seq (.seq (.run [.o 7 (.aq cB 0), .o 8 (.aq cW 1), .o 9 (.load de false 1)]) (.block 0 (.seq alo alp))) (.seq (.run [.o 4 (.mv (.k (.bool true)))]) .ret)
abbrev alr:AC:= .seq (.run [.o 3 (.box bu), .o 4 (.mv (.k (.bool false)))]) alq
abbrev als:AC:= .cond dc (.seq (.run [.o 4 (.mv (.k (.slice .full 0 [])))]) .ret) .skip
abbrev alu:AC:= .seq (.run [.o 43 (.cd jB jP 1), .o 44 (.load ku false 1), .m 12 kG]) (.seq (.run [.o 45 (.aq dw 0), .o 46 (.load lJ false 1), .m 47 cT, .c 48 ct [lK,lV]]) (.cond kT (.run [.m 49 dD, .m 50 cT, .o 51 (.dt [(.str [])] 1 1 [(0,lL)]), .o 52 (.app 1 16 kU kV), .m 6 kW]) .skip))
abbrev alv:AC:= .seq (.cond kF .skip (.exit 4)) (.seq (.block 5 alu) (.run [.o 53 (.bin .add jP (.k (.int .i64 1))), .m 41 lM]))
abbrev alw:AC:= .seq (.run [.o 37 (.aq cf 0), .o 38 (.load jg true 13), .c 39 rp [jO], .o 40 (.len jB), .o 41 (.mv (.k (.int .i64 0)))]) (.block 4 (.loop (.seq (.run [.o 42 (.bin .lss jP j9)]) alv)))
abbrev alx:AC:= .seq (.block 3 (.seq (.run [.o 35 (.cd gf gG 17), .o 36 (.load gR true 17), .o 10 (.alloc [(.int .i64 0),(.int .i64 0),(.slice .full 0 []),(.str []),(.str []),(.int .i64 0),(.int .i64 0),(.str []),(.slice .full 0 []),(.bool false),(.slice .full 0 []),(.slice .full 0 []),(.slice .full 0 []),(.int .i64 0),(.int .i64 0),(.int .i64 0),(.int .i64 0)]), .op none none (.store cf iw 17)]) alw)) (.run [.o 54 (.bin .add gG (.k (.int .i64 1))), .m 33 lW])
abbrev aly:AC:= .block 2 (.loop (.seq (.run [.o 34 (.bin .lss gG gF)]) (.seq (.cond iE .skip (.exit 2)) alx)))
abbrev alz:AC:= .seq (.run [.o 25 (.cd dW ey 1), .o 26 (.load eU false 1), .m 8 fk]) (.seq (.run [.m 27 cm, .m 28 cm, .m 29 de, .c 30 iD [fR,gb], .c 31 gN [fl,gw], .o 32 (.len gf), .o 33 (.mv (.k (.int .i64 0)))]) aly)
abbrev alA:AC:= .seq (.cond eR .skip (.exit 0)) (.seq (.block 1 alz) (.run [.o 55 (.bin .add ey (.k (.int .i64 1))), .m 23 lX]))
abbrev alB:AC:= .seq (.run [.m 19 cm, .m 20 bu, .c 21 xx [dV,ej], .o 22 (.len dW), .o 23 (.mv (.k (.int .i64 0)))]) (.block 0 (.loop (.seq (.run [.o 24 (.bin .lss ey ew)]) alA)))
abbrev alC:AC:= .seq (.run [.o 17 (.load dw true 2), .c 18 kR [dE], .m 5 dA]) (.seq (.run [.o 6 (.mv (.k (.slice .full 0 [])))]) (.seq alB (.seq (.run [.m 56 dD, .c 57 jz [nZ]]) (.seq (.run [.m 58 dD, .c 59 jS [oI], .m 4 mJ]) .ret))))
abbrev alD:AC:= .seq (.run [.o 2 (.box bt), .o 4 (.mv (.k (.slice .full 0 [])))]) (.seq (.seq (.run [.o 13 (.load dw true 2), .m 14 bu, .c 15 ub [c6,cO], .o 16 (.un .not dC)]) als) alC)
abbrev alE:AC:= .cond iE (.seq (.run [.o 4 (.mv (.k (.bool false)))]) .ret) .skip
abbrev alG:AC:= .seq (.seq (.run [.m 18 cm, .o 19 (.aq cW 1), .o 20 (.load dV false 1), .c 21 ct [dA,ej], .m 22 dW, .g 23 22 false (.aq cW 1), .g 24 22 false (.load ey false 1), .g 25 22 false (.aq dw 3), .g 26 22 false (.load eU false 1), .g 27 22 false (.bin .eql eR fk), .o 28 (.pick ew (.k (.bool true)) fl), .m 29 fR, .g 30 29 false (.mv bu), .g 31 29 false (.aq cW 1), .g 32 29 false (.load gf false 1), .d 33 29 false ct [gw,gF], .o 34 (.pick gb (.k (.bool true)) gG)]) alE) (.run [.m 35 cm, .o 36 (.aq cW 1), .o 37 (.load iw false 1), .o 38 (.dt [(.str [])] 1 1 [(0,jg)]), .o 39 (.app 1 16 gR jO), .m 5 jB])
abbrev alH:AC:= .block 1 (.seq (.run [.o 13 (.cd dq cH 6), .o 14 (.load c6 true 6), .o 7 (.alloc [(.bool false),(.str []),(.int .i64 0),(.int .i64 0),(.str []),(.slice .full 0 [])]), .op none none (.store cW cO 6)]) (.seq (.seq (.run [.o 15 (.aq cW 0), .o 16 (.load dC false 1), .o 17 (.un .not dc)]) (.cond dE (.exit 1) .skip)) alG))
abbrev alI:AC:= .seq (.cond cT .skip (.exit 0)) (.seq alH (.run [.o 40 (.bin .add cH (.k (.int .i64 1))), .m 11 j9]))
abbrev alJ:AC:= .seq (.run [.o 8 (.aq dw 10), .o 9 (.load de false 1), .o 10 (.len dq), .o 11 (.mv (.k (.int .i64 0)))]) (.block 0 (.loop (.seq (.run [.o 12 (.bin .lss cH cf)]) alI)))
abbrev alK:AC:= .seq alJ (.seq (.run [.o 4 (.mv (.k (.bool true)))]) .ret)
abbrev alL:AC:= .seq (.run [.o 2 (.box bt), .o 4 (.mv (.k (.bool false)))]) (.seq (.run [.o 5 (.mv (.k (.slice .full 0 [])))]) alK)
abbrev alM:AC:= .seq (.run [.o 2 (.mv (.k (.bool false)))]) (.seq (.run [.m 3 bt, .o 4 (.bin .geq cB (.k (.int .u8 48))), .m 5 fi, .g 6 5 true (.mv bt), .g 7 5 true (.bin .leq dD (.k (.int .u8 57))), .o 8 (.pick cm cW (.k (.bool false))), .m 2 de]) .ret)
abbrev alN:AC:= .seq (.run [.o 4 (.mv (.k (.bool false)))]) (.seq (.run [.m 5 bu, .m 6 cm, .g 7 6 true (.mv bt), .d 8 6 true nY [cW], .o 9 (.pick dD de (.k (.bool false))), .m 10 dq, .g 11 10 false (.mv bu), .g 12 10 false (.un .not cH), .g 13 10 false (.mv cT), .g 14 13 true (.mv bt), .g 15 13 true (.bin .eql cO (.k (.str []))), .g 16 10 false (.pick c6 dC (.k (.bool false))), .o 17 (.pick cf (.k (.bool true)) dc), .m 4 dE]) .ret)
abbrev alO:AC:= .seq (.run [.o 2 (.box bt), .o 4 (.mv (.k (.bool false)))]) (.seq (.run [.m 5 bu, .m 6 cm, .g 7 6 true (.load dw true 4), .d 8 6 true nn [cW], .o 9 (.pick dD de (.k (.bool false))), .m 10 dq, .g 11 10 false (.mv bu), .g 12 10 false (.un .not cH), .g 13 10 false (.mv cT), .g 14 13 true (.load dw true 4), .d 15 13 true xy [cO], .g 16 10 false (.pick c6 dC (.k (.bool false))), .o 17 (.pick cf (.k (.bool true)) dc), .m 4 dE]) .ret)
abbrev alP:AC:= .cond eU (.seq (.run [.o 2 (.mv (.k (.bool false)))]) .ret) .skip
abbrev alQ:AC:= .seq (.run [.o 9 (.cd cm cW 6), .o 10 (.load dq true 6), .o 4 (.alloc [(.bool false),(.str []),(.int .i64 0),(.int .i64 0),(.str []),(.slice .full 0 [])]), .op none none (.store fi cf 6)]) (.seq (.run [.o 11 (.aq fi 1), .o 12 (.load cH false 1), .o 13 (.aq fi 0), .o 14 (.load c6 false 1), .c 15 o9 [cT,cO], .o 16 (.un .not dC), .m 17 dc, .g 18 17 false (.aq fi 2), .g 19 17 false (.load dA true 4), .g 20 17 false (.aq fi 0), .g 21 17 false (.load ej false 1), .g 22 17 false (.un .not dW), .d 23 17 false rn [dV,ew], .g 24 17 false (.un .not ey), .o 25 (.pick dE (.k (.bool true)) eR)]) alP)
abbrev alR:AC:= .seq (.cond de .skip (.exit 0)) (.seq (.block 1 alQ) (.run [.o 26 (.bin .add cW (.k (.int .i64 1))), .m 7 fk]))
abbrev alS:AC:= .seq (.run [.m 5 bt, .o 6 (.len cm), .o 7 (.mv (.k (.int .i64 0)))]) (.block 0 (.loop (.seq (.run [.o 8 (.bin .lss cW dD)]) alR)))
abbrev alT:AC:= .seq alS (.seq (.run [.o 2 (.mv (.k (.bool true)))]) .ret)
abbrev alU:AC:= .seq (.run [.o 2 (.mv (.k (.bool false)))]) alT
abbrev alV:AC:= .cond gf (.seq (.run [.m 32 dw, .m 33 de, .o 34 (.cd gF gG 1), .o 35 (.load iE false 1), .m 6 gR, .o 7 (.mv (.k (.bool true)))]) .ret) .skip
abbrev alW:AC:= .seq (.run [.m 20 bu, .o 21 (.aq cB 2), .o 22 (.load dW false 1), .c 23 fZ [ej,ew], .m 8 ey]) (.seq (.run [.m 24 de, .o 25 (.bin .geq eR (.k (.int .i64 0))), .m 26 eU, .g 27 26 true (.mv de), .g 28 26 true (.mv dw), .g 29 26 true (.len fR), .g 30 26 true (.bin .lss fl gb), .o 31 (.pick fk gw (.k (.bool false)))]) alV)
abbrev alX:AC:= .seq alW (.seq (.run [.o 6 (.mv (.k (.int .i64 0))), .o 7 (.mv (.k (.bool true)))]) .ret)
abbrev alY:AC:= .cond cO (.seq (.run [.o 16 (.aq cB 1), .o 17 (.load dc false 1), .m 6 dE, .o 7 (.mv (.k (.bool true)))]) .ret) (.seq (.run [.o 19 (.bin .eql c6 (.k (.int .i64 2))), .m 18 dV]) (.cond dA alX .skip))
abbrev alZ:AC:= .block 0 (.seq (.run [.o 15 (.bin .eql c6 (.k (.int .i64 1))), .m 14 dC]) alY)
abbrev al0:AC:= .cond lV (.seq (.run [.o 6 (.mv (.k (.int .i64 0))), .o 7 (.mv (.k (.bool false)))]) .ret) .skip
abbrev al1:AC:= .cond vB (.seq (.run [.o 6 (.mv (.k (.int .i64 0))), .o 7 (.mv (.k (.bool true)))]) .ret) .skip
abbrev al2:AC:= .cond Bo (.seq (.run [.o 6 (.mv (.k (.int .i64 1))), .o 7 (.mv (.k (.bool true)))]) .ret) .skip
abbrev al3:AC:= .cond Jr (.seq (.run [.o 6 (.mv (.k (.int .i64 0))), .o 7 (.mv (.k (.bool false)))]) .ret) .skip
abbrev al4:AC:= .seq (.seq (.run [.o 66 (.aq cB 0), .o 67 (.load xA false 1), .o 68 (.bin .eql xB (.k (.int .i64 17))), .m 69 vC, .g 70 69 true (.mv dq), .d 71 69 true rr [zl], .o 72 (.pick zk Du (.k (.bool false)))]) al2) (.seq (.run [.o 74 (.aq cB 3), .o 75 (.load Dv false 1), .o 76 (.cd Dw (.k (.int .i64 1)) 4), .o 77 (.load Bq true 4), .m 78 bu, .m 79 dw, .c 80 lf [Dx,zm,FI], .m 73 FJ, .o 81 (.ext Bp 0), .o 82 (.ext Bp 1), .m 11 FK, .m 10 Jp]) (.seq (.seq (.run [.m 83 cf, .o 84 (.un .not Jq)]) al3) (.seq (.run [.o 85 (.aq cB 0), .o 86 (.load Js false 1), .m 87 dq, .m 88 cH, .c 89 zj [Jt,Ju,Jv], .o 90 (.ext Dy 0), .o 91 (.ext Dy 1), .m 6 FL, .m 7 Jw]) .ret)))
abbrev al5:AC:= .seq (.seq (.run [.o 58 (.aq cB 0), .o 59 (.load oI false 1), .o 60 (.bin .eql mJ (.k (.int .i64 16))), .m 61 pT, .g 62 61 true (.mv dq), .d 63 61 true rr [qw], .g 64 61 true (.un .not rA), .o 65 (.pick rz rB (.k (.bool false)))]) al1) al4
abbrev al6:AC:= .seq (.seq (.run [.o 48 (.aq cB 3), .o 49 (.load kT false 1), .o 50 (.len kU), .o 51 (.bin .eql lL (.k (.int .i64 1)))]) (.cond kV (.seq (.run [.o 52 (.aq cB 0), .o 53 (.load kW false 1), .m 54 dq, .c 55 zi [lM,lW], .o 56 (.ext lX 0), .o 57 (.ext lX 1), .m 6 nZ, .m 7 pd]) .ret) .skip)) al5
abbrev al7:AC:= .seq (.seq (.run [.o 12 (.aq cB 0), .o 13 (.load cT false 1)]) alZ) (.seq (.run [.o 37 (.aq cB 3), .o 38 (.load jg false 1), .o 39 (.cd jO (.k (.int .i64 0)) 4), .o 40 (.load jB true 4), .m 41 bu, .m 42 dw, .c 43 lf [j9,jP,kF], .m 36 ku, .o 44 (.ext iw 0), .o 45 (.ext iw 1), .m 9 kG, .m 10 lJ]) (.seq (.seq (.run [.m 46 cf, .o 47 (.un .not lK)]) al0) al6))
abbrev al8:AC:= .seq (.run [.o 3 (.box bt), .o 6 (.mv (.k (.int .i64 0))), .o 7 (.mv (.k (.bool false)))]) al7
abbrev al9:AC:= .block 1 (.seq (.run [.m 10 de, .m 5 cf]) (.seq (.run [.m 11 bu, .m 12 bt, .m 13 cm, .o 14 (.cd cT c6 1), .o 15 (.load cO false 1), .o 16 (.bin .eql cH dC)]) (.cond dc (.seq (.run [.m 17 cm, .m 4 dE]) .ret) .skip)))
abbrev ama:AC:= .seq (.cond dq .skip (.exit 0)) (.seq al9 (.run [.o 18 (.bin .add de (.k (.int .i64 1))), .m 8 dA]))
abbrev amb:AC:= .seq (.run [.m 6 bt, .o 7 (.len dD), .o 8 (.mv (.k (.int .i64 0)))]) (.block 0 (.loop (.seq (.run [.o 9 (.bin .lss de cW)]) ama)))
abbrev amc:AC:= .seq (.run [(.o 4 (.mv (.k (.int .i64 (-1)))))]) .ret
abbrev amd:AC:= .seq (.run [.o 4 (.mv (.k (.int .i64 0)))]) (.seq amb amc)
abbrev ame:AC:= .block 1 (.seq (.run [.m 10 de, .m 5 cf]) (.seq (.run [.m 11 bu, .m 12 bt, .m 13 cm, .o 14 (.cd cT c6 1), .o 15 (.load cO false 1),(.jt (some 16) none 11 [dC])]) (.cond dc (.seq (.run [.m 17 cm, .m 4 dE]) .ret) .skip)))
abbrev amf:AC:= .seq (.cond dq .skip (.exit 0)) (.seq ame (.run [.o 18 (.bin .add de (.k (.int .i64 1))), .m 8 dA]))
abbrev amg:AC:= .seq (.run [.m 6 bt, .o 7 (.len dD), .o 8 (.mv (.k (.int .i64 0)))]) (.block 0 (.loop (.seq (.run [.o 9 (.bin .lss de cW)]) amf)))
abbrev amh:AC:= .seq (.run [(.o 4 (.mv (.k (.int .i64 (-1)))))]) .ret
abbrev ami:AC:= .seq (.run [.o 4 (.mv (.k (.int .i64 0)))]) (.seq amg amh)
abbrev amj:AC:= .seq (.seq (.run [.o 31 (.aq cm 0), .o 32 (.load gf false 1)]) (.cond gF (.run [.m 33 cB, .o 34 (.aq cm 1), .o 35 (.load iE false 1), .o 36 (.dt [(.str [])] 1 1 [(0,gR)]), .o 37 (.app 1 16 gG iw), .m 3 jg]) .skip)) (.run [.m 38 cB, .o 39 (.aq cm 2), .o 40 (.load jB true 4), .c 41 ry [j9], .o 42 (.app 1 16 jO jP), .m 3 kF])
abbrev amk:AC:= .seq (.block 1 (.seq (.run [.o 29 (.cd eU fl 6), .o 30 (.load gb true 6), .o 5 (.alloc [(.bool false),(.str []),(.int .i64 0),(.int .i64 0),(.str []),(.slice .full 0 [])]), .op none none (.store cm gw 6)]) amj)) (.run [.o 43 (.bin .add fl (.k (.int .i64 1))), .m 27 ku])
abbrev aml:AC:= .block 0 (.loop (.seq (.run [.o 28 (.bin .lss fl fk)]) (.seq (.cond fR .skip (.exit 0)) amk)))
abbrev amm:AC:= .seq (.seq (.run [.o 24 (.aq bu 10), .o 25 (.load eR false 1), .o 26 (.len eU), .o 27 (.mv (.k (.int .i64 0)))]) aml) (.seq (.run [.m 44 cB, .m 2 kG]) .ret)
abbrev amn:AC:= .seq (.seq (.run [.o 6 (.aq bu 1), .o 7 (.load dD false 1), .o 8 (.bin .neq cW (.k (.int .i64 10))), .m 9 de, .g 10 9 true (.aq bu 3), .g 11 9 true (.load cf false 1), .g 12 9 true (.bin .neq cH (.k (.str []))), .o 13 (.pick dq cT (.k (.bool false)))]) (.cond c6 (.run [.m 14 cB, .o 15 (.aq bu 3), .o 16 (.load dC false 1), .o 17 (.dt [(.str [])] 1 1 [(0,dc)]), .o 18 (.app 1 16 cO dE), .m 3 dA]) .skip)) (.seq (.run [.m 19 cB, .o 20 (.aq bu 5), .o 21 (.load ej true 4), .c 22 ry [dW], .o 23 (.app 1 16 dV ew), .m 3 ey]) amm)
abbrev amo:AC:= .seq (.run [.o 1 (.box bt), .o 2 (.mv (.k (.slice .full 0 [])))]) (.seq (.run [.o 3 (.mv (.k (.slice .full 0 [])))]) amn)
abbrev amp:AC:= .cond ey (.seq (.run [.o 6 (.mv (.k (.int .i64 3)))]) .ret) .skip
abbrev amq:AC:= .cond fl (.seq (.run [.o 6 (.mv (.k (.int .i64 2)))]) .ret) .skip
abbrev amr:AC:= .seq (.seq (.run [.o 16 (.aq de 0), .o 17 (.load dc false 1), .m 18 dw, .o 19 (.bin .eql dE dA), .m 20 dV, .g 21 20 true (.aq de 1), .g 22 20 true (.load dW false 1), .o 23 (.pick ej ew (.k (.bool false)))]) amp) (.seq (.run [.o 24 (.aq de 0), .o 25 (.load eR false 1), .m 26 dw, .o 27 (.bin .eql eU fk)]) amq)
abbrev ams:AC:= .seq (.block 1 (.seq (.run [.o 14 (.cd cf cT 2), .o 15 (.load cO true 2), .o 8 (.alloc [(.str []),(.bool false)]), .op none none (.store de dC 2)]) amr)) (.run [.o 28 (.bin .add cT (.k (.int .i64 1))), .m 12 fR])
abbrev amt:AC:= .block 0 (.loop (.seq (.run [.o 13 (.bin .lss cT cH)]) (.seq (.cond c6 .skip (.exit 0)) ams)))
abbrev amu:AC:= .cond gF (.seq (.run [.o 6 (.mv (.k (.int .i64 4)))]) .ret) .skip
abbrev amv:AC:= .cond iw (.seq (.run [.o 6 (.mv (.k (.int .i64 1)))]) .ret) .skip
abbrev amw:AC:= .seq (.seq (.run [.o 33 (.aq cB 0), .o 34 (.load gG false 1), .m 35 dw, .c 36 ct [iE,gR]]) amv) (.seq (.run [.o 6 (.mv (.k (.int .i64 0)))]) .ret)
abbrev amx:AC:= .seq (.seq (.run [.o 9 (.aq fi 1), .o 10 (.load dq false 1), .o 11 (.len cf), .o 12 (.mv (.k (.int .i64 0)))]) amt) (.seq (.seq (.run [.o 29 (.aq fi 2), .o 30 (.load gb false 1), .m 31 dw, .c 32 ct [gw,gf]]) amu) amw)
abbrev amy:AC:= .seq (.run [.o 3 (.box bt), .o 4 (.box bu), .o 6 (.mv (.k (.int .i64 0)))]) amx
abbrev amz:AC:= .cond cH (.seq (.run [.o 4 (.mv (.k (.bool false)))]) .ret) .skip
abbrev amA:AC:= .par [.o 19 (.aq dD 1), .o 20 (.load dV false 1), .m 21 bu, .m 22 cm, .o 23 (.cd dW ew 6), .o 24 (.aq ey 0), .o 25 (.load eR false 1), .o 26 (.Gk true ej eU)] [(0,0),(1,0),(2,0),(3,0),(4,0),(5,0),(6,0),(7,0)]
abbrev amB:AC:= .cond fk (.seq (.run [.o 4 (.mv (.k (.bool false)))]) .ret) .skip
abbrev amC:AC:= .seq (.block 1 (.seq (.run [.m 16 cO, .o 17 (.cd cT cO 2), .o 18 (.load dE true 2), .o 6 (.alloc [(.str []),(.bool false)]), .m 5 dc, .op none none (.store dD dA 2)]) (.seq amA amB))) (.run [.o 27 (.bin .add cO (.k (.int .i64 1))), .m 14 fl])
abbrev amD:AC:= .block 0 (.loop (.seq (.run [.o 15 (.bin .lss cO c6)]) (.seq (.cond dC .skip (.exit 0)) amC)))
abbrev amE:AC:= .seq (.seq (.run [.m 12 bt, .o 13 (.len cT), .o 14 (.mv (.k (.int .i64 0)))]) amD) (.seq (.run [.o 4 (.mv (.k (.bool true)))]) .ret)
abbrev amF:AC:= .seq (.run [.o 4 (.mv (.k (.bool false)))]) (.seq (.seq (.run [.m 7 bt, .o 8 (.len cW), .m 9 bu, .o 10 (.len dq), .o 11 (.bin .neq de cf)]) amz) amE)
abbrev amG:AC:= .seq (.run [.o 2 (.box bt), .o 3 (.box bu), .o 4 (.mv (.k (.bool false)))]) (.seq (.run [.o 5 (.load dw true 2), .c 6 lZ [cm], .o 7 (.CJ dD 0 false 1), .o 8 (.bin .eql cW (.k (.int .i64 0))), .m 9 de, .g 10 9 true (.aq dw 1), .g 11 9 true (.load cf false 1), .g 12 9 true (.uJ 191 [cB]), .d 13 9 true gP [cH,cT], .o 14 (.pick dq c6 (.k (.bool false))), .m 4 cO]) .ret)
abbrev amH:AC:= .seq (.run [.o 26 (.cd ew eR 1), .o 27 (.load fk false 1), .m 8 fl]) (.seq (.run [.m 28 cm, .m 29 de, .c 30 ct [fR,gb], .o 31 (.un .not gw)]) (.cond gf (.run [.m 32 cm, .m 33 de, .o 34 (.dt [(.str [])] 1 1 [(0,gG)]), .o 35 (.app 1 16 gF iE), .m 5 gR]) .skip))
abbrev amI:AC:= .seq (.cond eU .skip (.exit 2)) (.seq (.block 3 amH) (.run [.o 36 (.bin .add eR (.k (.int .i64 1))), .m 24 iw]))
abbrev amJ:AC:= .seq (.run [.m 17 bt, .m 18 cm, .m 19 dD, .o 20 (.cd dA dV 1), .o 21 (.load ej false 1), .c 22 uc [dE,dW], .o 23 (.len ew), .o 24 (.mv (.k (.int .i64 0)))]) (.block 2 (.loop (.seq (.run [.o 25 (.bin .lss eR ey)]) amI)))
abbrev amK:AC:= .seq (.seq (.run [.m 11 dD, .m 12 cm, .o 13 (.len cT), .o 14 (.bin .lss cH c6)]) (.cond cO .skip (.exit 0))) (.seq (.block 1 amJ) (.run [.m 15 dD, .o 16 (.bin .add dC (.k (.int .i64 1))), .m 6 dc]))
abbrev acZ:AC:= .seq (.run [.m 39 cm, .m 4 jB]) .ret
abbrev amL:AC:= .seq (.seq (.run [.o 6 (.mv (.k (.int .i64 0)))]) (.block 0 (.loop amK))) (.seq (.run [.m 37 cm, .c 38 jz [jg]]) acZ)
abbrev amM:AC:= .seq (.run [.o 4 (.mv (.k (.slice .full 0 [])))]) (.seq (.run [.m 9 bu, .o 10 (.dt [(.str [])] 1 1 [(0,dq)]), .m 5 cf]) amL)
abbrev amN:AC:= .seq (.run [.o 1 (.box bt), .o 2 (.mv (.k (.bool false)))]) (.seq (.run [.o 3 (.aq bu 0), .o 4 (.load cB false 1), .o 5 (.bin .eql fi (.k (.int .i64 0))), .m 6 cm, .g 7 6 true (.aq bu 1), .g 8 6 true (.load cW false 1), .g 9 6 true (.bin .eql de (.k (.int .i64 0))), .o 10 (.pick dD dq (.k (.bool false))), .m 11 cf, .g 12 11 true (.aq bu 2), .g 13 11 true (.load cT false 1), .g 14 11 true (.bin .eql c6 (.k (.str []))), .o 15 (.pick cH cO (.k (.bool false))), .m 16 dC, .g 17 16 true (.aq bu 3), .g 18 16 true (.load dE false 1), .g 19 16 true (.len dA), .g 20 16 true (.bin .eql dV (.k (.int .i64 0))), .o 21 (.pick dc ej (.k (.bool false))), .m 2 dW]) .ret)
abbrev amO:AC:= .cond cH (.seq (.run [.m 13 bu, .o 14 (.bin .eql c6 (.k (.int .i64 0))), .c 15 jA [cO], .m 4 dC, .o 5 (.mv (.k (.bool true)))]) .ret) .skip
abbrev amP:AC:= .cond cW (.seq (.run [.m 9 bu, .o 10 (.bin .sub (.k (.int .i64 0)) dq), .m 4 cf, .o 5 (.mv (.k (.bool true)))]) .ret) (.seq (.run [.o 12 (.bin .eql dD (.k (.int .i64 4))), .m 11 cT]) amO)
abbrev amQ:AC:= .block 0 (.seq (.run [.o 8 (.bin .eql dD (.k (.int .i64 3))), .m 7 de]) amP)
abbrev amR:AC:= .seq (.seq (.run [.m 6 bt]) amQ) (.seq (.run [.o 4 (.mv (.k (.int .i64 0))), .o 5 (.mv (.k (.bool false)))]) .ret)
abbrev amS:AC:= .seq (.run [.o 4 (.mv (.k (.int .i64 0))), .o 5 (.mv (.k (.bool false)))]) amR
abbrev amT:AC:= .seq (.run [.o 2 (.mv (.k (.bool false)))]) (.seq (.run [.m 3 bt, .o 4 (.bin .neq cB (.k (.int .i64 0))), .m 2 fi]) .ret)
abbrev amU:AC:= .seq (.run [.o 25 (.bin .eql de (.k (.int .i64 6))), .m 24 eU]) (.cond eR .skip (.run [.o 26 (.bin .eql de (.k (.int .i64 7))), .m 24 fk]))
abbrev amV:AC:= .cond kF (.seq (.run [.m 44 bu, .o 45 (.bin .neq kG (.k (.int .i64 0))), .m 46 lJ, .g 47 46 false (.mv dw), .g 48 46 false (.bin .neq lV (.k (.int .i64 0))), .o 49 (.pick lK (.k (.bool true)) kT), .c 50 jA [kU], .m 6 lL, .o 7 (.mv (.k (.bool true)))]) .ret) .skip
abbrev amW:AC:= .cond gG (.seq (.run [.m 35 bu, .o 36 (.bin .neq gR (.k (.int .i64 0))), .m 37 iw, .g 38 37 true (.mv dw), .g 39 37 true (.bin .neq jO (.k (.int .i64 0))), .o 40 (.pick jg jB (.k (.bool false))), .c 41 jA [j9], .m 6 jP, .o 7 (.mv (.k (.bool true)))]) .ret) (.seq (.run [.o 43 (.bin .eql de (.k (.int .i64 17))), .m 42 ku]) amV)
abbrev amX:AC:= .cond eR (.seq (.run [.m 27 bt, .m 28 bu, .m 29 dw, .c 30 ud [fl,fR,gb], .o 31 (.ext gw 0), .o 32 (.ext gw 1), .m 6 gf, .m 7 gF]) .ret) (.seq (.run [.o 34 (.bin .eql de (.k (.int .i64 16))), .m 33 iE]) amW)
abbrev amY:AC:= .cond dV (.seq (.run [.m 21 bu, .m 22 dw, .o 23 (.bin .mul dW ew), .m 6 ey, .o 7 (.mv (.k (.bool true)))]) .ret) (.seq amU amX)
abbrev amZ:AC:= .cond cO (.seq (.run [.m 16 bu, .m 17 dw, .o 18 (.bin .sub dc dE), .m 6 dA, .o 7 (.mv (.k (.bool true)))]) .ret) (.seq (.run [.o 20 (.bin .eql de (.k (.int .i64 5))), .m 19 ej]) amY)
abbrev am0:AC:= .cond dq (.seq (.run [.m 11 bu, .m 12 dw, .o 13 (.bin .add cH cT), .m 6 c6, .o 7 (.mv (.k (.bool true)))]) .ret) (.seq (.run [.o 15 (.bin .eql de (.k (.int .i64 9))), .m 14 dC]) amZ)
abbrev am1:AC:= .block 0 (.seq (.run [.o 10 (.bin .eql de (.k (.int .i64 8))), .m 9 cf]) am0)
abbrev am2:AC:= .seq (.run [.o 6 (.mv (.k (.int .i64 0))), .o 7 (.mv (.k (.bool false)))]) (.seq (.seq (.run [.m 8 bt]) am1) (.seq (.run [.m 51 bt, .m 52 bu, .m 53 dw, .c 54 sr [kV,kW,lM], .o 55 (.ext lW 0), .o 56 (.ext lW 1), .m 6 lX, .m 7 nZ]) .ret))
abbrev am3:AC:= .cond cm (.seq (.run [.o 2 (.mv (.k (.slice .full 0 [])))]) .ret) .skip
abbrev am4:AC:= .seq (.seq (.run [.o 3 (.load bu true 4), .c 4 nn [cB], .o 5 (.un .not fi)]) am3) (.seq (.run [.o 6 (.load bu true 4),(.c 7 iS [dD,(.k (.slice .full 0 []))]), .m 2 cW]) .ret)
abbrev am5:AC:= .seq (.run [.o 1 (.box bt), .o 2 (.mv (.k (.slice .full 0 [])))]) am4
abbrev am6:AC:= .seq (.run [.o 4 (.mv (.k (.bool false)))]) (.seq (.run [.m 5 bt, .m 6 bu, .c 7 gk [cm,dD], .o 8 (.bin .geq cW (.k (.int .i64 0))), .m 4 de]) .ret)
abbrev am7:AC:= .seq (.run [.o 2 (.box bt), .o 3 (.mv (.k (.bool false)))]) (.seq (.run [.o 4 (.aq dw 0), .o 5 (.load fi false 1), .o 6 (.load bu false 1), .o 7 (.bin .eql cm dD), .m 3 cW]) .ret)
abbrev am8:AC:= .seq (.run [.o 16 (.cd cT cO 17), .o 17 (.load dc true 17), .o 7 (.alloc [(.int .i64 0),(.int .i64 0),(.slice .full 0 []),(.str []),(.str []),(.int .i64 0),(.int .i64 0),(.str []),(.slice .full 0 []),(.bool false),(.slice .full 0 []),(.slice .full 0 []),(.slice .full 0 []),(.int .i64 0),(.int .i64 0),(.int .i64 0),(.int .i64 0)]), .op none none (.store cW dE 17)]) (.seq (.run [.o 18 (.aq cW 0), .o 19 (.aq dA 1), .o 20 (.load dV false 1), .o 21 (.bin .eql ej (.k (.int .i64 4)))]) (.cond dW (.run [.m 22 cm, .o 23 (.aq cW 0), .o 24 (.aq ey 4), .o 25 (.load eR false 1), .o 26 (.dt [(.str [])] 1 1 [(0,eU)]), .o 27 (.app 1 16 ew fk), .m 5 fl]) .skip))
abbrev am9:AC:= .seq (.cond dC .skip (.exit 0)) (.seq (.block 1 am8) (.run [.o 28 (.bin .add cO (.k (.int .i64 1))), .m 14 fR]))
abbrev ana:AC:= .seq (.run [.m 8 bt, .m 9 bt, .m 10 bu, .c 11 iD [dq,cf], .c 12 gN [de,cH], .o 13 (.len cT), .o 14 (.mv (.k (.int .i64 0)))]) (.block 0 (.loop (.seq (.run [.o 15 (.bin .lss cO c6)]) am9)))
abbrev anb:AC:= .seq (.run [.o 4 (.mv (.k (.slice .full 0 [])))]) (.seq (.run [.o 5 (.mv (.k (.slice .full 0 [])))]) (.seq ana (.seq (.run [.m 29 cm, .c 30 jz [gb]]) (.seq (.run [.m 31 cm, .c 32 jS [gf], .m 4 gF]) .ret))))
open Go.Proofs
theorem zr:Has Tryz.prog pb 19 [(4,none)] amd:=⟨Tryz.f146,by kernel_rfl,by kernel_rfl⟩
theorem tq:Has Tryz.prog kS 19 [(4,none)] ami:=⟨Tryz.f167,by kernel_rfl,by kernel_rfl⟩
theorem FP:Has Tryz.prog rp 45 [(2,none)] amo:=⟨Tryz.f168,by kernel_rfl,by kernel_rfl⟩
theorem FQ:Has Tryz.prog vz 37 [(6,none)] amy:=⟨Tryz.f169,by kernel_rfl,by kernel_rfl⟩
theorem yn:Has Tryz.prog vA 28 [(4,none)] amF:=⟨Tryz.f170,by kernel_rfl,by kernel_rfl⟩
theorem wH:Has Tryz.prog ub 15 [(4,none)] amG:=⟨Tryz.f171,by kernel_rfl,by kernel_rfl⟩
theorem HK:Has Tryz.prog xx 40 [(4,none)] amM:=⟨Tryz.f172,by kernel_rfl,by kernel_rfl⟩
theorem HL:Has Tryz.prog xy 22 [(2,none)] amN:=⟨Tryz.f175,by kernel_rfl,by kernel_rfl⟩
theorem JE:Has Tryz.prog zi 16 [(4,none),(5,none)] amS:=⟨Tryz.f176,by kernel_rfl,by kernel_rfl⟩
theorem FR:Has Tryz.prog rr 5 [(2,none)] amT:=⟨Tryz.f177,by kernel_rfl,by kernel_rfl⟩
theorem JF:Has Tryz.prog zj 57 [(6,none),(7,none)] am2:=⟨Tryz.f178,by kernel_rfl,by kernel_rfl⟩
theorem yo:Has Tryz.prog ry 8 [(2,none)] am5:=⟨Tryz.f189,by kernel_rfl,by kernel_rfl⟩
theorem qx:Has Tryz.prog gP 9 [(4,none)] am6:=⟨Tryz.f190,by kernel_rfl,by kernel_rfl⟩
theorem CC:Has Tryz.prog oT 8 [(3,none)] am7:=⟨Tryz.f191,by kernel_rfl,by kernel_rfl⟩
theorem Ez:Has Tryz.prog uc 33 [(4,none)] anb:=⟨Tryz.f192,by kernel_rfl,by kernel_rfl⟩
abbrev anc:AC:= .cond cB (.seq (.run [.o 2 (.mv (.k (.int .i64 1)))]) .ret) .skip
abbrev ane:AC:= .seq (.seq (.run [.m 3 bt]) anc) (.seq (.run [.o 2 (.mv (.k (.int .i64 0)))]) .ret)
abbrev anf:AC:= .seq (.run [.o 2 (.mv (.k (.int .i64 0)))]) ane
abbrev ang:AC:= .cond dq (.seq (.run [.o 6 (.mv (.k (.int .i64 0))), .o 7 (.mv (.k (.bool false)))]) .ret) .skip
abbrev anh:AC:= .cond c6 (.seq (.run [.o 6 (.mv (.k (.int .i64 0))), .o 7 (.mv (.k (.bool true)))]) .ret) .skip
abbrev ani:AC:= .cond dC (.seq (.run [.m 16 bu, .m 6 dc, .o 7 (.mv (.k (.bool true)))]) .ret) .skip
abbrev anj:AC:= .seq (.run [.m 14 bu,(.o 15 (.bin .eql cO (.k (.int .i64 (-9223372036854775808)))))]) ani
abbrev ank:AC:= .seq anj (.seq (.run [.m 17 bu, .o 18 (.bin .sub (.k (.int .i64 0)) dE), .m 6 dA, .o 7 (.mv (.k (.bool true)))]) .ret)
abbrev anl:AC:= .seq (.seq (.run [.m 12 bt, .o 13 (.bin .eql cT (.k (.int .i64 7)))]) anh) ank
abbrev anm:AC:= .seq (.run [.m 10 dw,(.o 11 (.bin .eql cf (.k (.int .i64 (-1)))))]) (.cond cH anl .skip)
abbrev ann:AC:= .cond ej (.seq (.run [.m 21 bu, .m 22 dw, .o 23 (.bin .rem dW ew), .m 6 ey, .o 7 (.mv (.k (.bool true)))]) .ret) .skip
abbrev ano:AC:= .seq (.seq (.run [.m 19 bt, .o 20 (.bin .eql dV (.k (.int .i64 7)))]) ann) (.seq (.run [.m 24 bu, .m 25 dw, .o 26 (.bin .quo eR eU), .m 6 fk, .o 7 (.mv (.k (.bool true)))]) .ret)
abbrev anp:AC:= .seq (.seq (.run [.m 8 dw, .o 9 (.bin .eql de (.k (.int .i64 0)))]) ang) (.seq anm ano)
abbrev anq:AC:= .seq (.run [.o 6 (.mv (.k (.int .i64 0))), .o 7 (.mv (.k (.bool false)))]) anp
abbrev anr:AC:= .cond jB (.seq (.run [.m 41 bu, .m 42 dw, .o 43 (.bin .neq jP kF), .c 44 jA [ku], .m 6 kG, .o 7 (.mv (.k (.bool true)))]) .ret) .skip
abbrev ans:AC:= .cond gG (.seq (.run [.m 35 bu, .m 36 dw, .o 37 (.bin .eql gR iw), .c 38 jA [jg], .m 6 jO, .o 7 (.mv (.k (.bool true)))]) .ret) (.seq (.run [.o 40 (.bin .eql de (.k (.int .i64 15))), .m 39 j9]) anr)
abbrev ant:AC:= .cond fl (.seq (.run [.m 29 bu, .m 30 dw, .o 31 (.bin .geq gb gw), .c 32 jA [gf], .m 6 gF, .o 7 (.mv (.k (.bool true)))]) .ret) (.seq (.run [.o 34 (.bin .eql de (.k (.int .i64 14))), .m 33 iE]) ans)
abbrev anu:AC:= .cond dW (.seq (.run [.m 23 bu, .m 24 dw, .o 25 (.bin .gtr ey eR), .c 26 jA [eU], .m 6 fk, .o 7 (.mv (.k (.bool true)))]) .ret) (.seq (.run [.o 28 (.bin .eql de (.k (.int .i64 13))), .m 27 fR]) ant)
abbrev anv:AC:= .cond dC (.seq (.run [.m 17 bu, .m 18 dw, .o 19 (.bin .leq dE dA), .c 20 jA [dV], .m 6 ej, .o 7 (.mv (.k (.bool true)))]) .ret) (.seq (.run [.o 22 (.bin .eql de (.k (.int .i64 12))), .m 21 ew]) anu)
abbrev anw:AC:= .cond dq (.seq (.run [.m 11 bu, .m 12 dw, .o 13 (.bin .lss cH cT), .c 14 jA [c6], .m 6 cO, .o 7 (.mv (.k (.bool true)))]) .ret) (.seq (.run [.o 16 (.bin .eql de (.k (.int .i64 11))), .m 15 dc]) anv)
abbrev anx:AC:= .block 0 (.seq (.run [.o 10 (.bin .eql de (.k (.int .i64 10))), .m 9 cf]) anw)
abbrev anz:AC:= .seq (.seq (.run [.m 8 bt]) anx) (.seq (.run [.o 6 (.mv (.k (.int .i64 0))), .o 7 (.mv (.k (.bool false)))]) .ret)
abbrev anA:AC:= .seq (.run [.o 6 (.mv (.k (.int .i64 0))), .o 7 (.mv (.k (.bool false)))]) anz
abbrev anB:AC:= .seq (.block 1 (.seq (.run [.o 27 (.cd ey eU 4), .o 28 (.load fl true 4), .o 6 (.alloc [(.int .i64 0),(.int .i64 0),(.str []),(.slice .full 0 [])]), .op none none (.store dD fR 4)]) (.run [.o 29 (.load dD true 4), .m 30 bu, .c 31 iS [gb,gw], .m 1 gf]))) (.run [.o 32 (.bin .add eU (.k (.int .i64 1))), .m 25 gF])
abbrev anC:AC:= .block 0 (.loop (.seq (.run [.o 26 (.bin .lss eU eR)]) (.seq (.cond fk .skip (.exit 0)) anB)))
abbrev anD:AC:= .seq (.seq (.run [.o 22 (.aq dw 3), .o 23 (.load ew false 1), .o 24 (.len ey), .o 25 (.mv (.k (.int .i64 0)))]) anC) (.seq (.run [.m 33 bu, .m 4 gG]) .ret)
abbrev anE:AC:= .seq (.seq (.run [.o 7 (.aq dw 0), .o 8 (.load cW false 1), .o 9 (.bin .eql de (.k (.int .i64 2))), .m 10 dq, .g 11 10 true (.mv bu), .g 12 10 true (.aq dw 2), .g 13 10 true (.load cT false 1), .d 14 10 true ct [cH,c6], .g 15 10 true (.un .not cO), .o 16 (.pick cf dC (.k (.bool false)))]) (.cond dc (.run [.m 17 bu, .o 18 (.aq dw 2), .o 19 (.load dA false 1), .o 20 (.dt [(.str [])] 1 1 [(0,dV)]), .o 21 (.app 1 16 dE ej), .m 1 dW]) .skip)) anD
abbrev anF:AC:= .seq (.run [.o 2 (.box bt), .o 4 (.mv (.k (.slice .full 0 [])))]) anE
open Go.Proofs
theorem JG:Has Tryz.prog jA 4 [(2,none)] anf:=⟨Tryz.f195,by kernel_rfl,by kernel_rfl⟩
theorem wI:Has Tryz.prog ud 27 [(6,none),(7,none)] anq:=⟨Tryz.f196,by kernel_rfl,by kernel_rfl⟩
theorem DA:Has Tryz.prog sr 45 [(6,none),(7,none)] anA:=⟨Tryz.f197,by kernel_rfl,by kernel_rfl⟩
theorem rD:Has Tryz.prog iS 34 [(4,none)] anF:=⟨Tryz.f207,by kernel_rfl,by kernel_rfl⟩
open Go.Proofs
theorem FT:Has Tryz.prog rk 9 [(2,none)] QZP:=⟨Tryz.f104,by kernel_rfl,by kernel_rfl⟩
theorem Ln:Has Tryz.prog Bl 24 [(4,none)] ajU:=⟨Tryz.f105,by kernel_rfl,by kernel_rfl⟩
theorem JH:Has Tryz.prog zh 18 [(2,none)] aj9:=⟨Tryz.f106,by kernel_rfl,by kernel_rfl⟩
theorem EA:Has Tryz.prog tY 93 [(2,none)] ako:=⟨Tryz.f107,by kernel_rfl,by kernel_rfl⟩
theorem HM:Has Tryz.prog mH 33 [(2,none)] akv:=⟨Tryz.f108,by kernel_rfl,by kernel_rfl⟩
theorem pN:Has Tryz.prog kA 8 [(2,none)] akx:=⟨Tryz.f109,by kernel_rfl,by kernel_rfl⟩
theorem HN:Has Tryz.prog sN 23 [(2,none)] akB:=⟨Tryz.f110,by kernel_rfl,by kernel_rfl⟩
theorem v8:Has Tryz.prog fZ 19 [(4,none)] akG:=⟨Tryz.f111,by kernel_rfl,by kernel_rfl⟩
theorem C2:Has Tryz.prog wD 17 [(6,none),(7,none)] akI:=⟨Tryz.f112,by kernel_rfl,by kernel_rfl⟩
theorem wa:Has Tryz.prog nq 9 [(4,none)] akJ:=⟨Tryz.f113,by kernel_rfl,by kernel_rfl⟩
theorem CD:Has Tryz.prog gN 26 [(4,none)] akL:=⟨Tryz.f114,by kernel_rfl,by kernel_rfl⟩
theorem uf:Has Tryz.prog ct 9 [(4,none)] akM:=⟨Tryz.f115,by kernel_rfl,by kernel_rfl⟩
theorem Ap:Has Tryz.prog mI 65 [(10,none)] akT:=⟨Tryz.f120,by kernel_rfl,by kernel_rfl⟩
theorem EB:Has Tryz.prog oi 18 [(2,none)] akZ:=⟨Tryz.f128,by kernel_rfl,by kernel_rfl⟩
theorem rE:Has Tryz.prog ga 9 [(4,none)] ak0:=⟨Tryz.f129,by kernel_rfl,by kernel_rfl⟩
theorem CF:Has Tryz.prog oR 8 [(3,none)] ak1:=⟨Tryz.f130,by kernel_rfl,by kernel_rfl⟩
theorem EC:Has Tryz.prog ql 38 [(8,none)] ak7:=⟨Tryz.f131,by kernel_rfl,by kernel_rfl⟩
theorem yp:Has Tryz.prog vx 28 [(4,none)] ale:=⟨Tryz.f132,by kernel_rfl,by kernel_rfl⟩
theorem yr:Has Tryz.prog rl 9 [(2,none)] alg:=⟨Tryz.f133,by kernel_rfl,by kernel_rfl⟩
theorem HO:Has Tryz.prog qb 24 [(4,none),(5,none)] aln:=⟨Tryz.f134,by kernel_rfl,by kernel_rfl⟩
theorem pE:Has Tryz.prog vy 29 [(4,none)] alr:=⟨Tryz.f135,by kernel_rfl,by kernel_rfl⟩
theorem uE:Has Tryz.prog rm 60 [(4,none)] alD:=⟨Tryz.f136,by kernel_rfl,by kernel_rfl⟩
theorem DB:Has Tryz.prog sq 41 [(4,none)] alL:=⟨Tryz.f137,by kernel_rfl,by kernel_rfl⟩
theorem HP:Has Tryz.prog xw 9 [(2,none)] alM:=⟨Tryz.f141,by kernel_rfl,by kernel_rfl⟩
theorem FU:Has Tryz.prog o9 18 [(4,none)] alN:=⟨Tryz.f142,by kernel_rfl,by kernel_rfl⟩
theorem FV:Has Tryz.prog rn 18 [(4,none)] alO:=⟨Tryz.f143,by kernel_rfl,by kernel_rfl⟩
theorem ED:Has Tryz.prog tZ 27 [(2,none)] alU:=⟨Tryz.f144,by kernel_rfl,by kernel_rfl⟩
theorem oy:Has Tryz.prog lf 92 [(6,none),(7,none)] al8:=⟨Tryz.f145,by kernel_rfl,by kernel_rfl⟩
def Bt (c:UInt8):Bool:=decide ((c.toNat:Int)≥97) && decide ((c.toNat:Int)≤122)
def EE (c:UInt8):Bool:=decide ((c.toNat:Int)≥48) && decide ((c.toNat:Int)≤57)
def isB (c:UInt8):Bool:=(c.toNat:Int)==32 ||(c.toNat:Int)==9 ||(c.toNat:Int)==10 ||(c.toNat:Int)==13
def pf:aG→Nat
 | []=>0
 |c::r=>if Bt c ||EE c then pf r+1 else 0
def ac0:aG→Nat
 | []=>0
 |c::r=>if EE c then ac0 r+1 else 0
def O1:aG→Nat
 | []=>0
 |c::r=>if(c.toNat:Int) != 10 then O1 r+1 else 0
def isWord (s:aG):Bool:=
 s == [103,108,111,98,97,108] ||s == [112,114,111,99] ||s == [118,97,114] ||s == [114,101,102] ||s == [105,102] ||s == [101,108,115,101] ||s == [119,104,105,108,101] ||s == [98,114,101,97,107] ||s == [99,111,110,116,105,110,117,101] ||s == [114,101,116,117,114,110] ||s == [103,111,116,111] ||s == [114,101,97,100] ||s == [112,114,105,110,116]
def ag7 (s:aG):Bool:=s == [61,61] ||s == [33,61] ||s == [60,61] ||s == [62,61] ||s == [38,38] ||s == [124,124]
def XM (c:UInt8):Bool:=
 (c.toNat:Int)==40 ||(c.toNat:Int)==41 ||(c.toNat:Int)==123 ||(c.toNat:Int)==125 ||(c.toNat:Int)==44 ||(c.toNat:Int)==59 ||(c.toNat:Int)==58 ||(c.toNat:Int)==61 ||
 (c.toNat:Int)==33 ||(c.toNat:Int)==60 ||(c.toNat:Int)==62 ||(c.toNat:Int)==43 ||(c.toNat:Int)==45 ||(c.toNat:Int)==42 ||(c.toNat:Int)==47 ||(c.toNat:Int)==37
def XN:aG→Nat
 | []=>0
 | [c]=>if XM c then 1 else 0
 |c::d::_=>if ag7 [c,d]then 2 else if XM c then 1 else 0
def bo:Int→aG→Option Int
 |n,[]=>some n
 |n,c::r=>if n > (9223372036854775807 - ((c.toNat:Int) - 48)) / 10 then none else bo (n*10+((c.toNat:Int) - 48)) r
def anG (pos:Nat):aG→p7 ⊕ Int
 | []=> .inr 2
 | c::r=>
  if Bt c then
   let s:=(c::r).take (pf (c::r))
   if s.length > 8 then .inr 4 else .inl ⟨if isWord s then 3 else 1,s,0,pos⟩
  else if EE c then
   let s:=(c::r).take (ac0 (c::r))
   if s.length > 1∧(c.toNat:Int)=48 then .inr 2 else
   match bo 0 s with
   |some n=> .inl ⟨2,s,n,pos⟩
   |none=> .inr 4
  else
   if XN (c::r)=0 then .inr 2 else .inl ⟨4,(c::r).take (XN (c::r)),0,pos⟩
def O2:Nat→Nat→aG→List p7→List p7×Int×Int
 | 0,_,_,_=>([],0,0)
 |_+1,pos,[],out=>(out++ [⟨0,[],0,pos⟩],0,0)
 | n+1,pos,c::r,out=>
  if isB c then O2 n (pos+1) r out
  else if(c.toNat:Int)==35 then O2 n (pos+O1 (c::r)) ((c::r).drop (O1 (c::r))) out
  else match anG pos (c::r)with
   | .inr e=>([],e,pos)
   | .inl t=>if out.length=2000 then([],4,pos)else O2 n (pos+t.text.length) ((c::r).drop t.text.length) (out++ [t])
def yu (text:aG):List p7×Int×Int:=if text.length > 100000 then([],4,0)else O2 (text.length+1) 0 text []
def Ce:aG→Bool
 | []=>true
 |c::r=>if !(Bt c) && !(EE c)then false else Ce r
def isName:aG→Bool
 | []=>false
 |c::r=>if decide (((r.length+1:Nat):Int) > 8) || !(Bt c)then false else if Ce r then !(isWord (c::r))else false
def om (op:Int):Int:=if op==1 ||op==2 then 0 else if op==3 ||op==4 then 1 else if decide (op≥5) && decide (op≤17)then 2 else -1
mutual
def Ex.form:Ex→Bool
 |⟨op,n,name,kids⟩=>
  if om op != (kids.length:Int) ||(op != 1 && n != 0) ||decide (n<0) || !((op==2) == !(name == [])) ||(!(name == []) && !(isName name))then false else Ex.sO kids
def Ex.sO:List Ex→Bool
 | []=>true
 |x::l=>if !(Ex.form x)then false else Ex.sO l
end
mutual
def Ex.texts:Ex→Prop
 |⟨_,_,name,kids⟩=>name.length<4611686018427387904∧Ex.vE kids
def Ex.vE:List Ex→Prop
 | []=>True
 |x::l=>x.texts∧Ex.vE l
end
theorem Ex.EF {x:Ex} : ∀ {l:List Ex},Ex.vE l→x∈l→x.texts
 |y::l,h,m=>by
  rcases List.mem_cons.1 m with rfl|m
  ·exact h.1
  ·exact Ex.EF h.2 m
theorem Ex.RA {op n:Int} {name:aG} {kids:List Ex} (h:Ex.texts ⟨op,n,name,kids⟩) {y:Ex} (m:y∈kids):y.texts:=Ex.EF h.2 m
def Ex.may (x:Ex):Bool:=decide (((min x.depth 21:Nat):Int)≤20) && x.form
def Ex.none (x:Ex):Bool:=x.op==0 && x.n==0 && x.name == [] && (x.kids.length:Int)==0
def fb:List aG→Bool
 | []=>true
 |s::l=>if !(isName s)then false else fb l
def Ar.may (a:Ar):Bool:=if a.ref then isName a.name && a.x.none else a.name == [] && a.x.may
def Ar.fP:List Ar→Bool
 | []=>true
 |a::l=>if !(a.may)then false else Ar.fP l
def Sm.O3 (s:Sm):Bool:=s.kind==1 ||s.kind==3 ||s.kind==5 ||s.kind==6 ||(s.kind==9 && s.has)
def Sm.hasName (s:Sm):Bool:=s.kind==1 ||s.kind==2 ||s.kind==10
def Sm.yv (s:Sm):Bool:=s.kind==4
def Sm.one (s:Sm):Bool:=
 if decide (s.kind<1) ||decide (s.kind > 10) || !(fb s.labels) ||(s.O3 && !(s.x.may)) ||(!(s.O3) && !(s.x.none)) ||(s.has && s.kind != 9)then false
 else if(s.hasName && !(isName s.name)) ||(!(s.hasName) && !(s.name == []) && !(s.yv && isName s.name))then false
 else if !(s.yv == !(s.proc == [])) ||(s.yv && !(isName s.proc)) ||(!(s.yv) && decide ((s.args.length:Int) > 0))then false
 else if !(Ar.fP s.args)then false
 else((s.a8.length:Int)==0 ||s.kind==5 ||s.kind==6) && ((s.aR.length:Int)==0 ||s.kind==5)
structure It where
 s:Sm
 deep:Int
 cy:Int
 aR:Bool
mutual
def iT (deep cy:Int) (aR:Bool) (out:List It):Sm→List It
 |⟨id,kind,labels,name,proc,x,has,args,a8,e⟩=>
  if decide (deep≤12)then dR (deep+1) id true (dR (deep+1) id false (out++ [⟨⟨id,kind,labels,name,proc,x,has,args,a8,e⟩,deep,cy,aR⟩]) a8) e
  else out++ [⟨⟨id,kind,labels,name,proc,x,has,args,a8,e⟩,deep,cy,aR⟩]
def dR (deep cy:Int) (aR:Bool) (out:List It):List Sm→List It
 | []=>out
 |s::l=>if decide ((out.length:Int)≤200)then dR deep cy aR (iT deep cy aR out s) l else out
end
def Pc.flat (f:Pc):List It:=dR 1 0 false [] f.body
def allM (out:List It):List Pc→List It
 | []=>out
 |f::l=>if decide (((out++f.flat).length:Int) > 200)then out++f.flat else allM (out++f.flat) l
def Pg.all (p:Pg):List It:=allM [] p.procs
def Pm.fP:List Pm→Bool
 | []=>true
 |a::l=>if !(isName a.name)then false else Pm.fP l
def Pc.n6:List Pc→Bool
 | []=>true
 |f::l=>
  if !(isName f.name) ||decide ((f.params.length:Int) > 8) ||decide ((f.vars.length:Int) > 16) || !(fb f.vars) || !(fb f.fin)then false
  else if !(Pm.fP f.params)then false else Pc.n6 l
def It.fP (n:Nat):List It→Bool
 | []=>true
 |i::l=>if i.s.id != ((n+1:Nat):Int) ||decide (i.deep > 12) || !(i.s.one)then false else It.fP (n+1) l
def Pg.may (p:Pg):Bool:=
 if decide ((p.globals.length:Int) > 16) ||decide ((p.procs.length:Int) > 16) || !(fb p.globals)then false
 else if !(Pc.n6 p.procs)then false
 else if decide ((p.all.length:Int) > 200)then false else It.fP 0 p.all
open Go.Proofs
@[go_sem] def avI (r:Rd):List D:= [.slice .shared 4 (r.l.map jU), .int .i64 r.i, .int .i64 r.code, .int .i64 r.Jo, .int .i64 r.n]
set_option maxRecDepth 8000
open Go.Proofs
theorem su (c:UInt8) (s:St):aF Tryz.prog rk [.int .u8 (c.toNat:Int)] s (.bool (Bt c)) s:=by
 refine aF.pure ?_ rfl rfl s
 generalize h:Bt c=b
 unfold Bt at h
 unfold S0
 refine aF.go FT rfl fun B Q hB hQ=>?_
 have⟨hD,hY,hZ,gA⟩:=bR
 repeat' (first
 |simp only[go_sem,hD,hY,hZ,gA]
 |(with_reducible first|refine bl fun hc=>?_|refine bm fun hc=>?_|refine bn (fun hc=>?_) fun hc=>?_)<;>(try simp only[hc,bs,↓reduceIte]at h)<;>try simp only[hc]
 |(with_reducible refine aE hQ ?_;exact fO))
theorem FW (c:UInt8) (s:St):aF Tryz.prog xw [.int .u8 (c.toNat:Int)] s (.bool (EE c)) s:=by
 refine aF.pure ?_ rfl rfl s
 generalize h:EE c=b
 unfold EE at h
 unfold S0
 refine aF.go HP rfl fun B Q hB hQ=>?_
 have⟨hD,hY,hZ,gA⟩:=bR
 repeat' (first
 |simp only[go_sem,hD,hY,hZ,gA]
 |(with_reducible first|refine bl fun hc=>?_|refine bm fun hc=>?_|refine bn (fun hc=>?_) fun hc=>?_)<;>(try simp only[hc,bs,↓reduceIte]at h)<;>try simp only[hc]
 |(with_reducible refine aE hQ ?_;exact fO))
theorem ac1 (t:aG) (s:St):aF Tryz.prog zh [.str t] s (.bool (isWord t)) s:=by
 refine aF.pure ?_ rfl rfl s
 generalize h:isWord t=b
 unfold isWord at h
 unfold S0
 refine aF.go JH rfl fun B Q hB hQ=>?_
 have⟨hD,hY,hZ,gA⟩:=bR
 repeat' (first
 |simp only[go_sem,hD,hY,hZ,gA]
 |(with_reducible first|refine bl fun hc=>?_|refine bm fun hc=>?_|refine bn (fun hc=>?_) fun hc=>?_)<;>(try simp only[hc,bs,↓reduceIte]at h)<;>try simp only[hc]
 |(with_reducible refine aE hQ ?_;exact fO))
theorem ag8 {text:aG} {pos:Nat} (hl:text.length<4611686018427387904) (s:St):aF Tryz.prog Bl [.str text, .int .i64 (pos:Int)] s (.int .i64 ((pos+pf (text.drop pos):Nat):Int)) s:=by
 refine aF.pure ?_ rfl rfl s
 unfold S0
 refine aF.go Ln rfl fun B Q hB hQ=>?_
 have⟨hD,hY,hZ,gA⟩:=bR
 repeat' (first
 |simp only[go_sem,hD,hY,hZ,gA]
 |(with_reducible refine aE hQ ?_;exact bc))
 refine ff 0 0 (bp.ind (ι:=aG×Nat) (fun i=>text.drop i.2=i.1∧i.2+pf i.1=pos+pf (text.drop pos)) (fun i=>i.1.length)
  (fun i=> [(0, .str text),(1, .int .i64 (i.2:Int))]) (fun i=>⟨[],[]⟩) ?_ (text.drop pos,pos) ⟨rfl,rfl⟩)
 rintro⟨rest,k⟩ ⟨h1,h2⟩ IH
 dsimp only at h1 h2
 cases rest with
 |nil=>
  have hD:=drop_nil h1
  simp only[pf,Nat.add_zero]at h2
  rw[← h2]at hQ
  repeat' (first
 |simp only[go_sem,hD,hY,hZ,gA]
 |(with_reducible refine aE hQ ?_;exact bc))
 | cons c rest=>
  obtain⟨hY,g2,hD,g4⟩:=drop_cons h1
  have hZ:k<4611686018427387904:=by omega
  cases hb:(Bt c ||EE c)
  ·simp only [pf,hb,Bool.false_eq_true, ↓reduceIte,Nat.add_zero]at h2
   rw[← h2]at hQ
   simp only[Bool.or_eq_false_iff]at hb
   repeat' (first
 |simp only[go_sem,hD,hY,hZ,gA,hb.1,hb.2]
 |(with_reducible refine CU (su _ _) ?_)
 |(with_reducible refine CU (FW _ _) ?_)
 | (with_reducible refine aE hQ ?_;exact bc))
  ·simp only [pf,hb, ↓reduceIte]at h2
   cases IM:Bt c
   ·rw [IM,Bool.false_or]at hb
    repeat' (first
 |simp only[go_sem,hD,hY,hZ,gA,hb,IM]
 |(with_reducible refine CU (su _ _) ?_)
 |(with_reducible refine CU (FW _ _) ?_)
 | (with_reducible refine aE hQ ?_;exact bc))
    refine ff 0 0 (IH (rest,k+1) ⟨g2,by dsimp only;omega⟩ (Nat.lt_succ_self _))
   ·repeat' (first
 |simp only[go_sem,hD,hY,hZ,gA,IM]
 |(with_reducible refine CU (su _ _) ?_)
 |(with_reducible refine CU (FW _ _) ?_)
 | (with_reducible refine aE hQ ?_;exact bc))
    refine ff 0 0 (IH (rest,k+1) ⟨g2,by dsimp only;omega⟩ (Nat.lt_succ_self _))
def auj (s:aG):Int×Bool:=match bo 0 s with|some n=>(n,true)|none=>(0,false)
open Go.Proofs
def anH (f:Int×Int):List D:= [.int .i64 f.1, .int .i64 f.2]
def ag9 (text:aG) (out:List p7) (pos:Nat):Tm:= [(0, .str text),(3, .ptr 0 0),(4, .slice (.tok 0) 4 (out.map jU)),(5, .ptr 1 0),(6, .int .i64 (pos:Int))]
def aha (out:List p7):St:=⟨[[.int .i64 0, .int .i64 0],[.junk, .junk, .junk, .junk]],[some out.length]⟩
attribute [go_sem] ag9 aha anH
end Go.Abs
namespace Go.Abs
set_option maxRecDepth 8000
open Go.Proofs
def aox (s:aG):Bool:=
 [103,108,111,98,97,108] == s || [112,114,111,99] == s || [118,97,114] == s || [114,101,102] == s || [105,102] == s || [101,108,115,101] == s || [119,104,105,108,101] == s || [98,114,101,97,107] == s || [99,111,110,116,105,110,117,101] == s || [114,101,116,117,114,110] == s || [103,111,116,111] == s || [114,101,97,100] == s || [112,114,105,110,116] == s
def OpR (p:Int×Int):Prop:=0≤p.2∧p.2≤6
@[go_sem] def avJ (z:D) (r:Rd):List D:= [.slice .shared 4 (r.l.map jU), .int .i64 r.i, .int .i64 r.code, .int .i64 r.Jo,z]
class Cell (z:D):Prop where
 ok:D.ok 0 0 z=true
 fg : ∀ n m,D.fg n m z=z
instance (n:Int):Cell (.int .i64 n):=⟨rfl,fun _ _=>rfl⟩
instance:Cell .junk:=⟨rfl,fun _ _=>rfl⟩
theorem Zy (z:D) [h:Cell z] (n m:Nat):D.fg n m z=z:=h.fg n m
attribute [go_sem] Zy
def Rd.isO (text:aG) (r:Rd):Option Bool:=if r.good then r.is text else some false
end Go.Abs
namespace Go.Abs
open Go.Proofs
def ac2 (s:aG):Int×Int:=
 if [42] == s then(6,5)else if [47] == s then(6,6)else if [37] == s then(6,7)else if [43] == s then(5,8)else if [45] == s then(5,9)
 else if [60] == s then(4,10)else if [60,61] == s then(4,11)else if [62] == s then(4,12)else if [62,61] == s then(4,13)
 else if [61,61] == s then(3,14)else if [33,61] == s then(3,15)else if [38,38] == s then(2,16)else if [124,124] == s then(1,17)else(0,0)
def BZ (p:Int×Int):Prop:=(p.2==0)=(p.1==0)
set_option maxRecDepth 8000
open Go.Proofs
structure Sm.ug (s:Sm):Prop where
 XO : ∀ t∈s.labels,t.length<4611686018427387904
 anI:s.labels.length<4611686018427387904
 name:s.name.length<4611686018427387904
 proc:s.proc.length<4611686018427387904
 x:s.x.size<4611686018427387904
 xt:s.x.texts
 anJ:s.args.length<4611686018427387904
 arg : ∀ a∈s.args,a.x.size<4611686018427387904∧a.x.texts∧a.name.length<4611686018427387904
section
variable {v:Sm} {B:fX} {Q:Exit→Tm→St→Prop} {p:Bool}
end
theorem aF.goS {P:Program} {f:FuncId} {nt:Nat} {res:List (Nat×Option (Bool×Nat))} {body:AC} {args:List D} {s:St} {d:D} {s':St} (h0:Has P f nt res body) (hl:Nat.ble args.length nt=true)
 (h : ∀ (B:fX) (Q:Exit→Tm→St→Prop),B.s=s→pR s.ah.length s.aw.length res d s'=Q→Sem P B nt body Q (mT 0 args) s):aF P f args s d s':=by
 obtain⟨fn,hf,hc⟩:=h0
 exact aF.intro ⟨fn,hf,hc⟩ (Nat.le_of_ble_eq_true hl) fun B hB=>h B _ hB rfl
end Go.Abs
namespace Go.Abs
set_option maxRecDepth 8000
open Go.Proofs
def dv (i:Im):List D:= [.int .i64 i.s.id, .int .i64 i.s.kind, .slice .shared 1 (i.s.labels.map encStr), .str i.s.name, .str i.s.proc,
 .int .i64 i.s.x.op, .int .i64 i.s.x.n, .str i.s.x.name, .slice .shared 4 (i.s.x.kids.map cj), .bool i.s.has, .slice .shared 6 (i.s.args.map eB), .slice .shared 13 (i.s.a8.map bh), .slice .shared 13 (i.s.aR.map bh), .int .i64 i.proc, .int .i64 i.up, .int .i64 i.next, .int .i64 i.loop]
def bP (n:Int):List D:= [.int .i64 n]
theorem O4 (i:Im):D.bK 0 0 (dv i)=true:=by simp[dv,D.bK,D.ok,Tag.ok,fa,WZ,H2,pD]
theorem H4 (l:List Im):D.gS 0 0 (l.map dv)=true:=gT O4 l
theorem XP (n m:Nat) (l:List Im):D.kx n m (l.map dv)=l.map dv:=lY O4 n m l
theorem ahb (n m:Nat) (i:Im):D.gx n m (dv i)=dv i:=ie n m _ (O4 i)
theorem ahc (x:Im):(dv x).length=17:=nd rfl
theorem Zz (x:Im):List.take 17 (dv x)=dv x:=nd rfl
theorem ac3 (x:Im):List.drop 17 (dv x) = []:=nd rfl
theorem ac4 (x:Im):List.take 13 (dv x)=bh x.s:=by simp only[dv,ep];rfl
theorem U6 (x:Im):(dv x)[0]? = some (.int .i64 x.s.id):=nd rfl
theorem U7 (x:Im):(dv x)[1]? = some (.int .i64 x.s.kind):=nd rfl
theorem U8 (x:Im):(dv x)[4]? = some (.str x.s.proc):=nd rfl
theorem RB (x:Im):(dv x)[13]? = some (.int .i64 x.proc):=nd rfl
theorem RC (x:Im):(dv x)[14]? = some (.int .i64 x.up):=nd rfl
theorem RE (x:Im):(dv x)[15]? = some (.int .i64 x.next):=nd rfl
theorem RF (x:Im):(dv x)[16]? = some (.int .i64 x.loop):=nd rfl
theorem O5 (s:Sm) (a b c d:Int):dv ⟨s,a,b,c,d⟩ = [.int .i64 s.id, .int .i64 s.kind, .slice .shared 1 (s.labels.map encStr), .str s.name, .str s.proc,
 .int .i64 s.x.op, .int .i64 s.x.n, .str s.x.name, .slice .shared 4 (s.x.kids.map cj), .bool s.has, .slice .shared 6 (s.args.map eB), .slice .shared 13 (s.a8.map bh), .slice .shared 13 (s.aR.map bh), .int .i64 a, .int .i64 b, .int .i64 c, .int .i64 d]:=nd rfl
theorem XQ (n:Int):D.bK 0 0 (bP n)=true:=rfl
theorem iz (l:List Int):D.gS 0 0 (l.map bP)=true:=gT XQ l
theorem RG (n m:Nat) (l:List Int):D.kx n m (l.map bP)=l.map bP:=lY XQ n m l
attribute [go_sem] XP ahb ahc Zz ac3 ac4 U6 U7 U8 RB RC RE RF RG bP
theorem ac5 : ∀ n,n<1000000000→∀ v:Sm,v.size≤n→aF Tryz.prog mH [.agg (bh v)] S0 (.int .i64 (v.jy:Int)) S0:=by
 intro n
 induction n with
 |zero=>intro _ v h;obtain⟨_,_,_,_,_,_,_,_,_,_⟩:=v;simp only[Sm.size]at h;omega
 |succ n ih=>
 intro hn v hv
 have dO:Sm.a7 v.a8≤n∧Sm.a7 v.aR≤n∧v.jy=1+Sm.jf v.a8+Sm.jf v.aR:=by
  obtain⟨_,_,_,_,_,_,_,_,_,_⟩:=v
  simp only[Sm.size]at hv;exact⟨by dsimp only;omega,by dsimp only;omega,rfl⟩
 obtain⟨h1,h2,h3⟩:=dO
 have c1:=nM v.a8
 have c2:=nM v.aR
 have l1:=Sm.eH v.a8
 have l2:=Sm.eH v.aR
 have hk : ∀ y,y∈v.a8∨y∈v.aR→∀ s,aF Tryz.prog mH [.agg (bh y)] s (.int .i64 (y.jy:Int)) s:=fun y hy s=>
  (ih (by omega) y (by rcases hy with hy|hy<;>(have:=Sm.dk hy;omega))).pure (by simp only[D.bK,D.ok,q8];rfl) rfl s
 rw[h3]
 unfold S0
 refine aF.go HM rfl fun B Q hB hQ=>?_
 have⟨hD,hY,hZ,gA⟩:=bR
 repeat' (first
 |simp only[go_sem,hD,hY,hZ,gA]
 |(with_reducible refine aE hQ ?_;exact bc))
 refine ff 1 0 (bp.ind (ι:=List Sm×Nat×Nat) (fun i=>v.a8.drop i.2.1=i.1∧i.2.2+Sm.jf i.1=1+Sm.jf v.a8) (fun i=>i.1.length)
  (fun i=> [(1, .ptr 0 0),(3, .int .i64 (i.2.2:Int)),(9, .slice .shared 13 (v.a8.map bh)),(10, .int .i64 (v.a8.length:Int)),(11, .int .i64 (i.2.1:Int))]) (fun i=>⟨[bh v],[]⟩) ?_ (v.a8,0,1) ⟨rfl,rfl⟩)
 rintro⟨rest,k,c⟩ ⟨g1,g2⟩ IH
 dsimp only at g1 g2
 cases rest with
 |cons y rest=>
  obtain⟨hY,g3,hD,g4⟩:=drop_cons g1
  have hy:=hk y (.inl (List.mem_of_getElem? hY))
  simp only[Sm.jf]at g2
  have hcy:=Ds y
  have Gr:=Sm.dk (List.mem_of_getElem? hY)
  have w1:IntKind.wrap .i64 ((k:Int)+1)=((k+1:Nat):Int):=by rw[ei]<;>omega
  have w2:IntKind.wrap .i64 ((c:Int)+(y.jy:Int))=((c+y.jy:Nat):Int):=by rw[ei]<;>omega
  repeat' (first
 |simp only[go_sem,hD,hY,hZ,gA,w1,w2]
 |(with_reducible refine CU (hy _) ?_)
 |(with_reducible refine aE hQ ?_;exact bc))
  refine ff 1 0 (IH (rest,k+1,c+y.jy) ⟨g3,by dsimp only;omega⟩ (Nat.lt_succ_self _))
 |nil=>
  have hD:=drop_nil g1
  simp only[Sm.jf,Nat.add_zero]at g2
  subst g2
  repeat' (first
 |simp only[go_sem,hD,hY,hZ,gA]
 | (with_reducible refine aE hQ ?_;exact bc))
  refine ff 1 0 (bp.ind (ι:=List Sm×Nat×Nat) (fun i=>v.aR.drop i.2.1=i.1∧i.2.2+Sm.jf i.1=1+Sm.jf v.a8+Sm.jf v.aR) (fun i=>i.1.length)
   (fun i=> [(1, .ptr 0 0),(3, .int .i64 (i.2.2:Int)),(21, .slice .shared 13 (v.aR.map bh)),(22, .int .i64 (v.aR.length:Int)),(23, .int .i64 (i.2.1:Int))]) (fun i=>⟨[bh v],[]⟩) ?_ (v.aR,0,1+Sm.jf v.a8) ⟨rfl,rfl⟩)
  rintro⟨rest,k,c⟩ ⟨g1,g2⟩ IH
  dsimp only at g1 g2
  cases rest with
  |cons y rest=>
   obtain⟨hY,g3,hD,g4⟩:=drop_cons g1
   have hy:=hk y (.inr (List.mem_of_getElem? hY))
   simp only[Sm.jf]at g2
   have hcy:=Ds y
   have Gr:=Sm.dk (List.mem_of_getElem? hY)
   have w1:IntKind.wrap .i64 ((k:Int)+1)=((k+1:Nat):Int):=by rw[ei]<;>omega
   have w2:IntKind.wrap .i64 ((c:Int)+(y.jy:Int))=((c+y.jy:Nat):Int):=by rw[ei]<;>omega
   repeat' (first
 |simp only[go_sem,hD,hY,hZ,gA,w1,w2]
 |(with_reducible refine CU (hy _) ?_)
 | (with_reducible refine aE hQ ?_;exact bc))
   refine ff 1 0 (IH (rest,k+1,c+y.jy) ⟨g3,by dsimp only;omega⟩ (Nat.lt_succ_self _))
  |nil=>
   have hD:=drop_nil g1
   simp only[Sm.jf,Nat.add_zero]at g2
   subst g2
   repeat' (first
 |simp only[go_sem,hD,hY,hZ,gA]
 |(with_reducible refine aE hQ ?_;exact bc))
theorem ac6 {v:Sm} (h:v.size<1000000000) (s:St):aF Tryz.prog mH [.agg (bh v)] s (.int .i64 (v.jy:Int)) s:=
 (ac5 v.size h v (Nat.le_refl _)).pure (by simp only[D.bK,D.ok,q8];rfl) rfl s
end Go.Abs
namespace Go.Abs
set_option maxRecDepth 8000
open Go.Proofs
abbrev iU (g ps:D) (L:List Im) (lo hi:List Int):List D:= [g,ps, .slice (.tok 0) 17 (L.map dv), .slice (.tok 1) 1 (lo.map bP), .slice (.tok 2) 1 (hi.map bP)]
abbrev U9 (proc up next loop:Int):List D:= [.int .i64 0, .int .i64 0, .slice .full 0 [], .str [], .str [], .int .i64 0, .int .i64 0, .str [], .slice .full 0 [], .bool false, .slice .full 0 [], .slice .full 0 [], .slice .full 0 [], .int .i64 proc, .int .i64 up, .int .i64 next, .int .i64 loop]
theorem aF.ahd {P:Program} {f:Nat} {args:List D} {g ps:D} {L L':List Im} {lo hi Gw ib:List Int} {a b c a' b' c':Option Nat}
 (h:aF P f (.ptr 0 0::args) ⟨[iU g ps L lo hi],[a,b,c]⟩ (.tuple []) ⟨[iU g ps L' Gw ib],[a',b',c']⟩)
 (ha:D.bK 0 0 args=true) (hg:D.ok 0 0 g=true) (hp:D.ok 0 0 ps=true)
 {s:St} {o:Nat} (ho:s.ah[o]? = some (iU g ps L lo hi)) (ht:s.aw = [a,b,c]):aF P f (.ptr o 0::args) s (.tuple []) ⟨s.ah.set o (iU g ps L' Gw ib),[a',b',c']⟩:=by
 have hr : ∀ (L:List Im) (lo hi:List Int),D.e7 [o] [0,1,2] (iU g ps L lo hi)=iU g ps L lo hi:=fun L lo hi=>by
  simp[D.e7,D.cU,Tag.cU,qu _ _ _ hg,qu _ _ _ hp,jm _ _ _ (H4 L),jm _ _ _ (iz lo),jm _ _ _ (iz hi)]
 have hk : ∀ (L:List Im) (lo hi:List Int),D.bK 1 3 (iU g ps L lo hi)=true:=fun L lo hi=>by
  simp[D.bK,D.ok,Tag.ok,FC (Nat.zero_le 1) (Nat.zero_le 3) _ hg,FC (Nat.zero_le 1) (Nat.zero_le 3) _ hp,mE (Nat.zero_le 1) (Nat.zero_le 3) _ (H4 L),mE (Nat.zero_le 1) (Nat.zero_le 3) _ (iz lo),mE (Nat.zero_le 1) (Nat.zero_le 3) _ (iz hi)]
 refine bM.frame [o] [0,1,2] h (by simp) (by decide) (by simpa using (List.getElem?_eq_some_iff.1 ho).1) (by rw[ht];simp) rfl (fun i o' ds e1 e2=>?_) rfl (fun i t' e1=>?_)
  (by simp[D.e7,D.cU,fB _ _ _ ha])
  (by simp[D.bK,D.ok,iC (Nat.zero_le 1) (Nat.zero_le 3) _ ha]) ?_
 ·cases i with
  |zero=>simp only[List.getElem?_cons_zero,Option.some.injEq]at e1 e2;subst e1;subst e2;exact⟨by rw[hr];exact ho,hk L lo hi⟩
  |succ i=>simp at e1
 ·rw [ht]
  match i,e1 with
  | 0,e1=>simp at e1;subst e1;rfl
  | 1,e1=>simp at e1;subst e1;rfl
  | 2,e1=>simp at e1;subst e1;rfl
  |i+3,e1=>simp at e1
 ·rintro _ _ ⟨rfl,rfl⟩
  refine⟨by simp[D.back,D.cU,D.e7], ?_⟩
  have:=hr L' Gw ib
  simp[St.back,kD,kz,this,ht]
abbrev XR (N:Nat):Prop:=∀ (l:List Sm) (proc up next loop:Int) (out:List Im) (g ps:D) (lo hi:List Int) (b c:Option Nat),Sm.a7 l<N→out.length+Sm.jf l<1000000000→D.ok 0 0 g=true→D.ok 0 0 ps=true→
 ∀ {s:St} {o:Nat},s.ah[o]? = some (iU g ps out lo hi)→s.aw = [some out.length,b,c]→
 aF Tryz.prog j8 [.ptr o 0, .slice .shared 13 (l.map bh), .agg (U9 proc up next loop)] s (.tuple []) ⟨s.ah.set o (iU g ps (Im.rows proc up next loop out l) lo hi),[some (Im.rows proc up next loop out l).length,b,c]⟩
theorem ahe {N:Nat} (ih:XR N) {l:List Sm} {proc up next loop:Int} {out:List Im} {g ps:D} {lo hi:List Int} {b c:Option Nat} (hs:Sm.a7 l<N+1) (hc:out.length+Sm.jf l<1000000000) (hg:D.ok 0 0 g=true) (hp:D.ok 0 0 ps=true) (hN:N<1000000000) :
 aF Tryz.prog j8 [.ptr 0 0, .slice .shared 13 (l.map bh), .agg (U9 proc up next loop)] ⟨[iU g ps out lo hi],[some out.length,b,c]⟩ (.tuple []) ⟨[iU g ps (Im.rows proc up next loop out l) lo hi],[some (Im.rows proc up next loop out l).length,b,c]⟩:=by
 obtain⟨R,hR⟩ : ∃ R,R=Im.rows proc up next loop out l:=⟨_,rfl⟩
 have hlR:R.length=out.length+Sm.jf l:=by rw[hR,gE]
 rw[← hR]
 have k1 : ∀ n m,D.fg n m g=g:=fun n m=>OI n m _ hg
 have k2 : ∀ n m,D.fg n m ps=ps:=fun n m=>OI n m _ hp
 refine aF.go Bs rfl fun B Q hB hQ=>?_
 have⟨hD,hY,hZ,gA⟩:=bR
 repeat' (first
 |simp only[go_sem,hD,hY,hZ,gA,k1,k2]
 |(with_reducible first|refine bl fun hc=>?_|refine bm fun hc=>?_|refine bn (fun hc=>?_) fun hc=>?_)<;>(try simp only[hc,bs,↓reduceIte]at h)<;>try simp only[hc]
 |(with_reducible refine aE hQ ?_;simp only[aS,aV,bF,bG,go_sem,hD,hY,hZ,gA,k1,k2];try exact cq))
 refine eQ 2 3 ?_ ?_ (bp.ind (ι:=List Sm×Nat×List Im) (fun i=>l.drop i.2.1=i.1∧Im.rows proc up next loop i.2.2 i.1=R∧i.2.2.length+Sm.jf i.1=out.length+Sm.jf l) (fun i=>i.1.length)
  (fun i=> [(0, .ptr 0 0),(1, .slice .shared 13 (l.map bh)),(5, .ptr 1 0),(11, .slice .shared 13 (l.map bh)),(12, .int .i64 (l.length:Int)),(13, .int .i64 (i.2.1:Int))]) (fun i=>⟨[iU g ps i.2.2 lo hi,U9 proc up next loop],[some i.2.2.length,b,c]⟩) ?_ (l,0,out) ⟨rfl,hR.symm,rfl⟩)
 ·(simp only[go_sem,hD,hY,hZ,gA,k1,k2];try exact bX)
 ·(simp only[go_sem,hD,hY,hZ,gA,k1,k2];try exact bX)
 rintro⟨rest,k,cD⟩ ⟨h1,h2,h3⟩ IH
 dsimp only at h1 h2 h3
 have hlen:l.length<1000000000:=by have:=Sm.eH l;omega
 cases rest with
 |nil=>
  have hD:=drop_nil h1
  simp only[Im.rows]at h2
  subst h2
  repeat' (first
 |simp only[go_sem,hD,hY,hZ,gA,k1,k2]
 |(with_reducible first|refine bl fun hc=>?_|refine bm fun hc=>?_|refine bn (fun hc=>?_) fun hc=>?_)<;>(try simp only[hc,bs,↓reduceIte]at h)<;>try simp only[hc]
 |(with_reducible refine aE hQ ?_;simp only[aS,aV,bF,bG,go_sem,hD,hY,hZ,gA,k1,k2];try exact cq))
 | cons v rest=>
  obtain⟨hY,g2,hD,g4⟩:=drop_cons h1
  have bO:k<4611686018427387904:=by omega
  have hv:=Sm.dk (List.mem_of_getElem? hY)
  have oZ:Sm.a7 v.a8<N∧Sm.a7 v.aR<N∧v.jy=1+Sm.jf v.a8+Sm.jf v.aR:=by
   obtain⟨_,_,_,_,_,_,_,_,_,_⟩:=v
   simp only[Sm.size]at hv
   exact⟨by dsimp only;omega,by dsimp only;omega,rfl⟩
  obtain⟨xY,IK,XS⟩:=oZ
  simp only[Sm.jf]at h3
  simp only[Im.rows,Im.acq]at h2
  have hZ:(cD.length+1)*241≤bC:=by unfold bC;omega
  have LV:IntKind.wrap .i64 ((cD.length:Int)+1)=(cD.length:Int)+1:=ei (by omega) (by omega)
  have tr:IntKind.wrap .i64 ((k:Int)+1)=((k+1:Nat):Int):=by rw[ei]<;>omega
  have XT:IntKind.wrap .i64 ((cD.length:Int)+1+(v.jy:Int))=(cD.length:Int)+1+(v.jy:Int):=ei (by omega) (by omega)
  have dO:=fun s=>ac6 (v:=v) (by omega) s
  simp only[ep]at dO
  have A4:rest.length=l.length - (k+1):=by rw[← g2,List.length_drop]
  by_cases avK:k+1<l.length
  ·have d1:decide (((k+1:Nat):Int)<(l.length:Int))=true:=by simp;omega
   have e1:(rest.length=0)=False:=by simp;intro h;rw[h]at A4;simp at A4;omega
   by_cases RH:v.kind=6
   ·have d2:(v.kind==6)=true:=by simp [RH]
    simp only[e1,d2,↓reduceIte,Bool.false_eq_true]at h2
    have f1:=fun {s:St} {o:Nat}=>@ih v.a8 proc ((cD.length:Int)+1) ((cD.length:Int)+1) ((cD.length:Int)+1) (cD++ [⟨v,proc,up,((cD.length:Int)+1+(v.jy:Int)),loop⟩]) g ps lo hi b c xY (by simp;omega) hg hp s o
    have f2:=fun {s:St} {o:Nat}=>@ih v.aR proc ((cD.length:Int)+1) ((cD.length:Int)+1) ((cD.length:Int)+1) _ g ps lo hi b c IK (by rw[gE proc ((cD.length:Int)+1) ((cD.length:Int)+1) ((cD.length:Int)+1) (cD++ [⟨v,proc,up,((cD.length:Int)+1+(v.jy:Int)),loop⟩]) v.a8];simp;omega) hg hp s o
    have hl:(Im.rows proc ((cD.length:Int)+1) ((cD.length:Int)+1) ((cD.length:Int)+1) (Im.rows proc ((cD.length:Int)+1) ((cD.length:Int)+1) ((cD.length:Int)+1) (cD++ [⟨v,proc,up,((cD.length:Int)+1+(v.jy:Int)),loop⟩]) v.a8) v.aR).length=cD.length+v.jy:=by rw[gE,gE];simp;omega
    simp only[iU,List.map_append,List.map_cons,List.map_nil,O5,List.length_append,List.length_cons,List.length_nil]at f1
    repeat' (first
 |simp only[go_sem,hD,hY,hZ,gA,k1,k2,LV,tr,XT,d1,d2,ep]
 |(with_reducible refine CU (dO _) ?_)
 |(with_reducible refine CU (f1 (by with_unfolding_all rfl) (by with_unfolding_all rfl)) ?_)
 |(with_reducible refine CU (f2 (by with_unfolding_all rfl) (by with_unfolding_all rfl)) ?_)
 | (with_reducible refine aE hQ ?_;exact bc))
    refine eQ 2 3 ?_ ?_ (IH (rest,k+1,_) ⟨g2,h2,by dsimp only;rw[hl];omega⟩ (Nat.lt_succ_self _))
    ·(simp only[go_sem,hD,hY,hZ,gA,tr,k1,k2];try exact bX)
    ·(simp only[go_sem,hD,hY,hZ,gA,tr,k1,k2];try exact bX)
   ·have d2:(v.kind==6)=false:=by simp [RH]
    simp only[e1,d2,↓reduceIte,Bool.false_eq_true]at h2
    have f1:=fun {s:St} {o:Nat}=>@ih v.a8 proc ((cD.length:Int)+1) ((cD.length:Int)+1+(v.jy:Int)) loop (cD++ [⟨v,proc,up,((cD.length:Int)+1+(v.jy:Int)),loop⟩]) g ps lo hi b c xY (by simp;omega) hg hp s o
    have f2:=fun {s:St} {o:Nat}=>@ih v.aR proc ((cD.length:Int)+1) ((cD.length:Int)+1+(v.jy:Int)) loop _ g ps lo hi b c IK (by rw[gE proc ((cD.length:Int)+1) ((cD.length:Int)+1+(v.jy:Int)) loop (cD++ [⟨v,proc,up,((cD.length:Int)+1+(v.jy:Int)),loop⟩]) v.a8];simp;omega) hg hp s o
    have hl:(Im.rows proc ((cD.length:Int)+1) ((cD.length:Int)+1+(v.jy:Int)) loop (Im.rows proc ((cD.length:Int)+1) ((cD.length:Int)+1+(v.jy:Int)) loop (cD++ [⟨v,proc,up,((cD.length:Int)+1+(v.jy:Int)),loop⟩]) v.a8) v.aR).length=cD.length+v.jy:=by rw[gE,gE];simp;omega
    simp only[iU,List.map_append,List.map_cons,List.map_nil,O5,List.length_append,List.length_cons,List.length_nil]at f1
    repeat' (first
 |simp only[go_sem,hD,hY,hZ,gA,k1,k2,LV,tr,XT,d1,d2,ep]
 |(with_reducible refine CU (dO _) ?_)
 |(with_reducible refine CU (f1 (by with_unfolding_all rfl) (by with_unfolding_all rfl)) ?_)
 |(with_reducible refine CU (f2 (by with_unfolding_all rfl) (by with_unfolding_all rfl)) ?_)
 | (with_reducible refine aE hQ ?_;exact bc))
    refine eQ 2 3 ?_ ?_ (IH (rest,k+1,_) ⟨g2,h2,by dsimp only;rw[hl];omega⟩ (Nat.lt_succ_self _))
    ·(simp only[go_sem,hD,hY,hZ,gA,tr,k1,k2];try exact bX)
    ·(simp only[go_sem,hD,hY,hZ,gA,tr,k1,k2];try exact bX)
  ·have d1:decide (((k+1:Nat):Int)<(l.length:Int))=false:=by simp;omega
   have e1:(rest.length=0)=True:=by simp only[eq_iff_iff,iff_true];omega
   by_cases RH:v.kind=6
   ·have d2:(v.kind==6)=true:=by simp [RH]
    simp only[e1,d2,↓reduceIte,Bool.false_eq_true]at h2
    have f1:=fun {s:St} {o:Nat}=>@ih v.a8 proc ((cD.length:Int)+1) ((cD.length:Int)+1) ((cD.length:Int)+1) (cD++ [⟨v,proc,up,next,loop⟩]) g ps lo hi b c xY (by simp;omega) hg hp s o
    have f2:=fun {s:St} {o:Nat}=>@ih v.aR proc ((cD.length:Int)+1) ((cD.length:Int)+1) ((cD.length:Int)+1) _ g ps lo hi b c IK (by rw[gE proc ((cD.length:Int)+1) ((cD.length:Int)+1) ((cD.length:Int)+1) (cD++ [⟨v,proc,up,next,loop⟩]) v.a8];simp;omega) hg hp s o
    have hl:(Im.rows proc ((cD.length:Int)+1) ((cD.length:Int)+1) ((cD.length:Int)+1) (Im.rows proc ((cD.length:Int)+1) ((cD.length:Int)+1) ((cD.length:Int)+1) (cD++ [⟨v,proc,up,next,loop⟩]) v.a8) v.aR).length=cD.length+v.jy:=by rw[gE,gE];simp;omega
    simp only[iU,List.map_append,List.map_cons,List.map_nil,O5,List.length_append,List.length_cons,List.length_nil]at f1
    repeat' (first
 |simp only[go_sem,hD,hY,hZ,gA,k1,k2,LV,tr,XT,d1,d2,ep]
 |(with_reducible refine CU (dO _) ?_)
 |(with_reducible refine CU (f1 (by with_unfolding_all rfl) (by with_unfolding_all rfl)) ?_)
 |(with_reducible refine CU (f2 (by with_unfolding_all rfl) (by with_unfolding_all rfl)) ?_)
 | (with_reducible refine aE hQ ?_;exact bc))
    refine eQ 2 3 ?_ ?_ (IH (rest,k+1,_) ⟨g2,h2,by dsimp only;rw[hl];omega⟩ (Nat.lt_succ_self _))
    ·(simp only[go_sem,hD,hY,hZ,gA,tr,k1,k2];try exact bX)
    ·(simp only[go_sem,hD,hY,hZ,gA,tr,k1,k2];try exact bX)
   ·have d2:(v.kind==6)=false:=by simp [RH]
    simp only[e1,d2,↓reduceIte,Bool.false_eq_true]at h2
    have f1:=fun {s:St} {o:Nat}=>@ih v.a8 proc ((cD.length:Int)+1) next loop (cD++ [⟨v,proc,up,next,loop⟩]) g ps lo hi b c xY (by simp;omega) hg hp s o
    have f2:=fun {s:St} {o:Nat}=>@ih v.aR proc ((cD.length:Int)+1) next loop _ g ps lo hi b c IK (by rw[gE proc ((cD.length:Int)+1) next loop (cD++ [⟨v,proc,up,next,loop⟩]) v.a8];simp;omega) hg hp s o
    have hl:(Im.rows proc ((cD.length:Int)+1) next loop (Im.rows proc ((cD.length:Int)+1) next loop (cD++ [⟨v,proc,up,next,loop⟩]) v.a8) v.aR).length=cD.length+v.jy:=by rw[gE,gE];simp;omega
    simp only[iU,List.map_append,List.map_cons,List.map_nil,O5,List.length_append,List.length_cons,List.length_nil]at f1
    repeat' (first
 |simp only[go_sem,hD,hY,hZ,gA,k1,k2,LV,tr,XT,d1,d2,ep]
 |(with_reducible refine CU (dO _) ?_)
 |(with_reducible refine CU (f1 (by with_unfolding_all rfl) (by with_unfolding_all rfl)) ?_)
 |(with_reducible refine CU (f2 (by with_unfolding_all rfl) (by with_unfolding_all rfl)) ?_)
 | (with_reducible refine aE hQ ?_;exact bc))
    refine eQ 2 3 ?_ ?_ (IH (rest,k+1,_) ⟨g2,h2,by dsimp only;rw[hl];omega⟩ (Nat.lt_succ_self _))
    ·(simp only[go_sem,hD,hY,hZ,gA,tr,k1,k2];try exact bX)
    ·(simp only[go_sem,hD,hY,hZ,gA,tr,k1,k2];try exact bX)
theorem ZA : ∀ N,N<1000000000→XR N:=by
 intro N
 induction N with
 |zero=>exact fun _ l proc up next loop out g ps lo hi b c h=>absurd h (Nat.not_lt_zero _)
 |succ N ih=>
  intro h l proc up next loop out g ps lo hi b c hs hc hg hp s o ho ht
  exact(ahe (ih (by omega)) hs hc hg hp (by omega)).ahd (by simp[D.bK,D.ok,Tag.ok,pD,D.gS]) hg hp ho ht
def fA (p:Pg):List D:= [.slice .shared 1 (p.globals.map encStr), .slice .shared 5 (p.procs.map cu), .slice .shared 17 (p.aX.L.map dv), .slice .shared 1 (p.aX.lo.map bP), .slice .shared 1 (p.aX.hi.map bP)]
theorem n7 (p:Pg):fA p = [.slice .shared 1 (p.globals.map encStr), .slice .shared 5 (p.procs.map cu), .slice .shared 17 (p.aX.L.map dv), .slice .shared 1 (p.aX.lo.map bP), .slice .shared 1 (p.aX.hi.map bP)]:=nd rfl
theorem uh (p:Pg):D.bK 0 0 (fA p)=true:=by simp[fA,D.bK,D.ok,Tag.ok,fa,wA,H4,iz]
theorem EG (p:Pg):cz p = [.slice .shared 1 (p.globals.map encStr), .slice .shared 5 (p.procs.map cu)]:=nd rfl
theorem ahf {p:Pg} (hs:Pc.a7 p.procs<1000000000):aF Tryz.prog kR [.agg (cz p)] S0 (.ptr 1 0) ⟨[cz p,iU (.slice .shared 1 (p.globals.map encStr)) (.slice .shared 5 (p.procs.map cu)) p.aX.L p.aX.lo p.aX.hi],[some p.aX.L.length,some p.aX.lo.length,some p.aX.hi.length]⟩:=by
 have hlen:p.procs.length<1000000000:=by have:=Pc.eH p.procs;omega
 obtain⟨R,hR⟩ : ∃ R,R=p.aX:=⟨_,rfl⟩
 have hR':=hR
 unfold Pg.aX at hR'
 unfold S0
 rw[EG, ← hR]
 refine aF.goK 2 3 (Nat.zero_le _) (Nat.zero_le _) JA rfl fun B Q hB hQ=>?_
 have⟨hD,hY,hZ,gA⟩:=bR
 repeat' (first
 |simp only[go_sem,hD,hY,hZ,gA,EG]
 |(with_reducible refine aE hQ ?_;exact bc))
 refine bp.Dq 1 2 17 rfl rfl ?_
 simp only[go_sem,hD,hY,hZ,gA]
 refine bp.Dq 1 3 1 rfl rfl ?_
 simp only[go_sem,hD,hY,hZ,gA]
 refine bp.Dq 1 4 1 rfl rfl ?_
 simp only[go_sem,hD,hY,hZ,gA]
 refine eQ 2 3 ?_ ?_ (bp.ind (ι:=List Pc×Nat×Sh×Nat×Nat) (fun i=>p.procs.drop i.2.1=i.1∧Sh.go i.2.1 i.2.2.1 i.1=R∧i.2.2.1.L.length+Pc.a7 i.1≤Pc.a7 p.procs∧i.2.2.1.lo.length=i.2.1∧i.2.2.1.hi.length=i.2.1∧i.2.2.2.1=i.2.2.1.lo.length∧i.2.2.2.2=i.2.2.1.hi.length) (fun i=>i.1.length)
  (fun i=> [(1, .ptr 0 0),(3, .ptr 1 0),(10, .slice .shared 5 (p.procs.map cu)),(11, .int .i64 (p.procs.length:Int)),(12, .int .i64 (i.2.1:Int))]) (fun i=>⟨[[.slice .shared 1 (p.globals.map encStr), .slice .shared 5 (p.procs.map cu)],iU (.slice .shared 1 (p.globals.map encStr)) (.slice .shared 5 (p.procs.map cu)) i.2.2.1.L i.2.2.1.lo i.2.2.1.hi],[some i.2.2.1.L.length,some i.2.2.2.1,some i.2.2.2.2]⟩) ?_ (p.procs,0,⟨[],[],[]⟩,0,0) ⟨rfl,hR'.symm,by simp,rfl,rfl,rfl,rfl⟩)
 ·(simp only[go_sem,hD,hY,hZ,gA,iU];try exact bX)
 ·(simp only[go_sem,hD,hY,hZ,gA,iU];try exact bX)
 rintro⟨rest,k,h,n1,n2⟩ ⟨h1,h2,h3,h4,h5,h6,h7⟩ IH
 dsimp only at h1 h2 h3 h4 h5 h6 h7
 subst h6 h7
 cases rest with
 |nil=>
  have hD:=drop_nil h1
  simp only[Sh.go]at h2
  rw[← h2]at hQ
  repeat' (first
 |simp only[go_sem,hD,hY,hZ,gA,iU]
 |(with_reducible refine aE hQ ?_;exact bc))
 |cons f rest=>
  obtain⟨hY,g2,hD,g4⟩:=drop_cons h1
  have bO:k<4611686018427387904:=by omega
  simp only[Pc.a7,Pc.size]at h3
  simp only[Sh.go]at h2
  have c1:=nM f.body
  have hZ:(h.lo.length+1)*9≤bC:=by unfold bC;omega
  have anL:(h.hi.length+1)*9≤bC:=by unfold bC;omega
  have LV:IntKind.wrap .i64 ((h.L.length:Int)+1)=(h.L.length:Int)+1:=ei (by omega) (by omega)
  have hl:(Im.rows (k:Int) 0 (-1) 0 h.L f.body).length=h.L.length+Sm.jf f.body:=gE ..
  have tr:IntKind.wrap .i64 (((Im.rows (k:Int) 0 (-1) 0 h.L f.body).length:Int)+1)=((Im.rows (k:Int) 0 (-1) 0 h.L f.body).length:Int)+1:=ei (by omega) (by omega)
  have hr:=fun {s:St} {o:Nat}=>@ZA (Sm.a7 f.body+1) (by omega) f.body (k:Int) 0 (-1) 0 h.L (.slice .shared 1 (p.globals.map encStr)) (.slice .shared 5 (p.procs.map cu)) (h.lo++ [(h.L.length:Int)+1]) h.hi (some (h.lo.length+1)) (some h.hi.length) (Nat.lt_succ_self _) (by omega) (by simp[D.ok,Tag.ok,fa]) (by simp[D.ok,Tag.ok,wA]) s o
  simp only[iU,List.map_append,List.map_cons,List.map_nil,bP]at hr
  repeat' (first
 |simp only[go_sem,hD,hY,hZ,gA,LV,tr,anL,iU]
 |(with_reducible refine CU (hr (by with_unfolding_all rfl) (by with_unfolding_all rfl)) ?_)
 |(with_reducible refine aE hQ ?_;exact bc))
  refine eQ 2 3 ?_ ?_ (IH (rest,k+1,⟨Im.rows (k:Int) 0 (-1) 0 h.L f.body,h.lo++ [(h.L.length:Int)+1],h.hi++ [((Im.rows (k:Int) 0 (-1) 0 h.L f.body).length:Int)+1]⟩,_,_) ⟨g2,h2,by dsimp only;rw[hl];omega,by simp[h4],by simp[h5],by simp,by simp⟩ (Nat.lt_succ_self _))
  ·(simp only[go_sem,hD,hY,hZ,gA,iU,aI bO,List.map_append,List.map_cons,List.map_nil,bP];try exact bX)
  ·(simp only[go_sem,hD,hY,hZ,gA,iU,aI bO,List.map_append,List.map_cons,List.map_nil,bP];try exact bX)
theorem Cf {p:Pg} (hs:Pc.a7 p.procs<1000000000) (s:St):aF Tryz.prog kR [.agg (cz p)] s (.dz (fA p) 0) s:=by
 refine aF.pure ?_ (by simp only[D.bK,D.ok,jw];rfl) (by simp only[D.ok,uh]) s
 have h:=(ahf hs).AN (n:=0) (m:=0) rfl (Nat.le_refl _) (Nat.zero_le _) (Nat.le_refl _)
 simpa[D.gx,D.fg,Tag.fg,Rs,W0,XP,RG,St.cut,fA,S0]using h
def jh (x:aG) (k:Int):List aG→Int
 | []=> -1
 |s::l=>if x==s then k else jh x (k+1) l
def fx (l:List aG) (x:aG):Bool:=decide (jh x 0 l≥0)
def kX {α:Type} (b:α→Bool) (k:Int):List α→Int
 | []=> -1
 |s::l=>if b s then k else kX b (k+1) l
theorem LW (x:aG) : ∀ (l:List aG) (k:Int),0≤k→(jh x k l≥0↔x∈l)
 | [],k,h=>by simp[jh]
 | s::l,k,h=>by
  by_cases e:x=s
  ·simp[jh,e];omega
  ·have e':(x==s)=false:=by simp [e]
   simp only[jh,e',Bool.false_eq_true,if_false,List.mem_cons,e,false_or]
   exact LW x l (k+1) (by omega)
theorem ji (l:List aG) (x:aG):fx l x=true↔x∈l:=by
 simp only[fx,decide_eq_true_eq];exact LW x l 0 (Int.le_refl 0)
theorem FX {α:Type} (b:α→Bool) : ∀ (l:List α) (k:Int),0≤k→(kX b k l≥0↔l.any b=true)
 | [],k,h=>by simp[kX]
 | s::l,k,h=>by
  by_cases e:b s=true
  ·simp[kX,e];omega
  ·have e':b s=false:=by simpa using e
   simp only[kX,e',Bool.false_eq_true,if_false,List.any_cons,Bool.or_eq_true,false_or]
   exact FX b l (k+1) (by omega)
theorem Cg {l:List aG} (hl:l.length<4611686018427387904) (x:aG) (s:St):aF Tryz.prog fZ [.slice .shared 1 (l.map encStr), .str x] s (.int .i64 (jh x 0 l)) s:=by
 refine aF.pure ?_ (by simp[D.bK,D.ok,Tag.ok,fa]) rfl s
 generalize h:jh x 0 l=p
 unfold S0
 refine aF.go v8 rfl fun B Q hB hQ=>?_
 have⟨hD,hY,hZ,gA⟩:=bR
 repeat' (first
 |simp only[go_sem,hD,hY,hZ,gA]
 |(with_reducible first|refine bl fun hc=>?_|refine bm fun hc=>?_|refine bn (fun hc=>?_) fun hc=>?_)<;>(try simp only[hc,bs,↓reduceIte]at h)<;>try simp only[hc]
 |(with_reducible refine aE hQ ?_;exact fO))
 refine ff 0 0 (bp.ind (ι:=List aG×Nat) (fun i=>l.drop i.2=i.1∧jh x (i.2:Int) i.1=p) (fun i=>i.1.length)
  (fun i=> [(0, .slice .shared 1 (l.map encStr)),(1, .str x),(7, .int .i64 (l.length:Int)),(8, .int .i64 (i.2:Int))]) (fun i=>⟨[],[]⟩) ?_ (l,0) ⟨rfl,h⟩)
 rintro⟨rest,k⟩ ⟨h1,h⟩ IH
 dsimp only at h1 h
 cases rest with
 |nil=>
  have hD:=drop_nil h1
  simp only[jh]at h
  repeat' (first
 |simp only[go_sem,hD,hY,hZ,gA]
 |(with_reducible first|refine bl fun hc=>?_|refine bm fun hc=>?_|refine bn (fun hc=>?_) fun hc=>?_)<;>(try simp only[hc,bs,↓reduceIte]at h)<;>try simp only[hc]
 |(with_reducible refine aE hQ ?_;exact fO))
 |cons a rest=>
  obtain⟨hY,g2,hD,g4⟩:=drop_cons h1
  have bO:k<4611686018427387904:=by omega
  simp only[jh]at h
  repeat' (first
 |simp only[go_sem,hD,hY,hZ,gA]
 |(with_reducible first|refine bl fun hc=>?_|refine bm fun hc=>?_|refine bn (fun hc=>?_) fun hc=>?_)<;>(try simp only[hc,bs,↓reduceIte]at h)<;>try simp only[hc]
 |(with_reducible refine aE hQ ?_;exact fO))
  refine eQ 0 0 ?_ ?_ (IH (rest,k+1) ⟨g2,h⟩ (Nat.lt_succ_self _))
  ·(simp only[go_sem,hD,hY,hZ,gA,aI bO];try exact bX)
  ·(simp only[go_sem,hD,hY,hZ,gA,aI bO];try exact bX)
theorem rF {l:List aG} (hl:l.length<4611686018427387904) (x:aG) (s:St):aF Tryz.prog ct [.slice .shared 1 (l.map encStr), .str x] s (.bool (fx l x)) s:=by
 refine aF.pure ?_ (by simp[D.bK,D.ok,Tag.ok,fa]) rfl s
 have hi:=fun s=>Cg hl x s
 unfold S0
 refine aF.go uf rfl fun B Q hB hQ=>?_
 have⟨hD,hY,hZ,gA⟩:=bR
 repeat' (first
 |simp only[go_sem,hD,hY,hZ,gA,fx]
 |(with_reducible refine CU (hi _) ?_)
 |(with_reducible first|refine bl fun hc=>?_|refine bm fun hc=>?_|refine bn (fun hc=>?_) fun hc=>?_)<;>(try simp only[hc,bs,↓reduceIte]at h)<;>try simp only[hc]
 |(with_reducible refine aE hQ ?_;simp only[aS,aV,bF,bG,go_sem,hD,hY,hZ,gA,fx];try exact cq))
theorem aF.XU {P:Program} {f:Nat} {d d':D} {r:List D} {s s':St} {x:D} (h:aF P f (d'::r) s x s') (hw:Wk d d'):aF P f (d::r) s x s':=bM.qY (.cons hw (jr.refl r)) h
theorem jC {l:List aG} (hl:l.length<4611686018427387904) (x:aG) (g:Tag) (s:St):aF Tryz.prog ct [.slice g 1 (l.map encStr), .str x] s (.bool (fx l x)) s:=
 (rF hl x s).XU (Wk.shared _ _ _)
theorem JI (x:aG) (z:Nat) (g:Tag) (s:St):aF Tryz.prog ct [.slice g z [], .str x] s (.bool false) s:=
 (rF (l:= []) (by simp) x s).XU (Wk.nil _ _ _)
theorem Bu {l:List aG} (hl:l.length<4611686018427387904) {f:Nat} {row:List D} {b:aG→Bool} (uF:D.bK 0 0 row=true) (he:enters Tryz.prog f=true)
 (hb : ∀ x∈l,aF Tryz.prog f ([.str x]++ [.ptr 0 0]) ⟨[row],[]⟩ (.bool (b x)) ⟨[row],[]⟩) :
 aF Tryz.prog kS [.slice .shared 1 (l.map encStr), .gi f [.ptr 0 0]] ⟨[row],[]⟩ (.int .i64 (kX b 0 l)) ⟨[row],[]⟩:=by
 generalize h:kX b 0 l=p
 have k1 : ∀ n m,D.gx n m row=row:=fun n m=>ie n m _ uF
 refine aF.go tq rfl fun B Q hB hQ=>?_
 have⟨hD,hY,hZ,gA⟩:=bR
 repeat' (first
 |simp only[go_sem,hD,hY,hZ,gA,k1]
 |(with_reducible first|refine bl fun hc=>?_|refine bm fun hc=>?_|refine bn (fun hc=>?_) fun hc=>?_)<;>(try simp only[hc,bs,↓reduceIte]at h)<;>try simp only[hc]
 |(with_reducible refine aE hQ ?_;(try cases h);simp only[aS,aV,bF,bG,go_sem,hD,hY,hZ,gA,k1];try exact cq))
 refine eQ 1 0 ?_ ?_ (bp.ind (ι:=List aG×Nat) (fun i=>l.drop i.2=i.1∧kX b (i.2:Int) i.1=p) (fun i=>i.1.length)
  (fun i=> [(0, .slice .shared 1 (l.map encStr)),(1, .gi f [.ptr 0 0]),(7, .int .i64 (l.length:Int)),(8, .int .i64 (i.2:Int))]) (fun i=>⟨[row],[]⟩) ?_ (l,0) ⟨rfl,h⟩)
 ·(simp only[go_sem,hD,hY,hZ,gA,k1];try exact bX)
 ·(simp only[go_sem,hD,hY,hZ,gA,k1];try exact bX)
 rintro⟨rest,k⟩ ⟨h1,h⟩ IH
 dsimp only at h1 h
 cases rest with
 |nil=>
  have hD:=drop_nil h1
  simp only[kX]at h
  repeat' (first
 |simp only[go_sem,hD,hY,hZ,gA,k1]
 |(with_reducible first|refine bl fun hc=>?_|refine bm fun hc=>?_|refine bn (fun hc=>?_) fun hc=>?_)<;>(try simp only[hc,bs,↓reduceIte]at h)<;>try simp only[hc]
 |(with_reducible refine aE hQ ?_;(try cases h);simp only[aS,aV,bF,bG,go_sem,hD,hY,hZ,gA,k1];try exact cq))
 |cons a rest=>
  obtain⟨hY,g2,hD,g4⟩:=drop_cons h1
  have bO:k<4611686018427387904:=by omega
  have hba:=hb a (List.mem_of_getElem? hY)
  simp only[kX]at h
  repeat' (first
 |simp only[go_sem,hD,hY,hZ,gA,k1]
 |(with_reducible refine CV.use (he) (hba) ?_)
 |(with_reducible first|refine bl fun hc=>?_|refine bm fun hc=>?_|refine bn (fun hc=>?_) fun hc=>?_)<;>(try simp only[hc,bs,↓reduceIte]at h)<;>try simp only[hc]
 |(with_reducible refine aE hQ ?_;(try cases h);simp only[aS,aV,bF,bG,go_sem,hD,hY,hZ,gA,k1];try exact cq))
  refine eQ 1 0 ?_ ?_ (IH (rest,k+1) ⟨g2,h⟩ (Nat.lt_succ_self _))
  ·(simp only[go_sem,hD,hY,hZ,gA,k1,aI bO];try exact bX)
  ·(simp only[go_sem,hD,hY,hZ,gA,k1,aI bO];try exact bX)
theorem Bv {P:Program} {g f:Nat} {row:List D} {rows:List (List D)} {z:Nat} {d:D} (h:aF P g [.slice .shared z rows, .gi f [.ptr 0 0]] ⟨[row],[]⟩ d ⟨[row],[]⟩) (uF:D.bK 0 0 row=true) (hw:D.gS 0 0 rows=true) (hd:D.ok 0 0 d=true) {s:St} {o:Nat} (ho:s.ah[o]? = some row) :
 aF P g [.slice .shared z rows, .gi f [.ptr o 0]] s d s:=by
 refine bM.frame [o] [] h (by simp) List.nodup_nil (by simpa using (List.getElem?_eq_some_iff.1 ho).1) (by simp) rfl (fun i o' ds e1 e2=>?_) rfl (by simp) (by simp[D.e7,D.cU,Tag.cU,jm _ _ _ hw])
  (by simp[D.bK,D.ok,Tag.ok,mE (Nat.zero_le 1) (Nat.le_refl 0) _ hw]) ?_
 ·cases i with
  |zero=>simp at e1 e2;subst e1;subst e2;exact⟨by rw[fB _ _ _ uF];exact ho,iC (Nat.zero_le 1) (Nat.le_refl 0) _ uF⟩
  |succ i=>simp at e1
 ·rintro _ _ ⟨rfl,rfl⟩
  refine⟨qu _ _ _ hd, ?_⟩
  have:s.ah.set o row=s.ah:=by
   apply List.ext_getElem?
   intro i
   rw[List.getElem?_set]
   split
   ·rename_i e;subst e;rw [ho];split
    ·rfl
    ·rename_i hh;exact absurd (List.getElem?_eq_some_iff.1 ho).1 hh
   ·rfl
  simp[St.back,kD,fB _ _ _ uF,this]
theorem yw {l:List aG} (hl:l.length<4611686018427387904) {f:Nat} {row:List D} {b:aG→Bool} (uF:D.bK 0 0 row=true) (he:enters Tryz.prog f=true)
 (hb : ∀ x∈l,aF Tryz.prog f ([.str x]++ [.ptr 0 0]) ⟨[row],[]⟩ (.bool (b x)) ⟨[row],[]⟩) :
 aF Tryz.prog ga [.slice .shared 1 (l.map encStr), .gi f [.ptr 0 0]] ⟨[row],[]⟩ (.bool (l.any b)) ⟨[row],[]⟩:=by
 have k1 : ∀ n m,D.gx n m row=row:=fun n m=>ie n m _ uF
 have hi:=Bu hl uF he hb
 have e:decide (kX b 0 l≥0)=l.any b:=by
  have:=FX b l 0 (Int.le_refl 0)
  cases hh:l.any b<;>simp_all
 refine aF.go rE rfl fun B Q hB hQ=>?_
 have⟨hD,hY,hZ,gA⟩:=bR
 repeat' (first
 |simp only[go_sem,hD,hY,hZ,gA,k1,e]
 |(with_reducible refine CU (hi) ?_)
 |(with_reducible first|refine bl fun hc=>?_|refine bm fun hc=>?_|refine bn (fun hc=>?_) fun hc=>?_)<;>(try simp only[hc,bs,↓reduceIte]at h)<;>try simp only[hc]
 |(with_reducible refine aE hQ ?_;simp only[aS,aV,bF,bG,go_sem,hD,hY,hZ,gA,k1,e];try exact cq))
theorem yx {l:List aG} (hl:l.length<4611686018427387904) {f:Nat} {row:List D} {b:aG→Bool} (uF:D.bK 0 0 row=true) (he:enters Tryz.prog f=true)
 (hb : ∀ x∈l,aF Tryz.prog f ([.str x]++ [.ptr 0 0]) ⟨[row],[]⟩ (.bool (b x)) ⟨[row],[]⟩) {s:St} {o:Nat} (ho:s.ah[o]? = some row) :
 aF Tryz.prog ga [.slice .shared 1 (l.map encStr), .gi f [.ptr o 0]] s (.bool (l.any b)) s:=
 Bv (yw hl uF he hb) uF (fa l) rfl ho
theorem vF {l:List Pc} (hl:l.length<4611686018427387904) {f:Nat} {row:List D} {b:Pc→Bool} (uF:D.bK 0 0 row=true) (he:enters Tryz.prog f=true)
 (hb : ∀ x∈l,aF Tryz.prog f ([.agg (cu x)]++ [.ptr 0 0]) ⟨[row],[]⟩ (.bool (b x)) ⟨[row],[]⟩) :
 aF Tryz.prog gk [.slice .shared 5 (l.map cu), .gi f [.ptr 0 0]] ⟨[row],[]⟩ (.int .i64 (kX b 0 l)) ⟨[row],[]⟩:=by
 generalize h:kX b 0 l=p
 have k1 : ∀ n m,D.gx n m row=row:=fun n m=>ie n m _ uF
 refine aF.go rT rfl fun B Q hB hQ=>?_
 have⟨hD,hY,hZ,gA⟩:=bR
 repeat' (first
 |simp only[go_sem,hD,hY,hZ,gA,k1]
 |(with_reducible first|refine bl fun hc=>?_|refine bm fun hc=>?_|refine bn (fun hc=>?_) fun hc=>?_)<;>(try simp only[hc,bs,↓reduceIte]at h)<;>try simp only[hc]
 |(with_reducible refine aE hQ ?_;(try cases h);simp only[aS,aV,bF,bG,go_sem,hD,hY,hZ,gA,k1];try exact cq))
 refine eQ 1 0 ?_ ?_ (bp.ind (ι:=List Pc×Nat) (fun i=>l.drop i.2=i.1∧kX b (i.2:Int) i.1=p) (fun i=>i.1.length)
  (fun i=> [(0, .slice .shared 5 (l.map cu)),(1, .gi f [.ptr 0 0]),(7, .int .i64 (l.length:Int)),(8, .int .i64 (i.2:Int))]) (fun i=>⟨[row],[]⟩) ?_ (l,0) ⟨rfl,h⟩)
 ·(simp only[go_sem,hD,hY,hZ,gA,k1];try exact bX)
 ·(simp only[go_sem,hD,hY,hZ,gA,k1];try exact bX)
 rintro⟨rest,k⟩ ⟨h1,h⟩ IH
 dsimp only at h1 h
 cases rest with
 |nil=>
  have hD:=drop_nil h1
  simp only[kX]at h
  repeat' (first
 |simp only[go_sem,hD,hY,hZ,gA,k1]
 |(with_reducible first|refine bl fun hc=>?_|refine bm fun hc=>?_|refine bn (fun hc=>?_) fun hc=>?_)<;>(try simp only[hc,bs,↓reduceIte]at h)<;>try simp only[hc]
 |(with_reducible refine aE hQ ?_;(try cases h);simp only[aS,aV,bF,bG,go_sem,hD,hY,hZ,gA,k1];try exact cq))
 |cons a rest=>
  obtain⟨hY,g2,hD,g4⟩:=drop_cons h1
  have bO:k<4611686018427387904:=by omega
  have hba:=hb a (List.mem_of_getElem? hY)
  simp only[kX]at h
  repeat' (first
 |simp only[go_sem,hD,hY,hZ,gA,k1]
 |(with_reducible refine CV.use (he) (hba) ?_)
 |(with_reducible first|refine bl fun hc=>?_|refine bm fun hc=>?_|refine bn (fun hc=>?_) fun hc=>?_)<;>(try simp only[hc,bs,↓reduceIte]at h)<;>try simp only[hc]
 |(with_reducible refine aE hQ ?_;(try cases h);simp only[aS,aV,bF,bG,go_sem,hD,hY,hZ,gA,k1];try exact cq))
  refine eQ 1 0 ?_ ?_ (IH (rest,k+1) ⟨g2,h⟩ (Nat.lt_succ_self _))
  ·(simp only[go_sem,hD,hY,hZ,gA,k1,aI bO];try exact bX)
  ·(simp only[go_sem,hD,hY,hZ,gA,k1,aI bO];try exact bX)
theorem AA {l:List Pc} (hl:l.length<4611686018427387904) {f:Nat} {row:List D} {b:Pc→Bool} (uF:D.bK 0 0 row=true) (he:enters Tryz.prog f=true)
 (hb : ∀ x∈l,aF Tryz.prog f ([.agg (cu x)]++ [.ptr 0 0]) ⟨[row],[]⟩ (.bool (b x)) ⟨[row],[]⟩) :
 aF Tryz.prog gP [.slice .shared 5 (l.map cu), .gi f [.ptr 0 0]] ⟨[row],[]⟩ (.bool (l.any b)) ⟨[row],[]⟩:=by
 have k1 : ∀ n m,D.gx n m row=row:=fun n m=>ie n m _ uF
 have hi:=vF hl uF he hb
 have e:decide (kX b 0 l≥0)=l.any b:=by
  have:=FX b l 0 (Int.le_refl 0)
  cases hh:l.any b<;>simp_all
 refine aF.go qx rfl fun B Q hB hQ=>?_
 have⟨hD,hY,hZ,gA⟩:=bR
 repeat' (first
 |simp only[go_sem,hD,hY,hZ,gA,k1,e]
 |(with_reducible refine CU (hi) ?_)
 |(with_reducible first|refine bl fun hc=>?_|refine bm fun hc=>?_|refine bn (fun hc=>?_) fun hc=>?_)<;>(try simp only[hc,bs,↓reduceIte]at h)<;>try simp only[hc]
 |(with_reducible refine aE hQ ?_;simp only[aS,aV,bF,bG,go_sem,hD,hY,hZ,gA,k1,e];try exact cq))
mutual
def Sm.pre:Sm→List Sm
 |⟨id,kind,labels,name,pc,x,has,args,a8,aR⟩=>⟨id,kind,labels,name,pc,x,has,args,a8,aR⟩::(Sm.dd a8++Sm.dd aR)
def Sm.dd:List Sm→List Sm
 | []=> []
 |s::l=>s.pre++Sm.dd l
end
def Pg.pre (p:Pg):List Sm:=(p.procs.map fun f=>Sm.dd f.body).flatten
theorem Sm.qc (s:Sm):s.pre=s::(Sm.dd s.a8++Sm.dd s.aR):=by cases s;simp only[Sm.pre]
mutual
theorem ZB (proc up next loop:Int) (out:List Im) : ∀ s:Sm,∃ e:List Im,Im.one proc up next loop out s=out++e∧e.map Im.s=s.pre
 |⟨id,kind,labels,name,pc,x,has,args,a8,aR⟩=>by
  simp only[Im.one,Sm.pre]
  obtain⟨e1,h1,k1⟩:=zt proc ((out.length:Int)+1) (if kind==6 then(out.length:Int)+1 else next) (if kind==6 then(out.length:Int)+1 else loop) (out++ [⟨⟨id,kind,labels,name,pc,x,has,args,a8,aR⟩,proc,up,next,loop⟩]) a8
  obtain⟨e2,h2,k2⟩:=zt proc ((out.length:Int)+1) (if kind==6 then(out.length:Int)+1 else next) (if kind==6 then(out.length:Int)+1 else loop) (Im.rows proc ((out.length:Int)+1) (if kind==6 then(out.length:Int)+1 else next) (if kind==6 then(out.length:Int)+1 else loop) (out++ [⟨⟨id,kind,labels,name,pc,x,has,args,a8,aR⟩,proc,up,next,loop⟩]) a8) aR
  refine⟨⟨⟨id,kind,labels,name,pc,x,has,args,a8,aR⟩,proc,up,next,loop⟩::(e1++e2), ?_, ?_⟩
  ·rw[h2,h1];simp
  ·simp[k1,k2]
theorem zt (proc up next loop:Int) (out:List Im) : ∀ l:List Sm,∃ e:List Im,Im.rows proc up next loop out l=out++e∧e.map Im.s=Sm.dd l
 | []=>⟨[],by simp[Im.rows],rfl⟩
 |s::l=>by
  simp only[Im.rows,Sm.dd]
  obtain⟨e1,h1,k1⟩:=ZB proc up (if l.length=0 then next else(out.length:Int)+1+(s.jy:Int)) loop out s
  obtain⟨e2,h2,k2⟩:=zt proc up next loop (Im.one proc up (if l.length=0 then next else(out.length:Int)+1+(s.jy:Int)) loop out s) l
  refine⟨e1++e2, ?_,by simp[k1,k2]⟩
  rw[h2,h1];simp
end
theorem RI : ∀ (l:List Pc) (n:Nat) (h:Sh),h.lo.length=n→h.hi.length=n→
 ∃ e lo hi,Sh.go n h l = ⟨h.L++e,h.lo++lo,h.hi++hi⟩∧e.map Im.s=(l.map fun f=>Sm.dd f.body).flatten∧lo.length=l.length∧hi.length=l.length∧
  ∀ (i:Nat) (f:Pc),l[i]? = some f→∃ a b e' Lz:List Im,lo[i]? = some (((h.L++a).length:Int)+1)∧hi[i]? = some (((h.L++a++b).length:Int)+1)∧b.map Im.s=Sm.dd f.body∧e=a++b++e'
 | [],n,h,hl,hh=>⟨[],[],[],by simp[Sh.go],rfl,rfl,rfl,fun i f h=>by simp at h⟩
 | f::l,n,h,hl,hh=>by
  simp only[Sh.go]
  obtain⟨e1,h1,k1⟩:=zt (n:Int) 0 (-1) 0 h.L f.body
  obtain⟨e2,lo,hi,h2,k2,h3,h4,h5⟩:=RI l (n+1) ⟨Im.rows (n:Int) 0 (-1) 0 h.L f.body,h.lo++ [(h.L.length:Int)+1],h.hi++ [((Im.rows (n:Int) 0 (-1) 0 h.L f.body).length:Int)+1]⟩ (by simp[hl]) (by simp[hh])
  refine⟨e1++e2,((h.L.length:Int)+1)::lo,(((Im.rows (n:Int) 0 (-1) 0 h.L f.body).length:Int)+1)::hi, ?_,by simp[k1,k2],by simp[h3],by simp[h4],fun i g ib=>?_⟩
  ·rw[h2,h1];simp
  ·cases i with
   |zero=>
    simp only[List.getElem?_cons_zero,Option.some.injEq]at ib
    subst ib
    exact⟨[],e1,e2,[],by simp,by rw[h1];simp,k1,by simp⟩
   |succ i=>
    simp only[List.getElem?_cons_succ]at ib
    obtain⟨a,b,e',Lz,g1,g2,g3,g4⟩:=h5 i g ib
    refine⟨e1++a,b,e',Lz, ?_, ?_,g3,by rw[g4];simp⟩
    ·rw[List.getElem?_cons_succ,g1,h1];simp
    ·rw[List.getElem?_cons_succ,g2,h1];simp
theorem lg (p:Pg):p.aX.L.map Im.s=p.pre∧∀ (i:Nat) (f:Pc),p.procs[i]? = some f→∃ a b e:List Im,p.aX.lo[i]? = some ((a.length:Int)+1)∧p.aX.hi[i]? = some (((a++b).length:Int)+1)∧b.map Im.s=Sm.dd f.body∧p.aX.L=a++b++e:=by
 obtain⟨e,lo,hi,h1,h2,h3,h4,h5⟩:=RI p.procs 0 ⟨[],[],[]⟩ rfl rfl
 unfold Pg.aX
 rw[h1]
 refine⟨by simpa[Pg.pre]using h2,fun i f hf=>?_⟩
 obtain⟨a,b,e',_,g1,g2,g3,g4⟩:=h5 i f hf
 exact⟨a,b,e',by simpa using g1,by simpa using g2,g3,by simpa using g4⟩
def Pg.at (p:Pg) (name:aG):Int:=kX (fun f:Pc=>f.name==name) 0 p.procs
theorem ZC (name:aG) (f:Pc):aF Tryz.prog lN ([.agg (cu f)]++ [.ptr 0 0]) ⟨[[.str name]],[]⟩ (.bool (f.name==name)) ⟨[[.str name]],[]⟩:=by
 show aF Tryz.prog lN [.agg (cu f), .ptr 0 0] _ _ _
 refine aF.go yi rfl fun B Q hB hQ=>?_
 have⟨hD,hY,hZ,gA⟩:=bR
 repeat' (first
 |simp only[go_sem,hD,hY,hZ,gA]
 |(with_reducible refine aE hQ ?_;exact bc))
theorem EH {p:Pg} (hs:p.procs.length<4611686018427387904) (name:aG) (s:St):aF Tryz.prog iD [.dz (fA p) 0, .str name] s (.int .i64 (p.at name)) s:=by
 refine aF.pure ?_ (by simp[D.bK,D.ok,uh]) rfl s
 have hi:=fun {s:St} {o:Nat} (ho:s.ah[o]? = some [.str name])=>Bv (vF (l:=p.procs) (f:=lN) (row:= [.str name]) (b:=fun f:Pc=>f.name==name) hs rfl (by with_unfolding_all rfl) (fun x _=>ZC name x)) rfl (wA _) rfl ho
 have ib:=fun {s:St} {o:Nat} (ho:s.ah[o]? = some [.str name])=>(show aF Tryz.prog gk [.slice .shared 5 (p.procs.map cu), .gi 76 [.ptr o 0]] s (.int .i64 (p.at name)) s from hi ho)
 unfold S0
 rw[n7]
 refine aF.go Ay rfl fun B Q hB hQ=>?_
 have⟨hD,hY,hZ,gA⟩:=bR
 repeat' (first
 |simp only[go_sem,hD,hY,hZ,gA]
 |(with_reducible refine CU (ib (by with_unfolding_all rfl)) ?_)
 |(with_reducible refine aE hQ ?_;exact bc))
theorem RJ : ∀ (l:List Pc) (n:Nat) (h:Sh),(Sh.go n h l).L.length≤h.L.length+Pc.a7 l
 | [],n,h=>by simp[Sh.go]
 |f::l,n,h=>by
  simp only[Sh.go]
  refine Nat.le_trans (RJ l _ _) ?_
  have:=gE (n:Int) 0 (-1) 0 h.L f.body
  have:=nM f.body
  simp only[Pc.a7,Pc.size];omega
theorem pg (p:Pg):p.aX.L.length≤Pc.a7 p.procs:=by have:=RJ p.procs 0 ⟨[],[],[]⟩;simpa[Pg.aX]using this
theorem ac8 {p:Pg} {i:Nat} (hs:Pc.a7 p.procs<1000000000) {a b e:List Im} (h1:p.aX.lo[i]? = some ((a.length:Int)+1)) (h2:p.aX.hi[i]? = some (((a++b).length:Int)+1)) (h4:p.aX.L=a++b++e) (s:St) :
 aF Tryz.prog gN [.dz (fA p) 0, .int .i64 (i:Int)] s (.slice .shared 17 (b.map dv)) s:=by
 refine aF.pure ?_ (by simp[D.bK,D.ok,uh]) (by simp[D.ok,Tag.ok,H4]) s
 have hL:p.aX.L.length<1000000000:=Nat.lt_of_le_of_lt (pg p) hs
 have l1:(i:Int)<(p.aX.lo.length:Int):=by have:=(List.getElem?_eq_some_iff.1 h1).1;omega
 have l2:(i:Int)<(p.aX.hi.length:Int):=by have:=(List.getElem?_eq_some_iff.1 h2).1;omega
 have XV:a.length+b.length≤p.aX.L.length:=by rw[h4];simp
 have w1:IntKind.wrap .i64 ((a.length:Int)+1 - 1)=(a.length:Int):=by rw[show(a.length:Int)+1 - 1=(a.length:Int) by omega];exact ei (by omega) (by omega)
 have w2:IntKind.wrap .i64 (((a.length+b.length:Nat):Int)+1 - 1)=((a.length+b.length:Nat):Int):=by rw[show((a.length+b.length:Nat):Int)+1 - 1=((a.length+b.length:Nat):Int) by omega];exact ei (by omega) (by omega)
 have c1:((a.length:Int)≤((a.length+b.length:Nat):Int))=True:=by simp only[eq_iff_iff,iff_true];omega
 have c2:(((a.length+b.length:Nat):Int)≤(p.aX.L.length:Int))=True:=by simp only[eq_iff_iff,iff_true];omega
 have hb:List.drop a.length (List.take (a.length+b.length) (List.map dv p.aX.L))=List.map dv b:=by rw[h4];simp[List.map_append,List.take_append,List.drop_append]
 unfold S0
 rw[n7]
 refine aF.go CD rfl fun B Q hB hQ=>?_
 have⟨hD,hY,hZ,gA⟩:=bR
 repeat' (first
 |simp only[go_sem,hD,hY,hZ,gA,h1,h2,List.length_append,w1,w2,c1,c2,or_true,true_and,and_self,ite_self,Int.toNat_natCast,hb]
 |(with_reducible first|refine bl fun hc=>?_|refine bm fun hc=>?_|refine bn (fun hc=>?_) fun hc=>?_)<;>(try simp only[hc,bs,↓reduceIte]at h)<;>try simp only[hc]
 |(with_reducible refine aE hQ ?_;(try cases h);simp only[aS,aV,bF,bG,go_sem,hD,hY,hZ,gA,h1,h2,List.length_append,w1,w2,c1,c2,or_true,true_and,and_self,ite_self,Int.toNat_natCast,hb];try exact cq)
 |(cases h;done))
theorem Va {p:Pg} {i:Nat} {f:Pc} (hf:p.procs[i]? = some f) (hs:Pc.a7 p.procs<1000000000) : ∃ it:List Im,it.map Im.s=Sm.dd f.body∧∀ s,aF Tryz.prog gN [.dz (fA p) 0, .int .i64 (i:Int)] s (.slice .shared 17 (it.map dv)) s:=by
 obtain⟨a,b,e,h1,h2,h3,h4⟩:=(lg p).2 i f hf
 exact⟨b,h3,ac8 hs h1 h2 h4⟩
theorem GN {r:aG} : Ce r=true↔pf r=r.length:=by
 induction r with
 |nil=>simp[Ce,pf]
 |cons c r ih=>
  simp only[Ce,pf]
  cases h1:Bt c<;>cases h2:EE c<;>simp[ih]
theorem Bw (t:aG) (hl:t.length<4611686018427387904) (s:St):aF Tryz.prog nY [.str t] s (.bool (isName t)) s:=by
 refine aF.pure ?_ rfl rfl s
 have hr:=fun s=>ag8 (pos:=0) hl s
 simp only[List.drop_zero,Nat.zero_add]at hr
 unfold S0
 cases t with
 |nil=>
  have z:decide (((0:Nat):Int)<1)=true:=rfl
  have z':decide ((0:Int)<1)=true:=rfl
  have e:isName [] = false:=rfl
  rw[e]
  refine aF.go nr rfl fun B Q hB hQ=>?_
  have⟨hD,hY,hZ,gA⟩:=bR
  repeat' (first
 |simp only[go_sem,hD,hY,hZ,gA,z,z']
 |(with_reducible refine aE hQ ?_;exact bc))
 | cons c r=>
  have l1:decide (((r.length+1:Nat):Int)<1)=false:=by simp;omega
  generalize h:isName (c::r)=p
  simp only[isName]at h
  cases hL:Bt c
  ·simp only [hL,Bool.not_false,Bool.or_true, ↓reduceIte]at h
   subst h
   by_cases c8:decide (((r.length+1:Nat):Int) > 8)=true
   ·refine aF.go nr rfl fun B Q hB hQ=> ?_
    have⟨hD,hY,hZ,gA⟩:=bR
    repeat' (first
 |simp only[go_sem,hD,hY,hZ,gA,l1,c8]
 | (with_reducible refine aE hQ ?_;exact bc))
   ·have c8:decide (((r.length+1:Nat):Int) > 8)=false:=by simpa using c8
    refine aF.go nr rfl fun B Q hB hQ=>?_
    have⟨hD,hY,hZ,gA⟩:=bR
    repeat' (first
 |simp only[go_sem,hD,hY,hZ,gA,l1,c8,hL]
 |(with_reducible refine CU (su _ _) ?_)
 | (with_reducible refine aE hQ ?_;exact bc))
  ·simp only [hL,Bool.not_true,Bool.or_false]at h
   by_cases c8:decide (((r.length+1:Nat):Int) > 8)=true
   ·simp only [c8, ↓reduceIte]at h
    subst h
    refine aF.go nr rfl fun B Q hB hQ=>?_
    have⟨hD,hY,hZ,gA⟩:=bR
    repeat' (first
 |simp only[go_sem,hD,hY,hZ,gA,l1,c8]
 | (with_reducible refine aE hQ ?_;exact bc))
   ·have c8:decide (((r.length+1:Nat):Int) > 8)=false:=by simpa using c8
    simp only[c8,Bool.false_eq_true,↓reduceIte]at h
    have dG:pf (c::r)=pf r+1:=by simp[pf,hL]
    cases hn:Ce r
    ·simp only [hn,Bool.false_eq_true, ↓reduceIte]at h
     have:pf r≠r.length:=fun e=>by rw[GN.2 e]at hn;cases hn
     have e:(((pf (c::r):Nat):Int)==((r.length+1:Nat):Int))=false:=by rw[dG];simp;omega
     subst h
     refine aF.go nr rfl fun B Q hB hQ=>?_
     have⟨hD,hY,hZ,gA⟩:=bR
     repeat' (first
 |simp only[go_sem,hD,hY,hZ,gA,l1,c8,hL,e]
 |(with_reducible refine CU (su _ _) ?_)
 |(with_reducible refine CU (hr _) ?_)
 | (with_reducible refine aE hQ ?_;exact bc))
    ·simp only [hn, ↓reduceIte]at h
     have:=GN.1 hn
     have e:(((pf (c::r):Nat):Int)==((r.length+1:Nat):Int))=true:=by rw[dG];simp;omega
     subst h
     refine aF.go nr rfl fun B Q hB hQ=>?_
     have⟨hD,hY,hZ,gA⟩:=bR
     repeat' (first
 |simp only[go_sem,hD,hY,hZ,gA,l1,c8,hL,e]
 |(with_reducible refine CU (su _ _) ?_)
 |(with_reducible refine CU (hr _) ?_)
 |(with_reducible refine CU (ac1 _ _) ?_)
 |(with_reducible refine aE hQ ?_;exact bc))
theorem LX (op:Int) (s:St):aF Tryz.prog xv [.int .i64 op] s (.int .i64 (om op)) s:=by
 refine aF.pure ?_ rfl rfl s
 unfold S0
 generalize h:om op=p
 unfold om at h
 refine aF.go HJ rfl fun B Q hB hQ=>?_
 have⟨hD,hY,hZ,gA⟩:=bR
 repeat' (first
 |simp only[go_sem,hD,hY,hZ,gA]
 |(with_reducible first|refine bl fun hc=>?_|refine bm fun hc=>?_|refine bn (fun hc=>?_) fun hc=>?_)<;>(try simp only[hc,bs,↓reduceIte]at h)<;>try simp only[hc]
 |(with_reducible refine aE hQ ?_;exact fO))
theorem zu {l:List aG} (hl:l.length<4611686018427387904) (hs : ∀ t∈l,t.length<4611686018427387904) (s:St):aF Tryz.prog np [.slice .shared 1 (l.map encStr)] s (.bool (fb l)) s:=by
 refine aF.pure ?_ (by simp[D.bK,D.ok,fa,Tag.ok]) rfl s
 unfold S0
 generalize h:fb l=p
 refine aF.go FM rfl fun B Q hB hQ=>?_
 have⟨hD,hY,hZ,gA⟩:=bR
 repeat' (first
 |simp only[go_sem,hD,hY,hZ,gA]
 |(with_reducible first|refine bl fun hc=>?_|refine bm fun hc=>?_|refine bn (fun hc=>?_) fun hc=>?_)<;>(try simp only[hc,bs,↓reduceIte]at h)<;>try simp only[hc]
 |(with_reducible refine aE hQ ?_;exact fO))
 refine ff 0 0 (bp.ind (ι:=List aG×Nat) (fun i=>l.drop i.2=i.1∧fb i.1=p) (fun i=>i.1.length)
  (fun i=> [(5, .slice .shared 1 (l.map encStr)),(6, .int .i64 (l.length:Int)),(7, .int .i64 (i.2:Int))]) (fun i=>⟨[],[]⟩) ?_ (l,0) ⟨rfl,h⟩)
 rintro⟨rest,k⟩ ⟨h1,h⟩ IH
 dsimp only at h1 h
 cases rest with
 |nil=>
  have hD:=drop_nil h1
  simp only[fb]at h
  repeat' (first
 |simp only[go_sem,hD,hY,hZ,gA]
 |(with_reducible first|refine bl fun hc=>?_|refine bm fun hc=>?_|refine bn (fun hc=>?_) fun hc=>?_)<;>(try simp only[hc,bs,↓reduceIte]at h)<;>try simp only[hc]
 |(with_reducible refine aE hQ ?_;exact fO))
 |cons t rest=>
  obtain⟨hY,g2,hD,g4⟩:=drop_cons h1
  have hZ:k<4611686018427387904:=by omega
  have hn:=Bw t (hs t (List.mem_of_getElem? hY))
  simp only[fb]at h
  repeat' (first
 |simp only[go_sem,hD,hY,hZ,gA]
 |(with_reducible refine CU (hn _) ?_)
 |(with_reducible first|refine bl fun hc=>?_|refine bm fun hc=>?_|refine bn (fun hc=>?_) fun hc=>?_)<;>(try simp only[hc,bs,↓reduceIte]at h)<;>try simp only[hc]
 |(with_reducible refine aE hQ ?_;exact fO))
  refine ff 0 0 (IH (rest,k+1) ⟨g2,h⟩ (Nat.lt_succ_self _))
mutual
def Ex.dp (left:Int):Ex→Bool
 |⟨op,n,name,kids⟩=>
  if decide (left<1) ||(kids.length:Int) != om op then false
  else if op==1 then decide (n≥0) && name == []
  else if op==2 then n==0 && isName name
  else if n != 0 || !(name == [])then false
  else Ex.Bx (left - 1) kids
def Ex.Bx (left:Int):List Ex→Bool
 | []=>true
 |x::l=>if !(Ex.dp left x)then false else Ex.Bx left l
end
theorem ZD : ∀ (m:Nat) (x:Ex),x.size≤m→x.size<4611686018427387904→x.texts→∀ left:Int,0≤left→left≤100→∀ s:St,aF Tryz.prog p9 [.agg (cj x), .int .i64 left] s (.bool (x.dp left)) s:=by
 intro m
 induction m with
 |zero=>rintro⟨op,v,name,kids⟩ h;simp only[Ex.size]at h;omega
 | succ m ih=>
  rintro⟨op,v,name,kids⟩ h hx ht left h0 Vb s
  refine aF.pure ?_ (by simp[D.bK,D.ok,lU]) rfl s
  have hlen:kids.length<4611686018427387904:=by simp only[Ex.size]at hx;have:=Ex.eH kids;omega
  have hn:=Bw name ht.1
  generalize hp:Ex.dp left ⟨op,v,name,kids⟩=p
  simp only[Ex.dp]at hp
  unfold S0
  by_cases vG:left<1
  ·have d1:decide (left<1)=true:=by simpa using vG
   simp only[d1,Bool.true_or,↓reduceIte]at hp
   subst hp
   refine aF.go An rfl fun B Q hB hQ=>?_
   have⟨hD,hY,hZ,gA⟩:=bR
   repeat' (first
 |simp only[go_sem,hD,hY,hZ,gA,d1]
 |(with_reducible refine CU (LX _ _) ?_)
 |(with_reducible refine CU (hn _) ?_)
 | (with_reducible refine aE hQ ?_;exact bc))
  ·have d1:decide (left<1)=false:=by simpa using vG
   have w1:IntKind.wrap .i64 (left - 1)=left - 1:=ei (by omega) (by omega)
   have hk : ∀ y∈kids,∀ s,aF Tryz.prog p9 [.agg (cj y), .int .i64 (left - 1)] s (.bool (y.dp (left - 1))) s:=fun y hy s=>
    ih y (by simp only[Ex.size]at h;have:=Ex.dk hy;omega) (by simp only[Ex.size]at hx;have:=Ex.dk hy;omega) (Ex.RA ht hy) (left - 1) (by omega) (by omega) s
   simp only[d1,Bool.false_or]at hp
   have h:=hp
   clear hp
   refine aF.go An rfl fun B Q hB hQ=>?_
   have⟨hD,hY,hZ,gA⟩:=bR
   repeat' (first
 |simp only[go_sem,hD,hY,hZ,gA,d1]
 |(with_reducible refine CU (LX _ _) ?_)
 |(with_reducible refine CU (hn _) ?_)
 |(with_reducible first|refine bl fun hc=>?_|refine bm fun hc=>?_|refine bn (fun hc=>?_) fun hc=>?_)<;>(try simp only[hc,bs,↓reduceIte]at h)<;>try simp only[hc]
 | (with_reducible refine aE hQ ?_;(try cases h);simp only [aS,aV,bF,bG,go_sem,hD,hY,hZ,gA,d1];repeat' (first | exact Ok.out | with_reducible refine jb ?_ ?_ | (simp;done))))
   all_goals
    refine ff 1 0 (bp.ind (ι:=List Ex×Nat) (fun i=>kids.drop i.2=i.1∧Ex.Bx (left - 1) i.1=p) (fun i=>i.1.length)
     (fun i=> [(1, .int .i64 left),(49, .slice .shared 4 (kids.map cj)),(50, .int .i64 (kids.length:Int)),(51, .int .i64 (i.2:Int))]) (fun i=>⟨[cj ⟨op,v,name,kids⟩],[]⟩) ?_ (kids,0) ⟨rfl,h⟩)
    rintro⟨rest,k⟩ ⟨h1,h⟩ IH
    dsimp only at h1 h
    cases rest with
    |nil=>
     have hD:=drop_nil h1
     simp only[Ex.Bx]at h
     repeat' (first
 |simp only[go_sem,hD,hY,hZ,gA]
 |(with_reducible first|refine bl fun hc=>?_|refine bm fun hc=>?_|refine bn (fun hc=>?_) fun hc=>?_)<;>(try simp only[hc,bs,↓reduceIte]at h)<;>try simp only[hc]
 |(with_reducible refine aE hQ ?_;exact fO)
 | (cases h;done))
    |cons y rest=>
     obtain⟨hY,g2,hD,g4⟩:=drop_cons h1
     have hy:=hk y (List.mem_of_getElem? hY)
     have hZ:k<4611686018427387904:=by omega
     simp only[Ex.Bx]at h
     repeat' (first
 |simp only[go_sem,hD,hY,hZ,gA,w1]
 |(with_reducible refine CU (hy _) ?_)
 |(with_reducible first|refine bl fun hc=>?_|refine bm fun hc=>?_|refine bn (fun hc=>?_) fun hc=>?_)<;>(try simp only[hc,bs,↓reduceIte]at h)<;>try simp only[hc]
 |(with_reducible refine aE hQ ?_;(try cases h);simp only[aS,aV,bF,bG,go_sem,hD,hY,hZ,gA,w1];try exact cq))
     refine ff 1 0 (IH (rest,k+1) ⟨g2,h⟩ (Nat.lt_succ_self _))
theorem zv {x:Ex} (hx:x.size<4611686018427387904) (ht:x.texts) (s:St):aF Tryz.prog nn [.agg (cj x)] s (.bool (x.dp 20)) s:=by
 refine aF.pure ?_ (by simp[D.bK,D.ok,lU]) rfl s
 have hd:=fun s=>ZD _ x (Nat.le_refl _) hx ht 20 (by omega) (by omega) s
 unfold S0
 refine aF.go Dz rfl fun B Q hB hQ=>?_
 have⟨hD,hY,hZ,gA⟩:=bR
 repeat' (first
 |simp only[go_sem,hD,hY,hZ,gA]
 |(with_reducible refine CU (hd _) ?_)
 |(with_reducible refine aE hQ ?_;exact bc))
theorem ZE (x:Ex) (s:St):aF Tryz.prog xy [.agg (cj x)] s (.bool x.none) s:=by
 refine aF.pure ?_ (by simp[D.bK,D.ok,lU]) rfl s
 unfold S0
 generalize h:Ex.none x=p
 unfold Ex.none at h
 refine aF.go HL rfl fun B Q hB hQ=>?_
 have⟨hD,hY,hZ,gA⟩:=bR
 repeat' (first
 |simp only[go_sem,hD,hY,hZ,gA]
 |(with_reducible first|refine bl fun hc=>?_|refine bm fun hc=>?_|refine bn (fun hc=>?_) fun hc=>?_)<;>(try simp only[hc,bs,↓reduceIte]at h)<;>try simp only[hc]
 |(with_reducible refine aE hQ ?_;exact fO))
def tu (t:aG) (is:Bool):Bool:=(is && isName t) ||(!is && t == [])
theorem DC (t:aG) (is:Bool) (hl:t.length<4611686018427387904) (s:St):aF Tryz.prog o9 [.str t, .bool is] s (.bool (tu t is)) s:=by
 refine aF.pure ?_ rfl rfl s
 have hn:=Bw t hl
 unfold S0
 generalize h:tu t is=p
 unfold tu at h
 refine aF.go FU rfl fun B Q hB hQ=>?_
 have⟨hD,hY,hZ,gA⟩:=bR
 repeat' (first
 |simp only[go_sem,hD,hY,hZ,gA]
 |(with_reducible refine CU (hn _) ?_)
 |(with_reducible first|refine bl fun hc=>?_|refine bm fun hc=>?_|refine bn (fun hc=>?_) fun hc=>?_)<;>(try simp only[hc,bs,↓reduceIte]at h)<;>try simp only[hc]
 |(with_reducible refine aE hQ ?_;exact fO))
def vH (x:Ex) (is:Bool):Bool:=(is && x.dp 20) ||(!is && x.none)
theorem LY {x:Ex} (is:Bool) (hx:x.size<4611686018427387904) (ht:x.texts) (s:St):aF Tryz.prog rn [.agg (cj x), .bool is] s (.bool (vH x is)) s:=by
 refine aF.pure ?_ (by simp[D.bK,D.ok,lU]) rfl s
 have hm:=zv hx ht
 unfold S0
 generalize h:vH x is=p
 unfold vH at h
 refine aF.go FV rfl fun B Q hB hQ=>?_
 have⟨hD,hY,hZ,gA⟩:=bR
 repeat' (first
 |simp only[go_sem,hD,hY,hZ,gA]
 |(with_reducible refine CU (hm _) ?_)
 |(with_reducible refine CU (ZE _ _) ?_)
 |(with_reducible first|refine bl fun hc=>?_|refine bm fun hc=>?_|refine bn (fun hc=>?_) fun hc=>?_)<;>(try simp only[hc,bs,↓reduceIte]at h)<;>try simp only[hc]
 |(with_reducible refine aE hQ ?_;exact fO))
def pF:List Ar→Bool
 | []=>true
 |a::l=>if !(tu a.name a.ref) || !(vH a.x !a.ref)then false else pF l
theorem Vc {l:List Ar} (hl:l.length<4611686018427387904) (hs : ∀ a∈l,a.x.size<4611686018427387904∧a.x.texts∧a.name.length<4611686018427387904) (s:St) :
 aF Tryz.prog tZ [.slice .shared 6 (l.map eB)] s (.bool (pF l)) s:=by
 refine aF.pure ?_ (by simp[D.bK,D.ok,H2,Tag.ok]) rfl s
 unfold S0
 generalize h:pF l=p
 refine aF.go ED rfl fun B Q hB hQ=>?_
 have⟨hD,hY,hZ,gA⟩:=bR
 repeat' (first
 |simp only[go_sem,hD,hY,hZ,gA]
 |(with_reducible first|refine bl fun hc=>?_|refine bm fun hc=>?_|refine bn (fun hc=>?_) fun hc=>?_)<;>(try simp only[hc,bs,↓reduceIte]at h)<;>try simp only[hc]
 |(with_reducible refine aE hQ ?_;exact fO))
 refine ff 0 0 (bp.ind (ι:=List Ar×Nat) (fun i=>l.drop i.2=i.1∧pF i.1=p) (fun i=>i.1.length)
  (fun i=> [(5, .slice .shared 6 (l.map eB)),(6, .int .i64 (l.length:Int)),(7, .int .i64 (i.2:Int))]) (fun i=>⟨[],[]⟩) ?_ (l,0) ⟨rfl,h⟩)
 rintro⟨rest,k⟩ ⟨h1,h⟩ IH
 dsimp only at h1 h
 cases rest with
 |nil=>
  have hD:=drop_nil h1
  simp only[pF]at h
  repeat' (first
 |simp only[go_sem,hD,hY,hZ,gA]
 |(with_reducible first|refine bl fun hc=>?_|refine bm fun hc=>?_|refine bn (fun hc=>?_) fun hc=>?_)<;>(try simp only[hc,bs,↓reduceIte]at h)<;>try simp only[hc]
 |(with_reducible refine aE hQ ?_;exact fO))
 |cons a rest=>
  obtain⟨hY,g2,hD,g4⟩:=drop_cons h1
  have hZ:k<4611686018427387904:=by omega
  obtain⟨a1,a2,a3⟩:=hs a (List.mem_of_getElem? hY)
  have hn:=fun b s=>DC a.name b a3 s
  have hw:=fun b s=>LY b a1 a2 s
  simp only[pF]at h
  repeat' (first
 |simp only[go_sem,hD,hY,hZ,gA]
 |(with_reducible refine CU (hn _ _) ?_)
 |(with_reducible refine CU (hw _ _) ?_)
 |(with_reducible first|refine bl fun hc=>?_|refine bm fun hc=>?_|refine bn (fun hc=>?_) fun hc=>?_)<;>(try simp only[hc,bs,↓reduceIte]at h)<;>try simp only[hc]
 |(with_reducible refine aE hQ ?_;exact fO))
  refine ff 0 0 (IH (rest,k+1) ⟨g2,h⟩ (Nat.lt_succ_self _))
def Sm.flags (s:Sm):Option (Bool×Bool×Bool×Bool×Bool×Bool):=
 if s.kind==1 then some (true,false,true,s.has,false,false)
 else if s.kind==2 ||s.kind==10 then some (true,false,false,s.has,false,false)
 else if s.kind==3 then some (false,false,true,s.has,false,false)
 else if s.kind==4 then some (!(s.name == []),true,false,s.has,false,false)
 else if s.kind==5 then some (false,false,true,s.has,true,true)
 else if s.kind==6 then some (false,false,true,s.has,true,false)
 else if s.kind==9 then some (false,false,s.has,false,false,false)
 else if s.kind==7 ||s.kind==8 then some (false,false,false,s.has,false,false)
 else none
def Sm.H5 (s:Sm) (nm pr x:Bool):Bool:=if !(tu s.name nm) || !(tu s.proc pr) || !(vH s.x x)then false else pF s.args
def Sm.H6 (s:Sm) (f:Bool×Bool×Bool×Bool×Bool×Bool):Bool:=
 if f.2.2.2.1 ||(!f.2.2.2.2.1 && decide ((s.a8.length:Int) > 0)) ||(!f.2.2.2.2.2 && decide ((s.aR.length:Int) > 0)) ||(!(s.kind==4) && decide ((s.args.length:Int) > 0))then false
 else s.H5 f.1 f.2.1 f.2.2.1
def Sm.fields (s:Sm):Bool:=match s.flags with
 |none=>false
 |some f=>s.H6 f
section
variable {v:Sm} {B:fX} {Q:Exit→Tm→St→Prop} {p:Bool}
theorem Vd {nm pr x:Bool} (hf:v.ug) (hB:B.s = ⟨[],[]⟩) (hQ:pR 0 0 [(2,none)] (.bool p) ⟨[],[]⟩=Q) (h:v.H5 nm pr x=p) :
 Sem Tryz.prog B 93 acV Q [(1, .ptr 0 0),(3, .bool nm),(4, .bool pr),(5, .bool x)] ⟨[bh v],[]⟩:=by
 have h1:=fun b s=>DC v.name b hf.name s
 have h2:=fun b s=>DC v.proc b hf.proc s
 have h3:=fun b s=>LY b hf.x hf.xt s
 have h4:=fun s=>Vc hf.anJ hf.arg s
 unfold Sm.H5 at h
 have⟨hD,hY,hZ,gA⟩:=bR
 refine iI ?_
 repeat' (first
 |simp only[go_sem,hD,hY,hZ,gA]
 |(with_reducible refine CU (h1 _ _) ?_)
 |(with_reducible refine CU (h2 _ _) ?_)
 |(with_reducible refine CU (h3 _ _) ?_)
 |(with_reducible refine CU (h4 _) ?_)
 |(with_reducible first|refine bl fun hc=>?_|refine bm fun hc=>?_|refine bn (fun hc=>?_) fun hc=>?_)<;>(try simp only[hc,bs,↓reduceIte]at h)<;>try simp only[hc]
 |(with_reducible refine aE hQ ?_;exact fO))
theorem Ve {nm pr x has th ot ar:Bool} (hf:v.ug) (hB:B.s = ⟨[],[]⟩) (hQ:pR 0 0 [(2,none)] (.bool p) ⟨[],[]⟩=Q) (e:(v.kind==4)=ar) (h:v.H6 (nm,pr,x,has,th,ot)=p) :
 Sem Tryz.prog B 93 acW Q [(1, .ptr 0 0),(3, .bool nm),(4, .bool pr),(5, .bool x),(6, .bool has),(7, .bool th),(8, .bool ot),(9, .bool ar)] ⟨[bh v],[]⟩:=by
 simp only[Sm.H6,e]at h
 have⟨hD,hY,hZ,gA⟩:=bR
 refine Sem.nj ?_
 repeat' (first
 |simp only[go_sem,hD,hY,hZ,gA]
 |(with_reducible first|refine bl fun hc=>?_|refine bm fun hc=>?_|refine bn (fun hc=>?_) fun hc=>?_)<;>(try simp only[hc,bs,↓reduceIte]at h)<;>try simp only[hc]
 |(with_reducible refine aE hQ ?_;(try cases h);simp only[aS,aV,bF,bG,go_sem,hD,hY,hZ,gA];repeat' (first|exact Ok.out|with_reducible refine jb ?_ ?_|(simp;done))))
 all_goals
  refine Sem.re _ _ 1 0 (by rw[hB];exact C0 rfl) (by rw[hB];exact C0 rfl) ?_ ?_ (Vd hf hB hQ h)
  ·(simp only[go_sem,hD,hY,hZ,gA];repeat' (first|exact Ok.out|with_reducible refine jb ?_ ?_))
  ·(simp only[go_sem,hD,hY,hZ,gA];repeat' (first|exact Ok.out|with_reducible refine jb ?_ ?_))
theorem Vf {ar:Bool} (hf:v.ug) (hB:B.s = ⟨[],[]⟩) (hQ:pR 0 0 [(2,none)] (.bool p) ⟨[],[]⟩=Q) (e:(v.kind==4)=ar) (h:v.fields=p) :
 Sem Tryz.prog B 93 U5 Q [(1, .ptr 0 0),(3, .bool false),(4, .bool false),(5, .bool false),(6, .bool v.has),(7, .bool false),(8, .bool false),(9, .bool ar)] ⟨[bh v],[]⟩:=by
 simp only[Sm.fields,Sm.flags]at h
 have⟨hD,hY,hZ,gA⟩:=bR
 refine Sem.nj ?_
 repeat' (first
 |simp only[go_sem,hD,hY,hZ,gA]
 |(with_reducible first|refine bl fun hc=>?_|refine bm fun hc=>?_|refine bn (fun hc=>?_) fun hc=>?_)<;>(try simp only[hc,bs,↓reduceIte]at h)<;>try simp only[hc]
 |(with_reducible refine aE hQ ?_;(try cases h);simp only[aS,aV,bF,bG,go_sem,hD,hY,hZ,gA];repeat' (first|exact Ok.out|with_reducible refine jb ?_ ?_|(simp;done))))
 all_goals
  refine Sem.re _ _ 1 0 (by rw[hB];exact C0 rfl) (by rw[hB];exact C0 rfl) ?_ ?_ (Ve hf hB hQ e h)
  ·(simp only[go_sem,hD,hY,hZ,gA];repeat' (first|exact Ok.out|with_reducible refine jb ?_ ?_))
  ·(simp only[go_sem,hD,hY,hZ,gA];repeat' (first|exact Ok.out|with_reducible refine jb ?_ ?_))
end
theorem Vg {v:Sm} (hf:v.ug) (s:St):aF Tryz.prog tY [.agg (bh v)] s (.bool v.fields) s:=by
 refine aF.pure ?_ (by simp[D.bK,D.ok,q8]) rfl s
 unfold S0
 refine aF.goS EA rfl fun B Q hB hQ=>?_
 have⟨hD,hY,hZ,gA⟩:=bR
 refine Sem.seq (b:=acY) (iI ?_)
 repeat' (first
 |simp only[go_sem,hD,hY,hZ,gA]
 |(with_reducible refine aE hQ ?_;exact bc))
 refine Sem.seq (b:=acX) (iI ?_)
 repeat' (first
 |simp only[go_sem,hD,hY,hZ,gA]
 |(with_reducible refine aE hQ ?_;exact bc))
 refine Sem.seq (b:=U5) (iI ?_)
 repeat' (first
 |simp only[go_sem,hD,hY,hZ,gA]
 |(with_reducible refine aE hQ ?_;exact bc))
 refine Sem.re _ _ 1 0 (by rw[hB];exact C0 rfl) (by rw[hB];exact C0 rfl) ?_ ?_ (Vf hf hB hQ rfl rfl)
 ·(simp only[go_sem,hD,hY,hZ,gA];repeat' (first|exact Ok.out|with_reducible refine jb ?_ ?_))
 ·(simp only[go_sem,hD,hY,hZ,gA];repeat' (first|exact Ok.out|with_reducible refine jb ?_ ?_))
end Go.Abs
namespace Go.Abs
set_option maxRecDepth 8000
open Go.Proofs
def fL (i:It):List D:= [.int .i64 i.s.id, .int .i64 i.s.kind, .slice .shared 1 (i.s.labels.map encStr), .str i.s.name, .str i.s.proc,
 .int .i64 i.s.x.op, .int .i64 i.s.x.n, .str i.s.x.name, .slice .shared 4 (i.s.x.kids.map cj), .bool i.s.has, .slice .shared 6 (i.s.args.map eB), .slice .shared 13 (i.s.a8.map bh), .slice .shared 13 (i.s.aR.map bh), .int .i64 i.deep, .int .i64 i.cy, .bool i.aR]
theorem Vh (i:It):D.bK 0 0 (fL i)=true:=by simp[fL,D.bK,D.ok,Tag.ok,fa,WZ,H2,pD]
theorem EJ (l:List It):D.gS 0 0 (l.map fL)=true:=gT Vh l
theorem ahg (n m:Nat) (l:List It):D.kx n m (l.map fL)=l.map fL:=lY Vh n m l
theorem ahh (n m:Nat) (i:It):D.gx n m (fL i)=fL i:=ie n m _ (Vh i)
theorem ahi (x:It):(fL x).length=16:=nd rfl
theorem ada (x:It):List.take 13 (fL x)=bh x.s:=by simp only[fL,ep];rfl
theorem Vi (x:It):(fL x)[0]? = some (.int .i64 x.s.id):=nd rfl
theorem RK (x:It):(fL x)[13]? = some (.int .i64 x.deep):=nd rfl
theorem FY (s:Sm) (d n:Int) (e:Bool):fL ⟨s,d,n,e⟩ = [.int .i64 s.id, .int .i64 s.kind, .slice .shared 1 (s.labels.map encStr), .str s.name, .str s.proc,
 .int .i64 s.x.op, .int .i64 s.x.n, .str s.x.name, .slice .shared 4 (s.x.kids.map cj), .bool s.has, .slice .shared 6 (s.args.map eB), .slice .shared 13 (s.a8.map bh), .slice .shared 13 (s.aR.map bh), .int .i64 d, .int .i64 n, .bool e]:=nd rfl
attribute [go_sem] ahg ahh ahi ada Vi RK
theorem JK (deep cy:Int) (aR:Bool) (out:List It) (s:Sm) :
 iT deep cy aR out s=if decide (deep≤12)then dR (deep+1) s.id true (dR (deep+1) s.id false (out++ [⟨s,deep,cy,aR⟩]) s.a8) s.aR else out++ [⟨s,deep,cy,aR⟩]:=by
 cases s;simp only[iT]
mutual
theorem RL (deep cy:Int) (aR:Bool) (out:List It) (h:out.length≤200) : ∀ s:Sm,(iT deep cy aR out s).length≤201
 |⟨id,kind,labels,name,proc,x,has,args,a8,e⟩=>by
  simp only[iT]
  have h1:(out++ [(⟨⟨id,kind,labels,name,proc,x,has,args,a8,e⟩,deep,cy,aR⟩:It)]).length≤201:=by simp;omega
  split
  ·exact lh _ _ _ _ (lh _ _ _ _ h1 a8) e
  ·exact h1
theorem lh (deep cy:Int) (aR:Bool) (out:List It) (h:out.length≤201) : ∀ l:List Sm,(dR deep cy aR out l).length≤201
 | []=>by simpa only[dR]using h
 | s::l=>by
  simp only[dR]
  split
  ·rename_i hc
   simp only[decide_eq_true_eq]at hc
   exact lh deep cy aR _ (RL _ _ _ _ (by omega) s) l
  ·exact h
end
abbrev RM (N:Nat):Prop:=∀ (l:List Sm) (deep cy:Int) (aR:Bool) (out:List It),Sm.a7 l<N→0≤deep→deep≤13→out.length≤201→∀ {s:St} {t:Nat},s.aw[t]? = some (some out.length)→
 aF Tryz.prog mI [.slice .shared 13 (l.map bh), .int .i64 deep, .int .i64 cy, .bool aR, .slice (.tok t) 16 (out.map fL)] s (.slice (.tok t) 16 ((dR deep cy aR out l).map fL)) ⟨s.ah,s.aw.set t (some (dR deep cy aR out l).length)⟩
theorem adb {N:Nat} (hN:N<4611686018427387904) (ih:RM N) {l:List Sm} {deep cy:Int} {aR:Bool} {out:List It} (hs:Sm.a7 l<N+1) (GO:0≤deep) (hd:deep≤13) (ho:out.length≤201) :
 aF Tryz.prog mI [.slice .shared 13 (l.map bh), .int .i64 deep, .int .i64 cy, .bool aR, .slice (.tok 0) 16 (out.map fL)] ⟨[],[some out.length]⟩ (.slice (.tok 0) 16 ((dR deep cy aR out l).map fL)) ⟨[],[some (dR deep cy aR out l).length]⟩:=by
 generalize hR:dR deep cy aR out l=R
 refine aF.go Ap rfl fun B Q hB hQ=>?_
 have⟨hD,hY,hZ,gA⟩:=bR
 repeat' (first
 |simp only[go_sem,hD,hY,hZ,gA]
 |(with_reducible refine aE hQ ?_;exact bc))
 refine ff 0 1 (bp.ind (ι:=List Sm×Nat×List It×Nat) (fun i=>l.drop i.2.1=i.1∧dR deep cy aR i.2.2.1 i.1=R∧i.2.2.1.length≤201∧i.2.2.2=i.2.2.1.length) (fun i=>i.1.length)
  (fun i=> [(0, .slice .shared 13 (l.map bh)),(1, .int .i64 deep),(2, .int .i64 cy),(3, .bool aR),(4, .slice (.tok 0) 16 (i.2.2.1.map fL)),(11, .int .i64 (i.2.1:Int))]) (fun i=>⟨[],[some i.2.2.2]⟩) ?_ (l,0,out,out.length) ⟨rfl,hR,ho,rfl⟩)
 rintro⟨rest,k,out,n⟩ ⟨h1,h2,h3,h4⟩ IH
 dsimp only at h1 h2 h3 h4
 subst h4
 have hlen:l.length<4611686018427387904:=by have:=Sm.eH l;omega
 cases rest with
 |nil=>
  have hD:=drop_nil h1
  simp only[dR]at h2
  subst h2
  repeat' (first
 |simp only[go_sem,hD,hY,hZ,gA]
 |(with_reducible refine aE hQ ?_;exact bc))
 | cons v rest=>
  obtain⟨hY,g2,hD,g4⟩:=drop_cons h1
  have bO:k<4611686018427387904:=by omega
  have hv:=Sm.dk (List.mem_of_getElem? hY)
  have oZ:Sm.a7 v.a8<N∧Sm.a7 v.aR<N:=by
   obtain⟨_,_,_,_,_,_,_,_,_,_⟩:=v
   simp only[Sm.size]at hv ⊢;omega
  simp only[dR]at h2
  by_cases hc:out.length≤200
  ·have c1:decide ((out.length:Int)≤200)=true:=by simp;omega
   simp only[c1,↓reduceIte,JK]at h2
   have hZ:(out.length+1)*233≤bC:=by unfold bC;omega
   have iY:(out++ [(⟨v,deep,cy,aR⟩:It)]).length≤201:=by simp;omega
   have hw:IntKind.wrap .i64 (deep+1)=deep+1:=ei (by omega) (by omega)
   by_cases anM:deep≤12
   ·have c2:decide (deep≤12)=true:=by simp;omega
    simp only[c2,↓reduceIte]at h2
    have f1:=fun {s:St} {t:Nat} (ht:s.aw[t]? = some (some (out++ [(⟨v,deep,cy,aR⟩:It)]).length))=>ih v.a8 (deep+1) v.id false _ oZ.1 (by omega) (by omega) iY ht
    have f2:=fun {s:St} {t:Nat} (ht:s.aw[t]? = some (some (dR (deep+1) v.id false (out++ [(⟨v,deep,cy,aR⟩:It)]) v.a8).length))=>ih v.aR (deep+1) v.id true _ oZ.2 (by omega) (by omega) (lh _ _ _ _ iY _) ht
    simp only[List.map_append,List.map_cons,List.map_nil,FY,List.length_append,List.length_cons,List.length_nil]at f1
    repeat' (first
 |simp only[go_sem,hD,hY,hZ,gA,c1,c2,hw,ep]
 |(with_reducible refine CU (f1 (by with_unfolding_all rfl)) ?_)
 |(with_reducible refine CU (f2 (by with_unfolding_all rfl)) ?_)
 | (with_reducible refine aE hQ ?_;exact bc))
    refine eQ 0 1 ?_ ?_ (IH (rest,k+1,_,_) ⟨g2,h2,lh _ _ _ _ (lh _ _ _ _ iY _) _,rfl⟩ (Nat.lt_succ_self _))
    ·(simp only[go_sem,hD,hY,hZ,gA,aI bO];try exact bX)
    ·(simp only[go_sem,hD,hY,hZ,gA,aI bO];try exact bX)
   ·have c2:decide (deep≤12)=false:=by simp;omega
    simp only[c2,Bool.false_eq_true,↓reduceIte]at h2
    repeat' (first
 |simp only[go_sem,hD,hY,hZ,gA,c1,c2,ep]
 | (with_reducible refine aE hQ ?_;exact bc))
    refine eQ 0 1 ?_ ?_ (IH (rest,k+1,out++ [⟨v,deep,cy,aR⟩],out.length+1) ⟨g2,h2,iY,by simp⟩ (Nat.lt_succ_self _))
    ·(simp only[go_sem,hD,hY,hZ,gA,aI bO,FY,List.map_append,List.map_cons,List.map_nil];try exact bX)
    ·(simp only[go_sem,hD,hY,hZ,gA,aI bO,FY,List.map_append,List.map_cons,List.map_nil];try exact bX)
  ·have c1:decide ((out.length:Int)≤200)=false:=by simp;omega
   simp only[c1,Bool.false_eq_true,↓reduceIte]at h2
   subst h2
   repeat' (first
 |simp only[go_sem,hD,hY,hZ,gA,c1]
 |(with_reducible refine aE hQ ?_;exact bc))
theorem Vj : ∀ N,N<4611686018427387904→RM N:=by
 intro N
 induction N with
 |zero=>exact fun _ l deep cy aR out h=>absurd h (Nat.not_lt_zero _)
 |succ N ih=>
  intro h l deep cy aR out hs GO hd ho s t ht
  exact(adb (by omega) (ih (by omega)) hs GO hd ho).abk (pre:= [_,_,_,_]) (post:= []) (by simp[D.bK,D.ok,Tag.ok,pD]) rfl (EJ out) (EJ _) ht
theorem Vk {l:List Sm} (hs:Sm.a7 l<4611686018427387000) (s:St) :
 aF Tryz.prog mI [.slice .shared 13 (l.map bh), .int .i64 1, .int .i64 0, .bool false, .slice .full 0 []] s (.slice .shared 16 ((dR 1 0 false [] l).map fL)) s:=by
 refine aF.pure ?_ (by simp[D.bK,D.ok,Tag.ok,pD,D.gS]) (by simp[D.ok,Tag.ok,EJ]) s
 obtain⟨N,hN⟩ : ∃ N,N=Sm.a7 l:=⟨_,rfl⟩
 have ih:=Vj N (by omega)
 replace hs:Sm.a7 l<N+1∧N<4611686018427387000:=by omega
 obtain⟨hs,hN⟩:=hs
 generalize hR:dR 1 0 false [] l=R
 obtain⟨deep,O7⟩ : ∃ d:Int,d=1:=⟨_,rfl⟩
 obtain⟨cy,Vl⟩ : ∃ d:Int,d=0:=⟨_,rfl⟩
 obtain⟨aR,Vm⟩ : ∃ d:Bool,d=false:=⟨_,rfl⟩
 rw[← O7, ← Vl, ← Vm]at hR
 rw[← O7, ← Vl, ← Vm]
 have GO:0≤deep:=by omega
 have hd:deep≤13:=by omega
 clear O7 Vl Vm
 have ho:([] : List It).length≤201:=Nat.zero_le _
 unfold S0
 refine aF.go Ap rfl fun B Q hB hQ=>?_
 have⟨hD,hY,hZ,gA⟩:=bR
 repeat' (first
 |simp only[go_sem,hD,hY,hZ,gA]
 |(with_reducible refine aE hQ ?_;exact bc))
 refine bp.q6 4 16 rfl ?_
 simp only[go_sem,hD,hY,hZ,gA]
 refine ff 0 1 (bp.ind (ι:=List Sm×Nat×List It×Nat) (fun i=>l.drop i.2.1=i.1∧dR deep cy aR i.2.2.1 i.1=R∧i.2.2.1.length≤201∧i.2.2.2=i.2.2.1.length) (fun i=>i.1.length)
  (fun i=> [(0, .slice .shared 13 (l.map bh)),(1, .int .i64 deep),(2, .int .i64 cy),(3, .bool aR),(4, .slice (.tok 0) 16 (i.2.2.1.map fL)),(11, .int .i64 (i.2.1:Int))]) (fun i=>⟨[],[some i.2.2.2]⟩) ?_ (l,0,[],0) ⟨rfl,hR,ho,rfl⟩)
 rintro⟨rest,k,out,n⟩ ⟨h1,h2,h3,h4⟩ IH
 dsimp only at h1 h2 h3 h4
 subst h4
 have hlen:l.length<4611686018427387904:=by have:=Sm.eH l;omega
 cases rest with
 |nil=>
  have hD:=drop_nil h1
  simp only[dR]at h2
  subst h2
  repeat' (first
 |simp only[go_sem,hD,hY,hZ,gA]
 |(with_reducible refine aE hQ ?_;exact bc))
 | cons v rest=>
  obtain⟨hY,g2,hD,g4⟩:=drop_cons h1
  have bO:k<4611686018427387904:=by omega
  have hv:=Sm.dk (List.mem_of_getElem? hY)
  have oZ:Sm.a7 v.a8<N∧Sm.a7 v.aR<N:=by
   obtain⟨_,_,_,_,_,_,_,_,_,_⟩:=v
   simp only[Sm.size]at hv ⊢;omega
  simp only[dR]at h2
  by_cases hc:out.length≤200
  ·have c1:decide ((out.length:Int)≤200)=true:=by simp;omega
   simp only[c1,↓reduceIte,JK]at h2
   have hZ:(out.length+1)*233≤bC:=by unfold bC;omega
   have iY:(out++ [(⟨v,deep,cy,aR⟩:It)]).length≤201:=by simp;omega
   have hw:IntKind.wrap .i64 (deep+1)=deep+1:=ei (by omega) (by omega)
   by_cases anM:deep≤12
   ·have c2:decide (deep≤12)=true:=by simp;omega
    simp only[c2,↓reduceIte]at h2
    have f1:=fun {s:St} {t:Nat} (ht:s.aw[t]? = some (some (out++ [(⟨v,deep,cy,aR⟩:It)]).length))=>ih v.a8 (deep+1) v.id false _ oZ.1 (by omega) (by omega) iY ht
    have f2:=fun {s:St} {t:Nat} (ht:s.aw[t]? = some (some (dR (deep+1) v.id false (out++ [(⟨v,deep,cy,aR⟩:It)]) v.a8).length))=>ih v.aR (deep+1) v.id true _ oZ.2 (by omega) (by omega) (lh _ _ _ _ iY _) ht
    simp only[List.map_append,List.map_cons,List.map_nil,FY,List.length_append,List.length_cons,List.length_nil]at f1
    repeat' (first
 |simp only[go_sem,hD,hY,hZ,gA,c1,c2,hw,ep]
 |(with_reducible refine CU (f1 (by with_unfolding_all rfl)) ?_)
 |(with_reducible refine CU (f2 (by with_unfolding_all rfl)) ?_)
 | (with_reducible refine aE hQ ?_;exact bc))
    refine eQ 0 1 ?_ ?_ (IH (rest,k+1,_,_) ⟨g2,h2,lh _ _ _ _ (lh _ _ _ _ iY _) _,rfl⟩ (Nat.lt_succ_self _))
    ·(simp only[go_sem,hD,hY,hZ,gA,aI bO];try exact bX)
    ·(simp only[go_sem,hD,hY,hZ,gA,aI bO];try exact bX)
   ·have c2:decide (deep≤12)=false:=by simp;omega
    simp only[c2,Bool.false_eq_true,↓reduceIte]at h2
    repeat' (first
 |simp only[go_sem,hD,hY,hZ,gA,c1,c2,ep]
 | (with_reducible refine aE hQ ?_;exact bc))
    refine eQ 0 1 ?_ ?_ (IH (rest,k+1,out++ [⟨v,deep,cy,aR⟩],out.length+1) ⟨g2,h2,iY,by simp⟩ (Nat.lt_succ_self _))
    ·(simp only[go_sem,hD,hY,hZ,gA,aI bO,FY,List.map_append,List.map_cons,List.map_nil];try exact bX)
    ·(simp only[go_sem,hD,hY,hZ,gA,aI bO,FY,List.map_append,List.map_cons,List.map_nil];try exact bX)
  ·have c1:decide ((out.length:Int)≤200)=false:=by simp;omega
   simp only[c1,Bool.false_eq_true,↓reduceIte]at h2
   subst h2
   repeat' (first
 |simp only[go_sem,hD,hY,hZ,gA,c1]
 |(with_reducible refine aE hQ ?_;exact bc))
theorem ade {f:Pc} (hs:Sm.a7 f.body<4611686018427387000) (s:St):aF Tryz.prog xu [.agg (cu f)] s (.slice .shared 16 (f.flat.map fL)) s:=by
 refine aF.pure ?_ (by simp only[D.bK,D.ok,xm];rfl) (by simp[D.ok,Tag.ok,EJ]) s
 have h:=fun s=>Vk hs s
 unfold S0
 refine aF.go HI rfl fun B Q hB hQ=>?_
 have⟨hD,hY,hZ,gA⟩:=bR
 repeat' (first
 |simp only[go_sem,hD,hY,hZ,gA,Pc.flat]
 |(with_reducible refine CU (h _) ?_)
 |(with_reducible first|refine bl fun hc=>?_|refine bm fun hc=>?_|refine bn (fun hc=>?_) fun hc=>?_)<;>(try simp only[hc,bs,↓reduceIte]at h)<;>try simp only[hc]
 |(with_reducible refine aE hQ ?_;simp only[aS,aV,bF,bG,go_sem,hD,hY,hZ,gA,Pc.flat];try exact cq))
end Go.Abs
namespace Go.Abs
set_option maxRecDepth 8000
open Go.Proofs
theorem Pc.Vn (f:Pc):f.flat.length≤201:=lh _ _ _ _ (Nat.zero_le _) _
theorem ahj {p:Pg} (hs:Pc.a7 p.procs<4611686018427387000) (s:St):aF Tryz.prog zf [.agg (cz p)] s (.slice .shared 16 (p.all.map fL)) s:=by
 refine aF.pure ?_ (by simp only[D.bK,D.ok,jw];rfl) (by simp[D.ok,Tag.ok,EJ]) s
 have hlen:p.procs.length<4611686018427387904:=by have:=Pc.eH p.procs;omega
 generalize hR:p.all=R
 unfold Pg.all at hR
 unfold S0
 refine aF.go JB rfl fun B Q hB hQ=>?_
 have⟨hD,hY,hZ,gA⟩:=bR
 repeat' (first
 |simp only[go_sem,hD,hY,hZ,gA]
 |(with_reducible refine aE hQ ?_;exact bc))
 refine bp.q6 3 16 rfl ?_
 simp only[go_sem,hD,hY,hZ,gA]
 refine ff 1 1 (bp.ind (ι:=List Pc×Nat×List It×Nat) (fun i=>p.procs.drop i.2.1=i.1∧allM i.2.2.1 i.1=R∧i.2.2.1.length≤200∧i.2.2.2=i.2.2.1.length) (fun i=>i.1.length)
  (fun i=> [(1, .ptr 0 0),(3, .slice (.tok 0) 16 (i.2.2.1.map fL)),(7, .slice .shared 5 (p.procs.map cu)),(8, .int .i64 (p.procs.length:Int)),(9, .int .i64 (i.2.1:Int))]) (fun i=>⟨[cz p],[some i.2.2.2]⟩) ?_ (p.procs,0,[],0) ⟨rfl,hR,Nat.zero_le _,rfl⟩)
 rintro⟨rest,k,out,n⟩ ⟨h1,h,h3,h4⟩ IH
 dsimp only at h1 h h3 h4
 subst h4
 cases rest with
 |nil=>
  have hD:=drop_nil h1
  simp only[allM]at h
  subst h
  repeat' (first
 |simp only[go_sem,hD,hY,hZ,gA]
 |(with_reducible refine aE hQ ?_;exact bc))
 |cons f rest=>
  obtain⟨hY,g2,hD,g4⟩:=drop_cons h1
  have bO:k<4611686018427387904:=by omega
  have hf:=Pc.dk (List.mem_of_getElem? hY)
  have hb:Sm.a7 f.body<4611686018427387000:=by simp only[Pc.size]at hf;omega
  have il:=fun s=>ade hb s
  have avW:=f.Vn
  have hZ:(out.length+f.flat.length)*233≤bC:=by unfold bC;omega
  simp only[allM,List.length_append]at h
  have eO:=fun(o:List (List D))=>nX (size:=16) (bytes:=232) (t:=0) (rows:=out.map fL) (new:=f.flat.map fL) (g:= .shared) (s:=⟨o,[some out.length]⟩) (by simpa using hZ) (by simp)
  repeat' (first
 |simp only[go_sem,hD,hY,hZ,gA,eO]
 |(with_reducible refine CU (il _) ?_)
 |(with_reducible first|refine bl fun hc=>?_|refine bm fun hc=>?_|refine bn (fun hc=>?_) fun hc=>?_)<;>(try simp only[hc,bs,↓reduceIte]at h)<;>try simp only[hc]
 |(with_reducible refine aE hQ ?_;(try cases h);simp only[aS,aV,bF,bG,go_sem,hD,hY,hZ,gA,eO];try exact cq))
  refine eQ 1 1 ?_ ?_ (IH (rest,k+1,out++f.flat,out.length+f.flat.length) ⟨g2,h,by rename_i hc;simp only[decide_eq_false_iff_not]at hc;simp only[List.length_append];omega,by simp⟩ (Nat.lt_succ_self _))
  ·(simp only[go_sem,hD,hY,hZ,gA,aI bO];try exact bX)
  ·(simp only[go_sem,hD,hY,hZ,gA,aI bO];try exact bX)
structure Pg.ug (p:Pg):Prop where
 sz:p.size<4611686018427387000
 ui : ∀ t∈p.globals,t.length<4611686018427387904
 n6 : ∀ f∈p.procs,f.name.length<4611686018427387904∧(∀ t∈f.vars,t.length<4611686018427387904)∧(∀ t∈f.fin,t.length<4611686018427387904)∧∀ a∈f.params,a.name.length<4611686018427387904
 items : ∀ i∈p.all,i.s.ug
def gate (nest:Int) (len n:Nat) (r:Bool×Nat):Bool×Nat:=if decide (nest > 12) && decide ((len:Int) > 0)then(false,n)else r
mutual
def Sm.pU (nest:Int) (n:Nat):Sm→Bool×Nat
 |⟨id,kind,labels,name,proc,x,has,args,a8,aR⟩=>
  if decide (((n+1:Nat):Int) > 200) ||id != ((n+1:Nat):Int) || !(fb labels) || !(Sm.fields ⟨id,kind,labels,name,proc,x,has,args,a8,aR⟩)then(false,n+1)
  else if !(gate (nest+1) a8.length (n+1) (Sm.fm (nest+1) (n+1) a8)).1 then(false,(gate (nest+1) a8.length (n+1) (Sm.fm (nest+1) (n+1) a8)).2)
  else gate (nest+1) aR.length (gate (nest+1) a8.length (n+1) (Sm.fm (nest+1) (n+1) a8)).2 (Sm.fm (nest+1) (gate (nest+1) a8.length (n+1) (Sm.fm (nest+1) (n+1) a8)).2 aR)
def Sm.fm (nest:Int) (n:Nat):List Sm→Bool×Nat
 | []=>(true,n)
 |s::l=>if !(Sm.pU nest n s).1 then(false,(Sm.pU nest n s).2)else Sm.fm nest (Sm.pU nest n s).2 l
end
def Sm.gy (nest:Int) (n:Nat) (l:List Sm):Bool×Nat:=gate nest l.length n (Sm.fm nest n l)
theorem FZ (nest:Int) (n:Nat) (s:Sm):Sm.pU nest n s =
 if decide (((n+1:Nat):Int) > 200) ||s.id != ((n+1:Nat):Int) || !(fb s.labels) || !(s.fields)then(false,n+1)
 else if !(Sm.gy (nest+1) (n+1) s.a8).1 then(false,(Sm.gy (nest+1) (n+1) s.a8).2)
 else Sm.gy (nest+1) (Sm.gy (nest+1) (n+1) s.a8).2 s.aR:=by
 cases s;simp only[Sm.pU,Sm.gy];rfl
mutual
def Sm.wJ:Sm→Prop
 |⟨id,kind,labels,name,proc,x,has,args,a8,aR⟩=>Sm.ug ⟨id,kind,labels,name,proc,x,has,args,a8,aR⟩∧Sm.kv a8∧Sm.kv aR
def Sm.kv:List Sm→Prop
 | []=>True
 |s::l=>s.wJ∧Sm.kv l
end
theorem DD (s:Sm):s.wJ↔s.ug∧Sm.kv s.a8∧Sm.kv s.aR:=by cases s;simp only[Sm.wJ]
theorem EK {s:Sm} : ∀ {l:List Sm},Sm.kv l→s∈l→s.wJ
 |y::l,h,m=>by
  simp only[Sm.kv]at h
  rcases List.mem_cons.1 m with rfl|m
  ·exact h.1
  ·exact EK h.2 m
mutual
theorem ZF (nest:Int) (n:Nat) : ∀ s:Sm,n≤201→(Sm.pU nest n s).2≤202∧((Sm.pU nest n s).1=true→(Sm.pU nest n s).2≤200)
 | ⟨id,kind,labels,name,proc,x,has,args,a8,aR⟩,hn=>by
  simp only[Sm.pU]
  split
  ·exact⟨by dsimp only;omega,fun h=>by cases h⟩
  rename_i hc
  simp only[Bool.or_eq_true,decide_eq_true_eq,not_or]at hc
  have Aq:n+1≤200:=by omega
  have g1 : ∀ (nest:Int) (l:List Sm) (m:Nat),m≤200→(Sm.fm nest m l).2≤202∧((Sm.fm nest m l).1=true→(Sm.fm nest m l).2≤200)→
   (gate nest l.length m (Sm.fm nest m l)).2≤202∧((gate nest l.length m (Sm.fm nest m l)).1=true→(gate nest l.length m (Sm.fm nest m l)).2≤200):=by
   intro nest l m hm h
   unfold gate
   split
   ·exact⟨by dsimp only;omega,fun h=>by cases h⟩
   ·exact h
  have h1:=g1 (nest+1) a8 (n+1) Aq (Ch (nest+1) (n+1) a8 Aq)
  split
  ·exact⟨h1.1,fun h=>by cases h⟩
  rename_i Iw
  have h2:=h1.2 (by simpa using Iw)
  exact g1 (nest+1) aR _ h2 (Ch (nest+1) _ aR h2)
theorem Ch (nest:Int) (n:Nat) : ∀ l:List Sm,n≤200→(Sm.fm nest n l).2≤202∧((Sm.fm nest n l).1=true→(Sm.fm nest n l).2≤200)
 | [],hn=>by simp only[Sm.fm];exact⟨by omega,fun _=>hn⟩
 |s::l,hn=>by
  simp only[Sm.fm]
  have h1:=ZF nest n s (by omega)
  split
  ·exact⟨h1.1,fun h=>by cases h⟩
  rename_i hc
  exact Ch nest _ l (h1.2 (by simpa using hc))
end
theorem F0 {nest:Int} {n:Nat} {l:List Sm} (hn:n≤200):(Sm.gy nest n l).2≤202∧((Sm.gy nest n l).1=true→(Sm.gy nest n l).2≤200):=by
 unfold Sm.gy gate
 split
 ·exact⟨by dsimp only;omega,fun h=>by cases h⟩
 ·exact Ch nest n l hn
theorem ZG : ∀ (m:Nat) (l:List Sm),Sm.a7 l≤m→Sm.a7 l<4611686018427387000→Sm.kv l→∀ (nest:Int) (n:Nat),0≤nest→nest≤13→n≤200→
 aF Tryz.prog kr [.ptr 0 0, .slice .shared 13 (l.map bh), .int .i64 nest] ⟨[[.int .i64 n]],[]⟩ (.bool (Sm.gy nest n l).1) ⟨[[.int .i64 (Sm.gy nest n l).2]],[]⟩:=by
 intro m
 induction m with
 | zero=>
  intro l h hs hf nest n h0 h13 hn
  cases l with
  |nil=>
   have d1:decide ((0:Int) > 0)=false:=rfl
   have e:Sm.gy nest n [] = (true,n):=by simp[Sm.gy,gate,Sm.fm]
   have z:decide ((0:Int)<0)=false:=rfl
   rw[e]
   refine aF.go rC rfl fun B Q hB hQ=>?_
   have⟨hD,hY,hZ,gA⟩:=bR
   repeat' (first
 |simp only[go_sem,hD,hY,hZ,gA,d1,z]
 |(with_reducible refine bp.kQ ?_)
 |(with_reducible first|refine bl fun hc=>?_|refine bm fun hc=>?_|refine bn (fun hc=>?_) fun hc=>?_)<;>(try simp only[hc,bs,↓reduceIte]at h)<;>try simp only[hc]
 |(with_reducible refine aE hQ ?_;exact bc))
  |cons s l=>simp only[Sm.a7]at h;omega
 |succ m ih=>
  intro l h hs hf nest n h0 h13 hn
  generalize hR:Sm.gy nest n l=R
  have hlen:=Sm.eH l
  unfold Sm.gy gate at hR
  have h:=hR
  refine aF.go rC rfl fun B Q hB hQ=>?_
  have⟨hD,hY,hZ,gA⟩:=bR
  repeat' (first
 |simp only[go_sem,hD,hY,hZ,gA]
 |(with_reducible first|refine bl fun hc=>?_|refine bm fun hc=>?_|refine bn (fun hc=>?_) fun hc=>?_)<;>(try simp only[hc,bs,↓reduceIte]at h)<;>try simp only[hc]
 | (with_reducible refine aE hQ ?_;(try cases h);simp only [aS,aV,bF,bG,go_sem,hD,hY,hZ,gA];repeat' (first | exact Ok.out | with_reducible refine jb ?_ ?_ | (simp;done))))
  all_goals
   have ahk:l≠ []→nest≤12:=by
    intro eK
    have:l.length≠0:=by simpa using eK
    simp_all<;>omega
   refine ff 1 0 (bp.ind (ι:=List Sm×Nat×Nat) (fun i=>l.drop i.2.1=i.1∧Sm.fm nest i.2.2 i.1=R∧i.2.2≤200) (fun i=>i.1.length)
    (fun i=> [(0, .ptr 0 0),(2, .int .i64 nest),(16, .slice .shared 13 (l.map bh)),(17, .int .i64 (l.length:Int)),(18, .int .i64 (i.2.1:Int))]) (fun i=>⟨[[.int .i64 (i.2.2:Int)]],[]⟩) ?_ (l,0,n) ⟨rfl,h,hn⟩)
   rintro⟨rest,k,j⟩ ⟨h1,h,hj⟩ IH
   dsimp only at h1 h hj
   cases rest with
   |nil=>
    have hD:=drop_nil h1
    simp only[Sm.fm]at h
    repeat' (first
 |simp only[go_sem,hD,hY,hZ,gA]
 |(with_reducible first|refine bl fun hc=>?_|refine bm fun hc=>?_|refine bn (fun hc=>?_) fun hc=>?_)<;>(try simp only[hc,bs,↓reduceIte]at h)<;>try simp only[hc]
 | (with_reducible refine aE hQ ?_;exact fO))
   | cons s rest=>
    obtain⟨hY,g2,hD,g4⟩:=drop_cons h1
    have hZ:k<4611686018427387904:=by omega
    have gD:=List.mem_of_getElem? hY
    have dO:=Sm.dk gD
    have avX:=ahk (by rintro rfl;simp at gD)
    obtain⟨Ec,hft,hfe⟩:=(DD s).1 (EK hf gD)
    have Ty:Sm.a7 s.a8<s.size∧Sm.a7 s.aR<s.size:=by cases s;simp only[Sm.size];omega
    have w1:IntKind.wrap .i64 ((j:Int)+1)=((j+1:Nat):Int):=by rw[ei]<;>omega
    have w2:IntKind.wrap .i64 (nest+1)=nest+1:=ei (by omega) (by omega)
    have c1:=fun s=>zu Ec.anI Ec.XO s
    have c2:=fun s=>Vg Ec s
    simp only[Sm.fm,FZ]at h
    by_cases RN:j+1≤200
    ·have r1:=F0 (nest:=nest+1) (l:=s.a8) RN
     have c3:=fun s' ho=>(ih s.a8 (by omega) (by omega) hft (nest+1) (j+1) (by omega) (by omega) RN).TE (s:=s') (o:=0) (by simp[D.bK,D.ok,pD,Tag.ok]) rfl rfl rfl ho
     by_cases wB:(Sm.gy (nest+1) (j+1) s.a8).1=true
     ·have c4:=fun s' ho=>(ih s.aR (by omega) (by omega) hfe (nest+1) _ (by omega) (by omega) (r1.2 wB)).TE (s:=s') (o:=0) (by simp [D.bK,D.ok,pD,Tag.ok]) rfl rfl rfl ho
      have r2:=F0 (nest:=nest+1) (l:=s.aR) (r1.2 wB)
      simp only[wB]at c3
      simp only[wB,Bool.not_true,Bool.false_eq_true,↓reduceIte]at h
      repeat' (first
 |simp only[go_sem,hD,hY,hZ,gA,w1,w2,wB]
 |(with_reducible refine CU (c1 _) ?_)
 |(with_reducible refine CU (c2 _) ?_)
 |(with_reducible refine CU (c3 _ rfl) ?_)
 |(with_reducible refine CU (c4 _ rfl) ?_)
 |(with_reducible first|refine bl fun hc=>?_|refine bm fun hc=>?_|refine bn (fun hc=>?_) fun hc=>?_)<;>(try simp only[hc,bs,↓reduceIte]at h)<;>try simp only[hc]
 |(with_reducible refine aE hQ ?_;(try cases h);simp only[aS,aV,bF,bG,go_sem,hD,hY,hZ,gA,w1,w2,wB];try exact cq))
      refine ff 1 0 (IH (rest,k+1,(Sm.gy (nest+1) (Sm.gy (nest+1) (j+1) s.a8).2 s.aR).2) ⟨g2,h,r2.2 (by assumption)⟩ (Nat.lt_succ_self _))
     ·have wB:(Sm.gy (nest+1) (j+1) s.a8).1=false:=by simpa using wB
      simp only[wB]at c3
      simp only[wB,Bool.not_false,↓reduceIte]at h
      repeat' (first
 |simp only[go_sem,hD,hY,hZ,gA,w1,w2,wB]
 |(with_reducible refine CU (c1 _) ?_)
 |(with_reducible refine CU (c2 _) ?_)
 |(with_reducible refine CU (c3 _ rfl) ?_)
 |(with_reducible first|refine bl fun hc=>?_|refine bm fun hc=>?_|refine bn (fun hc=>?_) fun hc=>?_)<;>(try simp only[hc,bs,↓reduceIte]at h)<;>try simp only[hc]
 | (with_reducible refine aE hQ ?_;(try cases h);simp only [aS,aV,bF,bG,go_sem,hD,hY,hZ,gA,w1,w2,wB];try exact cq))
    ·have d1:decide (((j+1:Nat):Int) > 200)=true:=by simp;omega
     simp only[d1,Bool.true_or,Bool.not_false,↓reduceIte]at h
     repeat' (first
 |simp only[go_sem,hD,hY,hZ,gA,w1,w2,d1]
 |(with_reducible refine CU (c1 _) ?_)
 |(with_reducible refine CU (c2 _) ?_)
 |(with_reducible first|refine bl fun hc=>?_|refine bm fun hc=>?_|refine bn (fun hc=>?_) fun hc=>?_)<;>(try simp only[hc,bs,↓reduceIte]at h)<;>try simp only[hc]
 |(with_reducible refine aE hQ ?_;(try cases h);simp only[aS,aV,bF,bG,go_sem,hD,hY,hZ,gA,w1,w2,d1];try exact cq))
def Pc.fm (n:Nat):List Pc→Bool
 | []=>true
 |f::l=>
  if decide ((f.params.length:Int) > 8) ||decide ((f.vars.length:Int) > 16) || !(isName f.name) || !(fb f.vars) || !(fb f.fin)then false
  else if !(Pm.fP f.params)then false
  else if !(Sm.gy 1 n f.body).1 then false
  else Pc.fm (Sm.gy 1 n f.body).2 l
def Pg.F1 (p:Pg):Bool:=
 if decide ((p.globals.length:Int) > 16) ||decide ((p.procs.length:Int) > 16) || !(fb p.globals)then false
 else Pc.fm 0 p.procs
structure Pg.H7 (p:Pg):Prop where
 sz:p.size<4611686018427387000
 ui : ∀ t∈p.globals,t.length<4611686018427387904
 n6 : ∀ f∈p.procs,f.name.length<4611686018427387904∧(∀ t∈f.vars,t.length<4611686018427387904)∧(∀ t∈f.fin,t.length<4611686018427387904)∧∀ a∈f.params,a.name.length<4611686018427387904
 body : ∀ f∈p.procs,Sm.kv f.body
theorem JL {p:Pg} (hf:p.H7) (s:St):aF Tryz.prog ri [.agg (cz p)] s (.bool p.F1) s:=by
 refine aF.pure ?_ (by simp only[D.bK,D.ok,jw];rfl) rfl s
 obtain⟨dO,rG,adf,B7⟩:=hf
 have rH:Pc.a7 p.procs<4611686018427387000:=by simp only[Pg.size]at dO;omega
 have ahl:p.globals.length<4611686018427387904:=by simp only[Pg.size]at dO;omega
 have avL:p.procs.length<4611686018427387904:=by have:=Pc.eH p.procs;omega
 have hg:=fun s=>zu ahl rG s
 unfold S0
 generalize h:p.F1=R
 unfold Pg.F1 at h
 refine aF.go Jz rfl fun B Q hB hQ=>?_
 have⟨hD,hY,hZ,gA⟩:=bR
 repeat' (first
 |simp only[go_sem,hD,hY,hZ,gA]
 |(with_reducible refine CU (hg _) ?_)
 |(with_reducible first|refine bl fun hc=>?_|refine bm fun hc=>?_|refine bn (fun hc=>?_) fun hc=>?_)<;>(try simp only[hc,bs,↓reduceIte]at h)<;>try simp only[hc]
 |(with_reducible refine aE hQ ?_;exact fO))
 refine ff 2 0 (bp.ind (ι:=List Pc×Nat×Nat) (fun i=>p.procs.drop i.2.1=i.1∧Pc.fm i.2.2 i.1=R∧i.2.2≤200) (fun i=>i.1.length)
  (fun i=> [(1, .ptr 0 0),(3, .ptr 1 0),(27, .slice .shared 5 (p.procs.map cu)),(28, .int .i64 (p.procs.length:Int)),(29, .int .i64 (i.2.1:Int))]) (fun i=>⟨[cz p,[.int .i64 (i.2.2:Int)]],[]⟩) ?_ (p.procs,0,0) ⟨rfl,h,Nat.zero_le _⟩)
 rintro⟨rest,k,n⟩ ⟨h1,h,hn⟩ IH
 dsimp only at h1 h hn
 cases rest with
 |nil=>
  have hD:=drop_nil h1
  simp only[Pc.fm]at h
  repeat' (first
 |simp only[go_sem,hD,hY,hZ,gA]
 |(with_reducible first|refine bl fun hc=>?_|refine bm fun hc=>?_|refine bn (fun hc=>?_) fun hc=>?_)<;>(try simp only[hc,bs,↓reduceIte]at h)<;>try simp only[hc]
 |(with_reducible refine aE hQ ?_;exact fO))
 |cons f rest=>
  obtain⟨hY,g2,hD,g4⟩:=drop_cons h1
  have bO:k<4611686018427387904:=by omega
  have gD:=List.mem_of_getElem? hY
  have As:=Pc.dk gD
  simp only[Pc.size]at As
  obtain⟨Au,hfv,hff,hfp⟩:=adf f gD
  have hnm:=Bw f.name Au
  have hv:=fun s=>zu (by omega) hfv s
  have he:=fun s=>zu (by omega) hff s
  have hb:=fun s' o ho=>(ZG _ f.body (Nat.le_refl _) (by omega) (B7 f gD) 1 n (by omega) (by omega) hn).TE (s:=s') (o:=o) (by simp[D.bK,D.ok,pD,Tag.ok]) rfl rfl rfl ho
  have hle:=F0 (nest:=1) (l:=f.body) hn
  simp only[Pc.fm]at h
  repeat' (first
 |simp only[go_sem,hD,hY,hZ,gA]
 |(with_reducible refine CU (hnm _) ?_)
 |(with_reducible refine CU (hv _) ?_)
 |(with_reducible refine CU (he _) ?_)
 |(with_reducible first|refine bl fun hc=>?_|refine bm fun hc=>?_|refine bn (fun hc=>?_) fun hc=>?_)<;>(try simp only[hc,bs,↓reduceIte]at h)<;>try simp only[hc]
 |(with_reducible refine aE hQ ?_;exact fO)
 | (cases h;done))
  refine ff 3 0 (bp.ind (ι:=List Pm×Nat) (fun i=>f.params.drop i.2=i.1∧(if !(Pm.fP i.1)then false else if !(Sm.gy 1 n f.body).1 then false else Pc.fm (Sm.gy 1 n f.body).2 rest)=R) (fun i=>i.1.length)
   (fun i=> [(1, .ptr 0 0),(3, .ptr 1 0),(5, .ptr 2 0),(27, .slice .shared 5 (p.procs.map cu)),(28, .int .i64 (p.procs.length:Int)),(29, .int .i64 (k:Int)),(62, .slice .shared 2 (f.params.map iJ)),(63, .int .i64 (f.params.length:Int)),(64, .int .i64 (i.2:Int))]) (fun i=>⟨[cz p,[.int .i64 (n:Int)],cu f],[]⟩) ?_ (f.params,0) ⟨rfl,h⟩)
  rintro⟨O8,j⟩ ⟨j1,h⟩ By
  dsimp only at j1 h
  cases O8 with
  |nil=>
   have hD:=drop_nil j1
   simp only[Pm.fP,Bool.not_true,Bool.false_eq_true,↓reduceIte]at h
   repeat' (first
 |simp only[go_sem,hD,hY,hZ,gA]
 |(with_reducible refine CU (hb _ _ rfl) ?_)
 |(with_reducible first|refine bl fun hc=>?_|refine bm fun hc=>?_|refine bn (fun hc=>?_) fun hc=>?_)<;>(try simp only[hc,bs,↓reduceIte]at h)<;>try simp only[hc]
 |(with_reducible refine aE hQ ?_;exact fO)
 | (cases h;done))
   refine eQ 2 0 ?_ ?_ (IH (rest,k+1,(Sm.gy 1 n f.body).2) ⟨g2,h,hle.2 (by assumption)⟩ (Nat.lt_succ_self _))
   ·(simp only[go_sem,hD,hY,hZ,gA,aI bO];try exact bX)
   ·(simp only[go_sem,hD,hY,hZ,gA,aI bO];try exact bX)
  |cons a O8=>
   obtain⟨hY,b2,hD,b4⟩:=drop_cons j1
   have RN:j<4611686018427387904:=by omega
   have ha:=Bw a.name (hfp a (List.mem_of_getElem? hY))
   simp only[Pm.fP]at h
   repeat' (first
 |simp only[go_sem,hD,hY,hZ,gA]
 |(with_reducible refine CU (ha _) ?_)
 |(with_reducible first|refine bl fun hc=>?_|refine bm fun hc=>?_|refine bn (fun hc=>?_) fun hc=>?_)<;>(try simp only[hc,bs,↓reduceIte]at h)<;>try simp only[hc]
 |(with_reducible refine aE hQ ?_;exact fO)
 | (cases h;done))
   refine eQ 3 0 ?_ ?_ (By (O8,j+1) ⟨b2,h⟩ (Nat.lt_succ_self _))
   ·(simp only[go_sem,hD,hY,hZ,gA,aI RN];try exact bX)
   ·(simp only[go_sem,hD,hY,hZ,gA,aI RN];try exact bX)
theorem zw {s:aG} (h:isName s=true):s.length≤8:=by
 cases s with
 |nil=>simp
 | cons c r=>
  simp only[isName]at h
  split at h
  ·cases h
  ·rename_i hc
   simp only[Bool.or_eq_true,decide_eq_true_eq,not_or]at hc
   simp only[List.length_cons];omega
theorem ph {t:aG} : ∀ {l:List aG},fb l=true→t∈l→isName t=true
 | s::l,h,m=>by
  simp only[fb]at h
  cases hs:isName s
  ·simp[hs]at h
  ·simp [hs]at h
   rcases List.mem_cons.1 m with rfl|m
   ·exact hs
   ·exact ph h m
theorem JM {a:Ar} : ∀ {l:List Ar},Ar.fP l=true→a∈l→a.may=true
 | s::l,h,m=>by
  simp only[Ar.fP]at h
  cases hs:s.may
  ·simp[hs]at h
  ·simp [hs]at h
   rcases List.mem_cons.1 m with rfl|m
   ·exact hs
   ·exact JM h m
theorem GQ {a:Pm} : ∀ {l:List Pm},Pm.fP l=true→a∈l→isName a.name=true
 | s::l,h,m=>by
  simp only[Pm.fP]at h
  cases hs:isName s.name
  ·simp[hs]at h
  ·simp [hs]at h
   rcases List.mem_cons.1 m with rfl|m
   ·exact hs
   ·exact GQ h m
mutual
theorem EL : ∀ x:Ex,x.form=true→x.texts
 | ⟨op,n,name,kids⟩,h=>by
  simp only[Ex.form]at h
  split at h
  ·cases h
  ·rename_i hc
   refine⟨?_,C3 kids h⟩
   simp only[Bool.or_eq_true,Bool.and_eq_true,Bool.not_eq_true',not_or,not_and,Bool.not_eq_false]at hc
   cases hn:(name == [])
   ·have:=zw (hc.2 hn);omega
   ·simp at hn;subst hn;simp
theorem C3 : ∀ l:List Ex,Ex.sO l=true→Ex.vE l
 | [],_=>trivial
 | x::l,h=>by
  simp only[Ex.sO]at h
  cases hx:x.form
  ·simp[hx]at h
  ·simp [hx]at h
   exact⟨EL x hx,C3 l h⟩
end
theorem GR {x:Ex} (h:x.may=true):x.texts:=by
 unfold Ex.may at h
 simp only[Bool.and_eq_true]at h
 exact EL x h.2
theorem EM {x:Ex} (h:x.none=true):x.texts:=by
 obtain⟨op,n,name,kids⟩:=x
 simp[Ex.none]at h
 obtain⟨⟨_,h1⟩,h2⟩:=h
 subst h1 h2
 exact⟨by simp,trivial⟩
mutual
theorem RO {deep cy:Int} {aR:Bool} {out:List It} {i:It} : ∀ s:Sm,i∈iT deep cy aR out s→i∈out∨i.s.size≤s.size
 | ⟨id,kind,labels,name,proc,x,has,args,a8,e⟩,h=>by
  simp only[iT]at h
  have key:i∈out++ [(⟨⟨id,kind,labels,name,proc,x,has,args,a8,e⟩,deep,cy,aR⟩:It)]→i∈out∨i.s.size≤(⟨id,kind,labels,name,proc,x,has,args,a8,e⟩:Sm).size:=by
   intro h
   rcases List.mem_append.1 h with h|h
   ·exact .inl h
   ·simp at h;subst h;exact .inr (Nat.le_refl _)
  split at h
  ·rcases wK e h with h | h
   ·rcases wK a8 h with h | h
    ·exact key h
    ·right;simp only[Sm.size];omega
   ·right;simp only[Sm.size];omega
  ·exact key h
theorem wK {deep cy:Int} {aR:Bool} {out:List It} {i:It} : ∀ l:List Sm,i∈dR deep cy aR out l→i∈out∨i.s.size<Sm.a7 l
 | [],h=>by simp only[dR]at h;exact .inl h
 | s::l,h=>by
  simp only[dR]at h
  split at h
  ·rcases wK l h with h | h
   ·rcases RO s h with h | h
    ·exact .inl h
    ·right;simp only[Sm.a7];omega
   ·right;simp only[Sm.a7];omega
  ·exact .inl h
end
theorem JN {i:It} : ∀ (l:List Pc) (out:List It),i∈allM out l→i∈out∨i.s.size<Pc.a7 l
 | [],out,h=>by simp only[allM]at h;exact .inl h
 | f::l,out,h=>by
  have key:i∈out++f.flat→i∈out∨i.s.size<Pc.a7 (f::l):=by
   intro h
   rcases List.mem_append.1 h with h|h
   ·exact .inl h
   ·rcases wK _ h with h | h
    ·simp at h
    ·right;simp only[Pc.a7,Pc.size];omega
  simp only[allM]at h
  split at h
  ·exact key h
  ·rcases JN l _ h with h | h
   ·exact key h
   ·right;simp only[Pc.a7];omega
theorem EN {i:It} : ∀ (l:List It) (n:Nat),It.fP n l=true→i∈l→i.s.one=true
 | s::l,n,h,m=>by
  simp only[It.fP]at h
  split at h
  ·cases h
  ·rename_i hc
   simp only[Bool.or_eq_true,Bool.not_eq_true',not_or,Bool.not_eq_false]at hc
   rcases List.mem_cons.1 m with rfl|m
   ·exact hc.2
   ·exact EN l (n+1) h m
theorem JO {s:Sm} (h:s.one=true) (hs:s.size<4611686018427387000):s.ug:=by
 unfold Sm.one at h
 split at h
 ·cases h
 split at h
 ·cases h
 split at h
 ·cases h
 split at h
 ·cases h
 rename_i c1 c2 c3 c4
 simp only[Bool.or_eq_true,Bool.and_eq_true,Bool.not_eq_true',not_or,not_and,Bool.not_eq_false,decide_eq_true_eq]at c1 c2 c3 c4
 obtain⟨⟨⟨⟨⟨_,_⟩,anN⟩,cx⟩,cn⟩,_⟩:=c1
 obtain⟨c21,c22⟩:=c2
 obtain⟨⟨c31,c32⟩,c33⟩:=c3
 have nm : ∀ {t:aG},isName t=true→t.length<4611686018427387904:=fun h=>by have:=zw h;omega
 have dO:1+s.labels.length+s.x.size+Ar.a7 s.args≤s.size:=by cases s;simp only[Sm.size];omega
 have ye:=Ar.eH s.args
 refine⟨fun t ht=>nm (ph anN ht),by omega, ?_, ?_,by omega, ?_,by omega,fun a ha=>?_⟩
 ·cases hn:s.hasName
  ·cases he:(s.name == [])
   ·exact nm (c22 ⟨hn,he⟩).2
   ·simp at he;rw[he];simp
  ·exact nm (c21 hn)
 ·cases oN:s.yv
  ·rw [oN]at c31
   have:s.proc = []:=by simpa using c31
   rw[this];simp
  ·exact nm (c32 oN)
 ·cases hx:s.O3
  ·exact EM (cn hx)
  ·exact GR (cx hx)
 ·have hm:=JM c4 ha
  have XW:=Ar.dk ha
  unfold Ar.may at hm
  split at hm
  ·simp only [Bool.and_eq_true]at hm
   exact⟨by omega,EM hm.2,nm hm.1⟩
  ·simp only [Bool.and_eq_true,beq_iff_eq]at hm
   exact⟨by omega,GR hm.2,by rw[hm.1];simp⟩
theorem GU {f:Pc} : ∀ {l:List Pc},Pc.n6 l=true→f∈l→isName f.name=true∧fb f.vars=true∧fb f.fin=true∧Pm.fP f.params=true
 |s::l,h,m=>by
  simp only[Pc.n6]at h
  split at h
  ·cases h
  split at h
  ·cases h
  rename_i c1 c2
  simp only[Bool.or_eq_true,Bool.not_eq_true',not_or,Bool.not_eq_false]at c1 c2
  rcases List.mem_cons.1 m with rfl|m
  ·exact⟨c1.1.1.1.1,c1.1.2,c1.2,c2⟩
  ·exact GU h m
theorem Vo {p:Pg} (h:p.may=true) (hs:p.size<4611686018427387000):p.ug:=by
 unfold Pg.may at h
 split at h
 ·cases h
 split at h
 ·cases h
 split at h
 ·cases h
 rename_i c1 c2 c3
 simp only[Bool.or_eq_true,Bool.not_eq_true',not_or,Bool.not_eq_false]at c1 c2
 have nm : ∀ {t:aG},isName t=true→t.length<4611686018427387904:=fun h=>by have:=zw h;omega
 refine⟨hs,fun t ht=>nm (ph c1.2 ht),fun f hf=>?_,fun i hi=>?_⟩
 ·obtain⟨a,b,c,d⟩:=GU c2 hf
  exact⟨nm a,fun t ht=>nm (ph b ht),fun t ht=>nm (ph c ht),fun t ht=>nm (GQ d ht)⟩
 ·refine JO (EN _ _ h hi) ?_
  rcases JN _ _ hi with h1|h1
  ·simp at h1
  ·simp only[Pg.size]at hs;omega
theorem RP {t:aG} (h:isName t=true):t≠ []:=by rintro rfl;cases h
theorem Vp (op n:Int) (name:aG) (kids:List Ex):Ex.form ⟨op,n,name,kids⟩=true↔
 om op=(kids.length:Int)∧(op=1∨n=0)∧0≤n∧(op=2↔name≠ [])∧(name = []∨isName name=true)∧Ex.sO kids=true:=by
 simp only[Ex.form]
 split
 ·rename_i h
  simp only[Bool.or_eq_true,Bool.and_eq_true,bne_iff_ne,ne_eq,decide_eq_true_eq,Bool.not_eq_true']at h
  refine⟨fun h=>(Bool.false_ne_true h).elim,fun⟨h1,h2,h3,h4,h5,_⟩=>?_⟩
  exfalso
  rcases h with (((h|h)|h)|h)|h
  ·exact h h1
  ·rcases h2 with h2 | h2
   ·exact h.1 h2
   ·exact h.2 h2
  ·omega
  ·by_cases h2:op=2<;>cases name<;>simp_all
  ·rcases h5 with h5 | h5
   ·subst h5;simp at h
   ·rw[h5]at h;simp at h
 ·rename_i h
  simp only[Bool.or_eq_true,Bool.and_eq_true,bne_iff_ne,ne_eq,decide_eq_true_eq,Bool.not_eq_true',not_or,not_and,Decidable.not_not,Bool.not_eq_false]at h
  obtain⟨⟨⟨⟨h1,h2⟩,h3⟩,h4⟩,h5⟩:=h
  refine⟨fun h=>⟨h1, ?_,by omega, ?_, ?_,h⟩,fun h=>h.2.2.2.2.2⟩
  ·by_cases h:op=1
   ·exact .inl h
   ·exact .inr (h2 h)
  ·by_cases h2:op=2<;>cases name<;>simp_all
  ·cases name with
   |nil=>exact .inl rfl
   |cons c r=>exact .inr (h5 rfl)
theorem JP (op n:Int) (name:aG) (kids:List Ex) (k:Int):Ex.dp k ⟨op,n,name,kids⟩=true↔
 1≤k∧(kids.length:Int)=om op∧(if op=1 then 0≤n∧name = []else if op=2 then n=0∧isName name=true else n=0∧name = []∧Ex.Bx (k - 1) kids=true):=by
 simp only[Ex.dp]
 split
 ·rename_i h
  simp only[Bool.or_eq_true,decide_eq_true_eq,bne_iff_ne,ne_eq]at h
  refine⟨fun h=>(Bool.false_ne_true h).elim,fun⟨h1,h2,_⟩=>?_⟩
  rcases h with h|h
  ·omega
  ·exact(h h2).elim
 rename_i h
 simp only[Bool.or_eq_true,decide_eq_true_eq,bne_iff_ne,ne_eq,not_or,Decidable.not_not]at h
 have h1:1≤k:=by omega
 simp only[h1,h.2,true_and]
 by_cases o1:op=1
 ·subst o1
  cases name<;>simp
 ·have o1' : ¬ (op==1)=true:=by simpa using o1
  rw[if_neg o1',if_neg o1]
  by_cases o2:op=2
  ·subst o2;simp
  ·have o2' : ¬ (op==2)=true:=by simpa using o2
   rw[if_neg o2',if_neg o2]
   by_cases hn:n=0
   ·subst hn
    cases name<;>simp
   ·simp[hn]
mutual
theorem XX : ∀ (x:Ex) (k:Int),0≤k→(x.dp k=true↔(x.depth:Int)≤k∧x.form=true)
 | ⟨op,n,name,kids⟩,k,hk=>by
  rw[JP,Vp]
  have hd:Ex.depth ⟨op,n,name,kids⟩=Ex.p8 kids+1:=by simp only[Ex.depth]
  rw[hd]
  by_cases h1:1≤k
  ·have ih:=RQ kids (k - 1) (by omega)
   by_cases o1:op=1
   ·subst o1
    have ha:om 1=0:=rfl
    rw[ha,if_pos rfl]
    constructor
    ·rintro⟨_,h2,h3,h4⟩
     have:kids = []:=List.eq_nil_of_length_eq_zero (by omega)
     subst this;subst h4
     simp[Ex.p8,Ex.sO,h3];omega
    ·rintro⟨h2,h3,_,h4,h5,_⟩
     refine⟨h1,h3.symm,h4, ?_⟩
     cases name
     ·rfl
     ·simp at h5
   ·rw [if_neg o1]
    by_cases o2:op=2
    ·subst o2
     have ha:om 2=0:=rfl
     rw[ha,if_pos rfl]
     constructor
     ·rintro⟨_,h2,h3,h4⟩
      have:kids = []:=List.eq_nil_of_length_eq_zero (by omega)
      subst this;subst h3
      have:=RP h4
      simp[Ex.p8,Ex.sO,h4,this];omega
     ·rintro⟨h2,h3,h4,_,h5,h6,_⟩
      refine⟨h1,h3.symm,h4.resolve_left o1, ?_⟩
      exact h6.resolve_left (h5.1 rfl)
    ·rw [if_neg o2,ih]
     constructor
     ·rintro⟨_,h2,h3,h4,h5,h6⟩
      subst h3;subst h4
      exact⟨by omega,h2.symm, .inr rfl,Int.le_refl _,by simp[o2], .inl rfl,h6⟩
     ·rintro⟨h2,h3,h4,_,h5,h6,h7⟩
      refine⟨h1,h3.symm,h4.resolve_left o1, ?_,by omega,h7⟩
      exact Decidable.byContradiction fun h=>o2 (h5.2 h)
  ·constructor
   ·rintro⟨h,_⟩;exact(h1 h).elim
   ·rintro⟨h,_⟩;omega
theorem RQ : ∀ (l:List Ex) (k:Int),0≤k→(Ex.Bx k l=true↔(Ex.p8 l:Int)≤k∧Ex.sO l=true)
 | [],k,hk=>by simp[Ex.Bx,Ex.p8,Ex.sO,hk]
 | x::l,k,hk=>by
  have h1:=XX x k hk
  have h2:=RQ l k hk
  have hd:Ex.p8 (x::l)=max x.depth (Ex.p8 l):=by simp only[Ex.p8]
  rw[hd]
  simp only[Ex.Bx,Ex.sO]
  cases hx:Ex.dp k x
  ·simp only [Bool.not_false, ↓reduceIte,Bool.false_eq_true,false_iff,not_and]
   intro h3
   have : ¬ ((x.depth:Int)≤k∧x.form=true):=by rw[← h1,hx];simp
   have hf:x.form=false:=by
    cases hf:x.form
    ·rfl
    ·exact(this ⟨by omega,hf⟩).elim
   simp[hf]
  ·have:=h1.1 hx
   simp only[Bool.not_true,Bool.false_eq_true,↓reduceIte,this.2,h2]
   have h3:=this.1
   refine and_congr_left fun _=>?_
   omega
end
theorem EO (x:Ex):x.dp 20=x.may:=by
 rw[Bool.eq_iff_iff,XX x 20 (by omega)]
 unfold Ex.may
 simp only[Bool.and_eq_true,decide_eq_true_eq]
 refine and_congr_left fun _=>?_
 omega
theorem GV (x:Ex) (b:Bool):vH x b=if b then x.may else x.none:=by
 unfold vH
 rw[EO]
 cases b<;>simp
theorem GX (t:aG) (b:Bool):tu t b=if b then isName t else t == []:=by
 unfold tu
 cases b<;>simp
theorem C4 : ∀ l:List Ar,pF l=Ar.fP l
 | []=>rfl
 |a::l=>by
  simp only[pF,Ar.fP,Ar.may,GV,GX,C4 l]
  grind
theorem FB {α:Type} (l:List α):((l.length:Int)==0) = !(decide ((l.length:Int) > 0)):=by
 cases l with
 |nil=>rfl
 |cons a l=>
  have h1:(((a::l).length:Int)==0)=false:=by simp only[List.length_cons,beq_eq_false_iff_ne];omega
  have h2:decide (((a::l).length:Int) > 0)=true:=by simp only[List.length_cons,decide_eq_true_eq];omega
  rw[h1,h2];rfl
theorem EP (s:Sm):s.one=(fb s.labels && s.fields):=by
 have hk:s.kind=1∨s.kind=2∨s.kind=3∨s.kind=4∨s.kind=5∨s.kind=6∨s.kind=7∨s.kind=8∨s.kind=9∨s.kind=10∨s.kind<1∨s.kind > 10:=by omega
 unfold Sm.one Sm.fields Sm.flags Sm.O3 Sm.hasName Sm.yv
 have p1:isName [] = false:=rfl
 rcases hk with h|h|h|h|h|h|h|h|h|h|h|h
 all_goals
  simp only[h,FB,C4,GV,GX,Sm.H6,Sm.H5]
  grind
mutual
def Ex.mK (out:List aG):Ex→List aG
 |⟨op,_,name,kids⟩=>Ex.lO (if op==2 && !(fx out name)then out++ [name]else out) kids
def Ex.lO (out:List aG):List Ex→List aG
 | []=>out
 |x::l=>Ex.lO (Ex.mK out x) l
end
def Ex.names (x:Ex):List aG:=if x.may then x.mK []else []
mutual
theorem sv (out:List aG) : ∀ x:Ex,(Ex.mK out x).length≤out.length+x.size
 |⟨op,n,name,kids⟩=>by
  simp only[Ex.mK,Ex.size]
  have h:=GY (if op==2 && !(fx out name)then out++ [name]else out) kids
  refine Nat.le_trans h ?_
  split<;>simp<;>omega
theorem GY (out:List aG) : ∀ l:List Ex,(Ex.lO out l).length≤out.length+Ex.a7 l
 | []=>by simp[Ex.lO,Ex.a7]
 |x::l=>by
  simp only[Ex.lO,Ex.a7]
  have h1:=sv out x
  have h2:=GY (Ex.mK out x) l
  omega
end
def Ci (out:List aG) (x:aG):List aG:=if fx out x then out else out++ [x]
def ahm (x:aG):List aG→Bool
 | []=>false
 |s::l=>if s==x then true else ahm x l
abbrev RR (N:Nat):Prop:=∀ (x:Ex),x.size≤N→∀ out:List aG,out.length+x.size≤1000000000→∀ {s:St} {t:Nat},s.aw[t]? = some (some out.length)→
 aF Tryz.prog iS [.agg (cj x), .slice (.tok t) 1 (out.map encStr)] s (.slice (.tok t) 1 ((x.mK out).map encStr)) ⟨s.ah,s.aw.set t (some (x.mK out).length)⟩
theorem adi {N:Nat} (ih:RR N) {op m:Int} {name:aG} {kids:List Ex} (h:Ex.size ⟨op,m,name,kids⟩≤N+1) {out:List aG} (ho:out.length+Ex.size ⟨op,m,name,kids⟩≤1000000000) :
 aF Tryz.prog iS [.agg (cj ⟨op,m,name,kids⟩), .slice (.tok 0) 1 (out.map encStr)] ⟨[],[some out.length]⟩ (.slice (.tok 0) 1 ((Ex.mK out ⟨op,m,name,kids⟩).map encStr)) ⟨[],[some (Ex.mK out ⟨op,m,name,kids⟩).length]⟩:=by
 obtain⟨R,hG⟩ : ∃ R,Ex.mK out ⟨op,m,name,kids⟩=R:=⟨_,rfl⟩
 rw[hG]
 simp only[Ex.mK]at hG
 simp only[Ex.size]at h ho
 have hlen:kids.length<1000000000:=by have:=Ex.eH kids;omega
 have hk : ∀ y∈kids,∀ out:List aG,out.length+y.size≤1000000000→∀ {s:St} {t:Nat},s.aw[t]? = some (some out.length)→
  aF Tryz.prog iS [.agg (cj y), .slice (.tok t) 1 (out.map encStr)] s (.slice (.tok t) 1 ((y.mK out).map encStr)) ⟨s.ah,s.aw.set t (some (y.mK out).length)⟩:=fun y hy out ho=>
  ih y (by have:=Ex.dk hy;omega) out ho
 refine aF.go rD rfl fun B Q hB hQ=>?_
 have⟨hD,hY,hZ,gA⟩:=bR
 have hZ:(out.length+1)*17≤bC:=by unfold bC;omega
 rcases Bool.eq_false_or_eq_true (op==2)with b1|b1
 ·rcases Bool.eq_false_or_eq_true (fx out name)with b2 | b2
  ·simp only [b1,b2,Bool.not_true,Bool.and_false,Bool.false_eq_true,if_false]at hG
   repeat' (first
 |simp only[go_sem,hD,hY,hZ,gA,b1,b2]
 |(with_reducible refine CU (jC (l:=out) (by omega) name _ _) ?_)
 | (with_reducible refine aE hQ ?_;exact bc))
   refine ff 1 1 (bp.ind (ι:=List Ex×Nat×List aG×Nat) (fun i=>kids.drop i.2.1=i.1∧Ex.lO i.2.2.1 i.1=R∧i.2.2.1.length+Ex.a7 i.1≤1000000000∧i.2.2.2=i.2.2.1.length) (fun i=>i.1.length)
    (fun i=> [(1, .slice (.tok 0) 1 (i.2.2.1.map encStr)),(2, .ptr 0 0),(23, .slice .shared 4 (kids.map cj)),(24, .int .i64 (kids.length:Int)),(25, .int .i64 (i.2.1:Int))]) (fun i=>⟨[cj ⟨op,m,name,kids⟩],[some i.2.2.2]⟩) ?_ (kids,0,out,out.length) ⟨rfl,hG,by simp;omega,by simp⟩)
   rintro⟨rest,k,cD,n'⟩ ⟨h1,h2,h3,h4⟩ IH
   dsimp only at h1 h2 h3 h4
   subst h4
   cases rest with
   |nil=>
    have hD:=drop_nil h1
    simp only[Ex.lO]at h2
    subst h2
    repeat' (first
 |simp only[go_sem,hD,hY,hZ,gA]
 | (with_reducible refine aE hQ ?_;exact bc))
   |cons y rest=>
    obtain⟨hY,g2,hD,g4⟩:=drop_cons h1
    have bO:k<4611686018427387904:=by omega
    simp only[Ex.lO]at h2
    simp only[Ex.a7]at h3
    have hy:=fun {s:St} {t:Nat} (ht:s.aw[t]? = some (some cD.length))=>hk y (List.mem_of_getElem? hY) cD (by omega) ht
    have hl:=sv cD y
    repeat' (first
 |simp only[go_sem,hD,hY,hZ,gA]
 |(with_reducible refine CU (hy (by with_unfolding_all rfl)) ?_)
 | (with_reducible refine aE hQ ?_;exact bc))
    refine eQ 1 1 ?_ ?_ (IH (rest,k+1,_,_) ⟨g2,h2,by dsimp only;omega,rfl⟩ (Nat.lt_succ_self _))
    ·(simp only[go_sem,hD,hY,hZ,gA,aI bO];try exact bX)
    ·(simp only[go_sem,hD,hY,hZ,gA,aI bO];try exact bX)
  ·simp only [b1,b2,Bool.not_false,Bool.and_true,if_true]at hG
   repeat' (first
 |simp only[go_sem,hD,hY,hZ,gA,b1,b2]
 |(with_reducible refine CU (jC (l:=out) (by omega) name _ _) ?_)
 | (with_reducible refine aE hQ ?_;exact bc))
   refine eQ 1 1 ?_ ?_ (bp.ind (ι:=List Ex×Nat×List aG×Nat) (fun i=>kids.drop i.2.1=i.1∧Ex.lO i.2.2.1 i.1=R∧i.2.2.1.length+Ex.a7 i.1≤1000000000∧i.2.2.2=i.2.2.1.length) (fun i=>i.1.length)
    (fun i=> [(1, .slice (.tok 0) 1 (i.2.2.1.map encStr)),(2, .ptr 0 0),(23, .slice .shared 4 (kids.map cj)),(24, .int .i64 (kids.length:Int)),(25, .int .i64 (i.2.1:Int))]) (fun i=>⟨[cj ⟨op,m,name,kids⟩],[some i.2.2.2]⟩) ?_ (kids,0,(out++ [name]),(out.length+1)) ⟨rfl,hG,by simp;omega,by simp⟩)
   ·(simp only[go_sem,hD,hY,hZ,gA,List.map_append,List.map_cons,List.map_nil,List.length_append,List.length_cons,List.length_nil,encStr];try exact bX)
   ·(simp only[go_sem,hD,hY,hZ,gA,List.map_append,List.map_cons,List.map_nil,List.length_append,List.length_cons,List.length_nil,encStr];try exact bX)
   rintro⟨rest,k,cD,n'⟩ ⟨h1,h2,h3,h4⟩ IH
   dsimp only at h1 h2 h3 h4
   subst h4
   cases rest with
   |nil=>
    have hD:=drop_nil h1
    simp only[Ex.lO]at h2
    subst h2
    repeat' (first
 |simp only[go_sem,hD,hY,hZ,gA]
 | (with_reducible refine aE hQ ?_;exact bc))
   |cons y rest=>
    obtain⟨hY,g2,hD,g4⟩:=drop_cons h1
    have bO:k<4611686018427387904:=by omega
    simp only[Ex.lO]at h2
    simp only[Ex.a7]at h3
    have hy:=fun {s:St} {t:Nat} (ht:s.aw[t]? = some (some cD.length))=>hk y (List.mem_of_getElem? hY) cD (by omega) ht
    have hl:=sv cD y
    repeat' (first
 |simp only[go_sem,hD,hY,hZ,gA]
 |(with_reducible refine CU (hy (by with_unfolding_all rfl)) ?_)
 | (with_reducible refine aE hQ ?_;exact bc))
    refine eQ 1 1 ?_ ?_ (IH (rest,k+1,_,_) ⟨g2,h2,by dsimp only;omega,rfl⟩ (Nat.lt_succ_self _))
    ·(simp only[go_sem,hD,hY,hZ,gA,aI bO];try exact bX)
    ·(simp only[go_sem,hD,hY,hZ,gA,aI bO];try exact bX)
 ·simp only [b1,Bool.false_and,Bool.false_eq_true,if_false]at hG
  repeat' (first
 |simp only[go_sem,hD,hY,hZ,gA,b1]
 | (with_reducible refine aE hQ ?_;exact bc))
  refine ff 1 1 (bp.ind (ι:=List Ex×Nat×List aG×Nat) (fun i=>kids.drop i.2.1=i.1∧Ex.lO i.2.2.1 i.1=R∧i.2.2.1.length+Ex.a7 i.1≤1000000000∧i.2.2.2=i.2.2.1.length) (fun i=>i.1.length)
   (fun i=> [(1, .slice (.tok 0) 1 (i.2.2.1.map encStr)),(2, .ptr 0 0),(23, .slice .shared 4 (kids.map cj)),(24, .int .i64 (kids.length:Int)),(25, .int .i64 (i.2.1:Int))]) (fun i=>⟨[cj ⟨op,m,name,kids⟩],[some i.2.2.2]⟩) ?_ (kids,0,out,out.length) ⟨rfl,hG,by simp;omega,by simp⟩)
  rintro⟨rest,k,cD,n'⟩ ⟨h1,h2,h3,h4⟩ IH
  dsimp only at h1 h2 h3 h4
  subst h4
  cases rest with
  |nil=>
   have hD:=drop_nil h1
   simp only[Ex.lO]at h2
   subst h2
   repeat' (first
 |simp only[go_sem,hD,hY,hZ,gA]
 | (with_reducible refine aE hQ ?_;exact bc))
  |cons y rest=>
   obtain⟨hY,g2,hD,g4⟩:=drop_cons h1
   have bO:k<4611686018427387904:=by omega
   simp only[Ex.lO]at h2
   simp only[Ex.a7]at h3
   have hy:=fun {s:St} {t:Nat} (ht:s.aw[t]? = some (some cD.length))=>hk y (List.mem_of_getElem? hY) cD (by omega) ht
   have hl:=sv cD y
   repeat' (first
 |simp only[go_sem,hD,hY,hZ,gA]
 |(with_reducible refine CU (hy (by with_unfolding_all rfl)) ?_)
 | (with_reducible refine aE hQ ?_;exact bc))
   refine eQ 1 1 ?_ ?_ (IH (rest,k+1,_,_) ⟨g2,h2,by dsimp only;omega,rfl⟩ (Nat.lt_succ_self _))
   ·(simp only[go_sem,hD,hY,hZ,gA,aI bO];try exact bX)
   ·(simp only[go_sem,hD,hY,hZ,gA,aI bO];try exact bX)
theorem Vq : ∀ N,RR N:=by
 intro N
 induction N with
 |zero=>rintro⟨op,m,name,kids⟩ h;simp only[Ex.size]at h;omega
 |succ N ih=>
  rintro⟨op,m,name,kids⟩ h out ho s t ht
  exact(adi ih h ho).abk (pre:= [_]) (post:= []) (by simp only[D.bK,D.ok,lU];rfl) rfl (fa out) (fa _) ht
abbrev aoy (N:Nat):Prop:=∀ (x:Ex),x.size≤N→∀ out:List aG,out.length+x.size≤1000000000→∀ {s:St} {t:Nat},s.aw[t]? = some (some out.length)→
 aF Tryz.prog Ll [.agg (cj x), .slice (.tok t) 1 (out.map encStr)] s (.slice (.tok t) 1 ((x.mK out).map encStr)) ⟨s.ah,s.aw.set t (some (x.mK out).length)⟩
theorem RS {op m:Int} {name:aG} {kids:List Ex} (h:Ex.form ⟨op,m,name,kids⟩=true) (h2:(op==2)=true):kids = []:=by
 have e:op=2:=by simpa using h2
 subst e
 simp only[Ex.form]at h
 split at h
 ·cases h
 ·rename_i hh
  simp only[Bool.or_eq_true,not_or,bne_iff_ne,ne_eq,Decidable.not_not]at hh
  have:=hh.1.1.1.1
  have e:om 2=0:=rfl
  rw[e]at this
  exact List.length_eq_zero_iff.1 (by omega)
theorem Vr {op m:Int} {name:aG} {kids:List Ex} (hf:(op==2)=true→kids = []) (ho:Ex.size ⟨op,m,name,kids⟩≤1000000000) (s:St) :
 aF Tryz.prog iS [.agg (cj ⟨op,m,name,kids⟩), .slice .full 0 []] s (.slice .shared 1 ((Ex.mK [] ⟨op,m,name,kids⟩).map encStr)) s:=by
 refine aF.pure ?_ (by simp only[D.bK,D.ok,lU];rfl) (by simp only[D.ok,Tag.ok,fa];rfl) s
 obtain⟨R,hG⟩ : ∃ R,Ex.mK [] ⟨op,m,name,kids⟩=R:=⟨_,rfl⟩
 rw[hG]
 simp only[Ex.mK]at hG
 simp only[Ex.size]at ho
 have hlen:kids.length<1000000000:=by have:=Ex.eH kids;omega
 have hk : ∀ y∈kids,∀ out:List aG,out.length+y.size≤1000000000→∀ {s:St} {t:Nat},s.aw[t]? = some (some out.length)→
  aF Tryz.prog iS [.agg (cj y), .slice (.tok t) 1 (out.map encStr)] s (.slice (.tok t) 1 ((y.mK out).map encStr)) ⟨s.ah,s.aw.set t (some (y.mK out).length)⟩:=fun y hy out ho=>
  Vq y.size y (Nat.le_refl _) out ho
 unfold S0
 rcases Bool.eq_false_or_eq_true (op==2)with b1|b1
 ·have hk0:=hf b1
  subst hk0
  have e:fx [] name=false:=rfl
  simp only[b1,e,Bool.not_false,Bool.and_true,if_true,Ex.lO,List.nil_append]at hG
  subst hG
  refine aF.go rD rfl fun B Q hB hQ=>?_
  have⟨hD,hY,hZ,gA⟩:=bR
  have hZ:17≤bC:=by unfold bC;omega
  repeat' (first
 |simp only[go_sem,hD,hY,hZ,gA,b1,List.map_nil,List.map_cons,List.length_nil,encStr,Int.natCast_zero,Int.lt_irrefl,decide_false]
 |(with_reducible refine CU (JI name _ _ _) ?_)
 |(with_reducible refine bp.kQ ?_)
 |(with_reducible refine aE hQ ?_;exact bc))
 ·simp only [b1,Bool.false_and,Bool.false_eq_true,if_false]at hG
  refine aF.go rD rfl fun B Q hB hQ=>?_
  have⟨hD,hY,hZ,gA⟩:=bR
  repeat' (first
 |simp only[go_sem,hD,hY,hZ,gA,b1]
 | (with_reducible refine aE hQ ?_;exact bc))
  refine bp.q6 1 1 rfl ?_
  simp only[go_sem,hD,hY,hZ,gA]
  refine ff 1 1 (bp.ind (ι:=List Ex×Nat×List aG×Nat) (fun i=>kids.drop i.2.1=i.1∧Ex.lO i.2.2.1 i.1=R∧i.2.2.1.length+Ex.a7 i.1≤1000000000∧i.2.2.2=i.2.2.1.length) (fun i=>i.1.length)
   (fun i=> [(1, .slice (.tok 0) 1 (i.2.2.1.map encStr)),(2, .ptr 0 0),(23, .slice .shared 4 (kids.map cj)),(24, .int .i64 (kids.length:Int)),(25, .int .i64 (i.2.1:Int))]) (fun i=>⟨[cj ⟨op,m,name,kids⟩],[some i.2.2.2]⟩) ?_ (kids,0,[],0) ⟨rfl,hG,by simp;omega,by simp⟩)
  rintro⟨rest,k,cD,n'⟩ ⟨h1,h2,h3,h4⟩ IH
  dsimp only at h1 h2 h3 h4
  subst h4
  cases rest with
  |nil=>
   have hD:=drop_nil h1
   simp only[Ex.lO]at h2
   subst h2
   repeat' (first
 |simp only[go_sem,hD,hY,hZ,gA]
 | (with_reducible refine aE hQ ?_;exact bc))
  |cons y rest=>
   obtain⟨hY,g2,hD,g4⟩:=drop_cons h1
   have bO:k<4611686018427387904:=by omega
   simp only[Ex.lO]at h2
   simp only[Ex.a7]at h3
   have hy:=fun {s:St} {t:Nat} (ht:s.aw[t]? = some (some cD.length))=>hk y (List.mem_of_getElem? hY) cD (by omega) ht
   have hl:=sv cD y
   repeat' (first
 |simp only[go_sem,hD,hY,hZ,gA]
 |(with_reducible refine CU (hy (by with_unfolding_all rfl)) ?_)
 | (with_reducible refine aE hQ ?_;exact bc))
   refine eQ 1 1 ?_ ?_ (IH (rest,k+1,_,_) ⟨g2,h2,by dsimp only;omega,rfl⟩ (Nat.lt_succ_self _))
   ·(simp only[go_sem,hD,hY,hZ,gA,aI bO];try exact bX)
   ·(simp only[go_sem,hD,hY,hZ,gA,aI bO];try exact bX)
theorem ny {x:Ex} (hx:x.size≤1000000000) (ht:x.texts) (s:St):aF Tryz.prog ry [.agg (cj x)] s (.slice .shared 1 (x.names.map encStr)) s:=by
 refine aF.pure ?_ (by simp only[D.bK,D.ok,lU];rfl) (by simp only[D.ok,Tag.ok,fa];rfl) s
 have hm:=fun s=>zv (x:=x) (by omega) ht s
 simp only[EO]at hm
 unfold Ex.names
 unfold S0
 cases hb:x.may
 ·simp only [hb]at hm
  simp only[Bool.false_eq_true,if_false,List.map_nil]
  refine aF.go yo rfl fun B Q hB hQ=>?_
  have⟨hD,hY,hZ,gA⟩:=bR
  repeat' (first
 |simp only[go_sem,hD,hY,hZ,gA]
 |(with_reducible refine CU (hm _) ?_)
 |(with_reducible refine aE hQ ?_;exact bc))
 ·simp only [hb]at hm
  simp only[if_true]
  have hg : ∀ s,aF Tryz.prog iS [.agg (cj x), .slice .full 0 []] s (.slice .shared 1 ((x.mK []).map encStr)) s:=by
   intro s
   obtain⟨op,m,name,kids⟩:=x
   exact Vr (fun h2=>RS (by simp only[Ex.may,Bool.and_eq_true]at hb;exact hb.2) h2) hx s
  refine aF.go yo rfl fun B Q hB hQ=>?_
  have⟨hD,hY,hZ,gA⟩:=bR
  repeat' (first
 |simp only[go_sem,hD,hY,hZ,gA]
 |(with_reducible refine CU (hm _) ?_)
 |(with_reducible refine CU (hg _) ?_)
 |(with_reducible refine aE hQ ?_;exact bc))
def Ar.said (out:List aG):List Ar→List aG
 | []=>out
 |a::l=>Ar.said ((if a.ref then out++ [a.name]else out)++a.x.names) l
def Sm.sP (v:Sm):List aG:=if v.kind != 10 && v.name != []then [v.name]else []
def Sm.said (v:Sm):List aG:=Ar.said (v.sP++v.x.names) v.args
theorem lj (x:Ex):x.names.length≤x.size:=by
 unfold Ex.names
 split
 ·simpa using sv [] x
 ·exact Nat.zero_le _
def Ar.vE:List Ar→Prop
 | []=>True
 |a::l=>a.x.texts∧Ar.vE l
def Sm.nz (v:Sm):Prop:=v.x.texts∧(∀ a∈v.args,a.x.texts)∧v.x.size+Ar.a7 v.args<1000000
theorem kI {l nx:List aG} {n:Nat} (hn:n=l.length) (h:l.length+nx.length≤1000000000) {g:Tag} (o:List (List D)) :
 iB 1 16 (.slice (.tok 0) 1 (l.map encStr)) (.slice g 1 (nx.map encStr)) ⟨o,[some n]⟩=some (.slice (.tok 0) 1 ((l++nx).map encStr),⟨o,[some (l++nx).length]⟩):=by
 subst hn
 have:=nX (size:=1) (bytes:=16) (t:=0) (rows:=l.map encStr) (new:=nx.map encStr) (g:=g) (s:=⟨o,[some l.length]⟩) (by simp only[List.length_map];unfold bC;omega) (by simp)
 rw[this]
 simp
theorem Bz {v:Sm} (hv:v.nz) (s:St):aF Tryz.prog rp [.agg (bh v)] s (.slice .shared 1 (v.said.map encStr)) s:=by
 refine aF.pure ?_ (by simp only[D.bK,D.ok,q8];rfl) (by simp only[D.ok,Tag.ok,fa];rfl) s
 obtain⟨wL,tv,dO⟩:=hv
 obtain⟨R,hG⟩ : ∃ R,v.said=R:=⟨_,rfl⟩
 rw[hG]
 simp only[Sm.said]at hG
 have hlen:v.args.length<1000000000:=by have:=Ar.eH v.args;omega
 have hx:=fun s=>ny (x:=v.x) (by omega) wL s
 have LZ:=lj v.x
 unfold S0
 refine aF.go FP rfl fun B Q hB hQ=>?_
 have⟨hD,hY,hZ,gA⟩:=bR
 have hZ:17≤bC:=by unfold bC;omega
 by_cases hb:(v.kind != 10 && v.name != [])=true
 ·simp only [Sm.sP,hb,if_true]at hG
  rw[Bool.and_eq_true]at hb
  obtain⟨b1,b2⟩:=hb
  have eO:=kI (l:= [v.name]) (nx:=v.x.names) (n:=1) rfl (by simp;omega) (g:= .shared)
  simp only[List.map_append,List.map_cons,List.map_nil,encStr]at eO
  have b3:(v.name == [])=false:=by simpa using b2
  repeat' (first
 |simp only[go_sem,hD,hY,hZ,gA,b1,b2,b3,eO]
 |(with_reducible refine CU (hx _) ?_)
 | (with_reducible refine aE hQ ?_;exact bc))
  refine eQ 1 1 ?_ ?_ (bp.ind (ι:=List Ar×Nat×List aG×Nat) (fun i=>v.args.drop i.2.1=i.1∧Ar.said i.2.2.1 i.1=R∧i.2.2.1.length+Ar.a7 i.1≤2000000∧i.2.2.2=i.2.2.1.length) (fun i=>i.1.length)
   (fun i=> [(3, .slice (.tok 0) 1 (i.2.2.1.map encStr)),(1, .ptr 0 0),(25, .slice .shared 6 (v.args.map eB)),(26, .int .i64 (v.args.length:Int)),(27, .int .i64 (i.2.1:Int))]) (fun i=>⟨[bh v],[some i.2.2.2]⟩) ?_ (v.args,0,([v.name]++v.x.names),(v.x.names.length+1)) ⟨rfl,hG,by simp at LZ ⊢;omega,by simp⟩)
  ·(simp only[go_sem,hD,hY,hZ,gA,List.map_append,List.map_cons,List.map_nil,encStr];try exact bX)
  ·(simp only[go_sem,hD,hY,hZ,gA,List.map_append,List.map_cons,List.map_nil,encStr];try exact bX)
  rintro⟨rest,k,out,n'⟩ ⟨h1,h2,h3,h4⟩ IH
  dsimp only at h1 h2 h3 h4
  subst h4
  cases rest with
  |nil=>
   have hD:=drop_nil h1
   simp only[Ar.said]at h2
   subst h2
   repeat' (first
 |simp only[go_sem,hD,hY,hZ,gA]
 | (with_reducible refine aE hQ ?_;exact bc))
  | cons a rest=>
   obtain⟨hY,g2,hD,g4⟩:=drop_cons h1
   have bO:k<4611686018427387904:=by omega
   simp only[Ar.said]at h2
   simp only[Ar.a7]at h3
   have wM:=fun s=>ny (x:=a.x) (by have:=Ar.dk (List.mem_of_getElem? hY);omega) (tv a (List.mem_of_getElem? hY)) s
   have hl:=lj a.x
   have hZ:(out.length+1)*17≤bC:=by unfold bC;omega
   rcases Bool.eq_false_or_eq_true a.ref with b1|b1
   ·simp only [b1,if_true]at h2
    have eO:=kI (l:=out++ [a.name]) (nx:=a.x.names) (n:=out.length+1) (by simp) (by simp;omega) (g:= .shared)
    simp only[List.map_append,List.map_cons,List.map_nil,encStr]at eO
    repeat' (first
 |simp only[go_sem,hD,hY,hZ,gA,b1,eO]
 |(with_reducible refine CU (wM _) ?_)
 | (with_reducible refine aE hQ ?_;exact bc))
    refine eQ 1 1 ?_ ?_ (IH (rest,k+1,out++ [a.name]++a.x.names,_) ⟨g2,h2,by simp;omega,by simp<;>omega⟩ (Nat.lt_succ_self _))
    ·(simp only[go_sem,hD,hY,hZ,gA,aI bO,List.map_append,List.map_cons,List.map_nil,encStr];try exact bX)
    ·(simp only[go_sem,hD,hY,hZ,gA,aI bO,List.map_append,List.map_cons,List.map_nil,encStr];try exact bX)
   ·simp only [b1,Bool.false_eq_true,if_false]at h2
    have eO:=kI (l:=out) (nx:=a.x.names) rfl (by omega) (g:= .shared)
    repeat' (first
 |simp only[go_sem,hD,hY,hZ,gA,b1,eO]
 |(with_reducible refine CU (wM _) ?_)
 | (with_reducible refine aE hQ ?_;exact bc))
    refine eQ 1 1 ?_ ?_ (IH (rest,k+1,out++a.x.names,_) ⟨g2,h2,by simp;omega,by simp<;>omega⟩ (Nat.lt_succ_self _))
    ·(simp only[go_sem,hD,hY,hZ,gA,aI bO];try exact bX)
    ·(simp only[go_sem,hD,hY,hZ,gA,aI bO];try exact bX)
 ·simp only [Sm.sP,hb,Bool.false_eq_true,if_false,List.nil_append]at hG
  have rW:(v.kind != 10 && v.name != [])=false:=by simpa using hb
  obtain⟨nx,hnx⟩ : ∃ nx,nx=v.x.names:=⟨_,rfl⟩
  rw[← hnx]at hG LZ
  simp only[← hnx]at hx
  by_cases IJ:nx = []
  ·subst IJ
   simp only[List.map_nil]at hx
   have eO : ∀ o:List (List D),iB 1 16 (.slice .full 0 []) (.slice .shared 1 []) ⟨o,[]⟩=some (.slice .full 0 [],⟨o,[]⟩):=fun o=>by simp[iB,bC]
   have HB:(v.kind != 10)=false∨(v.kind != 10)=true∧(v.name != [])=false:=by
    cases h1:(v.kind != 10)
    ·exact .inl rfl
    ·rw[h1]at rW;exact .inr ⟨rfl,by simpa using rW⟩
   rcases HB with b1|⟨b1,b2⟩
   ·rcases Bool.eq_false_or_eq_true (v.name != [])with b2 | b2
    all_goals
     have b3:(v.name == []) = !(v.name != []):=by simp only[bne,Bool.not_not]
     rw[b2]at b3
     repeat' (first
 |simp only[go_sem,hD,hY,hZ,gA,b1,b2,b3,Bool.not_true,Bool.not_false,eO]
 |(with_reducible refine CU (hx _) ?_)
 | (with_reducible refine aE hQ ?_;simp only [aS,aV,bF,bG,go_sem,hD,hY,hZ,gA];repeat' (first | exact Ok.out | with_reducible refine jb ?_ ?_ | (simp;done))))
    all_goals
     refine bp.q6 3 1 rfl ?_
     simp only[go_sem,hD,hY,hZ,gA]
     refine ff 1 1 (bp.ind (ι:=List Ar×Nat×List aG×Nat) (fun i=>v.args.drop i.2.1=i.1∧Ar.said i.2.2.1 i.1=R∧i.2.2.1.length+Ar.a7 i.1≤2000000∧i.2.2.2=i.2.2.1.length) (fun i=>i.1.length)
      (fun i=> [(3, .slice (.tok 0) 1 (i.2.2.1.map encStr)),(1, .ptr 0 0),(25, .slice .shared 6 (v.args.map eB)),(26, .int .i64 (v.args.length:Int)),(27, .int .i64 (i.2.1:Int))]) (fun i=>⟨[bh v],[some i.2.2.2]⟩) ?_ (v.args,0,[],0) ⟨rfl,hG,by simp at LZ ⊢;omega,by simp⟩)
     rintro⟨rest,k,out,n'⟩ ⟨h1,h2,h3,h4⟩ IH
     dsimp only at h1 h2 h3 h4
     subst h4
     cases rest with
     |nil=>
      have hD:=drop_nil h1
      simp only[Ar.said]at h2
      subst h2
      repeat' (first
 |simp only[go_sem,hD,hY,hZ,gA]
 |(with_reducible refine aE hQ ?_;exact bc))
     | cons a rest=>
      obtain⟨hY,g2,hD,g4⟩:=drop_cons h1
      have bO:k<4611686018427387904:=by omega
      simp only[Ar.said]at h2
      simp only[Ar.a7]at h3
      have wM:=fun s=>ny (x:=a.x) (by have:=Ar.dk (List.mem_of_getElem? hY);omega) (tv a (List.mem_of_getElem? hY)) s
      have hl:=lj a.x
      have hZ:(out.length+1)*17≤bC:=by unfold bC;omega
      rcases Bool.eq_false_or_eq_true a.ref with b1|b1
      ·simp only [b1,if_true]at h2
       have eO:=kI (l:=out++ [a.name]) (nx:=a.x.names) (n:=out.length+1) (by simp) (by simp;omega) (g:= .shared)
       simp only[List.map_append,List.map_cons,List.map_nil,encStr]at eO
       repeat' (first
 |simp only[go_sem,hD,hY,hZ,gA,b1,eO]
 |(with_reducible refine CU (wM _) ?_)
 |(with_reducible refine aE hQ ?_;exact bc))
       refine eQ 1 1 ?_ ?_ (IH (rest,k+1,out++ [a.name]++a.x.names,_) ⟨g2,h2,by simp;omega,by simp<;>omega⟩ (Nat.lt_succ_self _))
       ·(simp only[go_sem,hD,hY,hZ,gA,aI bO,List.map_append,List.map_cons,List.map_nil,encStr];try exact bX)
       ·(simp only[go_sem,hD,hY,hZ,gA,aI bO,List.map_append,List.map_cons,List.map_nil,encStr];try exact bX)
      ·simp only [b1,Bool.false_eq_true,if_false]at h2
       have eO:=kI (l:=out) (nx:=a.x.names) rfl (by omega) (g:= .shared)
       repeat' (first
 |simp only[go_sem,hD,hY,hZ,gA,b1,eO]
 |(with_reducible refine CU (wM _) ?_)
 | (with_reducible refine aE hQ ?_;exact bc))
       refine eQ 1 1 ?_ ?_ (IH (rest,k+1,out++a.x.names,_) ⟨g2,h2,by simp;omega,by simp<;>omega⟩ (Nat.lt_succ_self _))
       ·(simp only[go_sem,hD,hY,hZ,gA,aI bO];try exact bX)
       ·(simp only[go_sem,hD,hY,hZ,gA,aI bO];try exact bX)
   ·have b3:(v.name == [])=true:=by simpa using b2
    repeat' (first
 |simp only[go_sem,hD,hY,hZ,gA,b1,b2,b3,eO]
 |(with_reducible refine CU (hx _) ?_)
 | (with_reducible refine aE hQ ?_;exact bc))
    refine bp.q6 3 1 rfl ?_
    simp only[go_sem,hD,hY,hZ,gA]
    refine ff 1 1 (bp.ind (ι:=List Ar×Nat×List aG×Nat) (fun i=>v.args.drop i.2.1=i.1∧Ar.said i.2.2.1 i.1=R∧i.2.2.1.length+Ar.a7 i.1≤2000000∧i.2.2.2=i.2.2.1.length) (fun i=>i.1.length)
     (fun i=> [(3, .slice (.tok 0) 1 (i.2.2.1.map encStr)),(1, .ptr 0 0),(25, .slice .shared 6 (v.args.map eB)),(26, .int .i64 (v.args.length:Int)),(27, .int .i64 (i.2.1:Int))]) (fun i=>⟨[bh v],[some i.2.2.2]⟩) ?_ (v.args,0,[],0) ⟨rfl,hG,by simp at LZ ⊢;omega,by simp⟩)
    rintro⟨rest,k,out,n'⟩ ⟨h1,h2,h3,h4⟩ IH
    dsimp only at h1 h2 h3 h4
    subst h4
    cases rest with
    |nil=>
     have hD:=drop_nil h1
     simp only[Ar.said]at h2
     subst h2
     repeat' (first
 |simp only[go_sem,hD,hY,hZ,gA]
 | (with_reducible refine aE hQ ?_;exact bc))
    | cons a rest=>
     obtain⟨hY,g2,hD,g4⟩:=drop_cons h1
     have bO:k<4611686018427387904:=by omega
     simp only[Ar.said]at h2
     simp only[Ar.a7]at h3
     have wM:=fun s=>ny (x:=a.x) (by have:=Ar.dk (List.mem_of_getElem? hY);omega) (tv a (List.mem_of_getElem? hY)) s
     have hl:=lj a.x
     have hZ:(out.length+1)*17≤bC:=by unfold bC;omega
     rcases Bool.eq_false_or_eq_true a.ref with b1|b1
     ·simp only [b1,if_true]at h2
      have eO:=kI (l:=out++ [a.name]) (nx:=a.x.names) (n:=out.length+1) (by simp) (by simp;omega) (g:= .shared)
      simp only[List.map_append,List.map_cons,List.map_nil,encStr]at eO
      repeat' (first
 |simp only[go_sem,hD,hY,hZ,gA,b1,eO]
 |(with_reducible refine CU (wM _) ?_)
 |(with_reducible refine aE hQ ?_;exact bc))
      refine eQ 1 1 ?_ ?_ (IH (rest,k+1,out++ [a.name]++a.x.names,_) ⟨g2,h2,by simp;omega,by simp<;>omega⟩ (Nat.lt_succ_self _))
      ·(simp only[go_sem,hD,hY,hZ,gA,aI bO,List.map_append,List.map_cons,List.map_nil,encStr];try exact bX)
      ·(simp only[go_sem,hD,hY,hZ,gA,aI bO,List.map_append,List.map_cons,List.map_nil,encStr];try exact bX)
     ·simp only [b1,Bool.false_eq_true,if_false]at h2
      have eO:=kI (l:=out) (nx:=a.x.names) rfl (by omega) (g:= .shared)
      repeat' (first
 |simp only[go_sem,hD,hY,hZ,gA,b1,eO]
 |(with_reducible refine CU (wM _) ?_)
 | (with_reducible refine aE hQ ?_;exact bc))
      refine eQ 1 1 ?_ ?_ (IH (rest,k+1,out++a.x.names,_) ⟨g2,h2,by simp;omega,by simp<;>omega⟩ (Nat.lt_succ_self _))
      ·(simp only[go_sem,hD,hY,hZ,gA,aI bO];try exact bX)
      ·(simp only[go_sem,hD,hY,hZ,gA,aI bO];try exact bX)
  ·have eO : ∀ o:List (List D),iB 1 16 (.slice .full 0 []) (.slice .shared 1 (nx.map encStr)) ⟨o,[]⟩=some (.slice (.tok 0) 1 (nx.map encStr),⟨o,[some nx.length]⟩):=fun o=>by
    have:nx.length*17≤bC:=by unfold bC;omega
    cases nx with
    |nil=>exact absurd rfl IJ
    |cons a r=>simp only[List.length_cons]at this;simp[iB,this]
   have HB:(v.kind != 10)=false∨(v.kind != 10)=true∧(v.name != [])=false:=by
    cases h1:(v.kind != 10)
    ·exact .inl rfl
    ·rw[h1]at rW;exact .inr ⟨rfl,by simpa using rW⟩
   rcases HB with b1|⟨b1,b2⟩
   ·rcases Bool.eq_false_or_eq_true (v.name != [])with b2 | b2
    all_goals
     have b3:(v.name == []) = !(v.name != []):=by simp only[bne,Bool.not_not]
     rw[b2]at b3
     repeat' (first
 |simp only[go_sem,hD,hY,hZ,gA,b1,b2,b3,Bool.not_true,Bool.not_false,eO]
 |(with_reducible refine CU (hx _) ?_)
 | (with_reducible refine aE hQ ?_;simp only [aS,aV,bF,bG,go_sem,hD,hY,hZ,gA];repeat' (first | exact Ok.out | with_reducible refine jb ?_ ?_ | (simp;done))))
    all_goals
     refine ff 1 1 (bp.ind (ι:=List Ar×Nat×List aG×Nat) (fun i=>v.args.drop i.2.1=i.1∧Ar.said i.2.2.1 i.1=R∧i.2.2.1.length+Ar.a7 i.1≤2000000∧i.2.2.2=i.2.2.1.length) (fun i=>i.1.length)
      (fun i=> [(3, .slice (.tok 0) 1 (i.2.2.1.map encStr)),(1, .ptr 0 0),(25, .slice .shared 6 (v.args.map eB)),(26, .int .i64 (v.args.length:Int)),(27, .int .i64 (i.2.1:Int))]) (fun i=>⟨[bh v],[some i.2.2.2]⟩) ?_ (v.args,0,nx,_) ⟨rfl,hG,by simp at LZ ⊢;omega,by simp⟩)
     rintro⟨rest,k,out,n'⟩ ⟨h1,h2,h3,h4⟩ IH
     dsimp only at h1 h2 h3 h4
     subst h4
     cases rest with
     |nil=>
      have hD:=drop_nil h1
      simp only[Ar.said]at h2
      subst h2
      repeat' (first
 |simp only[go_sem,hD,hY,hZ,gA]
 |(with_reducible refine aE hQ ?_;exact bc))
     | cons a rest=>
      obtain⟨hY,g2,hD,g4⟩:=drop_cons h1
      have bO:k<4611686018427387904:=by omega
      simp only[Ar.said]at h2
      simp only[Ar.a7]at h3
      have wM:=fun s=>ny (x:=a.x) (by have:=Ar.dk (List.mem_of_getElem? hY);omega) (tv a (List.mem_of_getElem? hY)) s
      have hl:=lj a.x
      have hZ:(out.length+1)*17≤bC:=by unfold bC;omega
      rcases Bool.eq_false_or_eq_true a.ref with b1|b1
      ·simp only [b1,if_true]at h2
       have eO:=kI (l:=out++ [a.name]) (nx:=a.x.names) (n:=out.length+1) (by simp) (by simp;omega) (g:= .shared)
       simp only[List.map_append,List.map_cons,List.map_nil,encStr]at eO
       repeat' (first
 |simp only[go_sem,hD,hY,hZ,gA,b1,eO]
 |(with_reducible refine CU (wM _) ?_)
 |(with_reducible refine aE hQ ?_;exact bc))
       refine eQ 1 1 ?_ ?_ (IH (rest,k+1,out++ [a.name]++a.x.names,_) ⟨g2,h2,by simp;omega,by simp<;>omega⟩ (Nat.lt_succ_self _))
       ·(simp only[go_sem,hD,hY,hZ,gA,aI bO,List.map_append,List.map_cons,List.map_nil,encStr];try exact bX)
       ·(simp only[go_sem,hD,hY,hZ,gA,aI bO,List.map_append,List.map_cons,List.map_nil,encStr];try exact bX)
      ·simp only [b1,Bool.false_eq_true,if_false]at h2
       have eO:=kI (l:=out) (nx:=a.x.names) rfl (by omega) (g:= .shared)
       repeat' (first
 |simp only[go_sem,hD,hY,hZ,gA,b1,eO]
 |(with_reducible refine CU (wM _) ?_)
 | (with_reducible refine aE hQ ?_;exact bc))
       refine eQ 1 1 ?_ ?_ (IH (rest,k+1,out++a.x.names,_) ⟨g2,h2,by simp;omega,by simp<;>omega⟩ (Nat.lt_succ_self _))
       ·(simp only[go_sem,hD,hY,hZ,gA,aI bO];try exact bX)
       ·(simp only[go_sem,hD,hY,hZ,gA,aI bO];try exact bX)
   ·have b3:(v.name == [])=true:=by simpa using b2
    repeat' (first
 |simp only[go_sem,hD,hY,hZ,gA,b1,b2,b3,eO]
 |(with_reducible refine CU (hx _) ?_)
 | (with_reducible refine aE hQ ?_;exact bc))
    refine ff 1 1 (bp.ind (ι:=List Ar×Nat×List aG×Nat) (fun i=>v.args.drop i.2.1=i.1∧Ar.said i.2.2.1 i.1=R∧i.2.2.1.length+Ar.a7 i.1≤2000000∧i.2.2.2=i.2.2.1.length) (fun i=>i.1.length)
     (fun i=> [(3, .slice (.tok 0) 1 (i.2.2.1.map encStr)),(1, .ptr 0 0),(25, .slice .shared 6 (v.args.map eB)),(26, .int .i64 (v.args.length:Int)),(27, .int .i64 (i.2.1:Int))]) (fun i=>⟨[bh v],[some i.2.2.2]⟩) ?_ (v.args,0,nx,_) ⟨rfl,hG,by simp at LZ ⊢;omega,by simp⟩)
    rintro⟨rest,k,out,n'⟩ ⟨h1,h2,h3,h4⟩ IH
    dsimp only at h1 h2 h3 h4
    subst h4
    cases rest with
    |nil=>
     have hD:=drop_nil h1
     simp only[Ar.said]at h2
     subst h2
     repeat' (first
 |simp only[go_sem,hD,hY,hZ,gA]
 | (with_reducible refine aE hQ ?_;exact bc))
    | cons a rest=>
     obtain⟨hY,g2,hD,g4⟩:=drop_cons h1
     have bO:k<4611686018427387904:=by omega
     simp only[Ar.said]at h2
     simp only[Ar.a7]at h3
     have wM:=fun s=>ny (x:=a.x) (by have:=Ar.dk (List.mem_of_getElem? hY);omega) (tv a (List.mem_of_getElem? hY)) s
     have hl:=lj a.x
     have hZ:(out.length+1)*17≤bC:=by unfold bC;omega
     rcases Bool.eq_false_or_eq_true a.ref with b1|b1
     ·simp only [b1,if_true]at h2
      have eO:=kI (l:=out++ [a.name]) (nx:=a.x.names) (n:=out.length+1) (by simp) (by simp;omega) (g:= .shared)
      simp only[List.map_append,List.map_cons,List.map_nil,encStr]at eO
      repeat' (first
 |simp only[go_sem,hD,hY,hZ,gA,b1,eO]
 |(with_reducible refine CU (wM _) ?_)
 |(with_reducible refine aE hQ ?_;exact bc))
      refine eQ 1 1 ?_ ?_ (IH (rest,k+1,out++ [a.name]++a.x.names,_) ⟨g2,h2,by simp;omega,by simp<;>omega⟩ (Nat.lt_succ_self _))
      ·(simp only[go_sem,hD,hY,hZ,gA,aI bO,List.map_append,List.map_cons,List.map_nil,encStr];try exact bX)
      ·(simp only[go_sem,hD,hY,hZ,gA,aI bO,List.map_append,List.map_cons,List.map_nil,encStr];try exact bX)
     ·simp only [b1,Bool.false_eq_true,if_false]at h2
      have eO:=kI (l:=out) (nx:=a.x.names) rfl (by omega) (g:= .shared)
      repeat' (first
 |simp only[go_sem,hD,hY,hZ,gA,b1,eO]
 |(with_reducible refine CU (wM _) ?_)
 |(with_reducible refine aE hQ ?_;exact bc))
      refine eQ 1 1 ?_ ?_ (IH (rest,k+1,out++a.x.names,_) ⟨g2,h2,by simp;omega,by simp<;>omega⟩ (Nat.lt_succ_self _))
      ·(simp only[go_sem,hD,hY,hZ,gA,aI bO];try exact bX)
      ·(simp only[go_sem,hD,hY,hZ,gA,aI bO];try exact bX)
theorem kY : ∀ (a b:List It) (n:Nat),It.fP n (a++b)=(It.fP n a && It.fP (n+a.length) b)
 | [],b,n=>by simp[It.fP]
 |i::a,b,n=>by
  simp only[List.cons_append,It.fP,kY a b (n+1),List.length_cons]
  have:n+1+a.length=n+(a.length+1):=by omega
  rw[this]
  split<;>simp
theorem ER (n:Nat) (i:It):It.fP n [i] = true↔i.s.id=((n+1:Nat):Int)∧i.deep≤12∧i.s.one=true:=by
 simp only[It.fP]
 split
 ·rename_i h
  simp only[Bool.or_eq_true,bne_iff_ne,ne_eq,decide_eq_true_eq,Bool.not_eq_true']at h
  refine⟨fun h=>(Bool.false_ne_true h).elim,fun⟨h1,h2,h3⟩=>?_⟩
  rcases h with (h|h)|h
  ·exact(h h1).elim
  ·omega
  ·rw[h]at h3;cases h3
 ·rename_i h
  simp only[Bool.or_eq_true,bne_iff_ne,ne_eq,decide_eq_true_eq,Bool.not_eq_true',not_or,Decidable.not_not,Bool.not_eq_false]at h
  exact⟨fun _=>⟨h.1.1,by omega,h.2⟩,fun _=>rfl⟩
mutual
theorem BA (deep cy:Int) (aR:Bool) : ∀ (s:Sm) (out:List It),∃ new,iT deep cy aR out s=out++(⟨s,deep,cy,aR⟩::new)
 | ⟨id,kind,labels,name,proc,x,has,args,a8,e⟩,out=>by
  simp only[iT]
  split
  ·obtain⟨n1,h1⟩:=qI (deep+1) id false a8 (out++ [⟨⟨id,kind,labels,name,proc,x,has,args,a8,e⟩,deep,cy,aR⟩])
   obtain⟨n2,h2⟩:=qI (deep+1) id true e (dR (deep+1) id false (out++ [⟨⟨id,kind,labels,name,proc,x,has,args,a8,e⟩,deep,cy,aR⟩]) a8)
   rw[h2,h1]
   exact⟨n1++n2,by simp⟩
  ·exact⟨[],rfl⟩
theorem qI (deep cy:Int) (aR:Bool) : ∀ (l:List Sm) (out:List It),∃ new,dR deep cy aR out l=out++new
 | [],out=>⟨[],by simp[dR]⟩
 | s::l,out=>by
  simp only[dR]
  split
  ·obtain⟨n1,h1⟩:=BA deep cy aR s out
   obtain⟨n2,h2⟩:=qI deep cy aR l (iT deep cy aR out s)
   rw[h2,h1]
   exact⟨⟨s,deep,cy,aR⟩::n1++n2,by simp⟩
  ·exact⟨[],by simp⟩
end
theorem GZ {nest:Int} {n:Nat} {s:Sm} (h:(Sm.pU nest n s).1=true) :
 n+1≤200∧s.id=((n+1:Nat):Int)∧s.one=true∧(Sm.gy (nest+1) (n+1) s.a8).1=true∧(Sm.gy (nest+1) (Sm.gy (nest+1) (n+1) s.a8).2 s.aR).1=true∧
 (Sm.pU nest n s).2=(Sm.gy (nest+1) (Sm.gy (nest+1) (n+1) s.a8).2 s.aR).2:=by
 rw[FZ]at h ⊢
 split at h
 ·cases h
 rename_i h1
 simp only[Bool.or_eq_true,bne_iff_ne,ne_eq,decide_eq_true_eq,Bool.not_eq_true',not_or,Decidable.not_not,Bool.not_eq_false]at h1
 split at h
 ·cases h
 rename_i h2
 have uz:(Sm.gy (nest+1) (n+1) s.a8).1=true:=by simpa using h2
 refine⟨by omega,h1.1.1.2, ?_,uz,h, ?_⟩
 ·rw[EP,h1.1.2,h1.2];rfl
 ·rw[if_neg (by simp only[Bool.or_eq_true,bne_iff_ne,ne_eq,decide_eq_true_eq,Bool.not_eq_true',not_or,Decidable.not_not,Bool.not_eq_false];exact h1),if_neg h2]
theorem tw {nest:Int} {n:Nat} {l:List Sm} (h:(Sm.gy nest n l).1=true):(l = []∨nest≤12)∧Sm.gy nest n l=Sm.fm nest n l:=by
 unfold Sm.gy gate at *
 split at h
 ·cases h
 ·rename_i hc
  rw[if_neg hc]
  refine⟨?_,rfl⟩
  simp only[Bool.and_eq_true,decide_eq_true_eq,not_and]at hc
  cases l with
  |nil=>exact .inl rfl
  |cons s l=>right;simp only[List.length_cons]at hc;omega
mutual
theorem RT : ∀ (s:Sm) (nest cy:Int) (aR:Bool) (n:Nat) (out:List It),nest≤12→out.length≤n→n≤200→(Sm.pU nest n s).1=true→
 ∃ new,iT nest cy aR out s=out++new∧It.fP n new=true∧n+new.length=(Sm.pU nest n s).2∧(Sm.pU nest n s).2≤200
 | ⟨id,kind,labels,name,proc,x,has,args,a8,e⟩,nest,cy,aR,n,out,RU,ho,hn,h=>by
  obtain⟨h1,h2,h3,h4,h5,h6⟩:=GZ h
  dsimp only at h2 h4 h5 h6
  rw[h6]
  obtain⟨g1,e1⟩:=tw h4
  rw[e1]at h4 h5 ⊢
  obtain⟨g2,e2⟩:=tw h5
  rw[e2]at h5 ⊢
  have pO:It.fP n [(⟨⟨id,kind,labels,name,proc,x,has,args,a8,e⟩,nest,cy,aR⟩:It)] = true:=(ER _ _).2 ⟨h2,RU,h3⟩
  obtain⟨n1,k1,k2,k3,k4⟩:=wN a8 (nest+1) id false (n+1) (out++ [⟨⟨id,kind,labels,name,proc,x,has,args,a8,e⟩,nest,cy,aR⟩]) g1 (by simp;omega) h1 h4
  obtain⟨n2,j1,j2,j3,j4⟩:=wN e (nest+1) id true _ (out++ [⟨⟨id,kind,labels,name,proc,x,has,args,a8,e⟩,nest,cy,aR⟩]++n1) g2 (by simp;omega) k4 h5
  simp only[iT]
  rw[if_pos (by simpa using RU),k1,j1]
  refine⟨⟨⟨id,kind,labels,name,proc,x,has,args,a8,e⟩,nest,cy,aR⟩::(n1++n2),by simp, ?_, ?_,j4⟩
  ·have:(⟨⟨id,kind,labels,name,proc,x,has,args,a8,e⟩,nest,cy,aR⟩:It)::(n1++n2) = [⟨⟨id,kind,labels,name,proc,x,has,args,a8,e⟩,nest,cy,aR⟩]++n1++n2:=by simp
   rw[this,kY,kY,pO,Bool.true_and]
   have e3:n+([(⟨⟨id,kind,labels,name,proc,x,has,args,a8,e⟩,nest,cy,aR⟩:It)]++n1).length=(Sm.fm (nest+1) (n+1) a8).2:=by simp;omega
   rw[e3,j2]
   have e4:n + [(⟨⟨id,kind,labels,name,proc,x,has,args,a8,e⟩,nest,cy,aR⟩:It)].length=n+1:=rfl
   rw[e4,k2];rfl
  ·simp only[List.length_cons,List.length_append];omega
theorem wN : ∀ (l:List Sm) (nest cy:Int) (aR:Bool) (n:Nat) (out:List It),(l = []∨nest≤12)→out.length≤n→n≤200→(Sm.fm nest n l).1=true→
 ∃ new,dR nest cy aR out l=out++new∧It.fP n new=true∧n+new.length=(Sm.fm nest n l).2∧(Sm.fm nest n l).2≤200
 | [],nest,cy,aR,n,out,RU,ho,hn,h=>⟨[],by simp[dR],rfl,by simp[Sm.fm],by simpa[Sm.fm]using hn⟩
 |s::l,nest,cy,aR,n,out,RU,ho,hn,h=>by
  have adk:nest≤12:=RU.resolve_left (by simp)
  simp only[Sm.fm]at h ⊢
  split at h
  ·cases h
  rename_i hc
  rw[if_neg hc]
  obtain⟨n1,k1,k2,k3,k4⟩:=RT s nest cy aR n out adk ho hn (by simpa using hc)
  obtain⟨n2,j1,j2,j3,j4⟩:=wN l nest cy aR _ (out++n1) (.inr adk) (by simp;omega) k4 h
  simp only[dR]
  rw[if_pos (by simp only[decide_eq_true_eq];omega),k1,j1]
  refine⟨n1++n2,by simp, ?_,by simp;omega,j4⟩
  rw[kY,k2,k3,j2];rfl
end
mutual
theorem RV : ∀ (s:Sm) (nest cy:Int) (aR:Bool) (n:Nat) (out new:List It),iT nest cy aR out s=out++new→It.fP n new=true→out.length≤n→n+new.length≤200→
 Sm.pU nest n s=(true,n+new.length)∧nest≤12
 | ⟨id,kind,labels,name,proc,x,has,args,a8,e⟩,nest,cy,aR,n,out,new,il,hm,ho,hn=>by
  obtain⟨n0,h0⟩:=BA nest cy aR ⟨id,kind,labels,name,proc,x,has,args,a8,e⟩ out
  have e0:new = ⟨⟨id,kind,labels,name,proc,x,has,args,a8,e⟩,nest,cy,aR⟩::n0:=List.append_cancel_left (il.symm.trans h0)
  subst e0
  have ahn:(⟨⟨id,kind,labels,name,proc,x,has,args,a8,e⟩,nest,cy,aR⟩:It)::n0 = [⟨⟨id,kind,labels,name,proc,x,has,args,a8,e⟩,nest,cy,aR⟩]++n0:=rfl
  rw[ahn,kY,Bool.and_eq_true]at hm
  obtain⟨nA,jD⟩:=hm
  obtain⟨c1,c2,c3⟩:=(ER _ _).1 nA
  dsimp only at c1 c2 c3
  simp only[List.length_cons]at hn ⊢
  have Vs:dR (nest+1) id true (dR (nest+1) id false (out++ [⟨⟨id,kind,labels,name,proc,x,has,args,a8,e⟩,nest,cy,aR⟩]) a8) e=out++([⟨⟨id,kind,labels,name,proc,x,has,args,a8,e⟩,nest,cy,aR⟩]++n0):=by
   simp only[iT]at il
   rw[if_pos (by simpa using c2)]at il
   exact il
  obtain⟨n1,g1⟩:=qI (nest+1) id false a8 (out++ [⟨⟨id,kind,labels,name,proc,x,has,args,a8,e⟩,nest,cy,aR⟩])
  obtain⟨n2,g2⟩:=qI (nest+1) id true e (dR (nest+1) id false (out++ [⟨⟨id,kind,labels,name,proc,x,has,args,a8,e⟩,nest,cy,aR⟩]) a8)
  have en:n0=n1++n2:=by
   rw[g2,g1]at Vs
   simp only[List.append_assoc,List.append_cancel_left_eq]at Vs
   exact Vs.symm
  subst en
  have Vt:It.fP (n+1) (n1++n2)=true:=jD
  rw[kY,Bool.and_eq_true]at Vt
  simp only[List.length_append]at hn ⊢
  obtain⟨r1,r2⟩:=wO a8 (nest+1) id false (n+1) _ n1 g1 Vt.1 (by simp;omega) (by omega)
  obtain⟨q1,q2⟩:=wO e (nest+1) id true (n+1+n1.length) _ n2 g2 Vt.2 (by rw[g1];simp;omega) (by omega)
  refine⟨?_,c2⟩
  have gg : ∀ {l:List Sm} {m:Nat} {r:Bool×Nat},Sm.fm (nest+1) m l=r→(l = []∨nest+1≤12)→Sm.gy (nest+1) m l=r:=by
   intro l m r h1 h2
   unfold Sm.gy gate
   rw[if_neg]
   ·exact h1
   ·simp only [Bool.and_eq_true,decide_eq_true_eq,not_and]
    rcases h2 with h2|h2
    ·subst h2;simp
    ·omega
  have t1:=gg r1 r2
  have t2:=gg q1 q2
  rw[FZ]
  dsimp only
  rw[t1]
  dsimp only
  rw[t2]
  rw[EP,Bool.and_eq_true]at c3
  rw[if_neg]
  ·simp;omega
  ·simp only [Bool.or_eq_true,bne_iff_ne,ne_eq,decide_eq_true_eq,Bool.not_eq_true',not_or,Decidable.not_not,Bool.not_eq_false]
   exact⟨⟨⟨by omega,c1⟩,c3.1⟩,c3.2⟩
theorem wO : ∀ (l:List Sm) (nest cy:Int) (aR:Bool) (n:Nat) (out new:List It),dR nest cy aR out l=out++new→It.fP n new=true→out.length≤n→n+new.length≤200→
 Sm.fm nest n l=(true,n+new.length)∧(l = []∨nest≤12)
 | [],nest,cy,aR,n,out,new,il,hm,ho,hn=>by
  simp only[dR]at il
  have:new = []:=by simpa using il
  subst this
  exact⟨by simp[Sm.fm], .inl rfl⟩
 | s::l,nest,cy,aR,n,out,new,il,hm,ho,hn=>by
  simp only[dR]at il
  rw[if_pos (by simp only[decide_eq_true_eq];omega)]at il
  obtain⟨n1,g1⟩:=BA nest cy aR s out
  obtain⟨n2,g2⟩:=qI nest cy aR l (iT nest cy aR out s)
  have en:new=(⟨s,nest,cy,aR⟩::n1)++n2:=by
   rw[g2,g1,List.append_assoc,List.append_cancel_left_eq]at il
   exact il.symm
  subst en
  rw[kY,Bool.and_eq_true]at hm
  rw[List.length_append]at hn ⊢
  obtain⟨r1,r2⟩:=RV s nest cy aR n out _ g1 hm.1 ho (by omega)
  obtain⟨q1,q2⟩:=wO l nest cy aR (n+(⟨s,nest,cy,aR⟩::n1:List It).length) _ n2 g2 hm.2 (by rw[g1,List.length_append];omega) (by omega)
  refine⟨?_, .inr r2⟩
  simp only[Sm.fm,r1,Bool.not_true,Bool.false_eq_true,↓reduceIte,q1]
  congr 1;omega
end
theorem BB : ∀ (l:List Pc) (out:List It),out.length≤200→(Pc.fm out.length l=true↔Pc.n6 l=true∧∃ new,allM out l=out++new∧(out++new).length≤200∧It.fP out.length new=true)
 | [],out,ho=>by simp[Pc.fm,Pc.n6,allM,It.fP];exact ho
 | f::l,out,ho=>by
  have pV : ∀ (l:List Pc) (out:List It),∃ new,allM out l=out++new:=by
   intro l
   induction l with
   |nil=>intro out;exact⟨[],by simp[allM]⟩
   | cons f l ih=>
    intro out
    simp only[allM]
    split
    ·exact⟨_,rfl⟩
    ·obtain⟨n1,h1⟩:=ih (out++f.flat)
     exact⟨f.flat++n1,by rw[h1,List.append_assoc]⟩
  simp only[Pc.fm,Pc.n6]
  have aho:(decide ((f.params.length:Int) > 8) ||decide ((f.vars.length:Int) > 16) || !(isName f.name) || !(fb f.vars) || !(fb f.fin))=(!(isName f.name) ||decide ((f.params.length:Int) > 8) ||decide ((f.vars.length:Int) > 16) || !(fb f.vars) || !(fb f.fin)):=by
   cases isName f.name<;>simp
  rw[aho]
  split
  ·simp
  split
  ·simp
  have hg:Sm.gy 1 out.length f.body=Sm.fm 1 out.length f.body:=by unfold Sm.gy gate;rw[if_neg (by simp)]
  rw[hg]
  constructor
  ·intro h
   split at h
   ·cases h
   rename_i hc
   obtain⟨n1,k1,k2,k3,k4⟩:=wN f.body 1 0 false out.length [] (.inr (by omega)) (by simp) ho (by simpa using hc)
   have il:f.flat=n1:=by unfold Pc.flat;rw[k1];rfl
   rw[← k3, ← List.length_append]at h
   obtain⟨hh,n2,j1,j2,j3⟩:=(BB l (out++n1) (by rw[List.length_append];omega)).1 h
   refine⟨hh,n1++n2, ?_,by simpa using j2, ?_⟩
   ·simp only [allM,il]
    rw[if_neg (by simp only[List.length_append,decide_eq_true_eq];omega),j1,List.append_assoc]
   ·rw[kY,k2, ← List.length_append,j3];rfl
  ·rintro⟨hh,new,j1,j2,j3⟩
   simp only[allM]at j1
   split at j1
   ·rename_i hc
    have:new=f.flat:=(List.append_cancel_left j1).symm
    subst this
    simp only[decide_eq_true_eq]at hc
    omega
   rename_i hc
   simp only[decide_eq_true_eq]at hc
   obtain⟨n2,g2⟩:=pV l (out++f.flat)
   have en:new=f.flat++n2:=by
    rw[g2,List.append_assoc]at j1
    exact(List.append_cancel_left j1).symm
   subst en
   rw[kY,Bool.and_eq_true]at j3
   rw[List.length_append,List.length_append]at j2
   obtain⟨r1,_⟩:=wO f.body 1 0 false out.length [] f.flat (by unfold Pc.flat;rfl) j3.1 (by simp) (by omega)
   rw[r1]
   simp only[Bool.not_true,Bool.false_eq_true,↓reduceIte]
   rw[← List.length_append]
   exact(BB l (out++f.flat) (by rw[List.length_append];omega)).2 ⟨hh,n2,g2,by simp;omega,by rw[List.length_append];exact j3.2⟩
theorem Cj (p:Pg):p.F1=p.may:=by
 have h:=BB p.procs [] (by simp)
 unfold Pg.F1 Pg.may
 split
 ·rfl
 ·have e:Pc.fm 0 p.procs=(if !(Pc.n6 p.procs)then false else if decide ((p.all.length:Int) > 200)then false else It.fP 0 p.all):=by
   rw[Bool.eq_iff_iff]
   have h':Pc.fm 0 p.procs=true↔_:=h
   rw[h']
   have ha:p.all=allM [] p.procs:=rfl
   constructor
   ·rintro⟨h1,new,h2,h3,h4⟩
    rw[ha,h2,h1]
    simp only[List.nil_append]at h3 ⊢
    simp only[Bool.not_true,Bool.false_eq_true,↓reduceIte]
    rw[if_neg (by simp only[decide_eq_true_eq];omega)]
    exact h4
   ·intro h1
    cases hh:Pc.n6 p.procs
    ·rw[hh]at h1;simp at h1
    ·rw [hh]at h1
     simp only[Bool.not_true,Bool.false_eq_true,↓reduceIte]at h1
     split at h1
     ·cases h1
     ·rename_i hc
      simp only[decide_eq_true_eq]at hc
      exact⟨rfl,p.all,by rw[ha];rfl,by simp;omega,h1⟩
  exact e
def anP (x:aG):List aG→Bool
 | []=>false
 |s::l=>if x==s then true else anP x l
def qd (pre:List aG):List aG→Bool
 | []=>false
 |s::l=>if fx pre s then true else qd (pre++ [s]) l
def fF (l:List aG):Bool:=qd [] l
theorem RW {l:List aG} {k:Nat} {a:aG} (h:l[k]? = some a):l.take (k+1)=l.take k++ [a]:=by rw[List.take_add_one,h];rfl
theorem DF {l:List aG} (hl:l.length<4611686018427387904) (g:Tag) (s:St):aF Tryz.prog oi [.slice g 1 (l.map encStr)] s (.bool (fF l)) s:=by
 refine aF.XU (d':= .slice .shared 1 (l.map encStr)) ?_ (Wk.shared _ _ _)
 refine aF.pure ?_ (by simp[D.bK,D.ok,Tag.ok,fa]) rfl s
 generalize h:fF l=p
 simp only[fF]at h
 unfold S0
 refine aF.go EB rfl fun B Q hB hQ=>?_
 have⟨hD,hY,hZ,gA⟩:=bR
 repeat' (first
 |simp only[go_sem,hD,hY,hZ,gA]
 |(with_reducible first|refine bl fun hc=>?_|refine bm fun hc=>?_|refine bn (fun hc=>?_) fun hc=>?_)<;>(try simp only[hc,bs,↓reduceIte]at h)<;>try simp only[hc]
 |(with_reducible refine aE hQ ?_;exact fO))
 refine ff 0 0 (bp.ind (ι:=List aG×Nat) (fun i=>l.drop i.2=i.1∧qd (l.take i.2) i.1=p) (fun i=>i.1.length)
  (fun i=> [(0, .slice .shared 1 (l.map encStr)),(5, .slice .shared 1 (l.map encStr)),(6, .int .i64 (l.length:Int)),(7, .int .i64 (i.2:Int))]) (fun i=>⟨[],[]⟩) ?_ (l,0) ⟨rfl,h⟩)
 rintro⟨rest,k⟩ ⟨h1,h⟩ IH
 dsimp only at h1 h
 cases rest with
 |nil=>
  have hD:=drop_nil h1
  simp only[qd]at h
  repeat' (first
 |simp only[go_sem,hD,hY,hZ,gA]
 |(with_reducible first|refine bl fun hc=>?_|refine bm fun hc=>?_|refine bn (fun hc=>?_) fun hc=>?_)<;>(try simp only[hc,bs,↓reduceIte]at h)<;>try simp only[hc]
 |(with_reducible refine aE hQ ?_;exact fO))
 |cons a rest=>
  obtain⟨hY,g2,hD,g4⟩:=drop_cons h1
  have bO:k<4611686018427387904:=by omega
  simp only[qd]at h
  have hc:=jC (l:=l.take k) (by rw[List.length_take];omega) a
  have e1:List.drop 0 (List.take k (l.map encStr))=(l.take k).map encStr:=by simp[List.map_take]
  have c1:((0:Int)≤(k:Int))=True:=by simp
  have c2:((k:Int)≤(l.length:Int))=True:=by simp only[eq_iff_iff,iff_true];omega
  have e2:List.take k (l.map encStr)=(l.take k).map encStr:=by simp[List.map_take]
  repeat' (first
 |simp only[go_sem,hD,hY,hZ,gA,e1,e2,c1,c2,or_true,true_and,and_self,ite_self,Int.toNat_natCast,List.drop_zero]
 |(with_reducible refine CU (hc _ _) ?_)
 |(with_reducible first|refine bl fun hc=>?_|refine bm fun hc=>?_|refine bn (fun hc=>?_) fun hc=>?_)<;>(try simp only[hc,bs,↓reduceIte]at h)<;>try simp only[hc]
 |(with_reducible refine aE hQ ?_;(try cases h);simp only[aS,aV,bF,bG,go_sem,hD,hY,hZ,gA,e1,e2,c1,c2,or_true,true_and,and_self,ite_self,Int.toNat_natCast,List.drop_zero];try exact cq))
  refine eQ 0 0 ?_ ?_ (IH (rest,k+1) ⟨g2,by dsimp only;rw[RW (by assumption)];exact h⟩ (Nat.lt_succ_self _))
  ·(simp only[go_sem,hD,hY,hZ,gA,aI bO];try exact bX)
  ·(simp only[go_sem,hD,hY,hZ,gA,aI bO];try exact bX)
end Go.Abs
