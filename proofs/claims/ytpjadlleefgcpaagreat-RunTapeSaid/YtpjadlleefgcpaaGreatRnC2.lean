/-
  What is proved here: part 2 of the road to the claim (Codes1, Have1, Codes2, Have2, Codes3, Codes4, Have4, Codes5, Have5, Have3, MirLex, MirMay, Prs, Lex1, Lex2, RefLex1, Prs2, Ref1, Ref2, RefMay2, Flat1, Flat2, Flat3, Sl1, MirFlat2, Sl2, TMay1, TMay2, RefMay3, RefMay4, TMay3, TMay4, MayFine, MayEq, Nm1, Nm2, Nm3, MayEq2, Sc1).
  No conditions.
-/
import Derived.Test.YtpjadlleefgcpaaGreatRnC1
import Derived.Test.YtpjadlleefgcpaaGreatProg
import Derived.KernelRfl

set_option linter.unusedSimpArgs false
set_option linter.unusedVariables false
namespace Go.Abs
abbrev Q90:AC:= .seq (.run [.o 1 (.box bu),(.o 2 (.mv (.k (.val (.complex .f64 0 0)))))]) (.seq (.run [.o 3 (.aq br 1), .o 4 (.load cz false 1), .o 5 (.qP (.ofInt .f64) ff ff), .o 6 (.aq br 2), .o 7 (.load dC false 1), .o 8 (.qP (.ofInt .f64) cZ cZ), .o 9 (.qP .Ii cm db), .m 2 dg]) .ret)
abbrev Q92:AC:= .run [(.o 3 (.du [(.str [])] 1 1 [(0,(.k (.str [118])))])), .c 4 rp [(.k (.int .i64 2))],(.o 5 (.build [(.int .i64 0),(.int .i64 0),(.slice .full 0 []),(.str []),(.str []),(.int .i64 0),(.int .i64 0),(.str []),(.slice .full 0 []),(.bool false),(.slice .full 0 []),(.slice .full 0 []),(.slice .full 0 [])] [(0,(1,(.k (.int .i64 1)))),(1,(1,(.k (.int .i64 1)))),(3,(1,(.k (.str [118])))),(5,(4,ff))])), .c 6 rp [(.k (.int .i64 3))], .o 7 (.build [(.bool false),(.str []),(.int .i64 0),(.int .i64 0),(.str []),(.slice .full 0 [])] [(2,(4,dC))]),(.o 8 (.build [(.bool false),(.str []),(.int .i64 0),(.int .i64 0),(.str []),(.slice .full 0 [])] [(0,(1,(.k (.bool true)))),(1,(1,(.k (.str [118]))))])), .o 9 (.du [(.bool false),(.str []),(.int .i64 0),(.int .i64 0),(.str []),(.slice .full 0 [])] 6 2 [(0,cZ),(1,db)]),(.o 10 (.build [(.int .i64 0),(.int .i64 0),(.slice .full 0 []),(.str []),(.str []),(.int .i64 0),(.int .i64 0),(.str []),(.slice .full 0 []),(.bool false),(.slice .full 0 []),(.slice .full 0 []),(.slice .full 0 [])] [(0,(1,(.k (.int .i64 2)))),(1,(1,(.k (.int .i64 4)))),(3,(1,(.k (.str [103])))),(4,(1,(.k (.str [112])))),(10,(1,dg))])),(.c 11 lf [(.k (.str [118]))]),(.o 12 (.build [(.int .i64 0),(.int .i64 0),(.slice .full 0 []),(.str []),(.str []),(.int .i64 0),(.int .i64 0),(.str []),(.slice .full 0 []),(.bool false),(.slice .full 0 []),(.slice .full 0 []),(.slice .full 0 [])] [(0,(1,(.k (.int .i64 3)))),(1,(1,(.k (.int .i64 3)))),(5,(4,cJ))])),(.c 13 lf [(.k (.str [103]))]),(.o 14 (.build [(.int .i64 0),(.int .i64 0),(.slice .full 0 []),(.str []),(.str []),(.int .i64 0),(.int .i64 0),(.str []),(.slice .full 0 []),(.bool false),(.slice .full 0 []),(.slice .full 0 []),(.slice .full 0 [])] [(0,(1,(.k (.int .i64 4)))),(1,(1,(.k (.int .i64 3)))),(5,(4,c6))])), .o 15 (.du [(.int .i64 0),(.int .i64 0),(.slice .full 0 []),(.str []),(.str []),(.int .i64 0),(.int .i64 0),(.str []),(.slice .full 0 []),(.bool false),(.slice .full 0 []),(.slice .full 0 []),(.slice .full 0 [])] 13 4 [(0,cm),(1,cb),(2,cU),(3,cO)]),(.o 16 (.build [(.str []),(.slice .full 0 []),(.slice .full 0 []),(.slice .full 0 []),(.slice .full 0 [])] [(0,(1,(.k (.str [109,97,105,110])))),(2,(1,cz)),(3,(1,dD))])), .o 1 (.alloc [(.str []),(.slice .full 0 []),(.slice .full 0 []),(.slice .full 0 []),(.slice .full 0 [])]), .op none none (.store br dj 5)]
abbrev Q93:AC:= .run [(.o 17 (.build [(.str []),(.bool false)] [(0,(1,(.k (.str [120]))))])),(.o 18 (.build [(.str []),(.bool false)] [(0,(1,(.k (.str [121])))),(1,(1,(.k (.bool true))))])), .o 19 (.du [(.str []),(.bool false)] 2 2 [(0,dG),(1,dE)]),(.o 20 (.du [(.str [])] 1 1 [(0,(.k (.str [101])))])),(.c 21 lf [(.k (.str [121]))]),(.c 22 lf [(.k (.str [120]))]), .c 23 uP [(.k (.int .i64 8)),ep,eH],(.o 24 (.build [(.int .i64 0),(.int .i64 0),(.slice .full 0 []),(.str []),(.str []),(.int .i64 0),(.int .i64 0),(.str []),(.slice .full 0 []),(.bool false),(.slice .full 0 []),(.slice .full 0 []),(.slice .full 0 [])] [(0,(1,(.k (.int .i64 5)))),(1,(1,(.k (.int .i64 1)))),(3,(1,(.k (.str [121])))),(5,(4,eI))])),(.c 25 lf [(.k (.str [121]))]), .c 26 rp [(.k (.int .i64 9))], .c 27 uP [(.k (.int .i64 12)),eU,fp],(.o 28 (.build [(.int .i64 0),(.int .i64 0),(.slice .full 0 []),(.str []),(.str []),(.int .i64 0),(.int .i64 0),(.str []),(.slice .full 0 []),(.bool false),(.slice .full 0 []),(.slice .full 0 []),(.slice .full 0 [])] [(0,(1,(.k (.int .i64 7)))),(1,(1,(.k (.int .i64 10)))),(3,(1,(.k (.str [101]))))])), .o 29 (.du [(.int .i64 0),(.int .i64 0),(.slice .full 0 []),(.str []),(.str []),(.int .i64 0),(.int .i64 0),(.str []),(.slice .full 0 []),(.bool false),(.slice .full 0 []),(.slice .full 0 []),(.slice .full 0 [])] 13 1 [(0,fZ)]),(.o 30 (.build [(.int .i64 0),(.int .i64 0),(.slice .full 0 []),(.str []),(.str []),(.int .i64 0),(.int .i64 0),(.str []),(.slice .full 0 []),(.bool false),(.slice .full 0 []),(.slice .full 0 []),(.slice .full 0 [])] [(0,(1,(.k (.int .i64 6)))),(1,(1,(.k (.int .i64 5)))),(5,(4,fv)),(11,(1,gb))])),(.c 31 lf [(.k (.str [121]))]),(.o 32 (.build [(.int .i64 0),(.int .i64 0),(.slice .full 0 []),(.str []),(.str []),(.int .i64 0),(.int .i64 0),(.str []),(.slice .full 0 []),(.bool false),(.slice .full 0 []),(.slice .full 0 []),(.slice .full 0 [])] [(0,(1,(.k (.int .i64 8)))),(1,(1,(.k (.int .i64 9)))),(9,(1,(.k (.bool true)))),(5,(4,gu))])), .o 33 (.du [(.int .i64 0),(.int .i64 0),(.slice .full 0 []),(.str []),(.str []),(.int .i64 0),(.int .i64 0),(.str []),(.slice .full 0 []),(.bool false),(.slice .full 0 []),(.slice .full 0 []),(.slice .full 0 [])] 13 3 [(0,eR),(1,gy),(2,gQ)]),(.o 34 (.build [(.str []),(.slice .full 0 []),(.slice .full 0 []),(.slice .full 0 []),(.slice .full 0 [])] [(0,(1,(.k (.str [112])))),(1,(1,dY)),(4,(1,ez)),(3,(1,gG))])), .o 2 (.alloc [(.str []),(.slice .full 0 []),(.slice .full 0 []),(.slice .full 0 []),(.slice .full 0 [])]), .op none none (.store dw iD 5)]
abbrev Q95:AC:= .seq (.run [(.o 35 (.du [(.str [])] 1 1 [(0,(.k (.str [103])))])), .o 36 (.load br true 5), .o 37 (.load dw true 5), .o 38 (.du [(.str []),(.slice .full 0 []),(.slice .full 0 []),(.slice .full 0 []),(.slice .full 0 [])] 5 2 [(0,ix),(1,je)]), .o 39 (.build [(.slice .full 0 []),(.slice .full 0 [])] [(0,(1,gR)),(1,(1,jO))]), .op none none (.store bu jA 2)]) .ret
abbrev Q98:AC:= .seq (.run [.o 0 (.alloc [(.slice .full 0 []),(.slice .full 0 [])])]) (.seq Q92 (.seq Q93 Q95))
abbrev Q9I:AC:= .seq (.seq (.run [.m 6 cm, .m 7 bu, .o 8 (.len cZ), .o 9 (.bin .lss dC db), .m 10 dg, .g 11 10 true (.mv br), .g 12 10 true (.bin .leq cJ (.k (.int .i64 20000))), .o 13 (.pick cb cU (.k (.bool false)))]) (.cond c6 .skip (.exit 0))) (.seq (.block 1 (.run [.m 16 bu, .m 17 cm, .o 18 (.cf dj dG 1), .o 19 (.load dE false 1), .m 20 br, .c 21 gp [dY,ez], .m 1 ep])) (.run [.m 14 cm, .o 15 (.bin .add cO (.k (.int .i64 1))), .m 5 dD]))
abbrev Q9O:AC:= .seq (.seq (.run [.o 5 (.mv (.k (.int .i64 0)))]) (.block 0 (.loop Q9I))) (.seq (.run [.m 22 br, .m 4 eH]) .ret)
abbrev Q9P:AC:= .seq (.run [.o 4 (.mv (.k (.int .i64 0)))]) Q9O
abbrev Q9U:AC:= .cond c6 (.seq (.run [.o 4 (.mv (.k (.int .i64 20001)))]) .ret) .skip
abbrev Q9Y:AC:= .seq (.seq (.run [.m 5 br, .o 6 (.bin .gtr cm (.k (.int .i64 20000))), .m 7 dC, .g 8 7 false (.mv bu), .g 9 7 false (.va db), .g 10 7 false (.mv br), .g 11 7 false (.bin .sub (.k (.int .i64 20000)) cb), .g 12 7 false (.bin .geq dg cJ), .o 13 (.pick cZ (.k (.bool true)) cU)]) Q9U) (.seq (.run [.m 14 br, .o 15 (.bin .add cO (.k (.int .i64 1))), .m 16 bu, .o 17 (.va dj), .o 18 (.bin .add dD dG), .m 4 dE]) .ret)
abbrev Q9Z:AC:= .seq (.run [.o 4 (.mv (.k (.int .i64 0)))]) Q9Y
abbrev QA6:AC:= .par [.o 22 (.aq dC 4), .o 23 (.load eH false 1), .o 24 (.aq dC 3), .o 25 (.load eR false 1), .o 26 (.aq dC 2), .o 27 (.load fp false 1), .o 28 (.aq dC 5), .o 29 (.load fZ true 4), .m 30 br, .c 31 jZ [gb,gy], .c 32 jH [fv,gu], .c 33 gp [eU,gQ], .c 34 gp [eI,gG], .m 1 iD] [(6,0),(7,0),(8,0),(9,0),(4,0),(5,1),(10,0),(2,0),(3,2),(11,0),(0,0),(1,3),(12,0),(13,0)]
abbrev QAB:AC:= .par [.o 46 (.aq dC 10), .o 47 (.load lK false 1), .m 48 cZ, .o 49 (.cf lU kU 6), .o 50 (.aq kV 1), .o 51 (.load lL false 1), .o 52 (.aq dC 10), .o 53 (.load kH false 1), .m 54 cZ, .o 55 (.cf kW lM 6), .o 56 (.aq lN 2), .o 57 (.load nq true 4), .m 58 br, .c 59 jZ [oE,nW], .c 60 gp [kG,lV], .m 1 pb] [(6,0),(7,0),(8,0),(9,0),(10,0),(11,0),(12,0),(13,0),(0,0),(1,1),(2,0),(3,0),(4,0),(5,1),(14,0),(15,0)]
abbrev QAF:AC:= .seq (.seq (.run [.m 35 cZ, .o 36 (.aq dC 10), .o 37 (.load ix false 1), .o 38 (.len je), .o 39 (.bin .lss gR jO), .m 40 jA, .g 41 40 true (.mv br), .g 42 40 true (.bin .leq jP (.k (.int .i64 20000))), .o 43 (.pick j8 kE (.k (.bool false)))]) (.cond kr .skip (.exit 2))) (.seq (.block 3 QAB) (.run [.m 44 cZ, .o 45 (.bin .add kF (.k (.int .i64 1))), .m 7 lJ]))
abbrev QAJ:AC:= .par [.o 61 (.aq dC 12), .o 62 (.load qx false 1), .o 63 (.aq dC 11), .o 64 (.load qy false 1), .m 65 br, .c 66 kK [qz,ud], .c 67 kK [pT,vD], .m 1 vE] [(2,0),(3,0),(4,0),(5,0),(0,0),(1,1),(6,0),(7,0)]
abbrev QAK:AC:= .seq (.seq (.run [.o 7 (.mv (.k (.int .i64 0)))]) (.block 2 (.loop QAF))) QAJ
abbrev QAP:AC:= .seq (.block 1 (.seq (.run [.m 18 bu, .m 19 cm, .o 20 (.cf dE dY 13), .o 21 (.load ez true 13), .o 6 (.alloc [(.int .i64 0),(.int .i64 0),(.slice .full 0 []),(.str []),(.str []),(.int .i64 0),(.int .i64 0),(.str []),(.slice .full 0 []),(.bool false),(.slice .full 0 []),(.slice .full 0 []),(.slice .full 0 [])]), .op none none (.store dC ep 13)]) (.seq QA6 QAK))) (.run [.m 16 cm, .o 17 (.bin .add dj (.k (.int .i64 1))), .m 5 dG])
abbrev QAQ:AC:= .seq (.seq (.run [.m 8 cm, .m 9 bu, .o 10 (.len dg), .o 11 (.bin .lss db cb), .m 12 cJ, .g 13 12 true (.mv br), .g 14 12 true (.bin .leq c6 (.k (.int .i64 20000))), .o 15 (.pick cU cO (.k (.bool false)))]) (.cond dD .skip (.exit 0))) QAP
abbrev QAW:AC:= .seq (.seq (.run [.o 5 (.mv (.k (.int .i64 0)))]) (.block 0 (.loop QAQ))) (.seq (.run [.m 68 br, .m 4 vF]) .ret)
abbrev QAX:AC:= .seq (.run [.o 4 (.mv (.k (.int .i64 0)))]) QAW
abbrev QB4:AC:= .par [.m 17 cz, .m 18 cz, .o 19 (.bW dE), .o 20 (.aq dY 3), .o 21 (.load ez false 1), .m 22 cz, .o 23 (.bW eH), .o 24 (.aq eI 2), .o 25 (.load eR false 1), .o 26 (.len eU), .o 27 (.bin .add fp (.k (.int .i64 1))), .o 28 (.du [(.int .i64 0)] 1 1 [(0,fv)]), .o 29 (.app 1 8 ep fZ), .o 30 (.bW dG), .o 31 (.aq gy 3), .op none none (.store gu gb 1)] [(1,0),(2,0),(3,0),(4,0),(5,0),(6,0),(7,0),(8,0),(9,0),(10,0),(11,0),(12,0),(0,0),(13,0),(14,0),(15,0)]
abbrev QB6:AC:= .par [.m 38 cz, .m 39 cz, .o 40 (.bW jA), .o 41 (.aq j8 4), .o 42 (.load jP false 1), .m 43 cz, .o 44 (.bW kr), .o 45 (.aq kF 2), .o 46 (.load lJ false 1), .o 47 (.len lK), .o 48 (.bin .add lU (.k (.int .i64 1))), .o 49 (.du [(.int .i64 0)] 1 1 [(0,kU)]), .o 50 (.app 1 8 kE kV), .o 51 (.bW jO), .o 52 (.aq kG 4), .op none none (.store kH lL 1)] [(1,0),(2,0),(3,0),(4,0),(5,0),(6,0),(7,0),(8,0),(9,0),(10,0),(11,0),(12,0),(0,0),(13,0),(14,0),(15,0)]
abbrev QB7:AC:= .seq (.run [.m 32 cz, .o 33 (.aq cm 3), .o 34 (.load gG false 1), .m 35 ff,(.o 36 (.build [(.int .i64 0),(.int .i64 0),(.slice .full 0 []),(.str []),(.str []),(.int .i64 0),(.int .i64 0),(.str []),(.slice .full 0 []),(.bool false),(.slice .full 0 []),(.slice .full 0 []),(.slice .full 0 []),(.int .i64 0),(.int .i64 0),(.int .i64 0),(.int .i64 0)] [(13,(1,gR)),(15,(1,(.k (.int .i64 (-1)))))])), .c 37 j7 [gQ,iD,ix]]) QB6
abbrev QBC:AC:= .seq (.block 1 (.seq (.run [.m 14 cU, .o 15 (.cf cb cU 5), .o 16 (.load dD true 5), .o 5 (.alloc [(.str []),(.slice .full 0 []),(.slice .full 0 []),(.slice .full 0 []),(.slice .full 0 [])]), .m 4 cO, .op none none (.store cm dj 5)]) (.seq QB4 QB7))) (.run [.o 53 (.bin .add cU (.k (.int .i64 1))), .m 12 kW])
abbrev QBG:AC:= .block 0 (.loop (.seq (.run [.o 13 (.bin .lss cU cJ)]) (.seq (.cond c6 .skip (.exit 0)) QBC)))
abbrev QBK:AC:= .seq (.seq (.run [.o 9 (.aq br 1), .o 10 (.load dg false 1), .o 11 (.len cb), .o 12 (.mv (.k (.int .i64 0)))]) QBG) (.seq (.run [.m 54 cz, .m 2 lM]) .ret)
abbrev QBM:AC:= .seq (.run [.o 1 (.box bu), .o 2 (.mv (.k .dR))]) (.seq (.run [.o 6 (.load br true 2), .o 7 (.build [(.slice .full 0 []),(.slice .full 0 []),(.slice .full 0 []),(.slice .full 0 []),(.slice .full 0 [])] [(0,(2,dC))]), .o 8 (.box cZ), .m 3 db]) QBK)
abbrev QBP:AC:= .par [.m 22 br, .m 23 bu, .o 24 (.bW eI), .o 25 (.aq eR 0), .o 26 (.load eU false 1), .o 27 (.bW fp), .o 28 (.aq fv 0), .o 29 (.load fZ true 2), .o 30 (.aq dg 0), .o 31 (.load gy false 1), .c 32 vx [gb,gu], .m 33 cz, .o 34 (.build [(.int .i64 0),(.slice .full 0 []),(.slice .full 0 []),(.int .i64 0)] [(0,(1,eH)),(1,(1,gQ)),(3,(1,gG))]), .o 35 (.box iD), .m 10 gR] [(1,0),(2,0),(3,0),(4,0),(5,0),(6,0),(7,0),(8,0),(9,0),(10,0),(0,0),(11,0),(12,0),(13,0),(14,0)]
abbrev QBQ:AC:= .par [.m 36 cb, .m 37 cb, .o 38 (.bW je), .o 39 (.aq jO 2), .o 40 (.load jA false 1), .m 41 bu, .o 42 (.bW jP), .o 43 (.aq kE 1), .o 44 (.load kr false 1), .o 45 (.app 1 8 j8 kF), .m 46 dw, .o 47 (.app 1 8 lJ lK), .o 48 (.bW ix), .o 49 (.aq kU 2), .op none none (.store kV lU 1)] [(1,0),(2,0),(3,0),(4,0),(5,0),(6,0),(7,0),(8,0),(9,0),(10,0),(11,0),(0,0),(12,0),(13,0),(14,0)]
abbrev QBY:AC:= .seq (.cond lM .skip (.exit 0)) (.seq (.block 1 (.run [.m 55 cb, .m 56 cb, .o 57 (.bW nq), .o 58 (.aq oE 2), .o 59 (.load nW false 1), .o 60 (.alloc [(.int .i64 0)]), .o 61 (.du [.dR] 1 1 [(0,pb)]), .o 62 (.app 1 8 lV qx), .o 63 (.bW lN), .o 64 (.aq qy 2), .op none none (.store qz pT 1)])) (.run [.o 65 (.bin .add kW (.k (.int .i64 1))), .m 53 ud]))
abbrev QBZ:AC:= .seq (.run [.o 54 (.bin .lss kW kH)]) QBY
abbrev QC6:AC:= .seq (.run [.m 66 bu, .m 67 bu, .o 68 (.bW vE), .o 69 (.aq vF 4), .o 70 (.load zm false 1), .m 71 cb, .o 72 (.du [.dR] 1 1 [(0,Dw)]), .o 73 (.app 1 8 zn Bq), .o 74 (.bW vD), .o 75 (.aq Dx 4), .op none none (.store Dy Br 1)]) (.seq (.run [.m 76 bu, .o 77 (.bW Bs), .o 78 (.aq Dz 0), .o 79 (.load zo false 1), .m 80 br, .c 81 o7 [FK,FL], .m 8 FM]) .ret)
abbrev QC7:AC:= .seq (.seq (.run [.o 50 (.aq dg 2), .o 51 (.load lL false 1), .o 52 (.len kG), .o 53 (.mv (.k (.int .i64 0)))]) (.block 0 (.loop QBZ))) QC6
abbrev QCB:AC:= .seq (.run [.o 8 (.mv (.k (.int .i64 0)))]) (.seq (.run [.m 11 bu, .o 12 (.bW cJ), .o 13 (.aq cU 0), .o 14 (.load c6 false 1), .o 15 (.bW cO), .o 16 (.aq dD 0), .o 17 (.aq dj 1), .o 18 (.load dG false 1), .m 19 br, .o 20 (.cf dE dY 5), .o 21 (.load ez true 5), .o 9 (.alloc [(.str []),(.slice .full 0 []),(.slice .full 0 []),(.slice .full 0 []),(.slice .full 0 [])]), .op none none (.store dg ep 5)]) (.seq QBP (.seq QBQ QC7)))
abbrev QCF:AC:= .seq (.run [.o 3 (.box br), .o 4 (.mv (.k (.int .i64 0)))]) (.seq (.run [.m 5 bu, .o 6 (.bW cm), .o 7 (.aq dC 0), .o 8 (.aq cZ 1), .o 9 (.load db false 1), .o 10 (.uK 76 [cz]), .c 11 gh [dg,cb], .m 4 cJ]) .ret)
abbrev QCQ:AC:= .seq (.run [.o 18 (.aq cZ 0), .o 19 (.load dE false 1)]) (.cond dY (.seq (.run [.m 20 cm, .m 21 bu, .o 22 (.aq cZ 1), .o 23 (.load eH false 1), .c 24 iL [ep,eI], .o 25 (.du [.dR] 1 1 [(0,eR)]), .o 26 (.app 1 8 ez eU), .m 5 fp]) (.exit 1)) .skip)
abbrev QCU:AC:= .seq (.run [(.o 4 (.mv (.k (.int .i64 (-1)))))]) .ret
abbrev QD1:AC:= .seq (.run [.m 28 bu, .o 29 (.aq cZ 2), .o 30 (.load gb true 4), .c 31 jV [fZ,gy], .m 27 gu, .o 32 (.ext fv 0), .o 33 (.ext fv 1), .m 8 gQ, .m 9 gG]) (.seq (.seq (.run [.m 34 dg, .o 35 (.un .not iD)]) (.cond gR QCU .skip)) (.seq (.run [.m 36 db, .o 10 (.alloc [(.int .i64 0)]), .op none none (.store cb ix 1)]) (.run [.m 37 cm, .o 38 (.du [.dR] 1 1 [(0,cb)]), .o 39 (.app 1 8 je jO), .m 5 jA])))
abbrev QD6:AC:= .seq (.block 1 (.seq (.run [.o 16 (.cf cU cO 6), .o 17 (.load dj true 6), .o 7 (.alloc [(.bool false),(.str []),(.int .i64 0),(.int .i64 0),(.str []),(.slice .full 0 [])]), .op none none (.store cZ dG 6)]) (.seq QCQ QD1))) (.run [.o 40 (.bin .add cO (.k (.int .i64 1))), .m 14 j8])
abbrev QD8:AC:= .seq (.run [.o 15 (.bin .lss cO c6)]) (.seq (.cond dD .skip (.exit 0)) QD6)
abbrev QDF:AC:= .seq (.run [(.o 4 (.mv (.k (.int .i64 (-1)))))]) .ret
abbrev QDH:AC:= .cond lK (.seq (.run [.m 47 bu, .o 48 (.bW lU), .o 49 (.aq kU 6), .o 50 (.aq kV 0), .op none none (.store lL (.k (.int .i64 5)) 1)]) QDF) .skip
abbrev QDK:AC:= .par [.m 55 bu, .m 56 bu, .o 57 (.bW nq), .o 58 (.aq oE 0), .o 59 (.load nW false 1), .o 60 (.aq cz 4), .o 61 (.load pb false 1), .c 62 iC [lV,qx], .m 63 cm, .o 64 (.aq cz 0), .o 65 (.load qz false 1), .c 66 jm [lN,pT,qy,ud], .m 4 vD] [(1,0),(2,0),(3,0),(4,0),(5,0),(6,0),(7,0),(0,0),(8,0),(9,0),(10,1),(11,0),(12,0)]
abbrev QDN:AC:= .seq (.seq (.run [.m 41 bu, .o 42 (.bW jP), .o 43 (.aq kE 4), .o 44 (.load kr false 1), .o 45 (.len kF), .o 46 (.bin .gtr lJ (.k (.int .i64 100)))]) QDH) (.seq (.run [.m 51 bu, .o 52 (.aq cz 0), .o 53 (.load kH false 1),(.c 54 eA [kG,kW,(.k (.slice .full 0 []))])]) (.seq QDK .ret))
abbrev QDO:AC:= .seq (.seq (.run [.o 11 (.aq cz 10), .o 12 (.load cJ false 1), .o 13 (.len cU), .o 14 (.mv (.k (.int .i64 0)))]) (.block 0 (.loop QD8))) QDN
abbrev QDQ:AC:= .seq (.run [.o 3 (.box br), .o 4 (.mv (.k (.int .i64 0)))]) (.seq (.run [.o 5 (.mv (.k (.slice .full 0 [])))]) QDO)
abbrev QDW:AC:= .seq (.run [.m 10 bu, .o 11 (.aq cz 0), .o 12 (.load cJ false 1),(.c 13 eA [cb,cU,(.k (.slice .full 0 []))])]) (.seq (.run [.o 4 (.mv (.k (.int .i64 0)))]) .ret)
abbrev QE6:AC:= .seq (.seq (.run [.m 21 dC]) (.cond ep (.run [.m 22 bu, .o 23 (.aq cz 0), .o 24 (.load eI false 1), .m 25 cm, .o 26 (.du [(.int .i64 0)] 1 1 [(0,eU)]), .c 27 eA [eH,eR,fp]]) .skip)) (.seq (.run [.m 28 cm, .m 4 fZ]) .ret)
abbrev QE9:AC:= .seq (.run [.o 3 (.box br), .o 4 (.mv (.k (.int .i64 0)))]) (.seq (.seq (.run [.o 7 (.aq cz 9), .o 8 (.load cZ false 1), .o 9 (.un .not db)]) (.cond dg QDW .skip)) (.seq (.run [.m 15 bu, .o 16 (.aq cz 5), .o 17 (.load dj true 4), .c 18 jV [dD,dG], .m 14 dE, .o 19 (.ext cO 0), .o 20 (.ext cO 1), .m 5 dY, .m 6 ez]) QE6))
abbrev QEF:AC:= .par [.m 21 bu, .o 22 (.bW ep), .o 23 (.aq eH 0), .o 24 (.load eI false 1), .o 25 (.bW eR), .o 26 (.aq eU 2), .o 27 (.load fp false 1), .o 28 (.aq cz 16), .o 29 (.load fZ false 1), .o 30 (.bin .sub gb (.k (.int .i64 1))), .o 31 (.cf fv gy 17), .o 32 (.aq gu 15), .o 33 (.load gQ false 1), .m 4 gG] [(0,0),(1,0),(2,0),(3,0),(4,0),(5,0),(6,0),(7,0),(8,0),(9,0),(10,0),(11,0),(12,0),(13,0)]
abbrev QEP:AC:= .par [.m 49 bu, .o 50 (.bW kV), .o 51 (.aq lL 0), .o 52 (.load kG false 1), .o 53 (.aq cz 13), .o 54 (.load kW false 1), .o 55 (.aq cm 3), .o 56 (.load lN false 1), .c 57 oO [kH,lM,nq], .m 48 oE, .o 58 (.ext kU 0), .o 59 (.ext kU 1), .m 6 nW, .m 7 lV] [(0,0),(1,0),(2,0),(3,0),(4,0),(5,0),(6,0),(7,0),(8,0),(9,0),(10,0),(11,0),(12,0),(13,0)]
abbrev QEV:AC:= .par [.m 63 bu, .o 64 (.bW qy), .o 65 (.aq qz 6), .o 66 (.aq ud 2), .o 67 (.load vD false 1), .m 68 bu, .o 69 (.bW vF), .o 70 (.aq zm 2), .o 71 (.load zn false 1), .o 72 (.len Dw), .o 73 (.bin .geq vE Bq)] [(0,0),(1,0),(2,0),(3,0),(4,0),(5,0),(6,0),(7,0),(8,0),(9,0),(10,0)]
abbrev QEY:AC:= .seq (.run [(.o 4 (.mv (.k (.int .i64 (-1)))))]) .ret
abbrev QF0:AC:= .cond Br (.seq (.run [.m 74 bu, .o 75 (.bW Dx), .o 76 (.aq Dy 6), .o 77 (.aq Bs 0), .op none none (.store Dz (.k (.int .i64 3)) 1)]) QEY) .skip
abbrev QF2:AC:= .par [.m 78 bu, .o 79 (.bW zo), .o 80 (.aq FK 2), .o 81 (.load FL false 1), .m 82 bu, .o 83 (.bW Jq), .o 84 (.aq Jr 6), .o 85 (.aq Js 2), .o 86 (.load Jt false 1), .o 87 (.cf FM Ju 1), .o 88 (.load Jv false 1), .m 8 Jw] [(0,0),(1,0),(2,0),(3,0),(4,0),(5,0),(6,0),(7,0),(8,0),(9,0),(10,0),(11,0)]
abbrev QFA:AC:= .seq (.run [.m 89 bu, .o 90 (.bW DA), .o 91 (.aq FN 6), .o 92 (.aq Jx 2), .o 93 (.load O3 false 1), .o 94 (.bin .add Va (.k (.int .i64 1))), .o 95 (.bW DA), .o 96 (.aq Vc 6), .o 97 (.aq acZ 2), .op none none (.store ac0 Vb 1)]) (.seq (.run [.m 98 bu, .o 99 (.aq cm 3), .o 100 (.load ac2 false 1), .c 101 iL [ac1,Xr], .m 102 db, .o 103 (.bW Xs), .op none none (.store Xu Xt 1)]) (.seq (.run [.m 104 bu, .o 105 (.aq cm 0), .o 106 (.load Xw false 1), .m 107 db, .o 108 (.du [(.int .i64 0)] 1 1 [(0,Xy)]), .c 109 eA [Xv,Xx,Xz]]) (.seq (.run [.o 110 (.aq cz 15), .o 111 (.load XA false 1), .m 4 XB]) .ret)))
abbrev QFF:AC:= .cond kE (.seq (.run [.m 44 bu, .o 45 (.aq cm 0), .o 46 (.load lJ false 1),(.c 47 eA [kF,lK,(.k (.slice .full 0 []))])]) (.seq QEP (.seq (.run [.m 60 dC, .m 4 pb]) .ret))) (.seq (.run [.o 62 (.bin .eql cO (.k (.int .i64 2))), .m 61 pT]) (.cond qx (.seq (.seq QEV QF0) (.seq QF2 QFA)) .skip))
abbrev QFH:AC:= .cond iD (.seq (.run [.m 36 bu, .o 37 (.aq cm 0), .o 38 (.load je false 1),(.c 39 eA [ix,jO,(.k (.slice .full 0 []))])]) (.seq (.run [.o 40 (.aq cz 16), .o 41 (.load j8 false 1), .m 4 jP]) .ret)) (.seq (.run [.o 43 (.bin .eql cO (.k (.int .i64 10))), .m 42 kr]) QFF)
abbrev QFJ:AC:= .cond dD (.seq (.run [.m 17 bu, .o 18 (.aq cm 0), .o 19 (.load dE false 1),(.c 20 eA [dG,dY,(.k (.slice .full 0 []))])]) (.seq QEF .ret)) (.seq (.run [.o 35 (.bin .eql cO (.k (.int .i64 8))), .m 34 gR]) QFH)
abbrev QFL:AC:= .block 0 (.seq (.run [.o 16 (.bin .eql cO (.k (.int .i64 7))), .m 15 dj]) QFJ)
abbrev QFQ:AC:= .seq (.run [(.o 4 (.mv (.k (.int .i64 (-1)))))]) .ret
abbrev QG7:AC:= .seq (.seq (.run [.m 153 dg, .o 154 (.bin .neq agX (.k (.int .i64 0)))]) (.cond agY (.seq (.run [.o 155 (.aq cm 11), .o 156 (.load agZ false 1), .o 157 (.aq cz 15), .o 158 (.load ag1 false 1), .c 159 qa [ag0,ag2], .m 4 ag3]) .ret) .skip)) (.seq (.run [.o 160 (.aq cm 12), .o 161 (.load ag4 false 1), .o 162 (.aq cz 15), .o 163 (.load ag6 false 1), .c 164 qa [ag5,ag7], .m 4 ag8]) .ret)
abbrev QGE:AC:= .cond ag9 (.seq (.run [.m 167 dg, .o 168 (.bin .neq ahb (.k (.int .i64 0)))]) (.cond ahc (.seq (.run [.o 169 (.aq cm 11), .o 170 (.load ahd false 1), .o 171 (.aq cm 0), .o 172 (.load ahf false 1), .c 173 qa [ahe,ahg], .m 4 ahh]) .ret) .skip)) .skip
abbrev QGG:AC:= .cond agV QG7 (.seq (.run [.o 166 (.bin .eql Et (.k (.int .i64 6))), .m 165 aha]) QGE)
abbrev QGI:AC:= .cond agH (.run [.m 139 bu, .m 140 bu, .o 141 (.bW agK), .o 142 (.aq agL 6), .o 143 (.aq agM 3), .o 144 (.load agN false 1), .m 145 dg, .o 146 (.du [(.int .i64 0)] 1 1 [(0,agP)]), .o 147 (.app 1 8 agO agQ), .o 148 (.bW agJ), .o 149 (.aq agS 6), .o 150 (.aq agT 3), .op none none (.store agU agR 1)]) (.seq (.run [.o 152 (.bin .eql Et (.k (.int .i64 5))), .m 151 agW]) QGG)
abbrev QGK:AC:= .cond XQ (.run [.m 131 bu, .o 132 (.aq cm 3), .o 133 (.load agC false 1), .c 134 iL [agB,agD], .m 135 dg, .o 136 (.bW agE), .op none none (.store agG agF 1)]) (.seq (.run [.o 138 (.bin .eql Et (.k (.int .i64 3))), .m 137 agI]) QGI)
abbrev QGM:AC:= .block 1 (.seq (.run [.o 130 (.bin .eql Et (.k (.int .i64 1))), .m 129 XR]) QGK)
abbrev QGS:AC:= .seq (.seq (.run [.m 119 cb, .o 120 (.un .not XI)]) (.cond XJ QFQ .skip)) (.seq (.run [.m 121 bu, .o 122 (.aq cm 0), .o 123 (.load XL false 1), .m 124 dg, .o 125 (.du [(.int .i64 0)] 1 1 [(0,XN)]), .c 126 eA [XK,XM,XO]]) (.seq (.seq (.run [.o 127 (.aq cm 1), .o 128 (.load XP false 1)]) QGM) (.seq (.run [.o 174 (.aq cz 15), .o 175 (.load ahi false 1), .m 4 ahj]) .ret)))
abbrev QGW:AC:= .seq (.run [.o 3 (.box br), .o 4 (.mv (.k (.int .i64 0)))]) (.seq (.run [.o 11 (.aq cz 0), .o 12 (.load cJ true 13), .o 5 (.alloc [(.int .i64 0),(.int .i64 0),(.slice .full 0 []),(.str []),(.str []),(.int .i64 0),(.int .i64 0),(.str []),(.slice .full 0 []),(.bool false),(.slice .full 0 []),(.slice .full 0 []),(.slice .full 0 [])]), .op none none (.store cm cU 13)]) (.seq (.seq (.run [.o 13 (.aq cm 1), .o 14 (.load c6 false 1)]) QFL) (.seq (.run [.m 113 bu, .o 114 (.aq cm 5), .o 115 (.load XD true 4), .c 116 jV [XC,XE], .m 112 XF, .o 117 (.ext O4 0), .o 118 (.ext O4 1), .m 9 XG, .m 10 XH]) QGS)))
abbrev QGZ:AC:= .par [.m 12 bu, .m 13 bu, .o 14 (.bW c6), .o 15 (.aq cO 4), .o 16 (.load dD false 1), .m 17 bu, .o 18 (.bW dG), .o 19 (.aq dE 4), .o 20 (.load dY false 1), .o 21 (.len ez), .o 22 (.bin .sub ep (.k (.int .i64 1))), .o 23 (.CK 1 dj none (some eH)), .o 24 (.bW cU), .o 25 (.aq eR 4), .op none none (.store eU eI 1)] [(0,0),(1,0),(2,0),(3,0),(4,0),(5,0),(6,0),(7,0),(8,0),(9,0),(10,0),(11,0),(12,0),(13,0),(14,0)]
abbrev QH3:AC:= .seq (.run [(.o 4 (.mv (.k (.int .i64 (-1)))))]) .ret
abbrev QH5:AC:= .cond fv (.seq (.run [.m 28 bu, .o 29 (.bW fZ), .o 30 (.aq gb 6), .o 31 (.aq gy 0), .op none none (.store gu (.k (.int .i64 1)) 1)]) QH3) .skip
abbrev QHE:AC:= .seq (.seq (.run [.o 43 (.aq dC 0), .o 44 (.aq kr 3), .o 45 (.load kF false 1), .o 46 (.bin .neq lJ (.k (.str [])))]) (.cond lK (.run [.m 47 bu, .o 48 (.aq dC 0), .o 49 (.aq kU 3), .o 50 (.load kV false 1), .c 51 iL [lU,lL], .m 52 br, .o 53 (.bW kG), .op none none (.store kW kH 1)]) .skip)) (.seq (.run [.o 54 (.aq dC 15), .o 55 (.load lM false 1), .m 4 lN]) .ret)
abbrev QHG:AC:= .seq (.seq (.run [.m 26 cm, .o 27 (.bin .eql fp (.k (.int .i64 0)))]) QH5) (.seq (.run [.m 32 bu, .o 33 (.bW gQ), .o 34 (.aq gG 0), .o 35 (.load iD false 1), .o 36 (.bW gR), .o 37 (.aq ix 2), .o 38 (.load je false 1), .m 39 cm, .o 40 (.bin .sub jA (.k (.int .i64 1))), .o 41 (.cf jO j8 17), .o 42 (.load jP true 17), .o 6 (.alloc [(.int .i64 0),(.int .i64 0),(.slice .full 0 []),(.str []),(.str []),(.int .i64 0),(.int .i64 0),(.str []),(.slice .full 0 []),(.bool false),(.slice .full 0 []),(.slice .full 0 []),(.slice .full 0 []),(.int .i64 0),(.int .i64 0),(.int .i64 0),(.int .i64 0)]), .op none none (.store dC kE 17)]) QHE)
abbrev QHJ:AC:= .seq (.run [.o 4 (.mv (.k (.int .i64 0)))]) (.seq (.run [.m 7 bu, .c 8 kL [cZ], .o 9 (.bW db), .o 10 (.aq dg 3), .o 11 (.load cb false 1), .m 5 cJ]) (.seq QGZ QHG))
abbrev QHN:AC:= .seq (.run [(.o 7 (.build [(.int .i64 0),(.int .i64 0)] [(0,(1,(.k (.int .i64 1))))])), .op none none (.store dw cZ 2)]) .ret
abbrev QI5:AC:= .seq (.seq (.run [.o 20 (.aq cz 0), .o 21 (.load ez false 1), .o 22 (.bin .eql ep (.k (.int .i64 0)))]) (.cond eH (.run [.o 23 (.load br true 2), .c 24 tW [eI], .op none none (.store cz eR 2)]) .skip)) (.seq (.run [.o 25 (.load cz true 2), .op none none (.store dw eU 2)]) .ret)
abbrev QI6:AC:= .seq (.seq (.run [.o 15 (.aq cz 0), .o 16 (.load dD false 1), .o 17 (.bin .eql dj (.k (.int .i64 0)))]) (.cond dG (.run [.o 18 (.load br true 2), .c 19 vy [dE], .op none none (.store cz dY 2)]) .skip)) QI5
abbrev QI7:AC:= .seq (.seq (.run [.o 10 (.aq cz 0), .o 11 (.load cb false 1), .o 12 (.bin .eql cJ (.k (.int .i64 0)))]) (.cond cU (.run [.o 13 (.load br true 2), .c 14 qk [c6], .op none none (.store cz cO 2)]) .skip)) QI6
abbrev QIA:AC:= .seq (.run [.o 1 (.box bu), .o 2 (.alloc [(.int .i64 0),(.int .i64 0)])]) (.seq (.seq (.run [.o 4 (.load br true 2), .c 5 rn [ff], .o 6 (.un .not cm)]) (.cond dC QHN .skip)) (.seq (.run [.o 8 (.load br true 2), .c 9 lY [db], .o 3 (.alloc [(.int .i64 0),(.int .i64 0)]), .op none none (.store cz dg 2)]) QI7))
abbrev QIC:AC:= .par [.m 7 br, .o 8 (.bin .lss cZ (.k (.int .i64 1))), .m 9 db, .g 10 9 false (.aq dw 3), .g 11 9 false (.load cb false 1), .g 12 9 false (.len cJ), .g 13 9 false (.aq dw 0), .g 14 9 false (.load c6 false 1), .d 15 9 false xy [cO], .g 16 9 false (.bin .neq cU dD), .o 17 (.pick dg (.k (.bool true)) dj)] [(0,0),(1,0),(2,0),(6,0),(7,0),(8,0),(3,0),(4,1),(5,0),(9,0),(10,0)]
abbrev QIF:AC:= .cond dG (.seq (.run [.o 4 (.mv (.k (.bool false)))]) .ret) .skip
abbrev QIO:AC:= .cond gy (.seq (.run [.o 32 (.aq dw 1), .o 33 (.load gQ false 1), .o 34 (.bin .eql gG (.k (.int .i64 0))), .m 35 iD, .g 36 35 true (.aq dw 2), .g 37 35 true (.load ix false 1), .d 38 35 true nV [je], .o 39 (.pick gR jO (.k (.bool false))), .m 4 jA]) .ret) .skip
abbrev QIQ:AC:= .cond ez (.seq (.run [.o 22 (.aq dw 1), .o 23 (.load eH false 1), .o 24 (.bin .geq eI (.k (.int .i64 0))), .m 25 eR, .g 26 25 true (.aq dw 2), .g 27 25 true (.load fp false 1), .g 28 25 true (.bin .eql fv (.k (.str []))), .o 29 (.pick eU fZ (.k (.bool false))), .m 4 gb]) .ret) (.seq (.run [.o 31 (.bin .eql dY (.k (.int .i64 2))), .m 30 gu]) QIO)
abbrev QIS:AC:= .block 0 (.seq (.run [.o 21 (.bin .eql dY (.k (.int .i64 1))), .m 20 ep]) QIQ)
abbrev QIX:AC:= .cond lU (.seq (.run [.o 4 (.mv (.k (.bool false)))]) .ret) .skip
abbrev QJ6:AC:= .cond lV (.seq (.run [.o 4 (.mv (.k (.bool false)))]) .ret) .skip
abbrev QJ8:AC:= .seq (.run [.o 53 (.cf kV kG 4), .o 54 (.load kW true 4), .o 6 (.alloc [(.int .i64 0),(.int .i64 0),(.str []),(.slice .full 0 [])]), .op none none (.store dC lM 4)]) (.seq (.run [.o 55 (.load dC true 4), .m 56 br, .o 57 (.bin .sub nq (.k (.int .i64 1))), .c 58 p9 [lN,oE], .o 59 (.un .not nW)]) QJ6)
abbrev QJC:AC:= .seq (.cond kH .skip (.exit 1)) (.seq (.block 2 QJ8) (.run [.o 60 (.bin .add kG (.k (.int .i64 1))), .m 51 pb]))
abbrev QJG:AC:= .seq (.run [.o 48 (.aq dw 3), .o 49 (.load kU false 1), .o 50 (.len kV), .o 51 (.mv (.k (.int .i64 0)))]) (.block 1 (.loop (.seq (.run [.o 52 (.bin .lss kG lL)]) QJC)))
abbrev QJJ:AC:= .seq QJG (.seq (.run [.o 4 (.mv (.k (.bool true)))]) .ret)
abbrev QJK:AC:= .seq (.seq (.run [.o 40 (.aq dw 1), .o 41 (.load j8 false 1), .o 42 (.bin .neq jP (.k (.int .i64 0))), .m 43 kE, .g 44 43 false (.aq dw 2), .g 45 43 false (.load kF false 1), .g 46 43 false (.bin .neq lJ (.k (.str []))), .o 47 (.pick kr (.k (.bool true)) lK)]) QIX) QJJ
abbrev QJN:AC:= .seq (.run [.o 2 (.box bu), .o 4 (.mv (.k (.bool false)))]) (.seq (.seq QIC QIF) (.seq (.seq (.run [.o 18 (.aq dw 0), .o 19 (.load dE false 1)]) QIS) QJK))
abbrev QK0:AC:= .seq (.run [.m 13 cz, .o 14 (.load cm true 5), .c 15 xx [cO], .o 16 (.app 16 232 c6 dD), .m 3 dj]) (.seq (.run [.m 17 cz, .o 18 (.len dG), .o 19 (.bin .gtr dE (.k (.int .i64 200)))]) (.cond dY (.seq (.run [.m 20 cz, .m 2 ez]) .ret) .skip))
abbrev QK4:AC:= .seq (.block 1 (.seq (.run [.o 11 (.cf cZ dg 5), .o 12 (.load cJ true 5), .o 5 (.alloc [(.str []),(.slice .full 0 []),(.slice .full 0 []),(.slice .full 0 []),(.slice .full 0 [])]), .op none none (.store cm cU 5)]) QK0)) (.run [.o 21 (.bin .add dg (.k (.int .i64 1))), .m 9 ep])
abbrev QK8:AC:= .block 0 (.loop (.seq (.run [.o 10 (.bin .lss dg db)]) (.seq (.cond cb .skip (.exit 0)) QK4)))
abbrev QKC:AC:= .seq (.seq (.run [.o 6 (.aq br 1), .o 7 (.load dC false 1), .o 8 (.len cZ), .o 9 (.mv (.k (.int .i64 0)))]) QK8) (.seq (.run [.m 22 cz, .m 2 eH]) .ret)
abbrev QKE:AC:= .seq (.run [.o 1 (.box bu), .o 2 (.mv (.k (.slice .full 0 [])))]) (.seq (.run [.o 3 (.mv (.k (.slice .full 0 [])))]) QKC)
open Go.Proofs
theorem HJ:Has Tryz.prog xu 10 [(2,none)] Q90:=⟨Tryz.f38,by kernel_rfl,by kernel_rfl⟩
theorem HK:Has Tryz.prog xv 40 [(0,(some (true,2)))] Q98:=⟨Tryz.f39,by kernel_rfl,by kernel_rfl⟩
theorem Ax:Has Tryz.prog jH 23 [(4,none)] Q9P:=⟨Tryz.f40,by kernel_rfl,by kernel_rfl⟩
theorem pd:Has Tryz.prog gp 19 [(4,none)] Q9Z:=⟨Tryz.f41,by kernel_rfl,by kernel_rfl⟩
theorem rZ:Has Tryz.prog kK 69 [(4,none)] QAX:=⟨Tryz.f42,by kernel_rfl,by kernel_rfl⟩
theorem JA:Has Tryz.prog kS 55 [(2,none)] QBM:=⟨Tryz.f43,by kernel_rfl,by kernel_rfl⟩
theorem zp:Has Tryz.prog jm 82 [(8,none)] QCB:=⟨Tryz.f44,by kernel_rfl,by kernel_rfl⟩
theorem Ay:Has Tryz.prog iC 12 [(4,none)] QCF:=⟨Tryz.f45,by kernel_rfl,by kernel_rfl⟩
theorem zr:Has Tryz.prog o6 67 [(4,none)] QDQ:=⟨Tryz.f46,by kernel_rfl,by kernel_rfl⟩
theorem yk:Has Tryz.prog oB 29 [(4,none)] QE9:=⟨Tryz.f47,by kernel_rfl,by kernel_rfl⟩
theorem ij:Has Tryz.prog qw 176 [(4,none)] QGW:=⟨Tryz.f48,by kernel_rfl,by kernel_rfl⟩
theorem qL:Has Tryz.prog oD 56 [(4,none)] QHJ:=⟨Tryz.f49,by kernel_rfl,by kernel_rfl⟩
theorem og:Has Tryz.prog xw 26 [(2,(some (true,2)))] QIA:=⟨Tryz.f53,by kernel_rfl,by kernel_rfl⟩
theorem An:Has Tryz.prog p9 61 [(4,none)] QJN:=⟨Tryz.f55,by kernel_rfl,by kernel_rfl⟩
theorem JB:Has Tryz.prog zi 23 [(2,none)] QKE:=⟨Tryz.f62,by kernel_rfl,by kernel_rfl⟩
abbrev QKN:AC:= .cond c6 (.seq (.run [.o 2 (.mv (.k (.bool false)))]) .ret) .skip
abbrev QKS:AC:= .seq (.block 1 (.seq (.run [.o 9 (.cf cm cZ 1), .o 10 (.load dg false 1), .m 4 cb]) (.seq (.run [.m 11 ff, .c 12 nV [cJ], .o 13 (.un .not cU)]) QKN))) (.run [.o 14 (.bin .add cZ (.k (.int .i64 1))), .m 7 cO])
abbrev QKW:AC:= .block 0 (.loop (.seq (.run [.o 8 (.bin .lss cZ dC)]) (.seq (.cond db .skip (.exit 0)) QKS)))
abbrev QL0:AC:= .seq (.seq (.run [.m 5 bu, .o 6 (.len cm), .o 7 (.mv (.k (.int .i64 0)))]) QKW) (.seq (.run [.o 2 (.mv (.k (.bool true)))]) .ret)
abbrev QL1:AC:= .seq (.run [.o 2 (.mv (.k (.bool false)))]) QL0
abbrev QL6:AC:= .cond dj (.seq (.run [.o 2 (.mv (.k (.bool false)))]) .ret) .skip
abbrev QLA:AC:= .seq (.seq (.run [.m 3 bu, .o 4 (.va cz), .o 5 (.bin .lss ff (.k (.int .i64 1))), .m 6 cm, .g 7 6 false (.mv bu), .g 8 6 false (.va cZ), .g 9 6 false (.bin .gtr db (.k (.int .i64 8))), .o 10 (.pick dC (.k (.bool true)) dg), .m 11 cb, .g 12 11 false (.mv bu), .g 13 11 false (.AP cU (.k (.int .i64 0))), .d 14 11 false rr [c6], .g 15 11 false (.un .not cO), .o 16 (.pick cJ (.k (.bool true)) dD)]) QL6) (.seq (.run [.m 17 bu, .c 18 Bn [dG,(.k (.int .i64 0))], .m 19 bu, .o 20 (.va dY), .o 21 (.bin .eql dE ez), .m 22 ep, .g 23 22 true (.mv bu), .d 24 22 true zj [eI], .g 25 22 true (.un .not eR), .o 26 (.pick eH eU (.k (.bool false))), .m 2 fp]) .ret)
abbrev QLB:AC:= .seq (.run [.o 2 (.mv (.k (.bool false)))]) QLA
abbrev QLG:AC:= .cond dD (.seq (.run [.o 6 (.mv (.k (.bool false)))]) .ret) .skip
abbrev QLN:AC:= .par [.m 29 bu, .o 30 (.bW gb), .o 31 (.aq gy 0), .o 32 (.load gu false 1), .o 33 (.bin .gtr gQ (.k (.int .i64 200))), .m 34 gG, .g 35 34 false (.aq db 0), .g 36 34 false (.load gR false 1), .g 37 34 false (.mv bu), .g 38 34 false (.bW je), .g 39 34 false (.aq jO 0), .g 40 34 false (.load jA false 1), .g 41 34 false (.bin .neq ix j8), .o 42 (.pick iD (.k (.bool true)) jP), .m 43 kE, .g 44 43 false (.aq db 2), .g 45 43 false (.load kF false 1), .d 46 43 false nn [lJ], .g 47 43 false (.un .not lK), .o 48 (.pick kr (.k (.bool true)) lU), .m 49 kU, .g 50 49 false (.load db true 13), .d 51 49 false tX [lL], .g 52 49 false (.un .not kG), .o 53 (.pick kV (.k (.bool true)) kH)] [(0,0),(1,0),(2,0),(3,0),(4,0),(5,0),(6,0),(7,0),(8,0),(9,0),(10,0),(11,0),(12,0),(13,0),(14,0),(15,0),(16,0),(17,0),(18,0),(19,0),(20,0),(21,0),(22,0),(23,0),(24,0)]
abbrev QLQ:AC:= .cond kW (.seq (.run [.o 6 (.mv (.k (.bool false)))]) .ret) .skip
abbrev QLV:AC:= .cond zm (.seq (.run [.o 6 (.mv (.k (.bool false)))]) .ret) .skip
abbrev QLX:AC:= .seq (.seq QLN QLQ) (.seq (.run [.m 54 bu, .o 55 (.aq db 11), .o 56 (.load lN false 1), .m 57 dw, .o 58 (.bin .add oE (.k (.int .i64 1))), .c 59 kq [lM,nq,nW], .o 60 (.un .not lV), .m 61 pb, .g 62 61 false (.mv bu), .g 63 61 false (.aq db 12), .g 64 61 false (.load qy false 1), .g 65 61 false (.mv dw), .g 66 61 false (.bin .add ud (.k (.int .i64 1))), .d 67 61 false kq [pT,qz,vD], .g 68 61 false (.un .not vE), .o 69 (.pick qx (.k (.bool true)) vF)]) QLV)
abbrev QLZ:AC:= .seq (.run [.o 20 (.cf dj dE 13), .o 21 (.load ez true 13), .o 8 (.alloc [(.int .i64 0),(.int .i64 0),(.slice .full 0 []),(.str []),(.str []),(.int .i64 0),(.int .i64 0),(.str []),(.slice .full 0 []),(.bool false),(.slice .full 0 []),(.slice .full 0 []),(.slice .full 0 [])]), .op none none (.store db ep 13)]) (.seq (.run [.m 22 bu, .o 23 (.bW eH), .o 24 (.aq eI 0), .o 25 (.load eR false 1), .o 26 (.bin .add eU (.k (.int .i64 1))), .o 27 (.bW eH), .o 28 (.aq fv 0), .op none none (.store fZ fp 1)]) QLX)
abbrev QM3:AC:= .seq (.cond dY .skip (.exit 0)) (.seq (.block 1 QLZ) (.run [.o 70 (.bin .add dE (.k (.int .i64 1))), .m 18 zn]))
abbrev QM7:AC:= .seq (.run [.m 16 br, .o 17 (.len dj), .o 18 (.mv (.k (.int .i64 0)))]) (.block 0 (.loop (.seq (.run [.o 19 (.bin .lss dE dG)]) QM3)))
abbrev QMA:AC:= .seq QM7 (.seq (.run [.o 6 (.mv (.k (.bool true)))]) .ret)
abbrev QMB:AC:= .seq (.seq (.run [.m 9 dw, .o 10 (.bin .gtr dg (.k (.int .i64 12))), .m 11 cb, .g 12 11 true (.mv br), .g 13 11 true (.len cU), .g 14 11 true (.bin .gtr c6 (.k (.int .i64 0))), .o 15 (.pick cJ cO (.k (.bool false)))]) QLG) QMA
abbrev QMC:AC:= .seq (.run [.o 6 (.mv (.k (.bool false)))]) QMB
abbrev QMF:AC:= .seq (.run [.m 3 bu,(.o 4 (.build [(.int .i64 0),(.int .i64 0),(.str []),(.slice .full 0 [])] [(0,(1,(.k (.int .i64 1)))),(1,(1,cz))])), .op none none (.store dw ff 4)]) .ret
abbrev QMG:AC:= .seq (.run [.o 2 (.alloc [(.int .i64 0),(.int .i64 0),(.str []),(.slice .full 0 [])])]) QMF
abbrev QMJ:AC:= .seq (.run [.m 3 bu,(.o 4 (.build [(.int .i64 0),(.int .i64 0),(.str []),(.slice .full 0 [])] [(0,(1,(.k (.int .i64 2)))),(2,(1,cz))])), .op none none (.store dw ff 4)]) .ret
abbrev QMK:AC:= .seq (.run [.o 2 (.alloc [(.int .i64 0),(.int .i64 0),(.str []),(.slice .full 0 [])])]) QMJ
abbrev QMO:AC:= .seq (.run [.o 4 (.box br), .o 5 (.box dw), .o 6 (.alloc [(.int .i64 0),(.int .i64 0),(.str []),(.slice .full 0 [])])]) (.seq (.run [.m 7 bu, .o 8 (.load ff true 4), .o 9 (.load cm true 4), .o 10 (.du [(.int .i64 0),(.int .i64 0),(.str []),(.slice .full 0 [])] 4 2 [(0,db),(1,dg)]), .o 11 (.build [(.int .i64 0),(.int .i64 0),(.str []),(.slice .full 0 [])] [(0,(1,cZ)),(3,(1,cb))]), .op none none (.store dC cJ 4)]) .ret)
abbrev QMZ:AC:= .seq (.seq (.run [.m 10 cm, .o 11 (.aq dw 3), .o 12 (.load cJ false 1), .o 13 (.len cU), .o 14 (.bin .lss cb c6), .m 15 cO, .g 16 15 true (.mv br), .g 17 15 true (.bin .leq dj (.k (.int .i64 20000))), .o 18 (.pick dD dG (.k (.bool false)))]) (.cond dE .skip (.exit 0))) (.seq (.block 1 (.run [.o 21 (.aq dw 3), .o 22 (.load ep false 1), .m 23 cm, .o 24 (.cf eH eI 4), .o 25 (.load eR true 4), .m 26 br, .c 27 jZ [eU,fp], .m 1 fv])) (.run [.m 19 cm, .o 20 (.bin .add dY (.k (.int .i64 1))), .m 5 ez]))
abbrev QN5:AC:= .seq (.seq (.run [.o 5 (.mv (.k (.int .i64 0)))]) (.block 0 (.loop QMZ))) (.seq (.run [.m 28 br, .m 4 fZ]) .ret)
abbrev QN7:AC:= .seq (.run [.o 2 (.box bu), .o 4 (.mv (.k (.int .i64 0)))]) (.seq (.run [.o 6 (.aq dw 2), .o 7 (.load dC false 1), .m 8 br, .c 9 gp [cZ,db], .m 1 dg]) QN5)
abbrev QNK:AC:= .par [.m 37 bu, .m 38 bu, .o 39 (.bW jO), .o 40 (.aq jA 2), .o 41 (.load j8 false 1), .o 42 (.load dg true 17), .o 43 (.du [(.int .i64 0),(.int .i64 0),(.slice .full 0 []),(.str []),(.str []),(.int .i64 0),(.int .i64 0),(.str []),(.slice .full 0 []),(.bool false),(.slice .full 0 []),(.slice .full 0 []),(.slice .full 0 []),(.int .i64 0),(.int .i64 0),(.int .i64 0),(.int .i64 0)] 17 1 [(0,kE)]), .o 44 (.app 17 240 jP kr), .o 45 (.bW je), .o 46 (.aq lJ 2), .op none none (.store lK kF 1)] [(1,0),(2,0),(3,0),(4,0),(5,0),(6,0),(7,0),(0,0),(8,0),(9,0),(10,0)]
abbrev QNL:AC:= .run [.o 47 (.aq cm 13), .o 48 (.load lU false 1), .m 49 db, .o 50 (.aq dg 15), .o 51 (.load lL false 1), .o 52 (.aq cm 16), .o 53 (.load kH false 1), .o 54 (.build [(.int .i64 0),(.int .i64 0),(.slice .full 0 []),(.str []),(.str []),(.int .i64 0),(.int .i64 0),(.str []),(.slice .full 0 []),(.bool false),(.slice .full 0 []),(.slice .full 0 []),(.slice .full 0 []),(.int .i64 0),(.int .i64 0),(.int .i64 0),(.int .i64 0)] [(13,(1,kU)),(14,(1,kV)),(15,(1,kG)),(16,(1,kW))]), .o 10 (.alloc [(.int .i64 0),(.int .i64 0),(.slice .full 0 []),(.str []),(.str []),(.int .i64 0),(.int .i64 0),(.str []),(.slice .full 0 []),(.bool false),(.slice .full 0 []),(.slice .full 0 []),(.slice .full 0 []),(.int .i64 0),(.int .i64 0),(.int .i64 0),(.int .i64 0)]), .op none none (.store cb lM 17)]
abbrev QNT:AC:= .seq (.seq (.run [.o 55 (.aq cZ 1), .o 56 (.load lN false 1), .o 57 (.bin .eql nq (.k (.int .i64 6)))]) (.cond oE (.run [.m 58 db, .m 59 db, .o 60 (.aq cb 15), .op none none (.store pb nW 1), .o 61 (.aq cb 16), .op none none (.store qx lV 1)]) .skip)) (.seq (.run [.m 62 bu, .o 63 (.aq cZ 11), .o 64 (.load qy false 1), .o 65 (.load cb true 17), .c 66 j7 [pT,qz,ud]]) (.run [.m 67 bu, .o 68 (.aq cZ 12), .o 69 (.load vF false 1), .o 70 (.load cb true 17), .c 71 j7 [vE,zm,zn]]))
abbrev QNW:AC:= .seq (.seq (.run [.m 27 dC, .o 28 (.bin .add fv (.k (.int .i64 1))), .m 29 br, .o 30 (.len gb), .o 31 (.bin .lss fZ gy)]) (.cond gu (.run [.m 32 db, .o 33 (.load cZ true 13), .c 34 mI [gG], .o 35 (.bin .add gQ iD), .o 36 (.aq dg 15), .op none none (.store ix gR 1)]) .skip)) (.seq QNK (.seq QNL QNT))
abbrev QO0:AC:= .seq (.run [.m 15 c6, .o 16 (.cf cJ c6 13), .o 17 (.load dj true 13), .o 7 (.alloc [(.int .i64 0),(.int .i64 0),(.slice .full 0 []),(.str []),(.str []),(.int .i64 0),(.int .i64 0),(.str []),(.slice .full 0 []),(.bool false),(.slice .full 0 []),(.slice .full 0 []),(.slice .full 0 [])]), .m 6 dD, .op none none (.store cZ dG 13)]) (.seq (.run [.m 18 bu, .o 19 (.bW dE), .o 20 (.aq dY 2), .o 21 (.load ez false 1), .o 22 (.len ep), .o 23 (.bin .add eH (.k (.int .i64 1))), .m 8 eI]) (.seq (.run [.o 24 (.load cm true 17), .o 9 (.alloc [(.int .i64 0),(.int .i64 0),(.slice .full 0 []),(.str []),(.str []),(.int .i64 0),(.int .i64 0),(.str []),(.slice .full 0 []),(.bool false),(.slice .full 0 []),(.slice .full 0 []),(.slice .full 0 []),(.int .i64 0),(.int .i64 0),(.int .i64 0),(.int .i64 0)]), .op none none (.store dg eR 17)]) (.seq (.run [.o 25 (.load cZ true 13), .o 26 (.aq dg 0), .op none none (.store fp eU 13)]) QNW)))
abbrev QO4:AC:= .seq (.cond cO .skip (.exit 0)) (.seq (.block 1 QO0) (.run [.o 72 (.bin .add c6 (.k (.int .i64 1))), .m 13 Bq]))
abbrev QO8:AC:= .seq (.run [.m 11 br, .o 12 (.len cJ), .o 13 (.mv (.k (.int .i64 0)))]) (.block 0 (.loop (.seq (.run [.o 14 (.bin .lss c6 cU)]) QO4)))
abbrev QO9:AC:= .seq (.run [.o 5 (.box dw)]) QO8
abbrev QOE:AC:= .cond dg (.seq (.run [.o 4 (.mv (.k (.slice .full 0 [])))]) .ret) .skip
abbrev QOL:AC:= .par [.o 21 (.aq dw 0), .o 22 (.load ep false 1), .c 23 kz [eH], .o 24 (.load dC true 5), .c 25 sO [eR], .o 26 (.app 1 16 eI eU), .m 4 fp] [(0,0),(1,0),(2,0),(3,1),(4,0),(5,0),(6,0)]
abbrev QOS:AC:= .seq (.block 1 (.seq (.run [.o 15 (.cf cJ c6 5), .o 16 (.load dD true 5), .o 6 (.alloc [(.str []),(.slice .full 0 []),(.slice .full 0 []),(.slice .full 0 []),(.slice .full 0 [])]), .op none none (.store dC dj 5)]) (.seq (.run [.o 17 (.aq dC 0), .o 18 (.load dG false 1), .m 19 br, .o 20 (.bin .eql dE dY)]) (.cond ez (.seq QOL .ret) .skip)))) (.run [.o 27 (.bin .add c6 (.k (.int .i64 1))), .m 13 fv])
abbrev QOW:AC:= .block 0 (.loop (.seq (.run [.o 14 (.bin .lss c6 cU)]) (.seq (.cond cO .skip (.exit 0)) QOS)))
abbrev QP0:AC:= .seq (.seq (.run [.o 10 (.aq dw 1), .o 11 (.load cb false 1), .o 12 (.len cJ), .o 13 (.mv (.k (.int .i64 0)))]) QOW) (.seq (.run [.o 4 (.mv (.k (.slice .full 0 [])))]) .ret)
abbrev QP2:AC:= .seq (.run [.o 2 (.box bu), .o 4 (.mv (.k (.slice .full 0 [])))]) (.seq (.seq (.run [.o 7 (.load dw true 2), .c 8 rn [cZ], .o 9 (.un .not db)]) QOE) QP0)
abbrev QP4:AC:= .par [.m 5 bu, .o 6 (.bW cm), .o 7 (.aq dC 3), .o 8 (.load cZ false 1), .m 9 br, .o 10 (.cf db dg 1), .o 11 (.load cb false 1), .m 12 bu, .o 13 (.bW cU), .o 14 (.aq c6 4), .o 15 (.load cO false 1), .m 16 br, .o 17 (.cf dD dj 1), .o 18 (.load dG false 1), .o 19 (.bin .lss cJ dE)] [(0,0),(1,0),(2,0),(3,0),(4,0),(5,0),(6,0),(7,0),(8,0),(9,0),(10,0),(11,0),(12,0),(13,0),(14,0)]
abbrev QPA:AC:= .seq (.run [(.o 4 (.mv (.k (.int .i64 (-1)))))]) .ret
abbrev QPB:AC:= .seq (.seq QP4 (.cond dY (.seq (.run [.m 20 bu, .o 21 (.bW ez), .o 22 (.aq ep 3), .o 23 (.load eH false 1), .m 24 br, .o 25 (.cf eI eR 1), .o 26 (.load eU false 1), .m 4 fp]) .ret) .skip)) QPA
abbrev QPC:AC:= .seq (.run [.o 4 (.mv (.k (.int .i64 0)))]) QPB
abbrev QPO:AC:= .block 1 (.seq (.run [.m 10 db, .m 5 cb]) (.seq (.run [.m 11 br, .m 12 bu, .m 13 cm, .o 14 (.cf cU c6 5), .o 15 (.load cO true 5),(.jt (some 16) none 11 [dD])]) (.cond dj (.seq (.run [.m 17 cm, .m 4 dG]) .ret) .skip)))
abbrev QPR:AC:= .seq (.cond dg .skip (.exit 0)) (.seq QPO (.run [.o 18 (.bin .add db (.k (.int .i64 1))), .m 8 dE]))
abbrev QPV:AC:= .seq (.run [.m 6 bu, .o 7 (.len dC), .o 8 (.mv (.k (.int .i64 0)))]) (.block 0 (.loop (.seq (.run [.o 9 (.bin .lss db cZ)]) QPR)))
abbrev QPX:AC:= .seq (.run [(.o 4 (.mv (.k (.int .i64 (-1)))))]) .ret
abbrev QPZ:AC:= .seq (.run [.o 4 (.mv (.k (.int .i64 0)))]) (.seq QPV QPX)
abbrev QQ3:AC:= .seq (.run [.o 2 (.box bu), .o 3 (.mv (.k (.bool false)))]) (.seq (.run [.o 4 (.aq dw 0), .o 5 (.load ff false 1), .o 6 (.load br false 1), .o 7 (.bin .eql cm dC), .m 3 cZ]) .ret)
abbrev QQ6:AC:= .par [.m 8 cm, .o 9 (.bW db), .o 10 (.aq dg 2), .o 11 (.load cb false 1), .m 12 cm, .o 13 (.bW cU), .o 14 (.aq c6 1), .o 15 (.load cO false 1), .m 16 br, .c 17 fX [dD,dj], .o 18 (.cf cJ dG 1), .o 19 (.load dE false 1), .m 4 dY] [(4,0),(5,0),(6,0),(7,0),(8,0),(9,0),(0,0),(1,0),(2,0),(3,1),(10,0),(11,0),(12,0)]
abbrev QQ9:AC:= .seq (.run [.o 4 (.mv (.k .dR))]) (.seq (.run [.m 6 bu, .c 7 kL [dC], .m 5 cZ]) (.seq QQ6 .ret))
abbrev QQH:AC:= .par [.m 30 bu, .m 31 bu, .o 32 (.bW gu), .o 33 (.aq gQ 5), .o 34 (.load gG false 1), .m 35 db, .o 36 (.bW gR), .o 37 (.load ix false 1), .o 38 (.du [(.int .i64 0)] 1 1 [(0,je)]), .o 39 (.app 1 8 iD jO), .o 40 (.bW gy), .o 41 (.aq j8 5), .op none none (.store jP jA 1)] [(1,0),(2,0),(3,0),(4,0),(5,0),(6,0),(7,0),(8,0),(9,0),(0,0),(10,0),(11,0),(12,0)]
abbrev QQM:AC:= .seq (.cond fv .skip (.exit 0)) (.seq (.block 1 (.seq (.run [.o 28 (.cf eR fp 1), .o 29 (.load fZ false 1), .m 8 gb]) QQH)) (.run [.o 42 (.bin .add fp (.k (.int .i64 1))), .m 26 kE]))
abbrev QQN:AC:= .seq (.run [.o 27 (.bin .lss fp eU)]) QQM
abbrev QQR:AC:= .par [.o 44 (.load cz true 4), .m 45 dC, .o 46 (.bW lJ), .o 47 (.aq lK 1), .o 48 (.load lU false 1), .m 49 bu, .o 50 (.bW kV), .o 51 (.aq lL 5), .o 52 (.load kG false 1), .c 53 wG [kF,kU,kH], .m 43 kW, .o 54 (.ext kr 0), .o 55 (.ext kr 1), .m 9 lM, .m 10 lN] [(0,0),(1,0),(2,0),(3,0),(4,0),(5,0),(6,0),(7,0),(8,0),(9,0),(10,0),(11,0),(12,0),(13,0),(14,0)]
abbrev QQV:AC:= .seq (.run [.m 56 cb, .o 57 (.un .not nq)]) (.cond oE (.run [.m 58 bu, .o 59 (.bW nW), .o 60 (.aq lV 6), .o 61 (.aq pb 0), .op none none (.store qx (.k (.int .i64 4)) 1)]) .skip)
abbrev QQZ:AC:= .seq QQR (.seq QQV (.seq (.run [.m 62 dg, .m 63 cb, .m 4 pT, .m 5 qy]) .ret))
abbrev QR0:AC:= .seq (.seq (.run [.m 21 dC, .o 22 (.bW ep), .o 23 (.aq eH 2), .o 24 (.load eI false 1), .o 25 (.len eR), .o 26 (.mv (.k (.int .i64 0)))]) (.block 0 (.loop QQN))) QQZ
abbrev QR1:AC:= .seq (.run [.m 13 bu, .m 14 bu, .o 15 (.bW cO), .o 16 (.aq dD 5), .o 17 (.load dj false 1),(.o 18 (.CK 1 dG none (some (.k (.int .i64 0))))), .o 19 (.bW c6), .o 20 (.aq dY 5), .op none none (.store ez dE 1)]) QR0
abbrev QR3:AC:= .seq (.run [.o 3 (.box br), .o 4 (.mv (.k (.int .i64 0))), .o 5 (.mv (.k (.bool false)))]) (.seq (.run [.m 11 bu, .c 12 kL [cJ], .m 6 cU]) QR1)
abbrev QR7:AC:= .seq (.run [.m 6 bu, .o 7 (.bW dC), .o 8 (.aq cZ 3), .o 9 (.load db false 1), .m 10 br, .c 11 np [dg,cb]]) (.cond cJ (.run [.m 12 bu, .m 13 bu, .o 14 (.bW c6), .o 15 (.aq cO 6), .o 16 (.aq dD 4), .o 17 (.load dj false 1), .m 18 br, .m 19 dw, .o 20 (.build [(.int .i64 0),(.slice .full 0 [])] [(0,(1,dE)),(1,(1,dY))]), .o 21 (.du [(.int .i64 0),(.slice .full 0 [])] 2 1 [(0,ez)]), .o 22 (.app 2 32 dG ep), .o 23 (.bW cU), .o 24 (.aq eI 6), .o 25 (.aq eR 4), .op none none (.store eU eH 1)]) .skip)
abbrev QRG:AC:= .cond eH (.seq (.run [.o 23 (.aq dg 0), .o 24 (.aq eI 0), .o 25 (.load eR false 1), .m 6 eU, .o 7 (.mv (.k (.bool true)))]) .ret) .skip
abbrev QRL:AC:= .seq (.block 1 (.seq (.run [.o 16 (.cf cU cO 17), .o 17 (.load dj true 17), .o 9 (.alloc [(.int .i64 0),(.int .i64 0),(.slice .full 0 []),(.str []),(.str []),(.int .i64 0),(.int .i64 0),(.str []),(.slice .full 0 []),(.bool false),(.slice .full 0 []),(.slice .full 0 []),(.slice .full 0 []),(.int .i64 0),(.int .i64 0),(.int .i64 0),(.int .i64 0)]), .op none none (.store dg dG 17)]) (.seq (.run [.o 18 (.aq dg 0), .o 19 (.aq dE 2), .o 20 (.load dY false 1), .m 21 dw, .c 22 cr [ez,ep]]) QRG))) (.run [.o 26 (.bin .add cO (.k (.int .i64 1))), .m 14 fp])
abbrev QRP:AC:= .block 0 (.loop (.seq (.run [.o 15 (.bin .lss cO c6)]) (.seq (.cond dD .skip (.exit 0)) QRL)))
abbrev QRT:AC:= .seq (.run [(.o 6 (.mv (.k (.int .i64 (-1))))), .o 7 (.mv (.k (.bool true)))]) .ret
abbrev QRY:AC:= .seq (.seq (.run [.m 27 bu, .o 28 (.bW fv), .o 29 (.aq fZ 0), .o 30 (.aq gb 1), .o 31 (.load gy false 1), .m 32 br, .o 33 (.cf gu gQ 5), .o 34 (.aq gG 4), .o 35 (.load iD false 1), .m 36 dw, .c 37 cr [gR,ix]]) (.cond je QRT .skip)) (.seq (.run [.o 6 (.mv (.k (.int .i64 0))), .o 7 (.mv (.k (.bool false)))]) .ret)
abbrev QRZ:AC:= .seq (.seq (.run [.m 10 bu, .m 11 br, .c 12 gM [cb,cJ], .o 13 (.len cU), .o 14 (.mv (.k (.int .i64 0)))]) QRP) QRY
abbrev QS0:AC:= .seq (.run [.o 6 (.mv (.k (.int .i64 0))), .o 7 (.mv (.k (.bool false)))]) QRZ
abbrev QS5:AC:= .cond cZ (.seq (.run [.m 8 bu, .o 9 (.cf db (.k (.int .i64 0)) 13), .o 10 (.aq dg 0), .o 11 (.load cb false 1), .m 4 cJ]) .ret) .skip
abbrev QS9:AC:= .seq (.seq (.run [.m 5 bu, .o 6 (.len cm), .o 7 (.bin .gtr dC (.k (.int .i64 0)))]) QS5) (.seq (.run [.m 12 br, .m 4 cU]) .ret)
abbrev QSA:AC:= .seq (.run [.o 4 (.mv (.k (.int .i64 0)))]) QS9
abbrev QSC:AC:= .par [.m 3 bu, .o 4 (.bW cz), .o 5 (.aq ff 4), .o 6 (.load cm false 1), .m 7 bu, .o 8 (.bW cZ), .o 9 (.aq db 4), .o 10 (.load dg false 1), .o 11 (.len cb), .o 12 (.bin .sub cJ (.k (.int .i64 1))), .o 13 (.cf dC cU 1), .o 14 (.load c6 false 1), .m 2 cO] [(0,0),(1,0),(2,0),(3,0),(4,0),(5,0),(6,0),(7,0),(8,0),(9,0),(10,0),(11,0),(12,0)]
abbrev QSE:AC:= .seq (.run [.o 2 (.mv (.k .dR))]) (.seq QSC .ret)
abbrev QSI:AC:= .seq (.run [.o 1 (.box bu), .o 2 (.mv (.k (.slice .full 0 [])))]) (.seq (.run [.o 3 (.aq br 3), .o 4 (.load cz false 1),(.c 5 mJ [ff,(.k (.int .i64 1)),(.k (.int .i64 0)),(.k (.bool false)),(.k (.slice .full 0 []))]), .m 2 cm]) .ret)
abbrev QSM:AC:= .seq (.run [(.o 16 (.build [(.int .i64 0),(.int .i64 0)] [(0,(1,(.k (.int .i64 1))))])), .op none none (.store dw dj 2)]) .ret
abbrev QSY:AC:= .seq (.block 1 (.seq (.run [.o 22 (.cf dE ez 5), .o 23 (.load eH true 5), .o 5 (.alloc [(.str []),(.slice .full 0 []),(.slice .full 0 []),(.slice .full 0 []),(.slice .full 0 [])]), .op none none (.store cm eI 5)]) (.run [.m 24 cz, .o 25 (.aq cm 0), .o 26 (.load eU false 1), .o 27 (.du [(.str [])] 1 1 [(0,fp)]), .o 28 (.app 1 16 eR fv), .m 3 fZ]))) (.run [.o 29 (.bin .add ez (.k (.int .i64 1))), .m 20 gb])
abbrev QT2:AC:= .block 0 (.loop (.seq (.run [.o 21 (.bin .lss ez dY)]) (.seq (.cond ep .skip (.exit 0)) QSY)))
abbrev QT7:AC:= .seq (.run [(.o 53 (.build [(.int .i64 0),(.int .i64 0)] [(0,(1,(.k (.int .i64 5))))])), .op none none (.store dw kW 2)]) .ret
abbrev QTI:AC:= .seq (.run [(.o 73 (.build [(.int .i64 0),(.int .i64 0)] [(0,(1,(.k (.int .i64 5))))])), .op none none (.store dw Br 2)]) .ret
abbrev QTR:AC:= .seq (.run [.o 89 (.aq cU 0), .o 90 (.aq DA 0), .o 91 (.load FN false 1),(.o 92 (.build [(.int .i64 0),(.int .i64 0)] [(0,(1,(.k (.int .i64 5)))),(1,(1,Jx))])), .op none none (.store dw O3 2)]) .ret
abbrev QTX:AC:= .seq (.block 5 (.seq (.run [.o 80 (.cf Bs zo 17), .o 81 (.load FL true 17), .o 12 (.alloc [(.int .i64 0),(.int .i64 0),(.slice .full 0 []),(.str []),(.str []),(.int .i64 0),(.int .i64 0),(.str []),(.slice .full 0 []),(.bool false),(.slice .full 0 []),(.slice .full 0 []),(.slice .full 0 []),(.int .i64 0),(.int .i64 0),(.int .i64 0),(.int .i64 0)]), .op none none (.store cU FM 17)]) (.seq (.run [.o 82 (.load br true 2), .o 83 (.load dg true 5), .m 84 cz, .o 85 (.aq cU 0), .o 86 (.load Jt true 13), .c 87 ql [Jq,Jr,Js,Ju], .o 88 (.un .not Jv)]) (.cond Jw QTR .skip)))) (.run [.o 93 (.bin .add zo (.k (.int .i64 1))), .m 78 Va])
abbrev QU1:AC:= .block 4 (.loop (.seq (.run [.o 79 (.bin .lss zo Dz)]) (.seq (.cond FK .skip (.exit 4)) QTX)))
abbrev QU3:AC:= .seq (.seq (.run [.m 66 cb, .c 67 oe [vD], .m 68 vE, .g 69 68 false (.mv cb), .g 70 68 false (.uK 130 [br]), .d 71 68 false fY [zm,zn], .o 72 (.pick vF (.k (.bool true)) Dw)]) (.cond Bq QTI .skip)) (.seq (.run [.m 74 cZ, .m 75 db, .c 76 gM [Dx,Dy], .o 77 (.len Bs), .o 78 (.mv (.k (.int .i64 0)))]) QU1)
abbrev QU8:AC:= .seq (.block 3 (.seq (.run [.m 61 lV, .o 62 (.cf oE lV 5), .o 63 (.load pT true 5), .o 9 (.alloc [(.str []),(.slice .full 0 []),(.slice .full 0 []),(.slice .full 0 []),(.slice .full 0 [])]), .m 8 qx, .op none none (.store dg qy 5)]) (.seq (.run [.o 64 (.load dg true 5), .c 65 sO [qz], .m 10 ud]) QU3))) (.run [.o 94 (.bin .add lV (.k (.int .i64 1))), .m 59 Vb])
abbrev QUC:AC:= .block 2 (.loop (.seq (.run [.o 60 (.bin .lss lV nW)]) (.seq (.cond pb .skip (.exit 2)) QU8)))
abbrev QUG:AC:= .seq (.seq (.run [.o 56 (.aq br 1), .o 57 (.load nq false 1), .o 58 (.len oE), .o 59 (.mv (.k (.int .i64 0)))]) QUC) (.seq (.run [.o 95 (.build [(.int .i64 0),(.int .i64 0)] []), .op none none (.store dw Vc 2)]) .ret)
abbrev QUI:AC:= .seq (.seq (.run [.o 32 (.aq br 0), .o 33 (.load gQ false 1), .c 34 oe [gG], .m 35 iD, .g 36 35 false (.mv cz), .d 37 35 false oe [ix], .o 38 (.pick gR (.k (.bool true)) je), .m 39 jO, .g 40 39 false (.mv dC), .g 41 39 false (.bin .lss j8 (.k (.int .i64 0))), .o 42 (.pick jA (.k (.bool true)) jP), .m 43 kE, .g 44 43 false (.aq br 1), .g 45 43 false (.load kF false 1), .g 46 43 false (.mv dC), .g 47 43 false (.cf lJ lK 5), .g 48 43 false (.aq lU 1), .g 49 43 false (.load kU false 1), .g 50 43 false (.len kV), .g 51 43 false (.bin .gtr lL (.k (.int .i64 0))), .o 52 (.pick kr (.k (.bool true)) kG)]) (.cond kH QT7 .skip)) (.seq (.run [.o 54 (.load br true 2), .c 55 kS [lM], .m 7 lN]) QUG)
abbrev QUK:AC:= .seq (.seq (.run [.o 17 (.aq br 1), .o 18 (.load dG false 1), .o 19 (.len dE), .o 20 (.mv (.k (.int .i64 0)))]) QT2) (.seq (.run [.m 30 cz,(.c 31 fX [gy,(.k (.str [109,97,105,110]))]), .m 6 gu]) QUI)
abbrev QUM:AC:= .seq (.seq (.run [.o 13 (.load br true 2), .c 14 rn [c6], .o 15 (.un .not cO)]) (.cond dD QSM .skip)) (.seq (.run [.o 3 (.mv (.k (.slice .full 0 [])))]) QUK)
abbrev QUN:AC:= .seq (.run [.o 1 (.box bu), .o 2 (.alloc [(.int .i64 0),(.int .i64 0)])]) QUM
abbrev QUR:AC:= .seq (.run [(.o 9 (.build [(.int .i64 0),(.int .i64 0)] [(0,(1,(.k (.int .i64 1))))])), .op none none (.store dw dg 2)]) .ret
abbrev QV0:AC:= .seq (.run [.o 31 (.aq ff 0), .o 32 (.aq gu 0), .o 33 (.load gQ false 1),(.o 34 (.build [(.int .i64 0),(.int .i64 0)] [(0,(1,(.k (.int .i64 6)))),(1,(1,gG))])), .op none none (.store dw iD 2)]) .ret
abbrev QV3:AC:= .seq (.run [.o 18 (.cf cO dj 17), .o 19 (.load dE true 17), .o 4 (.alloc [(.int .i64 0),(.int .i64 0),(.slice .full 0 []),(.str []),(.str []),(.int .i64 0),(.int .i64 0),(.str []),(.slice .full 0 []),(.bool false),(.slice .full 0 []),(.slice .full 0 []),(.slice .full 0 []),(.int .i64 0),(.int .i64 0),(.int .i64 0),(.int .i64 0)]), .op none none (.store ff dY 17)]) (.seq (.run [.o 20 (.aq ff 0), .o 21 (.aq ez 1), .o 22 (.load ep false 1), .o 23 (.bin .eql eH (.k (.int .i64 4))), .m 24 eI, .g 25 24 true (.load br true 2), .g 26 24 true (.aq ff 0), .g 27 24 true (.load fp true 13), .d 28 24 true vz [eU,fv], .g 29 24 true (.un .not fZ), .o 30 (.pick eR gb (.k (.bool false)))]) (.cond gy QV0 .skip))
abbrev QV7:AC:= .seq (.cond dG .skip (.exit 0)) (.seq (.block 1 QV3) (.run [.o 35 (.bin .add dj (.k (.int .i64 1))), .m 16 gR]))
abbrev QVB:AC:= .seq (.run [.o 10 (.load br true 2), .c 11 kS [cb], .o 12 (.bW cJ), .o 13 (.aq cU 2), .o 14 (.load c6 false 1), .o 15 (.len cO), .o 16 (.mv (.k (.int .i64 0)))]) (.block 0 (.loop (.seq (.run [.o 17 (.bin .lss dj dD)]) QV7)))
abbrev QVF:AC:= .seq (.seq (.run [.o 5 (.load br true 2), .c 6 lY [cm], .o 7 (.CM dC 0 false 1), .o 8 (.bin .neq cZ (.k (.int .i64 0)))]) (.cond db QUR .skip)) (.seq QVB (.seq (.run [.o 36 (.build [(.int .i64 0),(.int .i64 0)] []), .op none none (.store dw ix 2)]) .ret))
abbrev QVG:AC:= .seq (.run [.o 1 (.box bu), .o 2 (.alloc [(.int .i64 0),(.int .i64 0)])]) QVF
abbrev QVL:AC:= .seq (.run [(.o 14 (.build [(.int .i64 0),(.int .i64 0)] [(0,(1,(.k (.int .i64 1))))])), .op none none (.store dw cO 2)]) .ret
abbrev QW1:AC:= .seq (.run [.o 47 (.aq dg 0), .o 48 (.aq lU 0), .o 49 (.load kU false 1),(.o 50 (.build [(.int .i64 0),(.int .i64 0)] [(0,(1,(.k (.int .i64 7)))),(1,(1,kV))])), .op none none (.store dw lL 2)]) .ret
abbrev QW4:AC:= .seq (.run [.m 32 dC, .o 33 (.aq dg 0), .o 34 (.aq gG 2), .o 35 (.load iD false 1), .c 36 qb [gQ,gR], .m 31 ix, .o 37 (.ext gu 0), .o 38 (.ext gu 1), .m 6 je, .m 7 jO]) (.seq (.run [.m 39 cZ, .o 40 (.un .not jA), .m 41 j8, .g 42 41 false (.mv cz), .g 43 41 false (.load dg true 17), .d 44 41 false vA [kE,kr], .g 45 41 false (.un .not kF), .o 46 (.pick jP (.k (.bool true)) lJ)]) (.cond lK QW1 .skip))
abbrev QW8:AC:= .seq (.block 3 (.seq (.run [.o 29 (.cf eU fv 17), .o 30 (.load gb true 17), .o 9 (.alloc [(.int .i64 0),(.int .i64 0),(.slice .full 0 []),(.str []),(.str []),(.int .i64 0),(.int .i64 0),(.str []),(.slice .full 0 []),(.bool false),(.slice .full 0 []),(.slice .full 0 []),(.slice .full 0 []),(.int .i64 0),(.int .i64 0),(.int .i64 0),(.int .i64 0)]), .op none none (.store dg gy 17)]) QW4)) (.run [.o 51 (.bin .add fv (.k (.int .i64 1))), .m 27 kG])
abbrev QWC:AC:= .block 2 (.loop (.seq (.run [.o 28 (.bin .lss fv fp)]) (.seq (.cond fZ .skip (.exit 2)) QW8)))
abbrev QWH:AC:= .seq (.run [(.o 61 (.build [(.int .i64 0),(.int .i64 0)] [(0,(1,(.k (.int .i64 7))))])), .op none none (.store dw qx 2)]) .ret
abbrev QWL:AC:= .seq (.seq (.run [.m 23 cz, .m 24 ff, .c 25 gM [eI,eR], .o 26 (.len eU), .o 27 (.mv (.k (.int .i64 0)))]) QWC) (.seq (.run [.m 53 dC, .o 54 (.aq cm 4), .o 55 (.load lM false 1), .c 56 qb [kW,lN], .m 52 nq, .o 57 (.ext kH 0), .o 58 (.ext kH 1), .m 7 nW]) (.seq (.run [.m 59 cZ, .o 60 (.un .not lV)]) (.cond pb QWH .skip)))
abbrev QWN:AC:= .seq (.run [.o 6 (.mv (.k (.slice .full 0 [])))]) (.seq (.run [.o 7 (.mv (.k (.bool true)))]) QWL)
abbrev QWR:AC:= .seq (.block 1 (.seq (.run [.m 20 dE, .o 21 (.cf dj dE 5), .o 22 (.load ep true 5), .o 5 (.alloc [(.str []),(.slice .full 0 []),(.slice .full 0 []),(.slice .full 0 []),(.slice .full 0 [])]), .m 4 ez, .op none none (.store cm eH 5)]) QWN)) (.run [.o 62 (.bin .add dE (.k (.int .i64 1))), .m 18 pT])
abbrev QWV:AC:= .block 0 (.loop (.seq (.run [.o 19 (.bin .lss dE dG)]) (.seq (.cond dY .skip (.exit 0)) QWR)))
abbrev QWZ:AC:= .seq (.seq (.run [.o 15 (.aq br 1), .o 16 (.load dD false 1), .o 17 (.len dj), .o 18 (.mv (.k (.int .i64 0)))]) QWV) (.seq (.run [.o 63 (.build [(.int .i64 0),(.int .i64 0)] []), .op none none (.store dw qy 2)]) .ret)
abbrev QX1:AC:= .seq (.run [.o 10 (.load br true 2), .c 11 ry [cb], .m 3 cJ]) (.seq (.seq (.run [.m 12 cz, .o 13 (.Gl false cU (.k .dR))]) (.cond c6 QVL .skip)) QWZ)
abbrev QX2:AC:= .seq (.run [.o 1 (.box bu), .o 2 (.alloc [(.int .i64 0),(.int .i64 0)])]) QX1
abbrev QX6:AC:= .seq (.run [(.o 12 (.build [(.int .i64 0),(.int .i64 0)] [(0,(1,(.k (.int .i64 1))))])), .op none none (.store dw cU 2)]) .ret
abbrev QXE:AC:= .par [.m 21 cz, .o 22 (.aq cm 0), .o 23 (.load eH false 1), .o 24 (.load br true 2), .o 25 (.aq cm 0), .o 26 (.load eU false 1), .c 27 rz [eR,fp], .op none none (.yN ep eI fv)] [(3,0),(4,0),(5,0),(6,0),(0,0),(1,0),(2,1),(7,0)]
abbrev QXI:AC:= .seq (.block 1 (.seq (.run [.o 19 (.cf dD dG 5), .o 20 (.load dY true 5), .o 5 (.alloc [(.str []),(.slice .full 0 []),(.slice .full 0 []),(.slice .full 0 []),(.slice .full 0 [])]), .op none none (.store cm ez 5)]) QXE)) (.run [.o 28 (.bin .add dG (.k (.int .i64 1))), .m 17 fZ])
abbrev QXM:AC:= .block 0 (.loop (.seq (.run [.o 18 (.bin .lss dG dj)]) (.seq (.cond dE .skip (.exit 0)) QXI)))
abbrev QXU:AC:= .seq (.run [.o 54 (.aq cZ 0), .o 55 (.aq lM 0), .o 56 (.load lN false 1),(.o 57 (.build [(.int .i64 0),(.int .i64 0)] [(0,(1,(.k (.int .i64 8)))),(1,(1,nq))])), .op none none (.store dw oE 2)]) .ret
abbrev QXX:AC:= .seq (.run [.o 37 (.cf gG gR 17), .o 38 (.load je true 17), .o 7 (.alloc [(.int .i64 0),(.int .i64 0),(.slice .full 0 []),(.str []),(.str []),(.int .i64 0),(.int .i64 0),(.str []),(.slice .full 0 []),(.bool false),(.slice .full 0 []),(.slice .full 0 []),(.slice .full 0 []),(.int .i64 0),(.int .i64 0),(.int .i64 0),(.int .i64 0)]), .op none none (.store cZ jO 17)]) (.seq (.run [.o 39 (.aq cZ 0), .o 40 (.aq jA 1), .o 41 (.load j8 false 1), .o 42 (.bin .eql jP (.k (.int .i64 4))), .m 43 kE, .g 44 43 true (.aq cZ 0), .g 45 43 true (.load kF true 13), .g 46 43 true (.mv cz), .g 47 43 true (.aq cZ 0), .g 48 43 true (.aq lU 4), .g 49 43 true (.load kU false 1), .g 50 43 true (.wh lK kV (.slice .full 0 [])), .d 51 43 true sq [lJ,lL], .g 52 43 true (.un .not kG), .o 53 (.pick kr kH (.k (.bool false)))]) (.cond kW QXU .skip))
abbrev QY1:AC:= .seq (.cond ix .skip (.exit 2)) (.seq (.block 3 QXX) (.run [.o 58 (.bin .add gR (.k (.int .i64 1))), .m 35 nW]))
abbrev QY5:AC:= .seq (.run [.o 29 (.load br true 2), .c 30 kS [gb], .o 31 (.bW gy), .o 32 (.aq gu 2), .o 33 (.load gQ false 1), .o 34 (.len gG), .o 35 (.mv (.k (.int .i64 0)))]) (.block 2 (.loop (.seq (.run [.o 36 (.bin .lss gR iD)]) QY1)))
abbrev QY9:AC:= .seq (.seq (.run [.o 14 (.aq br 1), .o 15 (.load cO false 1), .o 16 (.len dD), .o 17 (.mv (.k (.int .i64 0)))]) QXM) (.seq QY5 (.seq (.run [.o 59 (.build [(.int .i64 0),(.int .i64 0)] []), .op none none (.store dw lV 2)]) .ret))
abbrev QYB:AC:= .seq (.seq (.run [.o 8 (.load br true 2), .c 9 qk [db], .o 10 (.CM dg 0 false 1), .o 11 (.bin .neq cb (.k (.int .i64 0)))]) (.cond cJ QX6 .skip)) (.seq (.run [.op (some 13) none .uL, .m 3 c6]) QY9)
abbrev QYC:AC:= .seq (.run [.o 1 (.box bu), .o 2 (.alloc [(.int .i64 0),(.int .i64 0)])]) QYB
abbrev QYN:AC:= .cond dG (.seq (.run [.o 2 (.mv (.k (.int .i64 2)))]) .ret) .skip
abbrev QYP:AC:= .cond cb (.seq (.run [.o 2 (.mv (.k (.int .i64 1)))]) .ret) (.seq (.run [.m 18 bu, .o 19 (.bin .geq dE (.k (.int .i64 5))), .m 20 dY, .g 21 20 true (.mv bu), .g 22 20 true (.bin .leq ep (.k (.int .i64 17))), .o 23 (.pick ez eH (.k (.bool false))), .m 17 eI]) QYN)
abbrev QYR:AC:= .cond cz (.seq (.run [.o 2 (.mv (.k (.int .i64 0)))]) .ret) (.seq (.run [.m 11 bu, .o 12 (.bin .eql cJ (.k (.int .i64 3))), .m 13 cU, .g 14 13 false (.mv bu), .g 15 13 false (.bin .eql cO (.k (.int .i64 4))), .o 16 (.pick c6 (.k (.bool true)) dD), .m 10 dj]) QYP)
abbrev QYT:AC:= .block 0 (.seq (.run [.m 4 bu, .o 5 (.bin .eql ff (.k (.int .i64 1))), .m 6 cm, .g 7 6 false (.mv bu), .g 8 6 false (.bin .eql cZ (.k (.int .i64 2))), .o 9 (.pick dC (.k (.bool true)) db), .m 3 dg]) QYR)
abbrev QYV:AC:= .seq (.run [(.o 2 (.mv (.k (.int .i64 (-1)))))]) .ret
abbrev QYX:AC:= .seq (.run [.o 2 (.mv (.k (.int .i64 0)))]) (.seq QYT QYV)
open Go.Proofs
theorem FP:Has Tryz.prog nn 15 [(2,none)] QL1:=⟨Tryz.f64,by kernel_rfl,by kernel_rfl⟩
theorem nr:Has Tryz.prog nV 27 [(2,none)] QLB:=⟨Tryz.f65,by kernel_rfl,by kernel_rfl⟩
theorem rE:Has Tryz.prog kq 71 [(6,none)] QMC:=⟨Tryz.f66,by kernel_rfl,by kernel_rfl⟩
theorem JC:Has Tryz.prog rp 5 [(2,(some (true,4)))] QMG:=⟨Tryz.f68,by kernel_rfl,by kernel_rfl⟩
theorem HL:Has Tryz.prog lf 5 [(2,(some (true,4)))] QMK:=⟨Tryz.f69,by kernel_rfl,by kernel_rfl⟩
theorem JD:Has Tryz.prog uP 12 [(6,(some (true,4)))] QMO:=⟨Tryz.f70,by kernel_rfl,by kernel_rfl⟩
theorem Bt:Has Tryz.prog jZ 29 [(4,none)] QN7:=⟨Tryz.f71,by kernel_rfl,by kernel_rfl⟩
theorem Bu:Has Tryz.prog j7 73 [] QO9:=⟨Tryz.f72,by kernel_rfl,by kernel_rfl⟩
theorem FQ:Has Tryz.prog vx 28 [(4,none)] QP2:=⟨Tryz.f73,by kernel_rfl,by kernel_rfl⟩
theorem zt:Has Tryz.prog o7 27 [(4,none)] QPC:=⟨Tryz.f74,by kernel_rfl,by kernel_rfl⟩
theorem rS:Has Tryz.prog gh 19 [(4,none)] QPZ:=⟨Tryz.f75,by kernel_rfl,by kernel_rfl⟩
theorem yl:Has Tryz.prog lO 8 [(3,none)] QQ3:=⟨Tryz.f76,by kernel_rfl,by kernel_rfl⟩
theorem ym:Has Tryz.prog iL 20 [(4,none)] QQ9:=⟨Tryz.f77,by kernel_rfl,by kernel_rfl⟩
theorem yn:Has Tryz.prog jV 64 [(4,none),(5,none)] QR3:=⟨Tryz.f78,by kernel_rfl,by kernel_rfl⟩
theorem yo:Has Tryz.prog eA 26 [] QR7:=⟨Tryz.f79,by kernel_rfl,by kernel_rfl⟩
theorem CC:Has Tryz.prog oO 38 [(6,none),(7,none)] QS0:=⟨Tryz.f80,by kernel_rfl,by kernel_rfl⟩
theorem Ao:Has Tryz.prog qa 13 [(4,none)] QSA:=⟨Tryz.f81,by kernel_rfl,by kernel_rfl⟩
theorem Az:Has Tryz.prog kL 15 [(2,none)] QSE:=⟨Tryz.f82,by kernel_rfl,by kernel_rfl⟩
theorem HM:Has Tryz.prog xx 6 [(2,none)] QSI:=⟨Tryz.f85,by kernel_rfl,by kernel_rfl⟩
theorem wH:Has Tryz.prog lY 96 [(2,(some (true,2)))] QUN:=⟨Tryz.f95,by kernel_rfl,by kernel_rfl⟩
theorem wI:Has Tryz.prog qk 37 [(2,(some (true,2)))] QVG:=⟨Tryz.f96,by kernel_rfl,by kernel_rfl⟩
theorem yp:Has Tryz.prog vy 64 [(2,(some (true,2)))] QX2:=⟨Tryz.f97,by kernel_rfl,by kernel_rfl⟩
theorem wJ:Has Tryz.prog tW 60 [(2,(some (true,2)))] QYC:=⟨Tryz.f98,by kernel_rfl,by kernel_rfl⟩
theorem HN:Has Tryz.prog xy 24 [(2,none)] QYX:=⟨Tryz.f99,by kernel_rfl,by kernel_rfl⟩
abbrev QZ1:AC:= .seq (.run [.o 2 (.mv (.k (.bool false)))]) (.seq (.run [.m 3 bu, .o 4 (.bin .geq cz (.k (.int .u8 97))), .m 5 ff, .g 6 5 true (.mv bu), .g 7 5 true (.bin .leq dC (.k (.int .u8 122))), .o 8 (.pick cm cZ (.k (.bool false))), .m 2 db]) .ret)
abbrev QZ8:AC:= .seq (.seq (.run [.m 5 br, .m 6 bu, .o 7 (.va dC), .o 8 (.bin .lss cm cZ), .m 9 db, .g 10 9 true (.mv bu), .g 11 9 true (.mv br), .g 12 9 true (.AP cb cJ), .d 13 9 true rr [cU], .g 14 9 true (.mv c6), .g 15 14 false (.mv bu), .g 16 14 false (.mv br), .g 17 14 false (.AP dD dj), .d 18 14 false xA [dG], .g 19 9 true (.pick cO (.k (.bool true)) dE), .o 20 (.pick dg dY (.k (.bool false)))]) (.cond ez .skip (.exit 0))) (.block 1 (.run [.m 21 br, .o 22 (.bin .add ep (.k (.int .i64 1))), .m 1 eH]))
abbrev QZE:AC:= .seq (.run [.o 4 (.mv (.k (.int .i64 0)))]) (.seq (.block 0 (.loop QZ8)) (.seq (.run [.m 23 br, .m 4 eI]) .ret))
abbrev QZV:AC:= .seq (.run [.o 16 (.bin .eql cz (.k (.str [114,101,97,100]))), .m 4 dj]) (.cond ff .skip (.run [.o 17 (.bin .eql cz (.k (.str [112,114,105,110,116]))), .m 4 dG]))
abbrev QZY:AC:= .cond ff .skip (.seq (.run [.o 15 (.bin .eql cz (.k (.str [103,111,116,111]))), .m 4 dD]) (.cond ff .skip QZV))
abbrev aj8:AC:= .cond ff .skip (.seq (.run [.o 14 (.bin .eql cz (.k (.str [114,101,116,117,114,110]))), .m 4 cO]) QZY)
abbrev aj9:AC:= .cond ff .skip (.seq (.run [.o 13 (.bin .eql cz (.k (.str [99,111,110,116,105,110,117,101]))), .m 4 c6]) aj8)
abbrev aka:AC:= .cond ff .skip (.seq (.run [.o 12 (.bin .eql cz (.k (.str [98,114,101,97,107]))), .m 4 cU]) aj9)
abbrev akb:AC:= .cond ff .skip (.seq (.run [.o 11 (.bin .eql cz (.k (.str [119,104,105,108,101]))), .m 4 cJ]) aka)
abbrev akc:AC:= .cond ff .skip (.seq (.run [.o 10 (.bin .eql cz (.k (.str [101,108,115,101]))), .m 4 cb]) akb)
abbrev akd:AC:= .cond ff .skip (.seq (.run [.o 9 (.bin .eql cz (.k (.str [105,102]))), .m 4 dg]) akc)
abbrev ake:AC:= .cond ff .skip (.seq (.run [.o 8 (.bin .eql cz (.k (.str [114,101,102]))), .m 4 db]) akd)
abbrev akf:AC:= .cond ff .skip (.seq (.run [.o 7 (.bin .eql cz (.k (.str [118,97,114]))), .m 4 cZ]) ake)
abbrev akg:AC:= .cond ff .skip (.seq (.run [.o 6 (.bin .eql cz (.k (.str [112,114,111,99]))), .m 4 dC]) akf)
abbrev akh:AC:= .cond ff (.seq (.run [.o 2 (.mv (.k (.bool true)))]) .ret) .skip
abbrev aki:AC:= .seq (.seq (.run [.o 5 (.bin .eql cz (.k (.str [103,108,111,98,97,108]))), .m 4 cm]) akg) akh
abbrev akj:AC:= .seq (.seq (.run [.m 3 bu]) (.block 0 aki)) (.seq (.run [.o 2 (.mv (.k (.bool false)))]) .ret)
abbrev akk:AC:= .seq (.run [.o 2 (.mv (.k (.bool false)))]) akj
abbrev akl:AC:= .par [.o 10 (.aq br 9), .o 11 (.load cb false 1), .o 3 (.mv (.k (.bool false))), .o 4 (.mv (.k (.bool false))), .o 5 (.mv (.k (.bool false))), .m 6 cJ, .o 7 (.mv (.k (.bool false))), .o 8 (.mv (.k (.bool false)))] [(0,0),(1,0),(2,0),(3,0),(4,0),(5,0),(6,0),(7,0)]
abbrev akm:AC:= .seq (.run [.o 20 (.bin .eql dj (.k (.int .i64 2))), .m 19 ez]) (.cond dY .skip (.run [.o 21 (.bin .eql dj (.k (.int .i64 10))), .m 19 ep]))
abbrev akn:AC:= .seq (.run [.o 38 (.bin .eql dj (.k (.int .i64 7))), .m 37 jO]) (.cond je .skip (.run [.o 39 (.bin .eql dj (.k (.int .i64 8))), .m 37 jA]))
abbrev ako:AC:= .cond je .skip (.seq (.run [.o 2 (.mv (.k (.bool false)))]) .ret)
abbrev akp:AC:= .seq (.run [.o 34 (.bin .eql dj (.k (.int .i64 9))), .m 33 iD]) (.cond gG (.run [.o 35 (.aq br 9), .o 36 (.load gR false 1), .m 5 ix, .o 6 (.mv (.k (.bool false)))]) (.seq akn ako))
abbrev akq:AC:= .seq (.run [.o 32 (.bin .eql dj (.k (.int .i64 6))), .m 31 gQ]) (.cond gu (.run [.o 5 (.mv (.k (.bool true))), .o 7 (.mv (.k (.bool true)))]) akp)
abbrev akr:AC:= .seq (.run [.o 30 (.bin .eql dj (.k (.int .i64 5))), .m 29 gy]) (.cond gb (.run [.o 5 (.mv (.k (.bool true))), .o 7 (.mv (.k (.bool true))), .o 8 (.mv (.k (.bool true)))]) akq)
abbrev aks:AC:= .seq (.run [.o 25 (.bin .eql dj (.k (.int .i64 4))), .m 24 eU]) (.cond eR (.run [.o 26 (.aq br 3), .o 27 (.load fp false 1), .o 28 (.bin .neq fv (.k (.str []))), .m 3 fZ, .o 4 (.mv (.k (.bool true)))]) akr)
abbrev akt:AC:= .seq (.run [.o 23 (.bin .eql dj (.k (.int .i64 3))), .m 22 eI]) (.cond eH (.run [.o 5 (.mv (.k (.bool true)))]) aks)
abbrev aku:AC:= .seq akm (.cond dY (.run [.o 3 (.mv (.k (.bool true)))]) akt)
abbrev akv:AC:= .seq (.run [.o 18 (.bin .eql dj (.k (.int .i64 1))), .m 17 dE]) (.cond dG (.run [.o 3 (.mv (.k (.bool true))), .o 5 (.mv (.k (.bool true)))]) aku)
abbrev akw:AC:= .run [.m 40 dC, .m 41 j8, .g 42 41 false (.mv cZ), .g 43 41 false (.un .not kE), .g 44 41 false (.mv kr), .g 45 44 true (.aq br 11), .g 46 44 true (.load lJ false 1), .g 47 44 true (.len lK), .g 48 44 true (.bin .gtr lU (.k (.int .i64 0))), .g 49 41 false (.pick kF kU (.k (.bool false))), .o 50 (.pick jP (.k (.bool true)) kV), .m 51 lL, .g 52 51 false (.mv db), .g 53 51 false (.un .not kH), .g 54 51 false (.mv kW), .g 55 54 true (.aq br 12), .g 56 54 true (.load lN false 1), .g 57 54 true (.len nq), .g 58 54 true (.bin .gtr oE (.k (.int .i64 0))), .g 59 51 false (.pick lM nW (.k (.bool false))), .o 60 (.pick kG (.k (.bool true)) lV), .m 61 pb, .g 62 61 false (.mv dg), .g 63 61 false (.un .not pT), .g 64 61 false (.mv qy), .g 65 64 true (.aq br 10), .g 66 64 true (.load ud false 1), .g 67 64 true (.len vD), .g 68 64 true (.bin .gtr vE (.k (.int .i64 0))), .g 69 61 false (.pick qz vF (.k (.bool false))), .o 70 (.pick qx (.k (.bool true)) zm)]
abbrev akx:AC:= .cond zn (.seq (.run [.o 2 (.mv (.k (.bool false)))]) .ret) .skip
abbrev aky:AC:= .cond DA (.seq (.run [.o 2 (.mv (.k (.bool false)))]) .ret) .skip
abbrev ac5:AC:= .seq (.seq (.run [.o 71 (.aq br 3), .o 72 (.load Dw false 1), .m 73 cz, .c 74 o8 [Bq,Br], .o 75 (.un .not Dx), .m 76 Dy, .g 77 76 false (.aq br 4), .g 78 76 false (.load Dz false 1), .g 79 76 false (.mv ff), .d 80 76 false o8 [zo,FK], .g 81 76 false (.un .not FL), .o 82 (.pick Bs (.k (.bool true)) FM), .m 83 Jq, .g 84 83 false (.aq br 5), .g 85 83 false (.load Js true 4), .g 86 83 false (.mv cm), .d 87 83 false rA [Jt,Ju], .g 88 83 false (.un .not Jv), .o 89 (.pick Jr (.k (.bool true)) Jw)]) aky) (.seq (.run [.o 90 (.aq br 10), .o 91 (.load FN false 1), .c 92 tY [Jx], .m 2 O3]) .ret)
abbrev ac6:AC:= .seq (.seq akw akx) ac5
abbrev Vd:AC:= .seq (.seq (.run [.o 15 (.aq br 1), .o 16 (.load dD false 1)]) (.block 0 akv)) ac6
abbrev ac7:AC:= .seq (.run [.o 12 (.aq br 1), .o 13 (.load cU false 1), .o 14 (.bin .eql c6 (.k (.int .i64 4))), .m 9 cO]) Vd
abbrev ac8:AC:= .seq akl ac7
abbrev akz:AC:= .seq (.run [.o 1 (.box bu), .o 2 (.mv (.k (.bool false)))]) ac8
abbrev akA:AC:= .seq (.block 1 (.seq (.run [.o 13 (.cf dg cJ 13), .o 14 (.load c6 true 13), .o 5 (.alloc [(.int .i64 0),(.int .i64 0),(.slice .full 0 []),(.str []),(.str []),(.int .i64 0),(.int .i64 0),(.str []),(.slice .full 0 []),(.bool false),(.slice .full 0 []),(.slice .full 0 []),(.slice .full 0 [])]), .op none none (.store cm cO 13)]) (.run [.m 15 cz, .o 16 (.load cm true 13), .c 17 mI [dj], .o 18 (.bin .add dD dG), .m 3 dE]))) (.run [.o 19 (.bin .add cJ (.k (.int .i64 1))), .m 11 dY])
abbrev akB:AC:= .block 0 (.loop (.seq (.run [.o 12 (.bin .lss cJ cb)]) (.seq (.cond cU .skip (.exit 0)) akA)))
abbrev akC:AC:= .seq (.block 3 (.seq (.run [.o 25 (.cf ep eI 13), .o 26 (.load eU true 13), .o 7 (.alloc [(.int .i64 0),(.int .i64 0),(.slice .full 0 []),(.str []),(.str []),(.int .i64 0),(.int .i64 0),(.str []),(.slice .full 0 []),(.bool false),(.slice .full 0 []),(.slice .full 0 []),(.slice .full 0 [])]), .op none none (.store cZ fp 13)]) (.run [.m 27 cz, .o 28 (.load cZ true 13), .c 29 mI [fZ], .o 30 (.bin .add fv gb), .m 3 gy]))) (.run [.o 31 (.bin .add eI (.k (.int .i64 1))), .m 23 gu])
abbrev akD:AC:= .block 2 (.loop (.seq (.run [.o 24 (.bin .lss eI eH)]) (.seq (.cond eR .skip (.exit 2)) akC)))
abbrev akE:AC:= .seq (.seq (.run [.o 20 (.aq br 12), .o 21 (.load ez false 1), .o 22 (.len ep), .o 23 (.mv (.k (.int .i64 0)))]) akD) (.seq (.run [.m 32 cz, .m 2 gQ]) .ret)
abbrev akF:AC:= .seq (.seq (.run [.o 8 (.aq br 11), .o 9 (.load db false 1), .o 10 (.len dg), .o 11 (.mv (.k (.int .i64 0)))]) akB) akE
abbrev akG:AC:= .seq (.run [.o 1 (.box bu), .o 2 (.mv (.k (.int .i64 0)))]) (.seq (.run [.o 3 (.mv (.k (.int .i64 1)))]) akF)
abbrev akH:AC:= .cond ff (.seq (.run [.o 2 (.mv (.k (.slice .full 0 [])))]) .ret) .skip
abbrev akI:AC:= .seq (.run [.o 2 (.mv (.k (.slice .full 0 [])))]) (.seq (.seq (.run [.m 3 bu, .nil (some 4) none false cz]) akH) (.seq (.run [.o 5 (.du [(.str [])] 1 0 []), .m 6 bu, .o 7 (.app 1 16 cm dC), .m 2 cZ]) .ret))
abbrev akJ:AC:= .seq (.block 1 (.seq (.run [.o 11 (.cf cZ dg 2), .o 12 (.load cJ true 2), .o 5 (.alloc [(.str []),(.bool false)]), .op none none (.store cm cU 2)]) (.run [.m 13 cz, .o 14 (.aq cm 0), .o 15 (.load cO false 1), .o 16 (.du [(.str [])] 1 1 [(0,dD)]), .o 17 (.app 1 16 c6 dj), .m 3 dG]))) (.run [.o 18 (.bin .add dg (.k (.int .i64 1))), .m 9 dE])
abbrev akK:AC:= .block 0 (.loop (.seq (.run [.o 10 (.bin .lss dg db)]) (.seq (.cond cb .skip (.exit 0)) akJ)))
abbrev akL:AC:= .seq (.seq (.run [.o 6 (.aq br 1), .o 7 (.load dC false 1), .o 8 (.len cZ), .o 9 (.mv (.k (.int .i64 0)))]) akK) (.seq (.run [.m 19 cz, .o 20 (.aq br 2), .o 21 (.load ez false 1), .o 22 (.app 1 16 dY ep), .m 2 eH]) .ret)
abbrev akM:AC:= .seq (.run [.o 1 (.box bu), .o 2 (.mv (.k (.slice .full 0 [])))]) (.seq (.run [.o 3 (.mv (.k (.slice .full 0 [])))]) akL)
abbrev akN:AC:= .block 1 (.seq (.run [.m 10 db, .m 5 cb]) (.seq (.run [.m 11 br, .m 12 bu, .m 13 cm, .o 14 (.cf cU c6 1), .o 15 (.load cO false 1), .o 16 (.bin .eql cJ dD)]) (.cond dj (.seq (.run [.m 17 cm, .m 4 dG]) .ret) .skip)))
abbrev akO:AC:= .seq (.cond dg .skip (.exit 0)) (.seq akN (.run [.o 18 (.bin .add db (.k (.int .i64 1))), .m 8 dE]))
abbrev akP:AC:= .seq (.run [.m 6 bu, .o 7 (.len dC), .o 8 (.mv (.k (.int .i64 0)))]) (.block 0 (.loop (.seq (.run [.o 9 (.bin .lss db cZ)]) akO)))
abbrev akQ:AC:= .seq (.run [(.o 4 (.mv (.k (.int .i64 (-1)))))]) .ret
abbrev akR:AC:= .seq (.run [.o 4 (.mv (.k (.int .i64 0)))]) (.seq akP akQ)
abbrev akS:AC:= .cond cb (.seq (.run [.o 6 (.mv (.k (.int .i64 0))), .o 7 (.mv (.k (.bool false)))]) .ret) .skip
abbrev akT:AC:= .seq (.run [.o 3 (.box bu), .o 6 (.mv (.k (.int .i64 0))), .o 7 (.mv (.k (.bool false)))]) (.seq (.seq (.run [.o 8 (.load cz true 4), .c 9 nj [db], .o 10 (.un .not dg)]) akS) (.seq (.run [.o 11 (.load cz true 4), .m 12 br, .m 13 dw, .c 14 lg [cJ,cU,c6], .o 15 (.ext cO 0), .o 16 (.ext cO 1), .m 6 dD, .m 7 dj]) .ret))
abbrev akU:AC:= .seq (.run [.o 4 (.mv (.k (.bool false)))]) (.seq (.run [.m 5 bu, .m 6 br, .c 7 o9 [cm,dC], .o 8 (.bin .geq cZ (.k (.int .i64 0))), .m 4 db]) .ret)
abbrev akV:AC:= .par [.m 5 bu, .o 6 (.bW cm), .o 7 (.aq dC 2), .o 8 (.load cZ false 1), .m 9 bu, .o 10 (.bW dg), .o 11 (.aq cb 3), .o 12 (.load cJ false 1), .m 13 br, .o 14 (.cf cU c6 1), .o 15 (.load cO false 1), .o 16 (.bin .sub dD (.k (.int .i64 1))), .m 17 bu, .o 18 (.bW dG), .o 19 (.aq dE 4), .o 20 (.load dY false 1), .m 21 br, .o 22 (.cf ez ep 1), .o 23 (.load eH false 1), .o 24 (.bin .sub eI (.k (.int .i64 1))), .o 25 (.CK 17 db (some dj) (some eR)), .m 4 eU] [(0,0),(1,0),(2,0),(3,0),(4,0),(5,0),(6,0),(7,0),(8,0),(9,0),(10,0),(11,0),(12,0),(13,0),(14,0),(15,0),(16,0),(17,0),(18,0),(19,0),(20,0),(21,0)]
abbrev akW:AC:= .seq (.run [.o 4 (.mv (.k (.slice .full 0 [])))]) (.seq akV .ret)
abbrev akX:AC:= .seq (.run [.o 4 (.mv (.k (.bool false)))]) (.seq (.run [.m 5 bu, .m 6 br, .c 7 fX [cm,dC], .o 8 (.bin .geq cZ (.k (.int .i64 0))), .m 4 db]) .ret)
abbrev akY:AC:= .run [.m 23 ff, .m 24 bu, .m 25 cJ, .o 26 (.cf eR eU 13), .o 27 (.load fp true 13), .m 28 br, .m 29 dw, .m 30 cz, .o 31 (.build [(.int .i64 0),(.int .i64 0),(.slice .full 0 []),(.str []),(.str []),(.int .i64 0),(.int .i64 0),(.str []),(.slice .full 0 []),(.bool false),(.slice .full 0 []),(.slice .full 0 []),(.slice .full 0 []),(.int .i64 0),(.int .i64 0),(.bool false)] [(0,(13,fv)),(13,(1,fZ)),(14,(1,gb)),(15,(1,gy))]), .o 32 (.du [(.int .i64 0),(.int .i64 0),(.slice .full 0 []),(.str []),(.str []),(.int .i64 0),(.int .i64 0),(.str []),(.slice .full 0 []),(.bool false),(.slice .full 0 []),(.slice .full 0 []),(.slice .full 0 []),(.int .i64 0),(.int .i64 0),(.bool false)] 16 1 [(0,gu)]), .o 33 (.app 16 232 eI gQ), .m 4 gG]
abbrev akZ:AC:= .par [.m 36 bu, .m 37 cJ, .o 38 (.cf ix je 13), .o 39 (.aq jO 11), .o 40 (.load jA false 1), .m 41 br, .o 42 (.bin .add jP (.k (.int .i64 1))), .m 43 bu, .m 44 cJ, .o 45 (.cf kr kF 13), .o 46 (.aq lJ 0), .o 47 (.load lK false 1), .m 48 ff, .c 49 mJ [j8,kE,lU,(.k (.bool false)),kU], .m 4 kV] [(0,0),(1,0),(2,0),(3,0),(4,0),(5,0),(6,0),(7,0),(8,0),(9,0),(10,0),(11,0),(12,0),(13,0),(14,0)]
abbrev ak0:AC:= .par [.m 50 bu, .m 51 cJ, .o 52 (.cf lL kG 13), .o 53 (.aq kH 12), .o 54 (.load kW false 1), .m 55 br, .o 56 (.bin .add lN (.k (.int .i64 1))), .m 57 bu, .m 58 cJ, .o 59 (.cf oE nW 13), .o 60 (.aq lV 0), .o 61 (.load pb false 1), .m 62 ff, .c 63 mJ [lM,nq,qx,(.k (.bool true)),pT], .m 4 qy] [(0,0),(1,0),(2,0),(3,0),(4,0),(5,0),(6,0),(7,0),(8,0),(9,0),(10,0),(11,0),(12,0),(13,0),(14,0)]
abbrev ak1:AC:= .seq akY (.seq (.run [.m 34 br, .o 35 (.bin .leq iD (.k (.int .i64 12)))]) (.cond gR (.seq akZ ak0) .skip))
abbrev ak2:AC:= .seq (.seq (.run [.m 12 cJ, .m 13 bu, .o 14 (.len c6), .o 15 (.bin .lss cU cO), .m 16 dD, .g 17 16 true (.mv ff), .g 18 16 true (.len dG), .g 19 16 true (.bin .leq dE (.k (.int .i64 200))), .o 20 (.pick dj dY (.k (.bool false)))]) (.cond ez .skip (.exit 0))) (.seq (.block 1 ak1) (.run [.m 21 cJ, .o 22 (.bin .add ep (.k (.int .i64 1))), .m 11 eH]))
abbrev ak3:AC:= .seq (.seq (.run [.o 11 (.mv (.k (.int .i64 0)))]) (.block 0 (.loop ak2))) (.seq (.run [.m 64 ff, .m 10 qz]) .ret)
abbrev ak4:AC:= .seq (.run [.o 10 (.mv (.k (.slice .full 0 [])))]) ak3
abbrev ak5:AC:= .cond dj (.seq (.run [.o 2 (.mv (.k (.bool true)))]) .ret) .skip
abbrev ak6:AC:= .block 1 (.seq (.run [.m 9 cZ, .o 10 (.cf cm cZ 1), .o 11 (.load cb false 1), .m 3 dg, .m 4 cJ]) (.seq (.run [.m 12 bu, .m 13 cz, .o 14 (.CK 1 cU none (some c6)), .m 15 ff, .c 16 cr [cO,dD]]) ak5))
abbrev ak7:AC:= .seq (.cond db .skip (.exit 0)) (.seq ak6 (.run [.o 17 (.bin .add cZ (.k (.int .i64 1))), .m 7 dG]))
abbrev ak8:AC:= .seq (.run [.m 5 bu, .o 6 (.len cm), .o 7 (.mv (.k (.int .i64 0)))]) (.block 0 (.loop (.seq (.run [.o 8 (.bin .lss cZ dC)]) ak7)))
abbrev ak9:AC:= .seq ak8 (.seq (.run [.o 2 (.mv (.k (.bool false)))]) .ret)
abbrev ala:AC:= .seq (.run [.o 2 (.mv (.k (.bool false)))]) ak9
abbrev alb:AC:= .seq (.run [.o 4 (.mv (.k (.bool false)))]) (.seq (.run [.m 5 bu, .m 6 br, .c 7 kT [cm,dC], .o 8 (.bin .geq cZ (.k (.int .i64 0))), .m 4 db]) .ret)
abbrev alc:AC:= .seq (.run [.o 3 (.mv (.k (.bool false)))]) (.seq (.run [.o 4 (.aq br 0), .o 5 (.load ff false 1), .m 6 bu, .c 7 cr [cm,dC], .m 3 cZ]) .ret)
abbrev ald:AC:= .cond eH (.seq (.run [.o 8 (.mv (.k (.bool false)))]) .ret) .skip
abbrev ale:AC:= .seq (.run [.o 16 (.cf cU cO 1), .o 17 (.load dj false 1), .m 10 dG]) (.seq (.run [.o 18 (.load ff true 2), .o 19 (.load cm true 5), .m 20 cb, .c 21 vB [dE,dY,ez], .o 22 (.bin .eql ep (.k (.int .i64 0)))]) ald)
abbrev alf:AC:= .seq (.cond dD .skip (.exit 0)) (.seq (.block 1 ale) (.run [.o 23 (.bin .add cO (.k (.int .i64 1))), .m 14 eI]))
abbrev alg:AC:= .seq (.run [.o 11 (.load cZ true 13), .c 12 rB [cJ], .o 13 (.len cU), .o 14 (.mv (.k (.int .i64 0)))]) (.block 0 (.loop (.seq (.run [.o 15 (.bin .lss cO c6)]) alf)))
abbrev alh:AC:= .seq alg (.seq (.run [.o 24 (.aq cZ 1), .o 25 (.load eR false 1), .o 26 (.bin .neq eU (.k (.int .i64 4))), .m 27 fp, .g 28 27 false (.aq cZ 4), .g 29 27 false (.load fZ false 1), .g 30 27 false (.bin .neq gb (.k (.str [109,97,105,110]))), .g 31 27 false (.mv gy), .g 32 31 true (.mv dw), .g 33 31 true (.aq cZ 4), .g 34 31 true (.load gG false 1), .d 35 31 true cr [gQ,iD], .g 36 27 false (.pick gu gR (.k (.bool false))), .o 37 (.pick fv (.k (.bool true)) ix), .m 8 je]) .ret)
abbrev ali:AC:= .seq (.run [.o 4 (.box bu), .o 5 (.box br), .o 7 (.box cz), .o 8 (.mv (.k (.bool false)))]) alh
abbrev alj:AC:= .cond dg (.seq (.run [.o 4 (.mv (.k (.bool false)))]) .ret) .skip
abbrev alk:AC:= .seq (.run [.o 15 (.cf cJ c6 5), .o 16 (.load dD true 5), .o 6 (.alloc [(.str []),(.slice .full 0 []),(.slice .full 0 []),(.slice .full 0 []),(.slice .full 0 [])]), .op none none (.store dC dj 5)]) (.seq (.run [.o 17 (.aq dC 0), .o 18 (.load dG false 1), .o 19 (.aq cz 4), .o 20 (.load dY false 1), .o 21 (.bin .eql dE ez)]) (.cond ep (.seq (.run [.o 22 (.aq dC 1), .o 23 (.load eH false 1), .o 24 (.aq cz 10), .o 25 (.load eR false 1), .c 26 vC [eI,eU], .m 4 fp]) .ret) .skip))
abbrev alm:AC:= .seq (.cond cO .skip (.exit 0)) (.seq (.block 1 alk) (.run [.o 27 (.bin .add c6 (.k (.int .i64 1))), .m 13 fv]))
abbrev aln:AC:= .seq (.run [.o 10 (.aq dw 1), .o 11 (.load cb false 1), .o 12 (.len cJ), .o 13 (.mv (.k (.int .i64 0)))]) (.block 0 (.loop (.seq (.run [.o 14 (.bin .lss c6 cU)]) alm)))
abbrev alo:AC:= .seq aln (.seq (.run [.o 4 (.mv (.k (.bool false)))]) .ret)
abbrev alp:AC:= .seq (.seq (.run [.o 7 (.aq cz 1), .o 8 (.load cZ false 1), .o 9 (.bin .neq db (.k (.int .i64 4)))]) alj) alo
abbrev alq:AC:= .seq (.run [.o 2 (.box bu), .o 3 (.box br), .o 4 (.mv (.k (.bool false)))]) alp
abbrev alr:AC:= .seq (.run [.o 3 (.load br true 2), .c 4 lY [cz], .o 5 (.CM ff 0 false 1), .o 6 (.bin .neq cm (.k (.int .i64 0)))]) (.cond dC (.seq (.run [.o 2 (.mv (.k .dR))]) .ret) .skip)
abbrev als:AC:= .seq (.run [.o 1 (.box bu), .o 2 (.mv (.k .dR))]) (.seq alr (.seq (.run [.o 7 (.load br true 2), .c 8 kS [cZ], .m 2 db]) .ret))
abbrev alu:AC:= .cond dj (.seq (.run [.m 17 bu, .m 4 dG, .o 5 (.mv (.k (.bool false)))]) .ret) .skip
abbrev alv:AC:= .block 1 (.seq (.run [.o 12 (.cf db cb 1), .o 13 (.load cU false 1), .m 7 c6]) (.seq (.seq (.run [.m 14 bu, .m 15 cZ, .c 16 cr [cO,dD]]) alu) (.run [.m 18 bu, .m 19 cZ, .o 20 (.du [(.str [])] 1 1 [(0,dY)]), .o 21 (.app 1 16 dE ez), .m 0 ep])))
abbrev alw:AC:= .seq (.cond cJ .skip (.exit 0)) (.seq alv (.run [.o 22 (.bin .add cb (.k (.int .i64 1))), .m 10 eH]))
abbrev alx:AC:= .seq (.run [.m 8 br, .o 9 (.len db), .o 10 (.mv (.k (.int .i64 0)))]) (.block 0 (.loop (.seq (.run [.o 11 (.bin .lss cb dg)]) alw)))
abbrev aly:AC:= .seq alx (.seq (.run [.m 23 bu, .m 4 eI, .o 5 (.mv (.k (.bool true)))]) .ret)
abbrev alz:AC:= .seq (.run [.o 4 (.mv (.k (.slice .full 0 []))), .o 5 (.mv (.k (.bool false)))]) aly
abbrev alA:AC:= .seq (.run [.o 11 (.bin .eql dg (.k (.int .i64 7))), .m 10 cJ]) (.cond cb .skip (.run [.o 12 (.bin .eql dg (.k (.int .i64 8))), .m 10 cU]))
abbrev alB:AC:= .cond cb (.seq (.run [.o 13 (.aq cz 16), .o 14 (.load c6 false 1), .o 15 (.bin .neq cO (.k (.int .i64 0))), .m 4 dD]) .ret) (.seq (.run [.o 17 (.bin .eql dg (.k (.int .i64 10))), .m 16 dG]) (.cond dj (.seq (.run [.m 19 bu, .o 20 (.aq cz 13), .o 21 (.load ez false 1), .o 22 (.aq cz 0), .o 23 (.aq eH 3), .o 24 (.load eI false 1), .c 25 oO [dY,ep,eR], .m 18 eU, .o 26 (.ext dE 0), .o 27 (.ext dE 1), .m 5 fp, .m 6 fv]) (.seq (.run [.m 28 dC, .m 4 fZ]) .ret)) .skip))
abbrev alC:AC:= .seq (.seq (.run [.o 7 (.aq cz 0), .o 8 (.aq cZ 1), .o 9 (.load db false 1)]) (.block 0 (.seq alA alB))) (.seq (.run [.o 4 (.mv (.k (.bool true)))]) .ret)
abbrev alD:AC:= .seq (.run [.o 3 (.box br), .o 4 (.mv (.k (.bool false)))]) alC
abbrev alE:AC:= .cond dj (.seq (.run [.o 4 (.mv (.k (.slice .full 0 [])))]) .ret) .skip
abbrev alG:AC:= .seq (.run [.o 43 (.cf jA jP 1), .o 44 (.load kr false 1), .m 12 kF]) (.seq (.run [.o 45 (.aq dw 0), .o 46 (.load lJ false 1), .m 47 cU, .c 48 cr [lK,lU]]) (.cond kU (.run [.m 49 dC, .m 50 cU, .o 51 (.du [(.str [])] 1 1 [(0,lL)]), .o 52 (.app 1 16 kV kG), .m 6 kH]) .skip))
abbrev alH:AC:= .seq (.cond kE .skip (.exit 4)) (.seq (.block 5 alG) (.run [.o 53 (.bin .add jP (.k (.int .i64 1))), .m 41 kW]))
abbrev alI:AC:= .seq (.run [.o 37 (.aq cb 0), .o 38 (.load je true 13), .c 39 rB [jO], .o 40 (.len jA), .o 41 (.mv (.k (.int .i64 0)))]) (.block 4 (.loop (.seq (.run [.o 42 (.bin .lss jP j8)]) alH)))
abbrev alJ:AC:= .seq (.block 3 (.seq (.run [.o 35 (.cf gu gG 17), .o 36 (.load gR true 17), .o 10 (.alloc [(.int .i64 0),(.int .i64 0),(.slice .full 0 []),(.str []),(.str []),(.int .i64 0),(.int .i64 0),(.str []),(.slice .full 0 []),(.bool false),(.slice .full 0 []),(.slice .full 0 []),(.slice .full 0 []),(.int .i64 0),(.int .i64 0),(.int .i64 0),(.int .i64 0)]), .op none none (.store cb ix 17)]) alI)) (.run [.o 54 (.bin .add gG (.k (.int .i64 1))), .m 33 lM])
abbrev alK:AC:= .block 2 (.loop (.seq (.run [.o 34 (.bin .lss gG gQ)]) (.seq (.cond iD .skip (.exit 2)) alJ)))
abbrev alL:AC:= .seq (.run [.o 25 (.cf ep eI 1), .o 26 (.load eU false 1), .m 8 fp]) (.seq (.run [.m 27 cm, .m 28 cm, .m 29 db, .c 30 iC [fZ,gb], .c 31 gM [fv,gy], .o 32 (.len gu), .o 33 (.mv (.k (.int .i64 0)))]) alK)
abbrev alM:AC:= .seq (.cond eR .skip (.exit 0)) (.seq (.block 1 alL) (.run [.o 55 (.bin .add eI (.k (.int .i64 1))), .m 23 lN]))
abbrev alN:AC:= .seq (.run [.m 19 cm, .m 20 br, .c 21 xB [dY,ez], .o 22 (.len ep), .o 23 (.mv (.k (.int .i64 0)))]) (.block 0 (.loop (.seq (.run [.o 24 (.bin .lss eI eH)]) alM)))
abbrev alO:AC:= .seq (.run [.o 17 (.load dw true 2), .c 18 kS [dG], .m 5 dE]) (.seq (.run [.o 6 (.mv (.k (.slice .full 0 [])))]) (.seq alN (.seq (.run [.m 56 dC, .c 57 jy [nq]]) (.seq (.run [.m 58 dC, .c 59 jS [nW], .m 4 lV]) .ret))))
abbrev alP:AC:= .seq (.run [.o 2 (.box bu), .o 4 (.mv (.k (.slice .full 0 [])))]) (.seq (.seq (.run [.o 13 (.load dw true 2), .m 14 br, .c 15 tZ [c6,cO], .o 16 (.un .not dD)]) alE) alO)
abbrev alQ:AC:= .cond iD (.seq (.run [.o 4 (.mv (.k (.bool false)))]) .ret) .skip
abbrev alR:AC:= .seq (.seq (.run [.m 18 cm, .o 19 (.aq cZ 1), .o 20 (.load dY false 1), .c 21 cr [dE,ez], .m 22 ep, .g 23 22 false (.aq cZ 1), .g 24 22 false (.load eI false 1), .g 25 22 false (.aq dw 3), .g 26 22 false (.load eU false 1), .g 27 22 false (.bin .eql eR fp), .o 28 (.pick eH (.k (.bool true)) fv), .m 29 fZ, .g 30 29 false (.mv br), .g 31 29 false (.aq cZ 1), .g 32 29 false (.load gu false 1), .d 33 29 false cr [gy,gQ], .o 34 (.pick gb (.k (.bool true)) gG)]) alQ) (.run [.m 35 cm, .o 36 (.aq cZ 1), .o 37 (.load ix false 1), .o 38 (.du [(.str [])] 1 1 [(0,je)]), .o 39 (.app 1 16 gR jO), .m 5 jA])
abbrev alS:AC:= .block 1 (.seq (.run [.o 13 (.cf dg cJ 6), .o 14 (.load c6 true 6), .o 7 (.alloc [(.bool false),(.str []),(.int .i64 0),(.int .i64 0),(.str []),(.slice .full 0 [])]), .op none none (.store cZ cO 6)]) (.seq (.seq (.run [.o 15 (.aq cZ 0), .o 16 (.load dD false 1), .o 17 (.un .not dj)]) (.cond dG (.exit 1) .skip)) alR))
abbrev alT:AC:= .seq (.cond cU .skip (.exit 0)) (.seq alS (.run [.o 40 (.bin .add cJ (.k (.int .i64 1))), .m 11 j8]))
abbrev alU:AC:= .seq (.run [.o 8 (.aq dw 10), .o 9 (.load db false 1), .o 10 (.len dg), .o 11 (.mv (.k (.int .i64 0)))]) (.block 0 (.loop (.seq (.run [.o 12 (.bin .lss cJ cb)]) alT)))
abbrev alV:AC:= .seq alU (.seq (.run [.o 4 (.mv (.k (.bool true)))]) .ret)
abbrev alW:AC:= .seq (.run [.o 2 (.box bu), .o 4 (.mv (.k (.bool false)))]) (.seq (.run [.o 5 (.mv (.k (.slice .full 0 [])))]) alV)
abbrev alX:AC:= .seq (.run [.o 2 (.mv (.k (.bool false)))]) (.seq (.run [.m 3 bu, .o 4 (.bin .geq cz (.k (.int .u8 48))), .m 5 ff, .g 6 5 true (.mv bu), .g 7 5 true (.bin .leq dC (.k (.int .u8 57))), .o 8 (.pick cm cZ (.k (.bool false))), .m 2 db]) .ret)
abbrev alY:AC:= .seq (.run [.o 4 (.mv (.k (.bool false)))]) (.seq (.run [.m 5 br, .m 6 cm, .g 7 6 true (.mv bu), .d 8 6 true nV [cZ], .o 9 (.pick dC db (.k (.bool false))), .m 10 dg, .g 11 10 false (.mv br), .g 12 10 false (.un .not cJ), .g 13 10 false (.mv cU), .g 14 13 true (.mv bu), .g 15 13 true (.bin .eql cO (.k (.str []))), .g 16 10 false (.pick c6 dD (.k (.bool false))), .o 17 (.pick cb (.k (.bool true)) dj), .m 4 dG]) .ret)
abbrev alZ:AC:= .seq (.run [.o 2 (.box bu), .o 4 (.mv (.k (.bool false)))]) (.seq (.run [.m 5 br, .m 6 cm, .g 7 6 true (.load dw true 4), .d 8 6 true nj [cZ], .o 9 (.pick dC db (.k (.bool false))), .m 10 dg, .g 11 10 false (.mv br), .g 12 10 false (.un .not cJ), .g 13 10 false (.mv cU), .g 14 13 true (.load dw true 4), .d 15 13 true xC [cO], .g 16 10 false (.pick c6 dD (.k (.bool false))), .o 17 (.pick cb (.k (.bool true)) dj), .m 4 dG]) .ret)
abbrev al0:AC:= .cond eU (.seq (.run [.o 2 (.mv (.k (.bool false)))]) .ret) .skip
abbrev al1:AC:= .seq (.run [.o 9 (.cf cm cZ 6), .o 10 (.load dg true 6), .o 4 (.alloc [(.bool false),(.str []),(.int .i64 0),(.int .i64 0),(.str []),(.slice .full 0 [])]), .op none none (.store ff cb 6)]) (.seq (.run [.o 11 (.aq ff 1), .o 12 (.load cJ false 1), .o 13 (.aq ff 0), .o 14 (.load c6 false 1), .c 15 o8 [cU,cO], .o 16 (.un .not dD), .m 17 dj, .g 18 17 false (.aq ff 2), .g 19 17 false (.load dE true 4), .g 20 17 false (.aq ff 0), .g 21 17 false (.load ez false 1), .g 22 17 false (.un .not ep), .d 23 17 false rA [dY,eH], .g 24 17 false (.un .not eI), .o 25 (.pick dG (.k (.bool true)) eR)]) al0)
abbrev al2:AC:= .seq (.cond db .skip (.exit 0)) (.seq (.block 1 al1) (.run [.o 26 (.bin .add cZ (.k (.int .i64 1))), .m 7 fp]))
abbrev al3:AC:= .seq (.run [.m 5 bu, .o 6 (.len cm), .o 7 (.mv (.k (.int .i64 0)))]) (.block 0 (.loop (.seq (.run [.o 8 (.bin .lss cZ dC)]) al2)))
abbrev al4:AC:= .seq al3 (.seq (.run [.o 2 (.mv (.k (.bool true)))]) .ret)
abbrev al5:AC:= .seq (.run [.o 2 (.mv (.k (.bool false)))]) al4
abbrev al6:AC:= .cond gu (.seq (.run [.m 32 dw, .m 33 db, .o 34 (.cf gQ gG 1), .o 35 (.load iD false 1), .m 6 gR, .o 7 (.mv (.k (.bool true)))]) .ret) .skip
abbrev al7:AC:= .seq (.run [.m 20 br, .o 21 (.aq cz 2), .o 22 (.load ep false 1), .c 23 fX [ez,eH], .m 8 eI]) (.seq (.run [.m 24 db, .o 25 (.bin .geq eR (.k (.int .i64 0))), .m 26 eU, .g 27 26 true (.mv db), .g 28 26 true (.mv dw), .g 29 26 true (.len fZ), .g 30 26 true (.bin .lss fv gb), .o 31 (.pick fp gy (.k (.bool false)))]) al6)
abbrev al8:AC:= .seq al7 (.seq (.run [.o 6 (.mv (.k (.int .i64 0))), .o 7 (.mv (.k (.bool true)))]) .ret)
abbrev al9:AC:= .cond cO (.seq (.run [.o 16 (.aq cz 1), .o 17 (.load dj false 1), .m 6 dG, .o 7 (.mv (.k (.bool true)))]) .ret) (.seq (.run [.o 19 (.bin .eql c6 (.k (.int .i64 2))), .m 18 dY]) (.cond dE al8 .skip))
abbrev ama:AC:= .block 0 (.seq (.run [.o 15 (.bin .eql c6 (.k (.int .i64 1))), .m 14 dD]) al9)
abbrev amb:AC:= .cond lU (.seq (.run [.o 6 (.mv (.k (.int .i64 0))), .o 7 (.mv (.k (.bool false)))]) .ret) .skip
abbrev amc:AC:= .cond ud (.seq (.run [.o 6 (.mv (.k (.int .i64 0))), .o 7 (.mv (.k (.bool true)))]) .ret) .skip
abbrev amd:AC:= .cond Bq (.seq (.run [.o 6 (.mv (.k (.int .i64 1))), .o 7 (.mv (.k (.bool true)))]) .ret) .skip
abbrev ame:AC:= .cond Js (.seq (.run [.o 6 (.mv (.k (.int .i64 0))), .o 7 (.mv (.k (.bool false)))]) .ret) .skip
abbrev amf:AC:= .seq (.seq (.run [.o 66 (.aq cz 0), .o 67 (.load vD false 1), .o 68 (.bin .eql vE (.k (.int .i64 17))), .m 69 vF, .g 70 69 true (.mv dg), .d 71 69 true rC [zn], .o 72 (.pick zm Dw (.k (.bool false)))]) amd) (.seq (.run [.o 74 (.aq cz 3), .o 75 (.load Dx false 1), .o 76 (.cf Dy (.k (.int .i64 1)) 4), .o 77 (.load Bs true 4), .m 78 br, .m 79 dw, .c 80 lg [Dz,zo,FK], .m 73 FL, .o 81 (.ext Br 0), .o 82 (.ext Br 1), .m 11 FM, .m 10 Jq]) (.seq (.seq (.run [.m 83 cb, .o 84 (.un .not Jr)]) ame) (.seq (.run [.o 85 (.aq cz 0), .o 86 (.load Jt false 1), .m 87 dg, .m 88 cJ, .c 89 zl [Ju,Jv,Jw], .o 90 (.ext DA 0), .o 91 (.ext DA 1), .m 6 FN, .m 7 Jx]) .ret)))
abbrev amg:AC:= .seq (.seq (.run [.o 58 (.aq cz 0), .o 59 (.load nW false 1), .o 60 (.bin .eql lV (.k (.int .i64 16))), .m 61 pb, .g 62 61 true (.mv dg), .d 63 61 true rC [pT], .g 64 61 true (.un .not qy), .o 65 (.pick qx qz (.k (.bool false)))]) amc) amf
abbrev amh:AC:= .seq (.seq (.run [.o 48 (.aq cz 3), .o 49 (.load kU false 1), .o 50 (.len kV), .o 51 (.bin .eql lL (.k (.int .i64 1)))]) (.cond kG (.seq (.run [.o 52 (.aq cz 0), .o 53 (.load kH false 1), .m 54 dg, .c 55 zk [kW,lM], .o 56 (.ext lN 0), .o 57 (.ext lN 1), .m 6 nq, .m 7 oE]) .ret) .skip)) amg
abbrev ami:AC:= .seq (.seq (.run [.o 12 (.aq cz 0), .o 13 (.load cU false 1)]) ama) (.seq (.run [.o 37 (.aq cz 3), .o 38 (.load je false 1), .o 39 (.cf jO (.k (.int .i64 0)) 4), .o 40 (.load jA true 4), .m 41 br, .m 42 dw, .c 43 lg [j8,jP,kE], .m 36 kr, .o 44 (.ext ix 0), .o 45 (.ext ix 1), .m 9 kF, .m 10 lJ]) (.seq (.seq (.run [.m 46 cb, .o 47 (.un .not lK)]) amb) amh))
abbrev amj:AC:= .seq (.run [.o 3 (.box bu), .o 6 (.mv (.k (.int .i64 0))), .o 7 (.mv (.k (.bool false)))]) ami
abbrev amk:AC:= .block 1 (.seq (.run [.m 10 db, .m 5 cb]) (.seq (.run [.m 11 br, .m 12 bu, .m 13 cm, .o 14 (.cf cU c6 1), .o 15 (.load cO false 1), .o 16 (.bin .eql cJ dD)]) (.cond dj (.seq (.run [.m 17 cm, .m 4 dG]) .ret) .skip)))
abbrev aml:AC:= .seq (.cond dg .skip (.exit 0)) (.seq amk (.run [.o 18 (.bin .add db (.k (.int .i64 1))), .m 8 dE]))
abbrev amm:AC:= .seq (.run [.m 6 bu, .o 7 (.len dC), .o 8 (.mv (.k (.int .i64 0)))]) (.block 0 (.loop (.seq (.run [.o 9 (.bin .lss db cZ)]) aml)))
abbrev amn:AC:= .seq (.run [(.o 4 (.mv (.k (.int .i64 (-1)))))]) .ret
abbrev amo:AC:= .seq (.run [.o 4 (.mv (.k (.int .i64 0)))]) (.seq amm amn)
abbrev amp:AC:= .block 1 (.seq (.run [.m 10 db, .m 5 cb]) (.seq (.run [.m 11 br, .m 12 bu, .m 13 cm, .o 14 (.cf cU c6 1), .o 15 (.load cO false 1),(.jt (some 16) none 11 [dD])]) (.cond dj (.seq (.run [.m 17 cm, .m 4 dG]) .ret) .skip)))
abbrev amq:AC:= .seq (.cond dg .skip (.exit 0)) (.seq amp (.run [.o 18 (.bin .add db (.k (.int .i64 1))), .m 8 dE]))
abbrev amr:AC:= .seq (.run [.m 6 bu, .o 7 (.len dC), .o 8 (.mv (.k (.int .i64 0)))]) (.block 0 (.loop (.seq (.run [.o 9 (.bin .lss db cZ)]) amq)))
abbrev ams:AC:= .seq (.run [(.o 4 (.mv (.k (.int .i64 (-1)))))]) .ret
abbrev amt:AC:= .seq (.run [.o 4 (.mv (.k (.int .i64 0)))]) (.seq amr ams)
abbrev amu:AC:= .seq (.seq (.run [.o 31 (.aq cm 0), .o 32 (.load gu false 1)]) (.cond gQ (.run [.m 33 cz, .o 34 (.aq cm 1), .o 35 (.load iD false 1), .o 36 (.du [(.str [])] 1 1 [(0,gR)]), .o 37 (.app 1 16 gG ix), .m 3 je]) .skip)) (.run [.m 38 cz, .o 39 (.aq cm 2), .o 40 (.load jA true 4), .c 41 rD [j8], .o 42 (.app 1 16 jO jP), .m 3 kE])
abbrev amv:AC:= .seq (.block 1 (.seq (.run [.o 29 (.cf eU fv 6), .o 30 (.load gb true 6), .o 5 (.alloc [(.bool false),(.str []),(.int .i64 0),(.int .i64 0),(.str []),(.slice .full 0 [])]), .op none none (.store cm gy 6)]) amu)) (.run [.o 43 (.bin .add fv (.k (.int .i64 1))), .m 27 kr])
abbrev amw:AC:= .block 0 (.loop (.seq (.run [.o 28 (.bin .lss fv fp)]) (.seq (.cond fZ .skip (.exit 0)) amv)))
abbrev amx:AC:= .seq (.seq (.run [.o 24 (.aq br 10), .o 25 (.load eR false 1), .o 26 (.len eU), .o 27 (.mv (.k (.int .i64 0)))]) amw) (.seq (.run [.m 44 cz, .m 2 kF]) .ret)
abbrev amy:AC:= .seq (.seq (.run [.o 6 (.aq br 1), .o 7 (.load dC false 1), .o 8 (.bin .neq cZ (.k (.int .i64 10))), .m 9 db, .g 10 9 true (.aq br 3), .g 11 9 true (.load cb false 1), .g 12 9 true (.bin .neq cJ (.k (.str []))), .o 13 (.pick dg cU (.k (.bool false)))]) (.cond c6 (.run [.m 14 cz, .o 15 (.aq br 3), .o 16 (.load dD false 1), .o 17 (.du [(.str [])] 1 1 [(0,dj)]), .o 18 (.app 1 16 cO dG), .m 3 dE]) .skip)) (.seq (.run [.m 19 cz, .o 20 (.aq br 5), .o 21 (.load ez true 4), .c 22 rD [ep], .o 23 (.app 1 16 dY eH), .m 3 eI]) amx)
abbrev amz:AC:= .seq (.run [.o 1 (.box bu), .o 2 (.mv (.k (.slice .full 0 [])))]) (.seq (.run [.o 3 (.mv (.k (.slice .full 0 [])))]) amy)
abbrev amA:AC:= .cond eI (.seq (.run [.o 6 (.mv (.k (.int .i64 3)))]) .ret) .skip
abbrev amB:AC:= .cond fv (.seq (.run [.o 6 (.mv (.k (.int .i64 2)))]) .ret) .skip
abbrev amC:AC:= .seq (.seq (.run [.o 16 (.aq db 0), .o 17 (.load dj false 1), .m 18 dw, .o 19 (.bin .eql dG dE), .m 20 dY, .g 21 20 true (.aq db 1), .g 22 20 true (.load ep false 1), .o 23 (.pick ez eH (.k (.bool false)))]) amA) (.seq (.run [.o 24 (.aq db 0), .o 25 (.load eR false 1), .m 26 dw, .o 27 (.bin .eql eU fp)]) amB)
abbrev amD:AC:= .seq (.block 1 (.seq (.run [.o 14 (.cf cb cU 2), .o 15 (.load cO true 2), .o 8 (.alloc [(.str []),(.bool false)]), .op none none (.store db dD 2)]) amC)) (.run [.o 28 (.bin .add cU (.k (.int .i64 1))), .m 12 fZ])
abbrev amE:AC:= .block 0 (.loop (.seq (.run [.o 13 (.bin .lss cU cJ)]) (.seq (.cond c6 .skip (.exit 0)) amD)))
abbrev amF:AC:= .cond gQ (.seq (.run [.o 6 (.mv (.k (.int .i64 4)))]) .ret) .skip
abbrev amG:AC:= .cond ix (.seq (.run [.o 6 (.mv (.k (.int .i64 1)))]) .ret) .skip
abbrev amH:AC:= .seq (.seq (.run [.o 33 (.aq cz 0), .o 34 (.load gG false 1), .m 35 dw, .c 36 cr [iD,gR]]) amG) (.seq (.run [.o 6 (.mv (.k (.int .i64 0)))]) .ret)
abbrev amI:AC:= .seq (.seq (.run [.o 9 (.aq ff 1), .o 10 (.load dg false 1), .o 11 (.len cb), .o 12 (.mv (.k (.int .i64 0)))]) amE) (.seq (.seq (.run [.o 29 (.aq ff 2), .o 30 (.load gb false 1), .m 31 dw, .c 32 cr [gy,gu]]) amF) amH)
abbrev amJ:AC:= .seq (.run [.o 3 (.box bu), .o 4 (.box br), .o 6 (.mv (.k (.int .i64 0)))]) amI
abbrev amK:AC:= .cond cJ (.seq (.run [.o 4 (.mv (.k (.bool false)))]) .ret) .skip
abbrev amL:AC:= .par [.o 19 (.aq dC 1), .o 20 (.load dY false 1), .m 21 br, .m 22 cm, .o 23 (.cf ep eH 6), .o 24 (.aq eI 0), .o 25 (.load eR false 1), .o 26 (.Gk true ez eU)] [(0,0),(1,0),(2,0),(3,0),(4,0),(5,0),(6,0),(7,0)]
abbrev amM:AC:= .cond fp (.seq (.run [.o 4 (.mv (.k (.bool false)))]) .ret) .skip
abbrev amN:AC:= .seq (.block 1 (.seq (.run [.m 16 cO, .o 17 (.cf cU cO 2), .o 18 (.load dG true 2), .o 6 (.alloc [(.str []),(.bool false)]), .m 5 dj, .op none none (.store dC dE 2)]) (.seq amL amM))) (.run [.o 27 (.bin .add cO (.k (.int .i64 1))), .m 14 fv])
abbrev amO:AC:= .block 0 (.loop (.seq (.run [.o 15 (.bin .lss cO c6)]) (.seq (.cond dD .skip (.exit 0)) amN)))
abbrev amP:AC:= .seq (.seq (.run [.m 12 bu, .o 13 (.len cU), .o 14 (.mv (.k (.int .i64 0)))]) amO) (.seq (.run [.o 4 (.mv (.k (.bool true)))]) .ret)
abbrev amQ:AC:= .seq (.run [.o 4 (.mv (.k (.bool false)))]) (.seq (.seq (.run [.m 7 bu, .o 8 (.len cZ), .m 9 br, .o 10 (.len dg), .o 11 (.bin .neq db cb)]) amK) amP)
abbrev amR:AC:= .seq (.run [.o 2 (.box bu), .o 3 (.box br), .o 4 (.mv (.k (.bool false)))]) (.seq (.run [.o 5 (.load dw true 2), .c 6 lY [cm], .o 7 (.CM dC 0 false 1), .o 8 (.bin .eql cZ (.k (.int .i64 0))), .m 9 db, .g 10 9 true (.aq dw 1), .g 11 9 true (.load cb false 1), .g 12 9 true (.uK 191 [cz]), .d 13 9 true gN [cJ,cU], .o 14 (.pick dg c6 (.k (.bool false))), .m 4 cO]) .ret)
abbrev amS:AC:= .seq (.run [.o 26 (.cf eH eR 1), .o 27 (.load fp false 1), .m 8 fv]) (.seq (.run [.m 28 cm, .m 29 db, .c 30 cr [fZ,gb], .o 31 (.un .not gy)]) (.cond gu (.run [.m 32 cm, .m 33 db, .o 34 (.du [(.str [])] 1 1 [(0,gG)]), .o 35 (.app 1 16 gQ iD), .m 5 gR]) .skip))
abbrev amT:AC:= .seq (.cond eU .skip (.exit 2)) (.seq (.block 3 amS) (.run [.o 36 (.bin .add eR (.k (.int .i64 1))), .m 24 ix]))
abbrev amU:AC:= .seq (.run [.m 17 bu, .m 18 cm, .m 19 dC, .o 20 (.cf dE dY 1), .o 21 (.load ez false 1), .c 22 ub [dG,ep], .o 23 (.len eH), .o 24 (.mv (.k (.int .i64 0)))]) (.block 2 (.loop (.seq (.run [.o 25 (.bin .lss eR eI)]) amT)))
abbrev amV:AC:= .seq (.seq (.run [.m 11 dC, .m 12 cm, .o 13 (.len cU), .o 14 (.bin .lss cJ c6)]) (.cond cO .skip (.exit 0))) (.seq (.block 1 amU) (.run [.m 15 dC, .o 16 (.bin .add dD (.k (.int .i64 1))), .m 6 dj]))
abbrev ac9:AC:= .seq (.run [.m 39 cm, .m 4 jA]) .ret
abbrev amW:AC:= .seq (.seq (.run [.o 6 (.mv (.k (.int .i64 0)))]) (.block 0 (.loop amV))) (.seq (.run [.m 37 cm, .c 38 jy [je]]) ac9)
abbrev amX:AC:= .seq (.run [.o 4 (.mv (.k (.slice .full 0 [])))]) (.seq (.run [.m 9 br, .o 10 (.du [(.str [])] 1 1 [(0,dg)]), .m 5 cb]) amW)
abbrev amY:AC:= .seq (.run [.o 1 (.box bu), .o 2 (.mv (.k (.bool false)))]) (.seq (.run [.o 3 (.aq br 0), .o 4 (.load cz false 1), .o 5 (.bin .eql ff (.k (.int .i64 0))), .m 6 cm, .g 7 6 true (.aq br 1), .g 8 6 true (.load cZ false 1), .g 9 6 true (.bin .eql db (.k (.int .i64 0))), .o 10 (.pick dC dg (.k (.bool false))), .m 11 cb, .g 12 11 true (.aq br 2), .g 13 11 true (.load cU false 1), .g 14 11 true (.bin .eql c6 (.k (.str []))), .o 15 (.pick cJ cO (.k (.bool false))), .m 16 dD, .g 17 16 true (.aq br 3), .g 18 16 true (.load dG false 1), .g 19 16 true (.len dE), .g 20 16 true (.bin .eql dY (.k (.int .i64 0))), .o 21 (.pick dj ez (.k (.bool false))), .m 2 ep]) .ret)
abbrev amZ:AC:= .cond cJ (.seq (.run [.m 13 br, .o 14 (.bin .eql c6 (.k (.int .i64 0))), .c 15 jz [cO], .m 4 dD, .o 5 (.mv (.k (.bool true)))]) .ret) .skip
abbrev am0:AC:= .cond cZ (.seq (.run [.m 9 br, .o 10 (.bin .sub (.k (.int .i64 0)) dg), .m 4 cb, .o 5 (.mv (.k (.bool true)))]) .ret) (.seq (.run [.o 12 (.bin .eql dC (.k (.int .i64 4))), .m 11 cU]) amZ)
abbrev am1:AC:= .block 0 (.seq (.run [.o 8 (.bin .eql dC (.k (.int .i64 3))), .m 7 db]) am0)
abbrev am2:AC:= .seq (.seq (.run [.m 6 bu]) am1) (.seq (.run [.o 4 (.mv (.k (.int .i64 0))), .o 5 (.mv (.k (.bool false)))]) .ret)
abbrev am3:AC:= .seq (.run [.o 4 (.mv (.k (.int .i64 0))), .o 5 (.mv (.k (.bool false)))]) am2
abbrev am4:AC:= .seq (.run [.o 2 (.mv (.k (.bool false)))]) (.seq (.run [.m 3 bu, .o 4 (.bin .neq cz (.k (.int .i64 0))), .m 2 ff]) .ret)
abbrev am5:AC:= .seq (.run [.o 25 (.bin .eql db (.k (.int .i64 6))), .m 24 eU]) (.cond eR .skip (.run [.o 26 (.bin .eql db (.k (.int .i64 7))), .m 24 fp]))
abbrev am6:AC:= .cond kE (.seq (.run [.m 44 br, .o 45 (.bin .neq kF (.k (.int .i64 0))), .m 46 lJ, .g 47 46 false (.mv dw), .g 48 46 false (.bin .neq lU (.k (.int .i64 0))), .o 49 (.pick lK (.k (.bool true)) kU), .c 50 jz [kV], .m 6 lL, .o 7 (.mv (.k (.bool true)))]) .ret) .skip
abbrev am7:AC:= .cond gG (.seq (.run [.m 35 br, .o 36 (.bin .neq gR (.k (.int .i64 0))), .m 37 ix, .g 38 37 true (.mv dw), .g 39 37 true (.bin .neq jO (.k (.int .i64 0))), .o 40 (.pick je jA (.k (.bool false))), .c 41 jz [j8], .m 6 jP, .o 7 (.mv (.k (.bool true)))]) .ret) (.seq (.run [.o 43 (.bin .eql db (.k (.int .i64 17))), .m 42 kr]) am6)
abbrev am8:AC:= .cond eR (.seq (.run [.m 27 bu, .m 28 br, .m 29 dw, .c 30 uc [fv,fZ,gb], .o 31 (.ext gy 0), .o 32 (.ext gy 1), .m 6 gu, .m 7 gQ]) .ret) (.seq (.run [.o 34 (.bin .eql db (.k (.int .i64 16))), .m 33 iD]) am7)
abbrev am9:AC:= .cond dY (.seq (.run [.m 21 br, .m 22 dw, .o 23 (.bin .mul ep eH), .m 6 eI, .o 7 (.mv (.k (.bool true)))]) .ret) (.seq am5 am8)
abbrev ana:AC:= .cond cO (.seq (.run [.m 16 br, .m 17 dw, .o 18 (.bin .sub dj dG), .m 6 dE, .o 7 (.mv (.k (.bool true)))]) .ret) (.seq (.run [.o 20 (.bin .eql db (.k (.int .i64 5))), .m 19 ez]) am9)
abbrev anb:AC:= .cond dg (.seq (.run [.m 11 br, .m 12 dw, .o 13 (.bin .add cJ cU), .m 6 c6, .o 7 (.mv (.k (.bool true)))]) .ret) (.seq (.run [.o 15 (.bin .eql db (.k (.int .i64 9))), .m 14 dD]) ana)
abbrev anc:AC:= .block 0 (.seq (.run [.o 10 (.bin .eql db (.k (.int .i64 8))), .m 9 cb]) anb)
abbrev ane:AC:= .seq (.run [.o 6 (.mv (.k (.int .i64 0))), .o 7 (.mv (.k (.bool false)))]) (.seq (.seq (.run [.m 8 bu]) anc) (.seq (.run [.m 51 bu, .m 52 br, .m 53 dw, .c 54 sr [kG,kH,kW], .o 55 (.ext lM 0), .o 56 (.ext lM 1), .m 6 lN, .m 7 nq]) .ret))
abbrev anf:AC:= .cond cm (.seq (.run [.o 2 (.mv (.k (.slice .full 0 [])))]) .ret) .skip
abbrev ang:AC:= .seq (.seq (.run [.o 3 (.load br true 4), .c 4 nj [cz], .o 5 (.un .not ff)]) anf) (.seq (.run [.o 6 (.load br true 4),(.c 7 iR [dC,(.k (.slice .full 0 []))]), .m 2 cZ]) .ret)
abbrev anh:AC:= .seq (.run [.o 1 (.box bu), .o 2 (.mv (.k (.slice .full 0 [])))]) ang
abbrev ani:AC:= .seq (.run [.o 4 (.mv (.k (.bool false)))]) (.seq (.run [.m 5 bu, .m 6 br, .c 7 gh [cm,dC], .o 8 (.bin .geq cZ (.k (.int .i64 0))), .m 4 db]) .ret)
abbrev anj:AC:= .seq (.run [.o 2 (.box bu), .o 3 (.mv (.k (.bool false)))]) (.seq (.run [.o 4 (.aq dw 0), .o 5 (.load ff false 1), .o 6 (.load br false 1), .o 7 (.bin .eql cm dC), .m 3 cZ]) .ret)
abbrev ank:AC:= .seq (.run [.o 16 (.cf cU cO 17), .o 17 (.load dj true 17), .o 7 (.alloc [(.int .i64 0),(.int .i64 0),(.slice .full 0 []),(.str []),(.str []),(.int .i64 0),(.int .i64 0),(.str []),(.slice .full 0 []),(.bool false),(.slice .full 0 []),(.slice .full 0 []),(.slice .full 0 []),(.int .i64 0),(.int .i64 0),(.int .i64 0),(.int .i64 0)]), .op none none (.store cZ dG 17)]) (.seq (.run [.o 18 (.aq cZ 0), .o 19 (.aq dE 1), .o 20 (.load dY false 1), .o 21 (.bin .eql ez (.k (.int .i64 4)))]) (.cond ep (.run [.m 22 cm, .o 23 (.aq cZ 0), .o 24 (.aq eI 4), .o 25 (.load eR false 1), .o 26 (.du [(.str [])] 1 1 [(0,eU)]), .o 27 (.app 1 16 eH fp), .m 5 fv]) .skip))
abbrev anl:AC:= .seq (.cond dD .skip (.exit 0)) (.seq (.block 1 ank) (.run [.o 28 (.bin .add cO (.k (.int .i64 1))), .m 14 fZ]))
abbrev anm:AC:= .seq (.run [.m 8 bu, .m 9 bu, .m 10 br, .c 11 iC [dg,cb], .c 12 gM [db,cJ], .o 13 (.len cU), .o 14 (.mv (.k (.int .i64 0)))]) (.block 0 (.loop (.seq (.run [.o 15 (.bin .lss cO c6)]) anl)))
abbrev ann:AC:= .seq (.run [.o 4 (.mv (.k (.slice .full 0 [])))]) (.seq (.run [.o 5 (.mv (.k (.slice .full 0 [])))]) (.seq anm (.seq (.run [.m 29 cm, .c 30 jy [gb]]) (.seq (.run [.m 31 cm, .c 32 jS [gu], .m 4 gQ]) .ret))))
open Go.Proofs
theorem zu:Has Tryz.prog o9 19 [(4,none)] amo:=⟨Tryz.f146,by kernel_rfl,by kernel_rfl⟩
theorem tq:Has Tryz.prog kT 19 [(4,none)] amt:=⟨Tryz.f167,by kernel_rfl,by kernel_rfl⟩
theorem FR:Has Tryz.prog rB 45 [(2,none)] amz:=⟨Tryz.f168,by kernel_rfl,by kernel_rfl⟩
theorem FT:Has Tryz.prog vB 37 [(6,none)] amJ:=⟨Tryz.f169,by kernel_rfl,by kernel_rfl⟩
theorem yr:Has Tryz.prog vC 28 [(4,none)] amQ:=⟨Tryz.f170,by kernel_rfl,by kernel_rfl⟩
theorem wK:Has Tryz.prog tZ 15 [(4,none)] amR:=⟨Tryz.f171,by kernel_rfl,by kernel_rfl⟩
theorem HO:Has Tryz.prog xB 40 [(4,none)] amX:=⟨Tryz.f172,by kernel_rfl,by kernel_rfl⟩
theorem HP:Has Tryz.prog xC 22 [(2,none)] amY:=⟨Tryz.f175,by kernel_rfl,by kernel_rfl⟩
theorem JE:Has Tryz.prog zk 16 [(4,none),(5,none)] am3:=⟨Tryz.f176,by kernel_rfl,by kernel_rfl⟩
theorem FU:Has Tryz.prog rC 5 [(2,none)] am4:=⟨Tryz.f177,by kernel_rfl,by kernel_rfl⟩
theorem JF:Has Tryz.prog zl 57 [(6,none),(7,none)] ane:=⟨Tryz.f178,by kernel_rfl,by kernel_rfl⟩
theorem yu:Has Tryz.prog rD 8 [(2,none)] anh:=⟨Tryz.f189,by kernel_rfl,by kernel_rfl⟩
theorem qA:Has Tryz.prog gN 9 [(4,none)] ani:=⟨Tryz.f190,by kernel_rfl,by kernel_rfl⟩
theorem CD:Has Tryz.prog oQ 8 [(3,none)] anj:=⟨Tryz.f191,by kernel_rfl,by kernel_rfl⟩
theorem Ez:Has Tryz.prog ub 33 [(4,none)] ann:=⟨Tryz.f192,by kernel_rfl,by kernel_rfl⟩
abbrev ano:AC:= .cond cz (.seq (.run [.o 2 (.mv (.k (.int .i64 1)))]) .ret) .skip
abbrev anp:AC:= .seq (.seq (.run [.m 3 bu]) ano) (.seq (.run [.o 2 (.mv (.k (.int .i64 0)))]) .ret)
abbrev anq:AC:= .seq (.run [.o 2 (.mv (.k (.int .i64 0)))]) anp
abbrev anr:AC:= .cond dg (.seq (.run [.o 6 (.mv (.k (.int .i64 0))), .o 7 (.mv (.k (.bool false)))]) .ret) .skip
abbrev ans:AC:= .cond c6 (.seq (.run [.o 6 (.mv (.k (.int .i64 0))), .o 7 (.mv (.k (.bool true)))]) .ret) .skip
abbrev ant:AC:= .cond dD (.seq (.run [.m 16 br, .m 6 dj, .o 7 (.mv (.k (.bool true)))]) .ret) .skip
abbrev anu:AC:= .seq (.run [.m 14 br,(.o 15 (.bin .eql cO (.k (.int .i64 (-9223372036854775808)))))]) ant
abbrev anv:AC:= .seq anu (.seq (.run [.m 17 br, .o 18 (.bin .sub (.k (.int .i64 0)) dG), .m 6 dE, .o 7 (.mv (.k (.bool true)))]) .ret)
abbrev anw:AC:= .seq (.seq (.run [.m 12 bu, .o 13 (.bin .eql cU (.k (.int .i64 7)))]) ans) anv
abbrev anx:AC:= .seq (.run [.m 10 dw,(.o 11 (.bin .eql cb (.k (.int .i64 (-1)))))]) (.cond cJ anw .skip)
abbrev anz:AC:= .cond ez (.seq (.run [.m 21 br, .m 22 dw, .o 23 (.bin .rem ep eH), .m 6 eI, .o 7 (.mv (.k (.bool true)))]) .ret) .skip
abbrev anA:AC:= .seq (.seq (.run [.m 19 bu, .o 20 (.bin .eql dY (.k (.int .i64 7)))]) anz) (.seq (.run [.m 24 br, .m 25 dw, .o 26 (.bin .quo eR eU), .m 6 fp, .o 7 (.mv (.k (.bool true)))]) .ret)
abbrev anB:AC:= .seq (.seq (.run [.m 8 dw, .o 9 (.bin .eql db (.k (.int .i64 0)))]) anr) (.seq anx anA)
abbrev anC:AC:= .seq (.run [.o 6 (.mv (.k (.int .i64 0))), .o 7 (.mv (.k (.bool false)))]) anB
abbrev anD:AC:= .cond jA (.seq (.run [.m 41 br, .m 42 dw, .o 43 (.bin .neq jP kE), .c 44 jz [kr], .m 6 kF, .o 7 (.mv (.k (.bool true)))]) .ret) .skip
abbrev anE:AC:= .cond gG (.seq (.run [.m 35 br, .m 36 dw, .o 37 (.bin .eql gR ix), .c 38 jz [je], .m 6 jO, .o 7 (.mv (.k (.bool true)))]) .ret) (.seq (.run [.o 40 (.bin .eql db (.k (.int .i64 15))), .m 39 j8]) anD)
abbrev anF:AC:= .cond fv (.seq (.run [.m 29 br, .m 30 dw, .o 31 (.bin .geq gb gy), .c 32 jz [gu], .m 6 gQ, .o 7 (.mv (.k (.bool true)))]) .ret) (.seq (.run [.o 34 (.bin .eql db (.k (.int .i64 14))), .m 33 iD]) anE)
abbrev anG:AC:= .cond ep (.seq (.run [.m 23 br, .m 24 dw, .o 25 (.bin .gtr eI eR), .c 26 jz [eU], .m 6 fp, .o 7 (.mv (.k (.bool true)))]) .ret) (.seq (.run [.o 28 (.bin .eql db (.k (.int .i64 13))), .m 27 fZ]) anF)
abbrev anH:AC:= .cond dD (.seq (.run [.m 17 br, .m 18 dw, .o 19 (.bin .leq dG dE), .c 20 jz [dY], .m 6 ez, .o 7 (.mv (.k (.bool true)))]) .ret) (.seq (.run [.o 22 (.bin .eql db (.k (.int .i64 12))), .m 21 eH]) anG)
abbrev anI:AC:= .cond dg (.seq (.run [.m 11 br, .m 12 dw, .o 13 (.bin .lss cJ cU), .c 14 jz [c6], .m 6 cO, .o 7 (.mv (.k (.bool true)))]) .ret) (.seq (.run [.o 16 (.bin .eql db (.k (.int .i64 11))), .m 15 dj]) anH)
abbrev anJ:AC:= .block 0 (.seq (.run [.o 10 (.bin .eql db (.k (.int .i64 10))), .m 9 cb]) anI)
abbrev anK:AC:= .seq (.seq (.run [.m 8 bu]) anJ) (.seq (.run [.o 6 (.mv (.k (.int .i64 0))), .o 7 (.mv (.k (.bool false)))]) .ret)
abbrev anL:AC:= .seq (.run [.o 6 (.mv (.k (.int .i64 0))), .o 7 (.mv (.k (.bool false)))]) anK
abbrev anM:AC:= .seq (.block 1 (.seq (.run [.o 27 (.cf eI eU 4), .o 28 (.load fv true 4), .o 6 (.alloc [(.int .i64 0),(.int .i64 0),(.str []),(.slice .full 0 [])]), .op none none (.store dC fZ 4)]) (.run [.o 29 (.load dC true 4), .m 30 br, .c 31 iR [gb,gy], .m 1 gu]))) (.run [.o 32 (.bin .add eU (.k (.int .i64 1))), .m 25 gQ])
abbrev anN:AC:= .block 0 (.loop (.seq (.run [.o 26 (.bin .lss eU eR)]) (.seq (.cond fp .skip (.exit 0)) anM)))
abbrev anO:AC:= .seq (.seq (.run [.o 22 (.aq dw 3), .o 23 (.load eH false 1), .o 24 (.len eI), .o 25 (.mv (.k (.int .i64 0)))]) anN) (.seq (.run [.m 33 br, .m 4 gG]) .ret)
abbrev anP:AC:= .seq (.seq (.run [.o 7 (.aq dw 0), .o 8 (.load cZ false 1), .o 9 (.bin .eql db (.k (.int .i64 2))), .m 10 dg, .g 11 10 true (.mv br), .g 12 10 true (.aq dw 2), .g 13 10 true (.load cU false 1), .d 14 10 true cr [cJ,c6], .g 15 10 true (.un .not cO), .o 16 (.pick cb dD (.k (.bool false)))]) (.cond dj (.run [.m 17 br, .o 18 (.aq dw 2), .o 19 (.load dE false 1), .o 20 (.du [(.str [])] 1 1 [(0,dY)]), .o 21 (.app 1 16 dG ez), .m 1 ep]) .skip)) anO
abbrev anQ:AC:= .seq (.run [.o 2 (.box bu), .o 4 (.mv (.k (.slice .full 0 [])))]) anP
open Go.Proofs
theorem JG:Has Tryz.prog jz 4 [(2,none)] anq:=⟨Tryz.f195,by kernel_rfl,by kernel_rfl⟩
theorem wL:Has Tryz.prog uc 27 [(6,none),(7,none)] anC:=⟨Tryz.f196,by kernel_rfl,by kernel_rfl⟩
theorem DC:Has Tryz.prog sr 45 [(6,none),(7,none)] anL:=⟨Tryz.f197,by kernel_rfl,by kernel_rfl⟩
theorem rF:Has Tryz.prog iR 34 [(4,none)] anQ:=⟨Tryz.f207,by kernel_rfl,by kernel_rfl⟩
open Go.Proofs
theorem FV:Has Tryz.prog rr 9 [(2,none)] QZ1:=⟨Tryz.f104,by kernel_rfl,by kernel_rfl⟩
theorem Ln:Has Tryz.prog Bn 24 [(4,none)] QZE:=⟨Tryz.f105,by kernel_rfl,by kernel_rfl⟩
theorem JH:Has Tryz.prog zj 18 [(2,none)] akk:=⟨Tryz.f106,by kernel_rfl,by kernel_rfl⟩
theorem EA:Has Tryz.prog tX 93 [(2,none)] akz:=⟨Tryz.f107,by kernel_rfl,by kernel_rfl⟩
theorem HQ:Has Tryz.prog mI 33 [(2,none)] akG:=⟨Tryz.f108,by kernel_rfl,by kernel_rfl⟩
theorem pN:Has Tryz.prog kz 8 [(2,none)] akI:=⟨Tryz.f109,by kernel_rfl,by kernel_rfl⟩
theorem HR:Has Tryz.prog sO 23 [(2,none)] akM:=⟨Tryz.f110,by kernel_rfl,by kernel_rfl⟩
theorem we:Has Tryz.prog fX 19 [(4,none)] akR:=⟨Tryz.f111,by kernel_rfl,by kernel_rfl⟩
theorem C4:Has Tryz.prog wG 17 [(6,none),(7,none)] akT:=⟨Tryz.f112,by kernel_rfl,by kernel_rfl⟩
theorem wg:Has Tryz.prog np 9 [(4,none)] akU:=⟨Tryz.f113,by kernel_rfl,by kernel_rfl⟩
theorem CF:Has Tryz.prog gM 26 [(4,none)] akW:=⟨Tryz.f114,by kernel_rfl,by kernel_rfl⟩
theorem uf:Has Tryz.prog cr 9 [(4,none)] akX:=⟨Tryz.f115,by kernel_rfl,by kernel_rfl⟩
theorem Ap:Has Tryz.prog mJ 65 [(10,none)] ak4:=⟨Tryz.f120,by kernel_rfl,by kernel_rfl⟩
theorem EB:Has Tryz.prog oe 18 [(2,none)] ala:=⟨Tryz.f128,by kernel_rfl,by kernel_rfl⟩
theorem rG:Has Tryz.prog fY 9 [(4,none)] alb:=⟨Tryz.f129,by kernel_rfl,by kernel_rfl⟩
theorem CG:Has Tryz.prog oP 8 [(3,none)] alc:=⟨Tryz.f130,by kernel_rfl,by kernel_rfl⟩
theorem EC:Has Tryz.prog ql 38 [(8,none)] ali:=⟨Tryz.f131,by kernel_rfl,by kernel_rfl⟩
theorem yv:Has Tryz.prog vz 28 [(4,none)] alq:=⟨Tryz.f132,by kernel_rfl,by kernel_rfl⟩
theorem yw:Has Tryz.prog ry 9 [(2,none)] als:=⟨Tryz.f133,by kernel_rfl,by kernel_rfl⟩
theorem HS:Has Tryz.prog qb 24 [(4,none),(5,none)] alz:=⟨Tryz.f134,by kernel_rfl,by kernel_rfl⟩
theorem pE:Has Tryz.prog vA 29 [(4,none)] alD:=⟨Tryz.f135,by kernel_rfl,by kernel_rfl⟩
theorem uF:Has Tryz.prog rz 60 [(4,none)] alP:=⟨Tryz.f136,by kernel_rfl,by kernel_rfl⟩
theorem DD:Has Tryz.prog sq 41 [(4,none)] alW:=⟨Tryz.f137,by kernel_rfl,by kernel_rfl⟩
theorem HT:Has Tryz.prog xA 9 [(2,none)] alX:=⟨Tryz.f141,by kernel_rfl,by kernel_rfl⟩
theorem FW:Has Tryz.prog o8 18 [(4,none)] alY:=⟨Tryz.f142,by kernel_rfl,by kernel_rfl⟩
theorem FX:Has Tryz.prog rA 18 [(4,none)] alZ:=⟨Tryz.f143,by kernel_rfl,by kernel_rfl⟩
theorem ED:Has Tryz.prog tY 27 [(2,none)] al5:=⟨Tryz.f144,by kernel_rfl,by kernel_rfl⟩
theorem ov:Has Tryz.prog lg 92 [(6,none),(7,none)] amj:=⟨Tryz.f145,by kernel_rfl,by kernel_rfl⟩
def Bv (c:UInt8):Bool:=decide ((c.toNat:Int)≥97) && decide ((c.toNat:Int)≤122)
def EE (c:UInt8):Bool:=decide ((c.toNat:Int)≥48) && decide ((c.toNat:Int)≤57)
def isB (c:UInt8):Bool:=(c.toNat:Int)==32 ||(c.toNat:Int)==9 ||(c.toNat:Int)==10 ||(c.toNat:Int)==13
def pe:aG→Nat
 | []=>0
 |c::r=>if Bv c ||EE c then pe r+1 else 0
def ada:aG→Nat
 | []=>0
 |c::r=>if EE c then ada r+1 else 0
def O5:aG→Nat
 | []=>0
 |c::r=>if(c.toNat:Int) != 10 then O5 r+1 else 0
def isWord (s:aG):Bool:=
 s == [103,108,111,98,97,108] ||s == [112,114,111,99] ||s == [118,97,114] ||s == [114,101,102] ||s == [105,102] ||s == [101,108,115,101] ||s == [119,104,105,108,101] ||s == [98,114,101,97,107] ||s == [99,111,110,116,105,110,117,101] ||s == [114,101,116,117,114,110] ||s == [103,111,116,111] ||s == [114,101,97,100] ||s == [112,114,105,110,116]
def ahk (s:aG):Bool:=s == [61,61] ||s == [33,61] ||s == [60,61] ||s == [62,61] ||s == [38,38] ||s == [124,124]
def XS (c:UInt8):Bool:=
 (c.toNat:Int)==40 ||(c.toNat:Int)==41 ||(c.toNat:Int)==123 ||(c.toNat:Int)==125 ||(c.toNat:Int)==44 ||(c.toNat:Int)==59 ||(c.toNat:Int)==58 ||(c.toNat:Int)==61 ||
 (c.toNat:Int)==33 ||(c.toNat:Int)==60 ||(c.toNat:Int)==62 ||(c.toNat:Int)==43 ||(c.toNat:Int)==45 ||(c.toNat:Int)==42 ||(c.toNat:Int)==47 ||(c.toNat:Int)==37
def XT:aG→Nat
 | []=>0
 | [c]=>if XS c then 1 else 0
 |c::d::_=>if ahk [c,d]then 2 else if XS c then 1 else 0
def bA:Int→aG→Option Int
 |n,[]=>some n
 |n,c::r=>if n > (9223372036854775807 - ((c.toNat:Int) - 48)) / 10 then none else bA (n*10+((c.toNat:Int) - 48)) r
def anR (pos:Nat):aG→p7 ⊕ Int
 | []=> .inr 2
 | c::r=>
  if Bv c then
   let s:=(c::r).take (pe (c::r))
   if s.length > 8 then .inr 4 else .inl ⟨if isWord s then 3 else 1,s,0,pos⟩
  else if EE c then
   let s:=(c::r).take (ada (c::r))
   if s.length > 1∧(c.toNat:Int)=48 then .inr 2 else
   match bA 0 s with
   |some n=> .inl ⟨2,s,n,pos⟩
   |none=> .inr 4
  else
   if XT (c::r)=0 then .inr 2 else .inl ⟨4,(c::r).take (XT (c::r)),0,pos⟩
def O6:Nat→Nat→aG→List p7→List p7×Int×Int
 | 0,_,_,_=>([],0,0)
 |_+1,pos,[],out=>(out++ [⟨0,[],0,pos⟩],0,0)
 | n+1,pos,c::r,out=>
  if isB c then O6 n (pos+1) r out
  else if(c.toNat:Int)==35 then O6 n (pos+O5 (c::r)) ((c::r).drop (O5 (c::r))) out
  else match anR pos (c::r)with
   | .inr e=>([],e,pos)
   | .inl t=>if out.length=2000 then([],4,pos)else O6 n (pos+t.text.length) ((c::r).drop t.text.length) (out++ [t])
def yx (text:aG):List p7×Int×Int:=if text.length > 100000 then([],4,0)else O6 (text.length+1) 0 text []
def Cd:aG→Bool
 | []=>true
 |c::r=>if !(Bv c) && !(EE c)then false else Cd r
def isName:aG→Bool
 | []=>false
 |c::r=>if decide (((r.length+1:Nat):Int) > 8) || !(Bv c)then false else if Cd r then !(isWord (c::r))else false
def oh (op:Int):Int:=if op==1 ||op==2 then 0 else if op==3 ||op==4 then 1 else if decide (op≥5) && decide (op≤17)then 2 else -1
mutual
def Ex.form:Ex→Bool
 |⟨op,n,name,kids⟩=>
  if oh op != (kids.length:Int) ||(op != 1 && n != 0) ||decide (n<0) || !((op==2) == !(name == [])) ||(!(name == []) && !(isName name))then false else Ex.sP kids
def Ex.sP:List Ex→Bool
 | []=>true
 |x::l=>if !(Ex.form x)then false else Ex.sP l
end
mutual
def Ex.texts:Ex→Prop
 |⟨_,_,name,kids⟩=>name.length<4611686018427387904∧Ex.vH kids
def Ex.vH:List Ex→Prop
 | []=>True
 |x::l=>x.texts∧Ex.vH l
end
theorem Ex.EF {x:Ex} : ∀ {l:List Ex},Ex.vH l→x∈l→x.texts
 |y::l,h,m=>by
  rcases List.mem_cons.1 m with rfl|m
  ·exact h.1
  ·exact Ex.EF h.2 m
theorem Ex.RH {op n:Int} {name:aG} {kids:List Ex} (h:Ex.texts ⟨op,n,name,kids⟩) {y:Ex} (m:y∈kids):y.texts:=Ex.EF h.2 m
def Ex.may (x:Ex):Bool:=decide (((min x.depth 21:Nat):Int)≤20) && x.form
def Ex.none (x:Ex):Bool:=x.op==0 && x.n==0 && x.name == [] && (x.kids.length:Int)==0
def fc:List aG→Bool
 | []=>true
 |s::l=>if !(isName s)then false else fc l
def Ar.may (a:Ar):Bool:=if a.ref then isName a.name && a.x.none else a.name == [] && a.x.may
def Ar.fN:List Ar→Bool
 | []=>true
 |a::l=>if !(a.may)then false else Ar.fN l
def Sm.O7 (s:Sm):Bool:=s.kind==1 ||s.kind==3 ||s.kind==5 ||s.kind==6 ||(s.kind==9 && s.has)
def Sm.hasName (s:Sm):Bool:=s.kind==1 ||s.kind==2 ||s.kind==10
def Sm.yy (s:Sm):Bool:=s.kind==4
def Sm.one (s:Sm):Bool:=
 if decide (s.kind<1) ||decide (s.kind > 10) || !(fc s.labels) ||(s.O7 && !(s.x.may)) ||(!(s.O7) && !(s.x.none)) ||(s.has && s.kind != 9)then false
 else if(s.hasName && !(isName s.name)) ||(!(s.hasName) && !(s.name == []) && !(s.yy && isName s.name))then false
 else if !(s.yy == !(s.proc == [])) ||(s.yy && !(isName s.proc)) ||(!(s.yy) && decide ((s.args.length:Int) > 0))then false
 else if !(Ar.fN s.args)then false
 else((s.a8.length:Int)==0 ||s.kind==5 ||s.kind==6) && ((s.aS.length:Int)==0 ||s.kind==5)
structure It where
 s:Sm
 deep:Int
 cy:Int
 aS:Bool
mutual
def iS (deep cy:Int) (aS:Bool) (out:List It):Sm→List It
 |⟨id,kind,labels,name,proc,x,has,args,a8,e⟩=>
  if decide (deep≤12)then dQ (deep+1) id true (dQ (deep+1) id false (out++ [⟨⟨id,kind,labels,name,proc,x,has,args,a8,e⟩,deep,cy,aS⟩]) a8) e
  else out++ [⟨⟨id,kind,labels,name,proc,x,has,args,a8,e⟩,deep,cy,aS⟩]
def dQ (deep cy:Int) (aS:Bool) (out:List It):List Sm→List It
 | []=>out
 |s::l=>if decide ((out.length:Int)≤200)then dQ deep cy aS (iS deep cy aS out s) l else out
end
def Pc.flat (f:Pc):List It:=dQ 1 0 false [] f.body
def allM (out:List It):List Pc→List It
 | []=>out
 |f::l=>if decide (((out++f.flat).length:Int) > 200)then out++f.flat else allM (out++f.flat) l
def Pg.all (p:Pg):List It:=allM [] p.procs
def Pm.fN:List Pm→Bool
 | []=>true
 |a::l=>if !(isName a.name)then false else Pm.fN l
def Pc.nX:List Pc→Bool
 | []=>true
 |f::l=>
  if !(isName f.name) ||decide ((f.params.length:Int) > 8) ||decide ((f.vars.length:Int) > 16) || !(fc f.vars) || !(fc f.fin)then false
  else if !(Pm.fN f.params)then false else Pc.nX l
def It.fN (n:Nat):List It→Bool
 | []=>true
 |i::l=>if i.s.id != ((n+1:Nat):Int) ||decide (i.deep > 12) || !(i.s.one)then false else It.fN (n+1) l
def Pg.may (p:Pg):Bool:=
 if decide ((p.globals.length:Int) > 16) ||decide ((p.procs.length:Int) > 16) || !(fc p.globals)then false
 else if !(Pc.nX p.procs)then false
 else if decide ((p.all.length:Int) > 200)then false else It.fN 0 p.all
open Go.Proofs
@[go_sem] def avT (r:Rd):List D:= [.slice .shared 4 (r.l.map jU), .int .i64 r.i, .int .i64 r.code, .int .i64 r.Jp, .int .i64 r.n]
set_option maxRecDepth 8000
open Go.Proofs
theorem su (c:UInt8) (s:St):aF Tryz.prog rr [.int .u8 (c.toNat:Int)] s (.bool (Bv c)) s:=by
 refine aF.pure ?_ rfl rfl s
 generalize h:Bv c=b
 unfold Bv at h
 unfold S0
 refine aF.go FV rfl fun B Q hB hQ=>?_
 have⟨hD,hY,hZ,gA⟩:=bR
 repeat' (first
 |simp only[go_sem,hD,hY,hZ,gA]
 |(with_reducible first|refine bo fun hc=>?_|refine bp fun hc=>?_|refine bq (fun hc=>?_) fun hc=>?_)<;>(try simp only[hc,bs,↓reduceIte]at h)<;>try simp only[hc]
 |(with_reducible refine aE hQ ?_;exact fV))
theorem FY (c:UInt8) (s:St):aF Tryz.prog xA [.int .u8 (c.toNat:Int)] s (.bool (EE c)) s:=by
 refine aF.pure ?_ rfl rfl s
 generalize h:EE c=b
 unfold EE at h
 unfold S0
 refine aF.go HT rfl fun B Q hB hQ=>?_
 have⟨hD,hY,hZ,gA⟩:=bR
 repeat' (first
 |simp only[go_sem,hD,hY,hZ,gA]
 |(with_reducible first|refine bo fun hc=>?_|refine bp fun hc=>?_|refine bq (fun hc=>?_) fun hc=>?_)<;>(try simp only[hc,bs,↓reduceIte]at h)<;>try simp only[hc]
 |(with_reducible refine aE hQ ?_;exact fV))
theorem adb (t:aG) (s:St):aF Tryz.prog zj [.str t] s (.bool (isWord t)) s:=by
 refine aF.pure ?_ rfl rfl s
 generalize h:isWord t=b
 unfold isWord at h
 unfold S0
 refine aF.go JH rfl fun B Q hB hQ=>?_
 have⟨hD,hY,hZ,gA⟩:=bR
 repeat' (first
 |simp only[go_sem,hD,hY,hZ,gA]
 |(with_reducible first|refine bo fun hc=>?_|refine bp fun hc=>?_|refine bq (fun hc=>?_) fun hc=>?_)<;>(try simp only[hc,bs,↓reduceIte]at h)<;>try simp only[hc]
 |(with_reducible refine aE hQ ?_;exact fV))
theorem ahl {text:aG} {pos:Nat} (hl:text.length<4611686018427387904) (s:St):aF Tryz.prog Bn [.str text, .int .i64 (pos:Int)] s (.int .i64 ((pos+pe (text.drop pos):Nat):Int)) s:=by
 refine aF.pure ?_ rfl rfl s
 unfold S0
 refine aF.go Ln rfl fun B Q hB hQ=>?_
 have⟨hD,hY,hZ,gA⟩:=bR
 repeat' (first
 |simp only[go_sem,hD,hY,hZ,gA]
 |(with_reducible refine aE hQ ?_;exact bd))
 refine fi 0 0 (bt.ind (ι:=aG×Nat) (fun i=>text.drop i.2=i.1∧i.2+pe i.1=pos+pe (text.drop pos)) (fun i=>i.1.length)
  (fun i=> [(0, .str text),(1, .int .i64 (i.2:Int))]) (fun i=>⟨[],[]⟩) ?_ (text.drop pos,pos) ⟨rfl,rfl⟩)
 rintro⟨rest,k⟩ ⟨h1,h2⟩ IH
 dsimp only at h1 h2
 cases rest with
 |nil=>
  have hD:=drop_nil h1
  simp only[pe,Nat.add_zero]at h2
  rw[← h2]at hQ
  repeat' (first
 |simp only[go_sem,hD,hY,hZ,gA]
 |(with_reducible refine aE hQ ?_;exact bd))
 | cons c rest=>
  obtain⟨hY,g2,hD,g4⟩:=drop_cons h1
  have hZ:k<4611686018427387904:=by omega
  cases hb:(Bv c ||EE c)
  ·simp only [pe,hb,Bool.false_eq_true, ↓reduceIte,Nat.add_zero]at h2
   rw[← h2]at hQ
   simp only[Bool.or_eq_false_iff]at hb
   repeat' (first
 |simp only[go_sem,hD,hY,hZ,gA,hb.1,hb.2]
 |(with_reducible refine CU (su _ _) ?_)
 |(with_reducible refine CU (FY _ _) ?_)
 | (with_reducible refine aE hQ ?_;exact bd))
  ·simp only [pe,hb, ↓reduceIte]at h2
   cases IN:Bv c
   ·rw [IN,Bool.false_or]at hb
    repeat' (first
 |simp only[go_sem,hD,hY,hZ,gA,hb,IN]
 |(with_reducible refine CU (su _ _) ?_)
 |(with_reducible refine CU (FY _ _) ?_)
 | (with_reducible refine aE hQ ?_;exact bd))
    refine fi 0 0 (IH (rest,k+1) ⟨g2,by dsimp only;omega⟩ (Nat.lt_succ_self _))
   ·repeat' (first
 |simp only[go_sem,hD,hY,hZ,gA,IN]
 |(with_reducible refine CU (su _ _) ?_)
 |(with_reducible refine CU (FY _ _) ?_)
 | (with_reducible refine aE hQ ?_;exact bd))
    refine fi 0 0 (IH (rest,k+1) ⟨g2,by dsimp only;omega⟩ (Nat.lt_succ_self _))
def aut (s:aG):Int×Bool:=match bA 0 s with|some n=>(n,true)|none=>(0,false)
open Go.Proofs
def anS (f:Int×Int):List D:= [.int .i64 f.1, .int .i64 f.2]
def ahm (text:aG) (out:List p7) (pos:Nat):Tm:= [(0, .str text),(3, .ptr 0 0),(4, .slice (.tok 0) 4 (out.map jU)),(5, .ptr 1 0),(6, .int .i64 (pos:Int))]
def ahn (out:List p7):St:=⟨[[.int .i64 0, .int .i64 0],[.junk, .junk, .junk, .junk]],[some out.length]⟩
attribute [go_sem] ahm ahn anS
end Go.Abs
namespace Go.Abs
set_option maxRecDepth 8000
open Go.Proofs
def aoH (s:aG):Bool:=
 [103,108,111,98,97,108] == s || [112,114,111,99] == s || [118,97,114] == s || [114,101,102] == s || [105,102] == s || [101,108,115,101] == s || [119,104,105,108,101] == s || [98,114,101,97,107] == s || [99,111,110,116,105,110,117,101] == s || [114,101,116,117,114,110] == s || [103,111,116,111] == s || [114,101,97,100] == s || [112,114,105,110,116] == s
def OpR (p:Int×Int):Prop:=0≤p.2∧p.2≤6
@[go_sem] def avU (z:D) (r:Rd):List D:= [.slice .shared 4 (r.l.map jU), .int .i64 r.i, .int .i64 r.code, .int .i64 r.Jp,z]
class Cell (z:D):Prop where
 ok:D.ok 0 0 z=true
 fg : ∀ n m,D.fg n m z=z
instance (n:Int):Cell (.int .i64 n):=⟨rfl,fun _ _=>rfl⟩
instance:Cell .junk:=⟨rfl,fun _ _=>rfl⟩
theorem ZE (z:D) [h:Cell z] (n m:Nat):D.fg n m z=z:=h.fg n m
attribute [go_sem] ZE
def Rd.isO (text:aG) (r:Rd):Option Bool:=if r.good then r.is text else some false
end Go.Abs
namespace Go.Abs
open Go.Proofs
def ade (s:aG):Int×Int:=
 if [42] == s then(6,5)else if [47] == s then(6,6)else if [37] == s then(6,7)else if [43] == s then(5,8)else if [45] == s then(5,9)
 else if [60] == s then(4,10)else if [60,61] == s then(4,11)else if [62] == s then(4,12)else if [62,61] == s then(4,13)
 else if [61,61] == s then(3,14)else if [33,61] == s then(3,15)else if [38,38] == s then(2,16)else if [124,124] == s then(1,17)else(0,0)
def BZ (p:Int×Int):Prop:=(p.2==0)=(p.1==0)
set_option maxRecDepth 8000
open Go.Proofs
structure Sm.ug (s:Sm):Prop where
 XU : ∀ t∈s.labels,t.length<4611686018427387904
 anT:s.labels.length<4611686018427387904
 name:s.name.length<4611686018427387904
 proc:s.proc.length<4611686018427387904
 x:s.x.size<4611686018427387904
 xt:s.x.texts
 anU:s.args.length<4611686018427387904
 arg : ∀ a∈s.args,a.x.size<4611686018427387904∧a.x.texts∧a.name.length<4611686018427387904
section
variable {v:Sm} {B:fU} {Q:Exit→Tm→St→Prop} {p:Bool}
end
theorem aF.goS {P:Program} {f:FuncId} {nt:Nat} {res:List (Nat×Option (Bool×Nat))} {body:AC} {args:List D} {s:St} {d:D} {s':St} (h0:Has P f nt res body) (hl:Nat.ble args.length nt=true)
 (h : ∀ (B:fU) (Q:Exit→Tm→St→Prop),B.s=s→pR s.ah.length s.aw.length res d s'=Q→Sem P B nt body Q (mS 0 args) s):aF P f args s d s':=by
 obtain⟨fn,hf,hc⟩:=h0
 exact aF.intro ⟨fn,hf,hc⟩ (Nat.le_of_ble_eq_true hl) fun B hB=>h B _ hB rfl
end Go.Abs
namespace Go.Abs
set_option maxRecDepth 8000
open Go.Proofs
def dz (i:Im):List D:= [.int .i64 i.s.id, .int .i64 i.s.kind, .slice .shared 1 (i.s.labels.map encStr), .str i.s.name, .str i.s.proc,
 .int .i64 i.s.x.op, .int .i64 i.s.x.n, .str i.s.x.name, .slice .shared 4 (i.s.x.kids.map cd), .bool i.s.has, .slice .shared 6 (i.s.args.map eC), .slice .shared 13 (i.s.a8.map bh), .slice .shared 13 (i.s.aS.map bh), .int .i64 i.proc, .int .i64 i.up, .int .i64 i.next, .int .i64 i.loop]
def bT (n:Int):List D:= [.int .i64 n]
theorem O8 (i:Im):D.bL 0 0 (dz i)=true:=by simp[dz,D.bL,D.ok,Tag.ok,fb,W6,H6,pD]
theorem H8 (l:List Im):D.gS 0 0 (l.map dz)=true:=gT O8 l
theorem XV (n m:Nat) (l:List Im):D.kv n m (l.map dz)=l.map dz:=lW O8 n m l
theorem aho (n m:Nat) (i:Im):D.gv n m (dz i)=dz i:=ig n m _ (O8 i)
theorem ahp (x:Im):(dz x).length=17:=nd rfl
theorem ZF (x:Im):List.take 17 (dz x)=dz x:=nd rfl
theorem adf (x:Im):List.drop 17 (dz x) = []:=nd rfl
theorem adg (x:Im):List.take 13 (dz x)=bh x.s:=by simp only[dz,ey];rfl
theorem Ve (x:Im):(dz x)[0]? = some (.int .i64 x.s.id):=nd rfl
theorem Vf (x:Im):(dz x)[1]? = some (.int .i64 x.s.kind):=nd rfl
theorem Vg (x:Im):(dz x)[4]? = some (.str x.s.proc):=nd rfl
theorem RI (x:Im):(dz x)[13]? = some (.int .i64 x.proc):=nd rfl
theorem RJ (x:Im):(dz x)[14]? = some (.int .i64 x.up):=nd rfl
theorem RK (x:Im):(dz x)[15]? = some (.int .i64 x.next):=nd rfl
theorem RL (x:Im):(dz x)[16]? = some (.int .i64 x.loop):=nd rfl
theorem O9 (s:Sm) (a b c d:Int):dz ⟨s,a,b,c,d⟩ = [.int .i64 s.id, .int .i64 s.kind, .slice .shared 1 (s.labels.map encStr), .str s.name, .str s.proc,
 .int .i64 s.x.op, .int .i64 s.x.n, .str s.x.name, .slice .shared 4 (s.x.kids.map cd), .bool s.has, .slice .shared 6 (s.args.map eC), .slice .shared 13 (s.a8.map bh), .slice .shared 13 (s.aS.map bh), .int .i64 a, .int .i64 b, .int .i64 c, .int .i64 d]:=nd rfl
theorem XW (n:Int):D.bL 0 0 (bT n)=true:=rfl
theorem iN (l:List Int):D.gS 0 0 (l.map bT)=true:=gT XW l
theorem RM (n m:Nat) (l:List Int):D.kv n m (l.map bT)=l.map bT:=lW XW n m l
attribute [go_sem] XV aho ahp ZF adf adg Ve Vf Vg RI RJ RK RL RM bT
theorem adh : ∀ n,n<1000000000→∀ v:Sm,v.size≤n→aF Tryz.prog mI [.agg (bh v)] S0 (.int .i64 (v.jx:Int)) S0:=by
 intro n
 induction n with
 |zero=>intro _ v h;obtain⟨_,_,_,_,_,_,_,_,_,_⟩:=v;simp only[Sm.size]at h;omega
 |succ n ih=>
 intro hn v hv
 have dO:Sm.a7 v.a8≤n∧Sm.a7 v.aS≤n∧v.jx=1+Sm.jd v.a8+Sm.jd v.aS:=by
  obtain⟨_,_,_,_,_,_,_,_,_,_⟩:=v
  simp only[Sm.size]at hv;exact⟨by dsimp only;omega,by dsimp only;omega,rfl⟩
 obtain⟨h1,h2,h3⟩:=dO
 have c1:=nL v.a8
 have c2:=nL v.aS
 have l1:=Sm.eJ v.a8
 have l2:=Sm.eJ v.aS
 have hk : ∀ y,y∈v.a8∨y∈v.aS→∀ s,aF Tryz.prog mI [.agg (bh y)] s (.int .i64 (y.jx:Int)) s:=fun y hy s=>
  (ih (by omega) y (by rcases hy with hy|hy<;>(have:=Sm.dm hy;omega))).pure (by simp only[D.bL,D.ok,rj];rfl) rfl s
 rw[h3]
 unfold S0
 refine aF.go HQ rfl fun B Q hB hQ=>?_
 have⟨hD,hY,hZ,gA⟩:=bR
 repeat' (first
 |simp only[go_sem,hD,hY,hZ,gA]
 |(with_reducible refine aE hQ ?_;exact bd))
 refine fi 1 0 (bt.ind (ι:=List Sm×Nat×Nat) (fun i=>v.a8.drop i.2.1=i.1∧i.2.2+Sm.jd i.1=1+Sm.jd v.a8) (fun i=>i.1.length)
  (fun i=> [(1, .ptr 0 0),(3, .int .i64 (i.2.2:Int)),(9, .slice .shared 13 (v.a8.map bh)),(10, .int .i64 (v.a8.length:Int)),(11, .int .i64 (i.2.1:Int))]) (fun i=>⟨[bh v],[]⟩) ?_ (v.a8,0,1) ⟨rfl,rfl⟩)
 rintro⟨rest,k,c⟩ ⟨g1,g2⟩ IH
 dsimp only at g1 g2
 cases rest with
 |cons y rest=>
  obtain⟨hY,g3,hD,g4⟩:=drop_cons g1
  have hy:=hk y (.inl (List.mem_of_getElem? hY))
  simp only[Sm.jd]at g2
  have hcy:=Du y
  have Gr:=Sm.dm (List.mem_of_getElem? hY)
  have w1:IntKind.wrap .i64 ((k:Int)+1)=((k+1:Nat):Int):=by rw[ek]<;>omega
  have w2:IntKind.wrap .i64 ((c:Int)+(y.jx:Int))=((c+y.jx:Nat):Int):=by rw[ek]<;>omega
  repeat' (first
 |simp only[go_sem,hD,hY,hZ,gA,w1,w2]
 |(with_reducible refine CU (hy _) ?_)
 |(with_reducible refine aE hQ ?_;exact bd))
  refine fi 1 0 (IH (rest,k+1,c+y.jx) ⟨g3,by dsimp only;omega⟩ (Nat.lt_succ_self _))
 |nil=>
  have hD:=drop_nil g1
  simp only[Sm.jd,Nat.add_zero]at g2
  subst g2
  repeat' (first
 |simp only[go_sem,hD,hY,hZ,gA]
 | (with_reducible refine aE hQ ?_;exact bd))
  refine fi 1 0 (bt.ind (ι:=List Sm×Nat×Nat) (fun i=>v.aS.drop i.2.1=i.1∧i.2.2+Sm.jd i.1=1+Sm.jd v.a8+Sm.jd v.aS) (fun i=>i.1.length)
   (fun i=> [(1, .ptr 0 0),(3, .int .i64 (i.2.2:Int)),(21, .slice .shared 13 (v.aS.map bh)),(22, .int .i64 (v.aS.length:Int)),(23, .int .i64 (i.2.1:Int))]) (fun i=>⟨[bh v],[]⟩) ?_ (v.aS,0,1+Sm.jd v.a8) ⟨rfl,rfl⟩)
  rintro⟨rest,k,c⟩ ⟨g1,g2⟩ IH
  dsimp only at g1 g2
  cases rest with
  |cons y rest=>
   obtain⟨hY,g3,hD,g4⟩:=drop_cons g1
   have hy:=hk y (.inr (List.mem_of_getElem? hY))
   simp only[Sm.jd]at g2
   have hcy:=Du y
   have Gr:=Sm.dm (List.mem_of_getElem? hY)
   have w1:IntKind.wrap .i64 ((k:Int)+1)=((k+1:Nat):Int):=by rw[ek]<;>omega
   have w2:IntKind.wrap .i64 ((c:Int)+(y.jx:Int))=((c+y.jx:Nat):Int):=by rw[ek]<;>omega
   repeat' (first
 |simp only[go_sem,hD,hY,hZ,gA,w1,w2]
 |(with_reducible refine CU (hy _) ?_)
 | (with_reducible refine aE hQ ?_;exact bd))
   refine fi 1 0 (IH (rest,k+1,c+y.jx) ⟨g3,by dsimp only;omega⟩ (Nat.lt_succ_self _))
  |nil=>
   have hD:=drop_nil g1
   simp only[Sm.jd,Nat.add_zero]at g2
   subst g2
   repeat' (first
 |simp only[go_sem,hD,hY,hZ,gA]
 |(with_reducible refine aE hQ ?_;exact bd))
theorem adi {v:Sm} (h:v.size<1000000000) (s:St):aF Tryz.prog mI [.agg (bh v)] s (.int .i64 (v.jx:Int)) s:=
 (adh v.size h v (Nat.le_refl _)).pure (by simp only[D.bL,D.ok,rj];rfl) rfl s
end Go.Abs
namespace Go.Abs
set_option maxRecDepth 8000
open Go.Proofs
abbrev iT (g ps:D) (L:List Im) (lo hi:List Int):List D:= [g,ps, .slice (.tok 0) 17 (L.map dz), .slice (.tok 1) 1 (lo.map bT), .slice (.tok 2) 1 (hi.map bT)]
abbrev Vh (proc up next loop:Int):List D:= [.int .i64 0, .int .i64 0, .slice .full 0 [], .str [], .str [], .int .i64 0, .int .i64 0, .str [], .slice .full 0 [], .bool false, .slice .full 0 [], .slice .full 0 [], .slice .full 0 [], .int .i64 proc, .int .i64 up, .int .i64 next, .int .i64 loop]
theorem aF.ahq {P:Program} {f:Nat} {args:List D} {g ps:D} {L L':List Im} {lo hi Gw ic:List Int} {a b c a' b' c':Option Nat}
 (h:aF P f (.ptr 0 0::args) ⟨[iT g ps L lo hi],[a,b,c]⟩ (.tuple []) ⟨[iT g ps L' Gw ic],[a',b',c']⟩)
 (ha:D.bL 0 0 args=true) (hg:D.ok 0 0 g=true) (hp:D.ok 0 0 ps=true)
 {s:St} {o:Nat} (ho:s.ah[o]? = some (iT g ps L lo hi)) (ht:s.aw = [a,b,c]):aF P f (.ptr o 0::args) s (.tuple []) ⟨s.ah.set o (iT g ps L' Gw ic),[a',b',c']⟩:=by
 have hr : ∀ (L:List Im) (lo hi:List Int),D.e9 [o] [0,1,2] (iT g ps L lo hi)=iT g ps L lo hi:=fun L lo hi=>by
  simp[D.e9,D.cW,Tag.cW,qv _ _ _ hg,qv _ _ _ hp,jl _ _ _ (H8 L),jl _ _ _ (iN lo),jl _ _ _ (iN hi)]
 have hk : ∀ (L:List Im) (lo hi:List Int),D.bL 1 3 (iT g ps L lo hi)=true:=fun L lo hi=>by
  simp[D.bL,D.ok,Tag.ok,FE (Nat.zero_le 1) (Nat.zero_le 3) _ hg,FE (Nat.zero_le 1) (Nat.zero_le 3) _ hp,mD (Nat.zero_le 1) (Nat.zero_le 3) _ (H8 L),mD (Nat.zero_le 1) (Nat.zero_le 3) _ (iN lo),mD (Nat.zero_le 1) (Nat.zero_le 3) _ (iN hi)]
 refine bM.frame [o] [0,1,2] h (by simp) (by decide) (by simpa using (List.getElem?_eq_some_iff.1 ho).1) (by rw[ht];simp) rfl (fun i o' ds e1 e2=>?_) rfl (fun i t' e1=>?_)
  (by simp[D.e9,D.cW,fC _ _ _ ha])
  (by simp[D.bL,D.ok,iB (Nat.zero_le 1) (Nat.zero_le 3) _ ha]) ?_
 ·cases i with
  |zero=>simp only[List.getElem?_cons_zero,Option.some.injEq]at e1 e2;subst e1;subst e2;exact⟨by rw[hr];exact ho,hk L lo hi⟩
  |succ i=>simp at e1
 ·rw [ht]
  match i,e1 with
  | 0,e1=>simp at e1;subst e1;rfl
  | 1,e1=>simp at e1;subst e1;rfl
  | 2,e1=>simp at e1;subst e1;rfl
  |i+3,e1=>simp at e1
 ·rintro _ _ ⟨rfl,rfl⟩
  refine⟨by simp[D.back,D.cW,D.e9], ?_⟩
  have:=hr L' Gw ic
  simp[St.back,kC,ky,this,ht]
abbrev XX (N:Nat):Prop:=∀ (l:List Sm) (proc up next loop:Int) (out:List Im) (g ps:D) (lo hi:List Int) (b c:Option Nat),Sm.a7 l<N→out.length+Sm.jd l<1000000000→D.ok 0 0 g=true→D.ok 0 0 ps=true→
 ∀ {s:St} {o:Nat},s.ah[o]? = some (iT g ps out lo hi)→s.aw = [some out.length,b,c]→
 aF Tryz.prog j7 [.ptr o 0, .slice .shared 13 (l.map bh), .agg (Vh proc up next loop)] s (.tuple []) ⟨s.ah.set o (iT g ps (Im.rows proc up next loop out l) lo hi),[some (Im.rows proc up next loop out l).length,b,c]⟩
theorem ahr {N:Nat} (ih:XX N) {l:List Sm} {proc up next loop:Int} {out:List Im} {g ps:D} {lo hi:List Int} {b c:Option Nat} (hs:Sm.a7 l<N+1) (hc:out.length+Sm.jd l<1000000000) (hg:D.ok 0 0 g=true) (hp:D.ok 0 0 ps=true) (hN:N<1000000000) :
 aF Tryz.prog j7 [.ptr 0 0, .slice .shared 13 (l.map bh), .agg (Vh proc up next loop)] ⟨[iT g ps out lo hi],[some out.length,b,c]⟩ (.tuple []) ⟨[iT g ps (Im.rows proc up next loop out l) lo hi],[some (Im.rows proc up next loop out l).length,b,c]⟩:=by
 obtain⟨R,hR⟩ : ∃ R,R=Im.rows proc up next loop out l:=⟨_,rfl⟩
 have hlR:R.length=out.length+Sm.jd l:=by rw[hR,gF]
 rw[← hR]
 have k1 : ∀ n m,D.fg n m g=g:=fun n m=>OP n m _ hg
 have k2 : ∀ n m,D.fg n m ps=ps:=fun n m=>OP n m _ hp
 refine aF.go Bu rfl fun B Q hB hQ=>?_
 have⟨hD,hY,hZ,gA⟩:=bR
 repeat' (first
 |simp only[go_sem,hD,hY,hZ,gA,k1,k2]
 |(with_reducible first|refine bo fun hc=>?_|refine bp fun hc=>?_|refine bq (fun hc=>?_) fun hc=>?_)<;>(try simp only[hc,bs,↓reduceIte]at h)<;>try simp only[hc]
 |(with_reducible refine aE hQ ?_;simp only[aV,aX,bH,bI,go_sem,hD,hY,hZ,gA,k1,k2];try exact cq))
 refine eY 2 3 ?_ ?_ (bt.ind (ι:=List Sm×Nat×List Im) (fun i=>l.drop i.2.1=i.1∧Im.rows proc up next loop i.2.2 i.1=R∧i.2.2.length+Sm.jd i.1=out.length+Sm.jd l) (fun i=>i.1.length)
  (fun i=> [(0, .ptr 0 0),(1, .slice .shared 13 (l.map bh)),(5, .ptr 1 0),(11, .slice .shared 13 (l.map bh)),(12, .int .i64 (l.length:Int)),(13, .int .i64 (i.2.1:Int))]) (fun i=>⟨[iT g ps i.2.2 lo hi,Vh proc up next loop],[some i.2.2.length,b,c]⟩) ?_ (l,0,out) ⟨rfl,hR.symm,rfl⟩)
 ·(simp only[go_sem,hD,hY,hZ,gA,k1,k2];try exact cj)
 ·(simp only[go_sem,hD,hY,hZ,gA,k1,k2];try exact cj)
 rintro⟨rest,k,cG⟩ ⟨h1,h2,h3⟩ IH
 dsimp only at h1 h2 h3
 have hlen:l.length<1000000000:=by have:=Sm.eJ l;omega
 cases rest with
 |nil=>
  have hD:=drop_nil h1
  simp only[Im.rows]at h2
  subst h2
  repeat' (first
 |simp only[go_sem,hD,hY,hZ,gA,k1,k2]
 |(with_reducible first|refine bo fun hc=>?_|refine bp fun hc=>?_|refine bq (fun hc=>?_) fun hc=>?_)<;>(try simp only[hc,bs,↓reduceIte]at h)<;>try simp only[hc]
 |(with_reducible refine aE hQ ?_;simp only[aV,aX,bH,bI,go_sem,hD,hY,hZ,gA,k1,k2];try exact cq))
 | cons v rest=>
  obtain⟨hY,g2,hD,g4⟩:=drop_cons h1
  have bU:k<4611686018427387904:=by omega
  have hv:=Sm.dm (List.mem_of_getElem? hY)
  have oY:Sm.a7 v.a8<N∧Sm.a7 v.aS<N∧v.jx=1+Sm.jd v.a8+Sm.jd v.aS:=by
   obtain⟨_,_,_,_,_,_,_,_,_,_⟩:=v
   simp only[Sm.size]at hv
   exact⟨by dsimp only;omega,by dsimp only;omega,rfl⟩
  obtain⟨x7,Bb,hv3⟩:=oY
  simp only[Sm.jd]at h3
  simp only[Im.rows,Im.acB]at h2
  have hZ:(cG.length+1)*241≤bC:=by unfold bC;omega
  have LY:IntKind.wrap .i64 ((cG.length:Int)+1)=(cG.length:Int)+1:=ek (by omega) (by omega)
  have tr:IntKind.wrap .i64 ((k:Int)+1)=((k+1:Nat):Int):=by rw[ek]<;>omega
  have XY:IntKind.wrap .i64 ((cG.length:Int)+1+(v.jx:Int))=(cG.length:Int)+1+(v.jx:Int):=ek (by omega) (by omega)
  have dO:=fun s=>adi (v:=v) (by omega) s
  simp only[ey]at dO
  have A4:rest.length=l.length - (k+1):=by rw[← g2,List.length_drop]
  by_cases avV:k+1<l.length
  ·have d1:decide (((k+1:Nat):Int)<(l.length:Int))=true:=by simp;omega
   have e1:(rest.length=0)=False:=by simp;intro h;rw[h]at A4;simp at A4;omega
   by_cases RN:v.kind=6
   ·have d2:(v.kind==6)=true:=by simp [RN]
    simp only[e1,d2,↓reduceIte,Bool.false_eq_true]at h2
    have f1:=fun {s:St} {o:Nat}=>@ih v.a8 proc ((cG.length:Int)+1) ((cG.length:Int)+1) ((cG.length:Int)+1) (cG++ [⟨v,proc,up,((cG.length:Int)+1+(v.jx:Int)),loop⟩]) g ps lo hi b c x7 (by simp;omega) hg hp s o
    have f2:=fun {s:St} {o:Nat}=>@ih v.aS proc ((cG.length:Int)+1) ((cG.length:Int)+1) ((cG.length:Int)+1) _ g ps lo hi b c Bb (by rw[gF proc ((cG.length:Int)+1) ((cG.length:Int)+1) ((cG.length:Int)+1) (cG++ [⟨v,proc,up,((cG.length:Int)+1+(v.jx:Int)),loop⟩]) v.a8];simp;omega) hg hp s o
    have hl:(Im.rows proc ((cG.length:Int)+1) ((cG.length:Int)+1) ((cG.length:Int)+1) (Im.rows proc ((cG.length:Int)+1) ((cG.length:Int)+1) ((cG.length:Int)+1) (cG++ [⟨v,proc,up,((cG.length:Int)+1+(v.jx:Int)),loop⟩]) v.a8) v.aS).length=cG.length+v.jx:=by rw[gF,gF];simp;omega
    simp only[iT,List.map_append,List.map_cons,List.map_nil,O9,List.length_append,List.length_cons,List.length_nil]at f1
    repeat' (first
 |simp only[go_sem,hD,hY,hZ,gA,k1,k2,LY,tr,XY,d1,d2,ey]
 |(with_reducible refine CU (dO _) ?_)
 |(with_reducible refine CU (f1 (by with_unfolding_all rfl) (by with_unfolding_all rfl)) ?_)
 |(with_reducible refine CU (f2 (by with_unfolding_all rfl) (by with_unfolding_all rfl)) ?_)
 | (with_reducible refine aE hQ ?_;exact bd))
    refine eY 2 3 ?_ ?_ (IH (rest,k+1,_) ⟨g2,h2,by dsimp only;rw[hl];omega⟩ (Nat.lt_succ_self _))
    ·(simp only[go_sem,hD,hY,hZ,gA,tr,k1,k2];try exact cj)
    ·(simp only[go_sem,hD,hY,hZ,gA,tr,k1,k2];try exact cj)
   ·have d2:(v.kind==6)=false:=by simp [RN]
    simp only[e1,d2,↓reduceIte,Bool.false_eq_true]at h2
    have f1:=fun {s:St} {o:Nat}=>@ih v.a8 proc ((cG.length:Int)+1) ((cG.length:Int)+1+(v.jx:Int)) loop (cG++ [⟨v,proc,up,((cG.length:Int)+1+(v.jx:Int)),loop⟩]) g ps lo hi b c x7 (by simp;omega) hg hp s o
    have f2:=fun {s:St} {o:Nat}=>@ih v.aS proc ((cG.length:Int)+1) ((cG.length:Int)+1+(v.jx:Int)) loop _ g ps lo hi b c Bb (by rw[gF proc ((cG.length:Int)+1) ((cG.length:Int)+1+(v.jx:Int)) loop (cG++ [⟨v,proc,up,((cG.length:Int)+1+(v.jx:Int)),loop⟩]) v.a8];simp;omega) hg hp s o
    have hl:(Im.rows proc ((cG.length:Int)+1) ((cG.length:Int)+1+(v.jx:Int)) loop (Im.rows proc ((cG.length:Int)+1) ((cG.length:Int)+1+(v.jx:Int)) loop (cG++ [⟨v,proc,up,((cG.length:Int)+1+(v.jx:Int)),loop⟩]) v.a8) v.aS).length=cG.length+v.jx:=by rw[gF,gF];simp;omega
    simp only[iT,List.map_append,List.map_cons,List.map_nil,O9,List.length_append,List.length_cons,List.length_nil]at f1
    repeat' (first
 |simp only[go_sem,hD,hY,hZ,gA,k1,k2,LY,tr,XY,d1,d2,ey]
 |(with_reducible refine CU (dO _) ?_)
 |(with_reducible refine CU (f1 (by with_unfolding_all rfl) (by with_unfolding_all rfl)) ?_)
 |(with_reducible refine CU (f2 (by with_unfolding_all rfl) (by with_unfolding_all rfl)) ?_)
 | (with_reducible refine aE hQ ?_;exact bd))
    refine eY 2 3 ?_ ?_ (IH (rest,k+1,_) ⟨g2,h2,by dsimp only;rw[hl];omega⟩ (Nat.lt_succ_self _))
    ·(simp only[go_sem,hD,hY,hZ,gA,tr,k1,k2];try exact cj)
    ·(simp only[go_sem,hD,hY,hZ,gA,tr,k1,k2];try exact cj)
  ·have d1:decide (((k+1:Nat):Int)<(l.length:Int))=false:=by simp;omega
   have e1:(rest.length=0)=True:=by simp only[eq_iff_iff,iff_true];omega
   by_cases RN:v.kind=6
   ·have d2:(v.kind==6)=true:=by simp [RN]
    simp only[e1,d2,↓reduceIte,Bool.false_eq_true]at h2
    have f1:=fun {s:St} {o:Nat}=>@ih v.a8 proc ((cG.length:Int)+1) ((cG.length:Int)+1) ((cG.length:Int)+1) (cG++ [⟨v,proc,up,next,loop⟩]) g ps lo hi b c x7 (by simp;omega) hg hp s o
    have f2:=fun {s:St} {o:Nat}=>@ih v.aS proc ((cG.length:Int)+1) ((cG.length:Int)+1) ((cG.length:Int)+1) _ g ps lo hi b c Bb (by rw[gF proc ((cG.length:Int)+1) ((cG.length:Int)+1) ((cG.length:Int)+1) (cG++ [⟨v,proc,up,next,loop⟩]) v.a8];simp;omega) hg hp s o
    have hl:(Im.rows proc ((cG.length:Int)+1) ((cG.length:Int)+1) ((cG.length:Int)+1) (Im.rows proc ((cG.length:Int)+1) ((cG.length:Int)+1) ((cG.length:Int)+1) (cG++ [⟨v,proc,up,next,loop⟩]) v.a8) v.aS).length=cG.length+v.jx:=by rw[gF,gF];simp;omega
    simp only[iT,List.map_append,List.map_cons,List.map_nil,O9,List.length_append,List.length_cons,List.length_nil]at f1
    repeat' (first
 |simp only[go_sem,hD,hY,hZ,gA,k1,k2,LY,tr,XY,d1,d2,ey]
 |(with_reducible refine CU (dO _) ?_)
 |(with_reducible refine CU (f1 (by with_unfolding_all rfl) (by with_unfolding_all rfl)) ?_)
 |(with_reducible refine CU (f2 (by with_unfolding_all rfl) (by with_unfolding_all rfl)) ?_)
 | (with_reducible refine aE hQ ?_;exact bd))
    refine eY 2 3 ?_ ?_ (IH (rest,k+1,_) ⟨g2,h2,by dsimp only;rw[hl];omega⟩ (Nat.lt_succ_self _))
    ·(simp only[go_sem,hD,hY,hZ,gA,tr,k1,k2];try exact cj)
    ·(simp only[go_sem,hD,hY,hZ,gA,tr,k1,k2];try exact cj)
   ·have d2:(v.kind==6)=false:=by simp [RN]
    simp only[e1,d2,↓reduceIte,Bool.false_eq_true]at h2
    have f1:=fun {s:St} {o:Nat}=>@ih v.a8 proc ((cG.length:Int)+1) next loop (cG++ [⟨v,proc,up,next,loop⟩]) g ps lo hi b c x7 (by simp;omega) hg hp s o
    have f2:=fun {s:St} {o:Nat}=>@ih v.aS proc ((cG.length:Int)+1) next loop _ g ps lo hi b c Bb (by rw[gF proc ((cG.length:Int)+1) next loop (cG++ [⟨v,proc,up,next,loop⟩]) v.a8];simp;omega) hg hp s o
    have hl:(Im.rows proc ((cG.length:Int)+1) next loop (Im.rows proc ((cG.length:Int)+1) next loop (cG++ [⟨v,proc,up,next,loop⟩]) v.a8) v.aS).length=cG.length+v.jx:=by rw[gF,gF];simp;omega
    simp only[iT,List.map_append,List.map_cons,List.map_nil,O9,List.length_append,List.length_cons,List.length_nil]at f1
    repeat' (first
 |simp only[go_sem,hD,hY,hZ,gA,k1,k2,LY,tr,XY,d1,d2,ey]
 |(with_reducible refine CU (dO _) ?_)
 |(with_reducible refine CU (f1 (by with_unfolding_all rfl) (by with_unfolding_all rfl)) ?_)
 |(with_reducible refine CU (f2 (by with_unfolding_all rfl) (by with_unfolding_all rfl)) ?_)
 | (with_reducible refine aE hQ ?_;exact bd))
    refine eY 2 3 ?_ ?_ (IH (rest,k+1,_) ⟨g2,h2,by dsimp only;rw[hl];omega⟩ (Nat.lt_succ_self _))
    ·(simp only[go_sem,hD,hY,hZ,gA,tr,k1,k2];try exact cj)
    ·(simp only[go_sem,hD,hY,hZ,gA,tr,k1,k2];try exact cj)
theorem ZG : ∀ N,N<1000000000→XX N:=by
 intro N
 induction N with
 |zero=>exact fun _ l proc up next loop out g ps lo hi b c h=>absurd h (Nat.not_lt_zero _)
 |succ N ih=>
  intro h l proc up next loop out g ps lo hi b c hs hc hg hp s o ho ht
  exact(ahr (ih (by omega)) hs hc hg hp (by omega)).ahq (by simp[D.bL,D.ok,Tag.ok,pD,D.gS]) hg hp ho ht
def fA (p:Pg):List D:= [.slice .shared 1 (p.globals.map encStr), .slice .shared 5 (p.procs.map cu), .slice .shared 17 (p.aY.L.map dz), .slice .shared 1 (p.aY.lo.map bT), .slice .shared 1 (p.aY.hi.map bT)]
theorem nY (p:Pg):fA p = [.slice .shared 1 (p.globals.map encStr), .slice .shared 5 (p.procs.map cu), .slice .shared 17 (p.aY.L.map dz), .slice .shared 1 (p.aY.lo.map bT), .slice .shared 1 (p.aY.hi.map bT)]:=nd rfl
theorem uh (p:Pg):D.bL 0 0 (fA p)=true:=by simp[fA,D.bL,D.ok,Tag.ok,fb,wC,H8,iN]
theorem EG (p:Pg):cD p = [.slice .shared 1 (p.globals.map encStr), .slice .shared 5 (p.procs.map cu)]:=nd rfl
theorem ahs {p:Pg} (hs:Pc.a7 p.procs<1000000000):aF Tryz.prog kS [.agg (cD p)] S0 (.ptr 1 0) ⟨[cD p,iT (.slice .shared 1 (p.globals.map encStr)) (.slice .shared 5 (p.procs.map cu)) p.aY.L p.aY.lo p.aY.hi],[some p.aY.L.length,some p.aY.lo.length,some p.aY.hi.length]⟩:=by
 have hlen:p.procs.length<1000000000:=by have:=Pc.eJ p.procs;omega
 obtain⟨R,hR⟩ : ∃ R,R=p.aY:=⟨_,rfl⟩
 have hR':=hR
 unfold Pg.aY at hR'
 unfold S0
 rw[EG, ← hR]
 refine aF.goK 2 3 (Nat.zero_le _) (Nat.zero_le _) JA rfl fun B Q hB hQ=>?_
 have⟨hD,hY,hZ,gA⟩:=bR
 repeat' (first
 |simp only[go_sem,hD,hY,hZ,gA,EG]
 |(with_reducible refine aE hQ ?_;exact bd))
 refine bt.Ds 1 2 17 rfl rfl ?_
 simp only[go_sem,hD,hY,hZ,gA]
 refine bt.Ds 1 3 1 rfl rfl ?_
 simp only[go_sem,hD,hY,hZ,gA]
 refine bt.Ds 1 4 1 rfl rfl ?_
 simp only[go_sem,hD,hY,hZ,gA]
 refine eY 2 3 ?_ ?_ (bt.ind (ι:=List Pc×Nat×Sh×Nat×Nat) (fun i=>p.procs.drop i.2.1=i.1∧Sh.go i.2.1 i.2.2.1 i.1=R∧i.2.2.1.L.length+Pc.a7 i.1≤Pc.a7 p.procs∧i.2.2.1.lo.length=i.2.1∧i.2.2.1.hi.length=i.2.1∧i.2.2.2.1=i.2.2.1.lo.length∧i.2.2.2.2=i.2.2.1.hi.length) (fun i=>i.1.length)
  (fun i=> [(1, .ptr 0 0),(3, .ptr 1 0),(10, .slice .shared 5 (p.procs.map cu)),(11, .int .i64 (p.procs.length:Int)),(12, .int .i64 (i.2.1:Int))]) (fun i=>⟨[[.slice .shared 1 (p.globals.map encStr), .slice .shared 5 (p.procs.map cu)],iT (.slice .shared 1 (p.globals.map encStr)) (.slice .shared 5 (p.procs.map cu)) i.2.2.1.L i.2.2.1.lo i.2.2.1.hi],[some i.2.2.1.L.length,some i.2.2.2.1,some i.2.2.2.2]⟩) ?_ (p.procs,0,⟨[],[],[]⟩,0,0) ⟨rfl,hR'.symm,by simp,rfl,rfl,rfl,rfl⟩)
 ·(simp only[go_sem,hD,hY,hZ,gA,iT];try exact cj)
 ·(simp only[go_sem,hD,hY,hZ,gA,iT];try exact cj)
 rintro⟨rest,k,h,n1,n2⟩ ⟨h1,h2,h3,h4,h5,h6,h7⟩ IH
 dsimp only at h1 h2 h3 h4 h5 h6 h7
 subst h6 h7
 cases rest with
 |nil=>
  have hD:=drop_nil h1
  simp only[Sh.go]at h2
  rw[← h2]at hQ
  repeat' (first
 |simp only[go_sem,hD,hY,hZ,gA,iT]
 |(with_reducible refine aE hQ ?_;exact bd))
 |cons f rest=>
  obtain⟨hY,g2,hD,g4⟩:=drop_cons h1
  have bU:k<4611686018427387904:=by omega
  simp only[Pc.a7,Pc.size]at h3
  simp only[Sh.go]at h2
  have c1:=nL f.body
  have hZ:(h.lo.length+1)*9≤bC:=by unfold bC;omega
  have anW:(h.hi.length+1)*9≤bC:=by unfold bC;omega
  have LY:IntKind.wrap .i64 ((h.L.length:Int)+1)=(h.L.length:Int)+1:=ek (by omega) (by omega)
  have hl:(Im.rows (k:Int) 0 (-1) 0 h.L f.body).length=h.L.length+Sm.jd f.body:=gF ..
  have tr:IntKind.wrap .i64 (((Im.rows (k:Int) 0 (-1) 0 h.L f.body).length:Int)+1)=((Im.rows (k:Int) 0 (-1) 0 h.L f.body).length:Int)+1:=ek (by omega) (by omega)
  have hr:=fun {s:St} {o:Nat}=>@ZG (Sm.a7 f.body+1) (by omega) f.body (k:Int) 0 (-1) 0 h.L (.slice .shared 1 (p.globals.map encStr)) (.slice .shared 5 (p.procs.map cu)) (h.lo++ [(h.L.length:Int)+1]) h.hi (some (h.lo.length+1)) (some h.hi.length) (Nat.lt_succ_self _) (by omega) (by simp[D.ok,Tag.ok,fb]) (by simp[D.ok,Tag.ok,wC]) s o
  simp only[iT,List.map_append,List.map_cons,List.map_nil,bT]at hr
  repeat' (first
 |simp only[go_sem,hD,hY,hZ,gA,LY,tr,anW,iT]
 |(with_reducible refine CU (hr (by with_unfolding_all rfl) (by with_unfolding_all rfl)) ?_)
 |(with_reducible refine aE hQ ?_;exact bd))
  refine eY 2 3 ?_ ?_ (IH (rest,k+1,⟨Im.rows (k:Int) 0 (-1) 0 h.L f.body,h.lo++ [(h.L.length:Int)+1],h.hi++ [((Im.rows (k:Int) 0 (-1) 0 h.L f.body).length:Int)+1]⟩,_,_) ⟨g2,h2,by dsimp only;rw[hl];omega,by simp[h4],by simp[h5],by simp,by simp⟩ (Nat.lt_succ_self _))
  ·(simp only[go_sem,hD,hY,hZ,gA,iT,aI bU,List.map_append,List.map_cons,List.map_nil,bT];try exact cj)
  ·(simp only[go_sem,hD,hY,hZ,gA,iT,aI bU,List.map_append,List.map_cons,List.map_nil,bT];try exact cj)
theorem Ce {p:Pg} (hs:Pc.a7 p.procs<1000000000) (s:St):aF Tryz.prog kS [.agg (cD p)] s (.dA (fA p) 0) s:=by
 refine aF.pure ?_ (by simp only[D.bL,D.ok,jv];rfl) (by simp only[D.ok,uh]) s
 have h:=(ahs hs).AN (n:=0) (m:=0) rfl (Nat.le_refl _) (Nat.zero_le _) (Nat.le_refl _)
 simpa[D.gv,D.fg,Tag.fg,Ry,W7,XV,RM,St.cut,fA,S0]using h
def jf (x:aG) (k:Int):List aG→Int
 | []=> -1
 |s::l=>if x==s then k else jf x (k+1) l
def fw (l:List aG) (x:aG):Bool:=decide (jf x 0 l≥0)
def kX {α:Type} (b:α→Bool) (k:Int):List α→Int
 | []=> -1
 |s::l=>if b s then k else kX b (k+1) l
theorem LZ (x:aG) : ∀ (l:List aG) (k:Int),0≤k→(jf x k l≥0↔x∈l)
 | [],k,h=>by simp[jf]
 | s::l,k,h=>by
  by_cases e:x=s
  ·simp[jf,e];omega
  ·have e':(x==s)=false:=by simp [e]
   simp only[jf,e',Bool.false_eq_true,if_false,List.mem_cons,e,false_or]
   exact LZ x l (k+1) (by omega)
theorem jg (l:List aG) (x:aG):fw l x=true↔x∈l:=by
 simp only[fw,decide_eq_true_eq];exact LZ x l 0 (Int.le_refl 0)
theorem FZ {α:Type} (b:α→Bool) : ∀ (l:List α) (k:Int),0≤k→(kX b k l≥0↔l.any b=true)
 | [],k,h=>by simp[kX]
 | s::l,k,h=>by
  by_cases e:b s=true
  ·simp[kX,e];omega
  ·have e':b s=false:=by simpa using e
   simp only[kX,e',Bool.false_eq_true,if_false,List.any_cons,Bool.or_eq_true,false_or]
   exact FZ b l (k+1) (by omega)
theorem Cf {l:List aG} (hl:l.length<4611686018427387904) (x:aG) (s:St):aF Tryz.prog fX [.slice .shared 1 (l.map encStr), .str x] s (.int .i64 (jf x 0 l)) s:=by
 refine aF.pure ?_ (by simp[D.bL,D.ok,Tag.ok,fb]) rfl s
 generalize h:jf x 0 l=p
 unfold S0
 refine aF.go we rfl fun B Q hB hQ=>?_
 have⟨hD,hY,hZ,gA⟩:=bR
 repeat' (first
 |simp only[go_sem,hD,hY,hZ,gA]
 |(with_reducible first|refine bo fun hc=>?_|refine bp fun hc=>?_|refine bq (fun hc=>?_) fun hc=>?_)<;>(try simp only[hc,bs,↓reduceIte]at h)<;>try simp only[hc]
 |(with_reducible refine aE hQ ?_;exact fV))
 refine fi 0 0 (bt.ind (ι:=List aG×Nat) (fun i=>l.drop i.2=i.1∧jf x (i.2:Int) i.1=p) (fun i=>i.1.length)
  (fun i=> [(0, .slice .shared 1 (l.map encStr)),(1, .str x),(7, .int .i64 (l.length:Int)),(8, .int .i64 (i.2:Int))]) (fun i=>⟨[],[]⟩) ?_ (l,0) ⟨rfl,h⟩)
 rintro⟨rest,k⟩ ⟨h1,h⟩ IH
 dsimp only at h1 h
 cases rest with
 |nil=>
  have hD:=drop_nil h1
  simp only[jf]at h
  repeat' (first
 |simp only[go_sem,hD,hY,hZ,gA]
 |(with_reducible first|refine bo fun hc=>?_|refine bp fun hc=>?_|refine bq (fun hc=>?_) fun hc=>?_)<;>(try simp only[hc,bs,↓reduceIte]at h)<;>try simp only[hc]
 |(with_reducible refine aE hQ ?_;exact fV))
 |cons a rest=>
  obtain⟨hY,g2,hD,g4⟩:=drop_cons h1
  have bU:k<4611686018427387904:=by omega
  simp only[jf]at h
  repeat' (first
 |simp only[go_sem,hD,hY,hZ,gA]
 |(with_reducible first|refine bo fun hc=>?_|refine bp fun hc=>?_|refine bq (fun hc=>?_) fun hc=>?_)<;>(try simp only[hc,bs,↓reduceIte]at h)<;>try simp only[hc]
 |(with_reducible refine aE hQ ?_;exact fV))
  refine eY 0 0 ?_ ?_ (IH (rest,k+1) ⟨g2,h⟩ (Nat.lt_succ_self _))
  ·(simp only[go_sem,hD,hY,hZ,gA,aI bU];try exact cj)
  ·(simp only[go_sem,hD,hY,hZ,gA,aI bU];try exact cj)
theorem rH {l:List aG} (hl:l.length<4611686018427387904) (x:aG) (s:St):aF Tryz.prog cr [.slice .shared 1 (l.map encStr), .str x] s (.bool (fw l x)) s:=by
 refine aF.pure ?_ (by simp[D.bL,D.ok,Tag.ok,fb]) rfl s
 have hi:=fun s=>Cf hl x s
 unfold S0
 refine aF.go uf rfl fun B Q hB hQ=>?_
 have⟨hD,hY,hZ,gA⟩:=bR
 repeat' (first
 |simp only[go_sem,hD,hY,hZ,gA,fw]
 |(with_reducible refine CU (hi _) ?_)
 |(with_reducible first|refine bo fun hc=>?_|refine bp fun hc=>?_|refine bq (fun hc=>?_) fun hc=>?_)<;>(try simp only[hc,bs,↓reduceIte]at h)<;>try simp only[hc]
 |(with_reducible refine aE hQ ?_;simp only[aV,aX,bH,bI,go_sem,hD,hY,hZ,gA,fw];try exact cq))
theorem aF.XZ {P:Program} {f:Nat} {d d':D} {r:List D} {s s':St} {x:D} (h:aF P f (d'::r) s x s') (hw:Wk d d'):aF P f (d::r) s x s':=bM.qu (.cons hw (jr.refl r)) h
theorem jB {l:List aG} (hl:l.length<4611686018427387904) (x:aG) (g:Tag) (s:St):aF Tryz.prog cr [.slice g 1 (l.map encStr), .str x] s (.bool (fw l x)) s:=
 (rH hl x s).XZ (Wk.shared _ _ _)
theorem JI (x:aG) (z:Nat) (g:Tag) (s:St):aF Tryz.prog cr [.slice g z [], .str x] s (.bool false) s:=
 (rH (l:= []) (by simp) x s).XZ (Wk.nil _ _ _)
theorem Bw {l:List aG} (hl:l.length<4611686018427387904) {f:Nat} {row:List D} {b:aG→Bool} (uG:D.bL 0 0 row=true) (he:enters Tryz.prog f=true)
 (hb : ∀ x∈l,aF Tryz.prog f ([.str x]++ [.ptr 0 0]) ⟨[row],[]⟩ (.bool (b x)) ⟨[row],[]⟩) :
 aF Tryz.prog kT [.slice .shared 1 (l.map encStr), .gd f [.ptr 0 0]] ⟨[row],[]⟩ (.int .i64 (kX b 0 l)) ⟨[row],[]⟩:=by
 generalize h:kX b 0 l=p
 have k1 : ∀ n m,D.gv n m row=row:=fun n m=>ig n m _ uG
 refine aF.go tq rfl fun B Q hB hQ=>?_
 have⟨hD,hY,hZ,gA⟩:=bR
 repeat' (first
 |simp only[go_sem,hD,hY,hZ,gA,k1]
 |(with_reducible first|refine bo fun hc=>?_|refine bp fun hc=>?_|refine bq (fun hc=>?_) fun hc=>?_)<;>(try simp only[hc,bs,↓reduceIte]at h)<;>try simp only[hc]
 |(with_reducible refine aE hQ ?_;(try cases h);simp only[aV,aX,bH,bI,go_sem,hD,hY,hZ,gA,k1];try exact cq))
 refine eY 1 0 ?_ ?_ (bt.ind (ι:=List aG×Nat) (fun i=>l.drop i.2=i.1∧kX b (i.2:Int) i.1=p) (fun i=>i.1.length)
  (fun i=> [(0, .slice .shared 1 (l.map encStr)),(1, .gd f [.ptr 0 0]),(7, .int .i64 (l.length:Int)),(8, .int .i64 (i.2:Int))]) (fun i=>⟨[row],[]⟩) ?_ (l,0) ⟨rfl,h⟩)
 ·(simp only[go_sem,hD,hY,hZ,gA,k1];try exact cj)
 ·(simp only[go_sem,hD,hY,hZ,gA,k1];try exact cj)
 rintro⟨rest,k⟩ ⟨h1,h⟩ IH
 dsimp only at h1 h
 cases rest with
 |nil=>
  have hD:=drop_nil h1
  simp only[kX]at h
  repeat' (first
 |simp only[go_sem,hD,hY,hZ,gA,k1]
 |(with_reducible first|refine bo fun hc=>?_|refine bp fun hc=>?_|refine bq (fun hc=>?_) fun hc=>?_)<;>(try simp only[hc,bs,↓reduceIte]at h)<;>try simp only[hc]
 |(with_reducible refine aE hQ ?_;(try cases h);simp only[aV,aX,bH,bI,go_sem,hD,hY,hZ,gA,k1];try exact cq))
 |cons a rest=>
  obtain⟨hY,g2,hD,g4⟩:=drop_cons h1
  have bU:k<4611686018427387904:=by omega
  have hba:=hb a (List.mem_of_getElem? hY)
  simp only[kX]at h
  repeat' (first
 |simp only[go_sem,hD,hY,hZ,gA,k1]
 |(with_reducible refine CV.use (he) (hba) ?_)
 |(with_reducible first|refine bo fun hc=>?_|refine bp fun hc=>?_|refine bq (fun hc=>?_) fun hc=>?_)<;>(try simp only[hc,bs,↓reduceIte]at h)<;>try simp only[hc]
 |(with_reducible refine aE hQ ?_;(try cases h);simp only[aV,aX,bH,bI,go_sem,hD,hY,hZ,gA,k1];try exact cq))
  refine eY 1 0 ?_ ?_ (IH (rest,k+1) ⟨g2,h⟩ (Nat.lt_succ_self _))
  ·(simp only[go_sem,hD,hY,hZ,gA,k1,aI bU];try exact cj)
  ·(simp only[go_sem,hD,hY,hZ,gA,k1,aI bU];try exact cj)
theorem Bx {P:Program} {g f:Nat} {row:List D} {rows:List (List D)} {z:Nat} {d:D} (h:aF P g [.slice .shared z rows, .gd f [.ptr 0 0]] ⟨[row],[]⟩ d ⟨[row],[]⟩) (uG:D.bL 0 0 row=true) (hw:D.gS 0 0 rows=true) (hd:D.ok 0 0 d=true) {s:St} {o:Nat} (ho:s.ah[o]? = some row) :
 aF P g [.slice .shared z rows, .gd f [.ptr o 0]] s d s:=by
 refine bM.frame [o] [] h (by simp) List.nodup_nil (by simpa using (List.getElem?_eq_some_iff.1 ho).1) (by simp) rfl (fun i o' ds e1 e2=>?_) rfl (by simp) (by simp[D.e9,D.cW,Tag.cW,jl _ _ _ hw])
  (by simp[D.bL,D.ok,Tag.ok,mD (Nat.zero_le 1) (Nat.le_refl 0) _ hw]) ?_
 ·cases i with
  |zero=>simp at e1 e2;subst e1;subst e2;exact⟨by rw[fC _ _ _ uG];exact ho,iB (Nat.zero_le 1) (Nat.le_refl 0) _ uG⟩
  |succ i=>simp at e1
 ·rintro _ _ ⟨rfl,rfl⟩
  refine⟨qv _ _ _ hd, ?_⟩
  have:s.ah.set o row=s.ah:=by
   apply List.ext_getElem?
   intro i
   rw[List.getElem?_set]
   split
   ·rename_i e;subst e;rw [ho];split
    ·rfl
    ·rename_i hh;exact absurd (List.getElem?_eq_some_iff.1 ho).1 hh
   ·rfl
  simp[St.back,kC,fC _ _ _ uG,this]
theorem yz {l:List aG} (hl:l.length<4611686018427387904) {f:Nat} {row:List D} {b:aG→Bool} (uG:D.bL 0 0 row=true) (he:enters Tryz.prog f=true)
 (hb : ∀ x∈l,aF Tryz.prog f ([.str x]++ [.ptr 0 0]) ⟨[row],[]⟩ (.bool (b x)) ⟨[row],[]⟩) :
 aF Tryz.prog fY [.slice .shared 1 (l.map encStr), .gd f [.ptr 0 0]] ⟨[row],[]⟩ (.bool (l.any b)) ⟨[row],[]⟩:=by
 have k1 : ∀ n m,D.gv n m row=row:=fun n m=>ig n m _ uG
 have hi:=Bw hl uG he hb
 have e:decide (kX b 0 l≥0)=l.any b:=by
  have:=FZ b l 0 (Int.le_refl 0)
  cases hh:l.any b<;>simp_all
 refine aF.go rG rfl fun B Q hB hQ=>?_
 have⟨hD,hY,hZ,gA⟩:=bR
 repeat' (first
 |simp only[go_sem,hD,hY,hZ,gA,k1,e]
 |(with_reducible refine CU (hi) ?_)
 |(with_reducible first|refine bo fun hc=>?_|refine bp fun hc=>?_|refine bq (fun hc=>?_) fun hc=>?_)<;>(try simp only[hc,bs,↓reduceIte]at h)<;>try simp only[hc]
 |(with_reducible refine aE hQ ?_;simp only[aV,aX,bH,bI,go_sem,hD,hY,hZ,gA,k1,e];try exact cq))
theorem yA {l:List aG} (hl:l.length<4611686018427387904) {f:Nat} {row:List D} {b:aG→Bool} (uG:D.bL 0 0 row=true) (he:enters Tryz.prog f=true)
 (hb : ∀ x∈l,aF Tryz.prog f ([.str x]++ [.ptr 0 0]) ⟨[row],[]⟩ (.bool (b x)) ⟨[row],[]⟩) {s:St} {o:Nat} (ho:s.ah[o]? = some row) :
 aF Tryz.prog fY [.slice .shared 1 (l.map encStr), .gd f [.ptr o 0]] s (.bool (l.any b)) s:=
 Bx (yz hl uG he hb) uG (fb l) rfl ho
theorem vI {l:List Pc} (hl:l.length<4611686018427387904) {f:Nat} {row:List D} {b:Pc→Bool} (uG:D.bL 0 0 row=true) (he:enters Tryz.prog f=true)
 (hb : ∀ x∈l,aF Tryz.prog f ([.agg (cu x)]++ [.ptr 0 0]) ⟨[row],[]⟩ (.bool (b x)) ⟨[row],[]⟩) :
 aF Tryz.prog gh [.slice .shared 5 (l.map cu), .gd f [.ptr 0 0]] ⟨[row],[]⟩ (.int .i64 (kX b 0 l)) ⟨[row],[]⟩:=by
 generalize h:kX b 0 l=p
 have k1 : ∀ n m,D.gv n m row=row:=fun n m=>ig n m _ uG
 refine aF.go rS rfl fun B Q hB hQ=>?_
 have⟨hD,hY,hZ,gA⟩:=bR
 repeat' (first
 |simp only[go_sem,hD,hY,hZ,gA,k1]
 |(with_reducible first|refine bo fun hc=>?_|refine bp fun hc=>?_|refine bq (fun hc=>?_) fun hc=>?_)<;>(try simp only[hc,bs,↓reduceIte]at h)<;>try simp only[hc]
 |(with_reducible refine aE hQ ?_;(try cases h);simp only[aV,aX,bH,bI,go_sem,hD,hY,hZ,gA,k1];try exact cq))
 refine eY 1 0 ?_ ?_ (bt.ind (ι:=List Pc×Nat) (fun i=>l.drop i.2=i.1∧kX b (i.2:Int) i.1=p) (fun i=>i.1.length)
  (fun i=> [(0, .slice .shared 5 (l.map cu)),(1, .gd f [.ptr 0 0]),(7, .int .i64 (l.length:Int)),(8, .int .i64 (i.2:Int))]) (fun i=>⟨[row],[]⟩) ?_ (l,0) ⟨rfl,h⟩)
 ·(simp only[go_sem,hD,hY,hZ,gA,k1];try exact cj)
 ·(simp only[go_sem,hD,hY,hZ,gA,k1];try exact cj)
 rintro⟨rest,k⟩ ⟨h1,h⟩ IH
 dsimp only at h1 h
 cases rest with
 |nil=>
  have hD:=drop_nil h1
  simp only[kX]at h
  repeat' (first
 |simp only[go_sem,hD,hY,hZ,gA,k1]
 |(with_reducible first|refine bo fun hc=>?_|refine bp fun hc=>?_|refine bq (fun hc=>?_) fun hc=>?_)<;>(try simp only[hc,bs,↓reduceIte]at h)<;>try simp only[hc]
 |(with_reducible refine aE hQ ?_;(try cases h);simp only[aV,aX,bH,bI,go_sem,hD,hY,hZ,gA,k1];try exact cq))
 |cons a rest=>
  obtain⟨hY,g2,hD,g4⟩:=drop_cons h1
  have bU:k<4611686018427387904:=by omega
  have hba:=hb a (List.mem_of_getElem? hY)
  simp only[kX]at h
  repeat' (first
 |simp only[go_sem,hD,hY,hZ,gA,k1]
 |(with_reducible refine CV.use (he) (hba) ?_)
 |(with_reducible first|refine bo fun hc=>?_|refine bp fun hc=>?_|refine bq (fun hc=>?_) fun hc=>?_)<;>(try simp only[hc,bs,↓reduceIte]at h)<;>try simp only[hc]
 |(with_reducible refine aE hQ ?_;(try cases h);simp only[aV,aX,bH,bI,go_sem,hD,hY,hZ,gA,k1];try exact cq))
  refine eY 1 0 ?_ ?_ (IH (rest,k+1) ⟨g2,h⟩ (Nat.lt_succ_self _))
  ·(simp only[go_sem,hD,hY,hZ,gA,k1,aI bU];try exact cj)
  ·(simp only[go_sem,hD,hY,hZ,gA,k1,aI bU];try exact cj)
theorem AA {l:List Pc} (hl:l.length<4611686018427387904) {f:Nat} {row:List D} {b:Pc→Bool} (uG:D.bL 0 0 row=true) (he:enters Tryz.prog f=true)
 (hb : ∀ x∈l,aF Tryz.prog f ([.agg (cu x)]++ [.ptr 0 0]) ⟨[row],[]⟩ (.bool (b x)) ⟨[row],[]⟩) :
 aF Tryz.prog gN [.slice .shared 5 (l.map cu), .gd f [.ptr 0 0]] ⟨[row],[]⟩ (.bool (l.any b)) ⟨[row],[]⟩:=by
 have k1 : ∀ n m,D.gv n m row=row:=fun n m=>ig n m _ uG
 have hi:=vI hl uG he hb
 have e:decide (kX b 0 l≥0)=l.any b:=by
  have:=FZ b l 0 (Int.le_refl 0)
  cases hh:l.any b<;>simp_all
 refine aF.go qA rfl fun B Q hB hQ=>?_
 have⟨hD,hY,hZ,gA⟩:=bR
 repeat' (first
 |simp only[go_sem,hD,hY,hZ,gA,k1,e]
 |(with_reducible refine CU (hi) ?_)
 |(with_reducible first|refine bo fun hc=>?_|refine bp fun hc=>?_|refine bq (fun hc=>?_) fun hc=>?_)<;>(try simp only[hc,bs,↓reduceIte]at h)<;>try simp only[hc]
 |(with_reducible refine aE hQ ?_;simp only[aV,aX,bH,bI,go_sem,hD,hY,hZ,gA,k1,e];try exact cq))
mutual
def Sm.pre:Sm→List Sm
 |⟨id,kind,labels,name,pc,x,has,args,a8,aS⟩=>⟨id,kind,labels,name,pc,x,has,args,a8,aS⟩::(Sm.dd a8++Sm.dd aS)
def Sm.dd:List Sm→List Sm
 | []=> []
 |s::l=>s.pre++Sm.dd l
end
def Pg.pre (p:Pg):List Sm:=(p.procs.map fun f=>Sm.dd f.body).flatten
theorem Sm.qc (s:Sm):s.pre=s::(Sm.dd s.a8++Sm.dd s.aS):=by cases s;simp only[Sm.pre]
mutual
theorem ZH (proc up next loop:Int) (out:List Im) : ∀ s:Sm,∃ e:List Im,Im.one proc up next loop out s=out++e∧e.map Im.s=s.pre
 |⟨id,kind,labels,name,pc,x,has,args,a8,aS⟩=>by
  simp only[Im.one,Sm.pre]
  obtain⟨e1,h1,k1⟩:=zv proc ((out.length:Int)+1) (if kind==6 then(out.length:Int)+1 else next) (if kind==6 then(out.length:Int)+1 else loop) (out++ [⟨⟨id,kind,labels,name,pc,x,has,args,a8,aS⟩,proc,up,next,loop⟩]) a8
  obtain⟨e2,h2,k2⟩:=zv proc ((out.length:Int)+1) (if kind==6 then(out.length:Int)+1 else next) (if kind==6 then(out.length:Int)+1 else loop) (Im.rows proc ((out.length:Int)+1) (if kind==6 then(out.length:Int)+1 else next) (if kind==6 then(out.length:Int)+1 else loop) (out++ [⟨⟨id,kind,labels,name,pc,x,has,args,a8,aS⟩,proc,up,next,loop⟩]) a8) aS
  refine⟨⟨⟨id,kind,labels,name,pc,x,has,args,a8,aS⟩,proc,up,next,loop⟩::(e1++e2), ?_, ?_⟩
  ·rw[h2,h1];simp
  ·simp[k1,k2]
theorem zv (proc up next loop:Int) (out:List Im) : ∀ l:List Sm,∃ e:List Im,Im.rows proc up next loop out l=out++e∧e.map Im.s=Sm.dd l
 | []=>⟨[],by simp[Im.rows],rfl⟩
 |s::l=>by
  simp only[Im.rows,Sm.dd]
  obtain⟨e1,h1,k1⟩:=ZH proc up (if l.length=0 then next else(out.length:Int)+1+(s.jx:Int)) loop out s
  obtain⟨e2,h2,k2⟩:=zv proc up next loop (Im.one proc up (if l.length=0 then next else(out.length:Int)+1+(s.jx:Int)) loop out s) l
  refine⟨e1++e2, ?_,by simp[k1,k2]⟩
  rw[h2,h1];simp
end
theorem RO : ∀ (l:List Pc) (n:Nat) (h:Sh),h.lo.length=n→h.hi.length=n→
 ∃ e lo hi,Sh.go n h l = ⟨h.L++e,h.lo++lo,h.hi++hi⟩∧e.map Im.s=(l.map fun f=>Sm.dd f.body).flatten∧lo.length=l.length∧hi.length=l.length∧
  ∀ (i:Nat) (f:Pc),l[i]? = some f→∃ a b e' LC:List Im,lo[i]? = some (((h.L++a).length:Int)+1)∧hi[i]? = some (((h.L++a++b).length:Int)+1)∧b.map Im.s=Sm.dd f.body∧e=a++b++e'
 | [],n,h,hl,hh=>⟨[],[],[],by simp[Sh.go],rfl,rfl,rfl,fun i f h=>by simp at h⟩
 | f::l,n,h,hl,hh=>by
  simp only[Sh.go]
  obtain⟨e1,h1,k1⟩:=zv (n:Int) 0 (-1) 0 h.L f.body
  obtain⟨e2,lo,hi,h2,k2,h3,h4,h5⟩:=RO l (n+1) ⟨Im.rows (n:Int) 0 (-1) 0 h.L f.body,h.lo++ [(h.L.length:Int)+1],h.hi++ [((Im.rows (n:Int) 0 (-1) 0 h.L f.body).length:Int)+1]⟩ (by simp[hl]) (by simp[hh])
  refine⟨e1++e2,((h.L.length:Int)+1)::lo,(((Im.rows (n:Int) 0 (-1) 0 h.L f.body).length:Int)+1)::hi, ?_,by simp[k1,k2],by simp[h3],by simp[h4],fun i g ic=>?_⟩
  ·rw[h2,h1];simp
  ·cases i with
   |zero=>
    simp only[List.getElem?_cons_zero,Option.some.injEq]at ic
    subst ic
    exact⟨[],e1,e2,[],by simp,by rw[h1];simp,k1,by simp⟩
   |succ i=>
    simp only[List.getElem?_cons_succ]at ic
    obtain⟨a,b,e',LC,g1,g2,g3,g4⟩:=h5 i g ic
    refine⟨e1++a,b,e',LC, ?_, ?_,g3,by rw[g4];simp⟩
    ·rw[List.getElem?_cons_succ,g1,h1];simp
    ·rw[List.getElem?_cons_succ,g2,h1];simp
theorem lh (p:Pg):p.aY.L.map Im.s=p.pre∧∀ (i:Nat) (f:Pc),p.procs[i]? = some f→∃ a b e:List Im,p.aY.lo[i]? = some ((a.length:Int)+1)∧p.aY.hi[i]? = some (((a++b).length:Int)+1)∧b.map Im.s=Sm.dd f.body∧p.aY.L=a++b++e:=by
 obtain⟨e,lo,hi,h1,h2,h3,h4,h5⟩:=RO p.procs 0 ⟨[],[],[]⟩ rfl rfl
 unfold Pg.aY
 rw[h1]
 refine⟨by simpa[Pg.pre]using h2,fun i f hf=>?_⟩
 obtain⟨a,b,e',_,g1,g2,g3,g4⟩:=h5 i f hf
 exact⟨a,b,e',by simpa using g1,by simpa using g2,g3,by simpa using g4⟩
def Pg.at (p:Pg) (name:aG):Int:=kX (fun f:Pc=>f.name==name) 0 p.procs
theorem ZI (name:aG) (f:Pc):aF Tryz.prog lO ([.agg (cu f)]++ [.ptr 0 0]) ⟨[[.str name]],[]⟩ (.bool (f.name==name)) ⟨[[.str name]],[]⟩:=by
 show aF Tryz.prog lO [.agg (cu f), .ptr 0 0] _ _ _
 refine aF.go yl rfl fun B Q hB hQ=>?_
 have⟨hD,hY,hZ,gA⟩:=bR
 repeat' (first
 |simp only[go_sem,hD,hY,hZ,gA]
 |(with_reducible refine aE hQ ?_;exact bd))
theorem EH {p:Pg} (hs:p.procs.length<4611686018427387904) (name:aG) (s:St):aF Tryz.prog iC [.dA (fA p) 0, .str name] s (.int .i64 (p.at name)) s:=by
 refine aF.pure ?_ (by simp[D.bL,D.ok,uh]) rfl s
 have hi:=fun {s:St} {o:Nat} (ho:s.ah[o]? = some [.str name])=>Bx (vI (l:=p.procs) (f:=lO) (row:= [.str name]) (b:=fun f:Pc=>f.name==name) hs rfl (by with_unfolding_all rfl) (fun x _=>ZI name x)) rfl (wC _) rfl ho
 have ic:=fun {s:St} {o:Nat} (ho:s.ah[o]? = some [.str name])=>(show aF Tryz.prog gh [.slice .shared 5 (p.procs.map cu), .gd 76 [.ptr o 0]] s (.int .i64 (p.at name)) s from hi ho)
 unfold S0
 rw[nY]
 refine aF.go Ay rfl fun B Q hB hQ=>?_
 have⟨hD,hY,hZ,gA⟩:=bR
 repeat' (first
 |simp only[go_sem,hD,hY,hZ,gA]
 |(with_reducible refine CU (ic (by with_unfolding_all rfl)) ?_)
 |(with_reducible refine aE hQ ?_;exact bd))
theorem RP : ∀ (l:List Pc) (n:Nat) (h:Sh),(Sh.go n h l).L.length≤h.L.length+Pc.a7 l
 | [],n,h=>by simp[Sh.go]
 |f::l,n,h=>by
  simp only[Sh.go]
  refine Nat.le_trans (RP l _ _) ?_
  have:=gF (n:Int) 0 (-1) 0 h.L f.body
  have:=nL f.body
  simp only[Pc.a7,Pc.size];omega
theorem pf (p:Pg):p.aY.L.length≤Pc.a7 p.procs:=by have:=RP p.procs 0 ⟨[],[],[]⟩;simpa[Pg.aY]using this
theorem adk {p:Pg} {i:Nat} (hs:Pc.a7 p.procs<1000000000) {a b e:List Im} (h1:p.aY.lo[i]? = some ((a.length:Int)+1)) (h2:p.aY.hi[i]? = some (((a++b).length:Int)+1)) (h4:p.aY.L=a++b++e) (s:St) :
 aF Tryz.prog gM [.dA (fA p) 0, .int .i64 (i:Int)] s (.slice .shared 17 (b.map dz)) s:=by
 refine aF.pure ?_ (by simp[D.bL,D.ok,uh]) (by simp[D.ok,Tag.ok,H8]) s
 have hL:p.aY.L.length<1000000000:=Nat.lt_of_le_of_lt (pf p) hs
 have l1:(i:Int)<(p.aY.lo.length:Int):=by have:=(List.getElem?_eq_some_iff.1 h1).1;omega
 have l2:(i:Int)<(p.aY.hi.length:Int):=by have:=(List.getElem?_eq_some_iff.1 h2).1;omega
 have X0:a.length+b.length≤p.aY.L.length:=by rw[h4];simp
 have w1:IntKind.wrap .i64 ((a.length:Int)+1 - 1)=(a.length:Int):=by rw[show(a.length:Int)+1 - 1=(a.length:Int) by omega];exact ek (by omega) (by omega)
 have w2:IntKind.wrap .i64 (((a.length+b.length:Nat):Int)+1 - 1)=((a.length+b.length:Nat):Int):=by rw[show((a.length+b.length:Nat):Int)+1 - 1=((a.length+b.length:Nat):Int) by omega];exact ek (by omega) (by omega)
 have c1:((a.length:Int)≤((a.length+b.length:Nat):Int))=True:=by simp only[eq_iff_iff,iff_true];omega
 have c2:(((a.length+b.length:Nat):Int)≤(p.aY.L.length:Int))=True:=by simp only[eq_iff_iff,iff_true];omega
 have hb:List.drop a.length (List.take (a.length+b.length) (List.map dz p.aY.L))=List.map dz b:=by rw[h4];simp[List.map_append,List.take_append,List.drop_append]
 unfold S0
 rw[nY]
 refine aF.go CF rfl fun B Q hB hQ=>?_
 have⟨hD,hY,hZ,gA⟩:=bR
 repeat' (first
 |simp only[go_sem,hD,hY,hZ,gA,h1,h2,List.length_append,w1,w2,c1,c2,or_true,true_and,and_self,ite_self,Int.toNat_natCast,hb]
 |(with_reducible first|refine bo fun hc=>?_|refine bp fun hc=>?_|refine bq (fun hc=>?_) fun hc=>?_)<;>(try simp only[hc,bs,↓reduceIte]at h)<;>try simp only[hc]
 |(with_reducible refine aE hQ ?_;(try cases h);simp only[aV,aX,bH,bI,go_sem,hD,hY,hZ,gA,h1,h2,List.length_append,w1,w2,c1,c2,or_true,true_and,and_self,ite_self,Int.toNat_natCast,hb];try exact cq)
 |(cases h;done))
theorem Vi {p:Pg} {i:Nat} {f:Pc} (hf:p.procs[i]? = some f) (hs:Pc.a7 p.procs<1000000000) : ∃ it:List Im,it.map Im.s=Sm.dd f.body∧∀ s,aF Tryz.prog gM [.dA (fA p) 0, .int .i64 (i:Int)] s (.slice .shared 17 (it.map dz)) s:=by
 obtain⟨a,b,e,h1,h2,h3,h4⟩:=(lh p).2 i f hf
 exact⟨b,h3,adk hs h1 h2 h4⟩
theorem GN {r:aG} : Cd r=true↔pe r=r.length:=by
 induction r with
 |nil=>simp[Cd,pe]
 |cons c r ih=>
  simp only[Cd,pe]
  cases h1:Bv c<;>cases h2:EE c<;>simp[ih]
theorem By (t:aG) (hl:t.length<4611686018427387904) (s:St):aF Tryz.prog nV [.str t] s (.bool (isName t)) s:=by
 refine aF.pure ?_ rfl rfl s
 have hr:=fun s=>ahl (pos:=0) hl s
 simp only[List.drop_zero,Nat.zero_add]at hr
 unfold S0
 cases t with
 |nil=>
  have z:decide (((0:Nat):Int)<1)=true:=rfl
  have z':decide ((0:Int)<1)=true:=rfl
  have e:isName [] = false:=rfl
  rw[e]
  refine aF.go nr rfl fun B Q hB hQ=>?_
  have⟨hD,hY,hZ,gA⟩:=bR
  repeat' (first
 |simp only[go_sem,hD,hY,hZ,gA,z,z']
 |(with_reducible refine aE hQ ?_;exact bd))
 | cons c r=>
  have l1:decide (((r.length+1:Nat):Int)<1)=false:=by simp;omega
  generalize h:isName (c::r)=p
  simp only[isName]at h
  cases hL:Bv c
  ·simp only [hL,Bool.not_false,Bool.or_true, ↓reduceIte]at h
   subst h
   by_cases c8:decide (((r.length+1:Nat):Int) > 8)=true
   ·refine aF.go nr rfl fun B Q hB hQ=> ?_
    have⟨hD,hY,hZ,gA⟩:=bR
    repeat' (first
 |simp only[go_sem,hD,hY,hZ,gA,l1,c8]
 | (with_reducible refine aE hQ ?_;exact bd))
   ·have c8:decide (((r.length+1:Nat):Int) > 8)=false:=by simpa using c8
    refine aF.go nr rfl fun B Q hB hQ=>?_
    have⟨hD,hY,hZ,gA⟩:=bR
    repeat' (first
 |simp only[go_sem,hD,hY,hZ,gA,l1,c8,hL]
 |(with_reducible refine CU (su _ _) ?_)
 | (with_reducible refine aE hQ ?_;exact bd))
  ·simp only [hL,Bool.not_true,Bool.or_false]at h
   by_cases c8:decide (((r.length+1:Nat):Int) > 8)=true
   ·simp only [c8, ↓reduceIte]at h
    subst h
    refine aF.go nr rfl fun B Q hB hQ=>?_
    have⟨hD,hY,hZ,gA⟩:=bR
    repeat' (first
 |simp only[go_sem,hD,hY,hZ,gA,l1,c8]
 | (with_reducible refine aE hQ ?_;exact bd))
   ·have c8:decide (((r.length+1:Nat):Int) > 8)=false:=by simpa using c8
    simp only[c8,Bool.false_eq_true,↓reduceIte]at h
    have dH:pe (c::r)=pe r+1:=by simp[pe,hL]
    cases hn:Cd r
    ·simp only [hn,Bool.false_eq_true, ↓reduceIte]at h
     have:pe r≠r.length:=fun e=>by rw[GN.2 e]at hn;cases hn
     have e:(((pe (c::r):Nat):Int)==((r.length+1:Nat):Int))=false:=by rw[dH];simp;omega
     subst h
     refine aF.go nr rfl fun B Q hB hQ=>?_
     have⟨hD,hY,hZ,gA⟩:=bR
     repeat' (first
 |simp only[go_sem,hD,hY,hZ,gA,l1,c8,hL,e]
 |(with_reducible refine CU (su _ _) ?_)
 |(with_reducible refine CU (hr _) ?_)
 | (with_reducible refine aE hQ ?_;exact bd))
    ·simp only [hn, ↓reduceIte]at h
     have:=GN.1 hn
     have e:(((pe (c::r):Nat):Int)==((r.length+1:Nat):Int))=true:=by rw[dH];simp;omega
     subst h
     refine aF.go nr rfl fun B Q hB hQ=>?_
     have⟨hD,hY,hZ,gA⟩:=bR
     repeat' (first
 |simp only[go_sem,hD,hY,hZ,gA,l1,c8,hL,e]
 |(with_reducible refine CU (su _ _) ?_)
 |(with_reducible refine CU (hr _) ?_)
 |(with_reducible refine CU (adb _ _) ?_)
 |(with_reducible refine aE hQ ?_;exact bd))
theorem L0 (op:Int) (s:St):aF Tryz.prog xy [.int .i64 op] s (.int .i64 (oh op)) s:=by
 refine aF.pure ?_ rfl rfl s
 unfold S0
 generalize h:oh op=p
 unfold oh at h
 refine aF.go HN rfl fun B Q hB hQ=>?_
 have⟨hD,hY,hZ,gA⟩:=bR
 repeat' (first
 |simp only[go_sem,hD,hY,hZ,gA]
 |(with_reducible first|refine bo fun hc=>?_|refine bp fun hc=>?_|refine bq (fun hc=>?_) fun hc=>?_)<;>(try simp only[hc,bs,↓reduceIte]at h)<;>try simp only[hc]
 |(with_reducible refine aE hQ ?_;exact fV))
theorem zw {l:List aG} (hl:l.length<4611686018427387904) (hs : ∀ t∈l,t.length<4611686018427387904) (s:St):aF Tryz.prog nn [.slice .shared 1 (l.map encStr)] s (.bool (fc l)) s:=by
 refine aF.pure ?_ (by simp[D.bL,D.ok,fb,Tag.ok]) rfl s
 unfold S0
 generalize h:fc l=p
 refine aF.go FP rfl fun B Q hB hQ=>?_
 have⟨hD,hY,hZ,gA⟩:=bR
 repeat' (first
 |simp only[go_sem,hD,hY,hZ,gA]
 |(with_reducible first|refine bo fun hc=>?_|refine bp fun hc=>?_|refine bq (fun hc=>?_) fun hc=>?_)<;>(try simp only[hc,bs,↓reduceIte]at h)<;>try simp only[hc]
 |(with_reducible refine aE hQ ?_;exact fV))
 refine fi 0 0 (bt.ind (ι:=List aG×Nat) (fun i=>l.drop i.2=i.1∧fc i.1=p) (fun i=>i.1.length)
  (fun i=> [(5, .slice .shared 1 (l.map encStr)),(6, .int .i64 (l.length:Int)),(7, .int .i64 (i.2:Int))]) (fun i=>⟨[],[]⟩) ?_ (l,0) ⟨rfl,h⟩)
 rintro⟨rest,k⟩ ⟨h1,h⟩ IH
 dsimp only at h1 h
 cases rest with
 |nil=>
  have hD:=drop_nil h1
  simp only[fc]at h
  repeat' (first
 |simp only[go_sem,hD,hY,hZ,gA]
 |(with_reducible first|refine bo fun hc=>?_|refine bp fun hc=>?_|refine bq (fun hc=>?_) fun hc=>?_)<;>(try simp only[hc,bs,↓reduceIte]at h)<;>try simp only[hc]
 |(with_reducible refine aE hQ ?_;exact fV))
 |cons t rest=>
  obtain⟨hY,g2,hD,g4⟩:=drop_cons h1
  have hZ:k<4611686018427387904:=by omega
  have hn:=By t (hs t (List.mem_of_getElem? hY))
  simp only[fc]at h
  repeat' (first
 |simp only[go_sem,hD,hY,hZ,gA]
 |(with_reducible refine CU (hn _) ?_)
 |(with_reducible first|refine bo fun hc=>?_|refine bp fun hc=>?_|refine bq (fun hc=>?_) fun hc=>?_)<;>(try simp only[hc,bs,↓reduceIte]at h)<;>try simp only[hc]
 |(with_reducible refine aE hQ ?_;exact fV))
  refine fi 0 0 (IH (rest,k+1) ⟨g2,h⟩ (Nat.lt_succ_self _))
mutual
def Ex.dp (left:Int):Ex→Bool
 |⟨op,n,name,kids⟩=>
  if decide (left<1) ||(kids.length:Int) != oh op then false
  else if op==1 then decide (n≥0) && name == []
  else if op==2 then n==0 && isName name
  else if n != 0 || !(name == [])then false
  else Ex.Bz (left - 1) kids
def Ex.Bz (left:Int):List Ex→Bool
 | []=>true
 |x::l=>if !(Ex.dp left x)then false else Ex.Bz left l
end
theorem ZJ : ∀ (m:Nat) (x:Ex),x.size≤m→x.size<4611686018427387904→x.texts→∀ left:Int,0≤left→left≤100→∀ s:St,aF Tryz.prog p9 [.agg (cd x), .int .i64 left] s (.bool (x.dp left)) s:=by
 intro m
 induction m with
 |zero=>rintro⟨op,v,name,kids⟩ h;simp only[Ex.size]at h;omega
 | succ m ih=>
  rintro⟨op,v,name,kids⟩ h hx ht left h0 Vj s
  refine aF.pure ?_ (by simp[D.bL,D.ok,lT]) rfl s
  have hlen:kids.length<4611686018427387904:=by simp only[Ex.size]at hx;have:=Ex.eJ kids;omega
  have hn:=By name ht.1
  generalize hp:Ex.dp left ⟨op,v,name,kids⟩=p
  simp only[Ex.dp]at hp
  unfold S0
  by_cases vJ:left<1
  ·have d1:decide (left<1)=true:=by simpa using vJ
   simp only[d1,Bool.true_or,↓reduceIte]at hp
   subst hp
   refine aF.go An rfl fun B Q hB hQ=>?_
   have⟨hD,hY,hZ,gA⟩:=bR
   repeat' (first
 |simp only[go_sem,hD,hY,hZ,gA,d1]
 |(with_reducible refine CU (L0 _ _) ?_)
 |(with_reducible refine CU (hn _) ?_)
 | (with_reducible refine aE hQ ?_;exact bd))
  ·have d1:decide (left<1)=false:=by simpa using vJ
   have w1:IntKind.wrap .i64 (left - 1)=left - 1:=ek (by omega) (by omega)
   have hk : ∀ y∈kids,∀ s,aF Tryz.prog p9 [.agg (cd y), .int .i64 (left - 1)] s (.bool (y.dp (left - 1))) s:=fun y hy s=>
    ih y (by simp only[Ex.size]at h;have:=Ex.dm hy;omega) (by simp only[Ex.size]at hx;have:=Ex.dm hy;omega) (Ex.RH ht hy) (left - 1) (by omega) (by omega) s
   simp only[d1,Bool.false_or]at hp
   have h:=hp
   clear hp
   refine aF.go An rfl fun B Q hB hQ=>?_
   have⟨hD,hY,hZ,gA⟩:=bR
   repeat' (first
 |simp only[go_sem,hD,hY,hZ,gA,d1]
 |(with_reducible refine CU (L0 _ _) ?_)
 |(with_reducible refine CU (hn _) ?_)
 |(with_reducible first|refine bo fun hc=>?_|refine bp fun hc=>?_|refine bq (fun hc=>?_) fun hc=>?_)<;>(try simp only[hc,bs,↓reduceIte]at h)<;>try simp only[hc]
 | (with_reducible refine aE hQ ?_;(try cases h);simp only [aV,aX,bH,bI,go_sem,hD,hY,hZ,gA,d1];repeat' (first | exact Ok.out | with_reducible refine iZ ?_ ?_ | (simp;done))))
   all_goals
    refine fi 1 0 (bt.ind (ι:=List Ex×Nat) (fun i=>kids.drop i.2=i.1∧Ex.Bz (left - 1) i.1=p) (fun i=>i.1.length)
     (fun i=> [(1, .int .i64 left),(49, .slice .shared 4 (kids.map cd)),(50, .int .i64 (kids.length:Int)),(51, .int .i64 (i.2:Int))]) (fun i=>⟨[cd ⟨op,v,name,kids⟩],[]⟩) ?_ (kids,0) ⟨rfl,h⟩)
    rintro⟨rest,k⟩ ⟨h1,h⟩ IH
    dsimp only at h1 h
    cases rest with
    |nil=>
     have hD:=drop_nil h1
     simp only[Ex.Bz]at h
     repeat' (first
 |simp only[go_sem,hD,hY,hZ,gA]
 |(with_reducible first|refine bo fun hc=>?_|refine bp fun hc=>?_|refine bq (fun hc=>?_) fun hc=>?_)<;>(try simp only[hc,bs,↓reduceIte]at h)<;>try simp only[hc]
 |(with_reducible refine aE hQ ?_;exact fV)
 | (cases h;done))
    |cons y rest=>
     obtain⟨hY,g2,hD,g4⟩:=drop_cons h1
     have hy:=hk y (List.mem_of_getElem? hY)
     have hZ:k<4611686018427387904:=by omega
     simp only[Ex.Bz]at h
     repeat' (first
 |simp only[go_sem,hD,hY,hZ,gA,w1]
 |(with_reducible refine CU (hy _) ?_)
 |(with_reducible first|refine bo fun hc=>?_|refine bp fun hc=>?_|refine bq (fun hc=>?_) fun hc=>?_)<;>(try simp only[hc,bs,↓reduceIte]at h)<;>try simp only[hc]
 |(with_reducible refine aE hQ ?_;(try cases h);simp only[aV,aX,bH,bI,go_sem,hD,hY,hZ,gA,w1];try exact cq))
     refine fi 1 0 (IH (rest,k+1) ⟨g2,h⟩ (Nat.lt_succ_self _))
theorem zz {x:Ex} (hx:x.size<4611686018427387904) (ht:x.texts) (s:St):aF Tryz.prog nj [.agg (cd x)] s (.bool (x.dp 20)) s:=by
 refine aF.pure ?_ (by simp[D.bL,D.ok,lT]) rfl s
 have hd:=fun s=>ZJ _ x (Nat.le_refl _) hx ht 20 (by omega) (by omega) s
 unfold S0
 refine aF.go DB rfl fun B Q hB hQ=>?_
 have⟨hD,hY,hZ,gA⟩:=bR
 repeat' (first
 |simp only[go_sem,hD,hY,hZ,gA]
 |(with_reducible refine CU (hd _) ?_)
 |(with_reducible refine aE hQ ?_;exact bd))
theorem ZK (x:Ex) (s:St):aF Tryz.prog xC [.agg (cd x)] s (.bool x.none) s:=by
 refine aF.pure ?_ (by simp[D.bL,D.ok,lT]) rfl s
 unfold S0
 generalize h:Ex.none x=p
 unfold Ex.none at h
 refine aF.go HP rfl fun B Q hB hQ=>?_
 have⟨hD,hY,hZ,gA⟩:=bR
 repeat' (first
 |simp only[go_sem,hD,hY,hZ,gA]
 |(with_reducible first|refine bo fun hc=>?_|refine bp fun hc=>?_|refine bq (fun hc=>?_) fun hc=>?_)<;>(try simp only[hc,bs,↓reduceIte]at h)<;>try simp only[hc]
 |(with_reducible refine aE hQ ?_;exact fV))
def tt (t:aG) (is:Bool):Bool:=(is && isName t) ||(!is && t == [])
theorem DE (t:aG) (is:Bool) (hl:t.length<4611686018427387904) (s:St):aF Tryz.prog o8 [.str t, .bool is] s (.bool (tt t is)) s:=by
 refine aF.pure ?_ rfl rfl s
 have hn:=By t hl
 unfold S0
 generalize h:tt t is=p
 unfold tt at h
 refine aF.go FW rfl fun B Q hB hQ=>?_
 have⟨hD,hY,hZ,gA⟩:=bR
 repeat' (first
 |simp only[go_sem,hD,hY,hZ,gA]
 |(with_reducible refine CU (hn _) ?_)
 |(with_reducible first|refine bo fun hc=>?_|refine bp fun hc=>?_|refine bq (fun hc=>?_) fun hc=>?_)<;>(try simp only[hc,bs,↓reduceIte]at h)<;>try simp only[hc]
 |(with_reducible refine aE hQ ?_;exact fV))
def vK (x:Ex) (is:Bool):Bool:=(is && x.dp 20) ||(!is && x.none)
theorem L1 {x:Ex} (is:Bool) (hx:x.size<4611686018427387904) (ht:x.texts) (s:St):aF Tryz.prog rA [.agg (cd x), .bool is] s (.bool (vK x is)) s:=by
 refine aF.pure ?_ (by simp[D.bL,D.ok,lT]) rfl s
 have hm:=zz hx ht
 unfold S0
 generalize h:vK x is=p
 unfold vK at h
 refine aF.go FX rfl fun B Q hB hQ=>?_
 have⟨hD,hY,hZ,gA⟩:=bR
 repeat' (first
 |simp only[go_sem,hD,hY,hZ,gA]
 |(with_reducible refine CU (hm _) ?_)
 |(with_reducible refine CU (ZK _ _) ?_)
 |(with_reducible first|refine bo fun hc=>?_|refine bp fun hc=>?_|refine bq (fun hc=>?_) fun hc=>?_)<;>(try simp only[hc,bs,↓reduceIte]at h)<;>try simp only[hc]
 |(with_reducible refine aE hQ ?_;exact fV))
def pF:List Ar→Bool
 | []=>true
 |a::l=>if !(tt a.name a.ref) || !(vK a.x !a.ref)then false else pF l
theorem Vk {l:List Ar} (hl:l.length<4611686018427387904) (hs : ∀ a∈l,a.x.size<4611686018427387904∧a.x.texts∧a.name.length<4611686018427387904) (s:St) :
 aF Tryz.prog tY [.slice .shared 6 (l.map eC)] s (.bool (pF l)) s:=by
 refine aF.pure ?_ (by simp[D.bL,D.ok,H6,Tag.ok]) rfl s
 unfold S0
 generalize h:pF l=p
 refine aF.go ED rfl fun B Q hB hQ=>?_
 have⟨hD,hY,hZ,gA⟩:=bR
 repeat' (first
 |simp only[go_sem,hD,hY,hZ,gA]
 |(with_reducible first|refine bo fun hc=>?_|refine bp fun hc=>?_|refine bq (fun hc=>?_) fun hc=>?_)<;>(try simp only[hc,bs,↓reduceIte]at h)<;>try simp only[hc]
 |(with_reducible refine aE hQ ?_;exact fV))
 refine fi 0 0 (bt.ind (ι:=List Ar×Nat) (fun i=>l.drop i.2=i.1∧pF i.1=p) (fun i=>i.1.length)
  (fun i=> [(5, .slice .shared 6 (l.map eC)),(6, .int .i64 (l.length:Int)),(7, .int .i64 (i.2:Int))]) (fun i=>⟨[],[]⟩) ?_ (l,0) ⟨rfl,h⟩)
 rintro⟨rest,k⟩ ⟨h1,h⟩ IH
 dsimp only at h1 h
 cases rest with
 |nil=>
  have hD:=drop_nil h1
  simp only[pF]at h
  repeat' (first
 |simp only[go_sem,hD,hY,hZ,gA]
 |(with_reducible first|refine bo fun hc=>?_|refine bp fun hc=>?_|refine bq (fun hc=>?_) fun hc=>?_)<;>(try simp only[hc,bs,↓reduceIte]at h)<;>try simp only[hc]
 |(with_reducible refine aE hQ ?_;exact fV))
 |cons a rest=>
  obtain⟨hY,g2,hD,g4⟩:=drop_cons h1
  have hZ:k<4611686018427387904:=by omega
  obtain⟨a1,a2,a3⟩:=hs a (List.mem_of_getElem? hY)
  have hn:=fun b s=>DE a.name b a3 s
  have hw:=fun b s=>L1 b a1 a2 s
  simp only[pF]at h
  repeat' (first
 |simp only[go_sem,hD,hY,hZ,gA]
 |(with_reducible refine CU (hn _ _) ?_)
 |(with_reducible refine CU (hw _ _) ?_)
 |(with_reducible first|refine bo fun hc=>?_|refine bp fun hc=>?_|refine bq (fun hc=>?_) fun hc=>?_)<;>(try simp only[hc,bs,↓reduceIte]at h)<;>try simp only[hc]
 |(with_reducible refine aE hQ ?_;exact fV))
  refine fi 0 0 (IH (rest,k+1) ⟨g2,h⟩ (Nat.lt_succ_self _))
def Sm.flags (s:Sm):Option (Bool×Bool×Bool×Bool×Bool×Bool):=
 if s.kind==1 then some (true,false,true,s.has,false,false)
 else if s.kind==2 ||s.kind==10 then some (true,false,false,s.has,false,false)
 else if s.kind==3 then some (false,false,true,s.has,false,false)
 else if s.kind==4 then some (!(s.name == []),true,false,s.has,false,false)
 else if s.kind==5 then some (false,false,true,s.has,true,true)
 else if s.kind==6 then some (false,false,true,s.has,true,false)
 else if s.kind==9 then some (false,false,s.has,false,false,false)
 else if s.kind==7 ||s.kind==8 then some (false,false,false,s.has,false,false)
 else none
def Sm.H9 (s:Sm) (nm pr x:Bool):Bool:=if !(tt s.name nm) || !(tt s.proc pr) || !(vK s.x x)then false else pF s.args
def Sm.Ia (s:Sm) (f:Bool×Bool×Bool×Bool×Bool×Bool):Bool:=
 if f.2.2.2.1 ||(!f.2.2.2.2.1 && decide ((s.a8.length:Int) > 0)) ||(!f.2.2.2.2.2 && decide ((s.aS.length:Int) > 0)) ||(!(s.kind==4) && decide ((s.args.length:Int) > 0))then false
 else s.H9 f.1 f.2.1 f.2.2.1
def Sm.fields (s:Sm):Bool:=match s.flags with
 |none=>false
 |some f=>s.Ia f
section
variable {v:Sm} {B:fU} {Q:Exit→Tm→St→Prop} {p:Bool}
theorem Vl {nm pr x:Bool} (hf:v.ug) (hB:B.s = ⟨[],[]⟩) (hQ:pR 0 0 [(2,none)] (.bool p) ⟨[],[]⟩=Q) (h:v.H9 nm pr x=p) :
 Sem Tryz.prog B 93 ac5 Q [(1, .ptr 0 0),(3, .bool nm),(4, .bool pr),(5, .bool x)] ⟨[bh v],[]⟩:=by
 have h1:=fun b s=>DE v.name b hf.name s
 have h2:=fun b s=>DE v.proc b hf.proc s
 have h3:=fun b s=>L1 b hf.x hf.xt s
 have h4:=fun s=>Vk hf.anU hf.arg s
 unfold Sm.H9 at h
 have⟨hD,hY,hZ,gA⟩:=bR
 refine iG ?_
 repeat' (first
 |simp only[go_sem,hD,hY,hZ,gA]
 |(with_reducible refine CU (h1 _ _) ?_)
 |(with_reducible refine CU (h2 _ _) ?_)
 |(with_reducible refine CU (h3 _ _) ?_)
 |(with_reducible refine CU (h4 _) ?_)
 |(with_reducible first|refine bo fun hc=>?_|refine bp fun hc=>?_|refine bq (fun hc=>?_) fun hc=>?_)<;>(try simp only[hc,bs,↓reduceIte]at h)<;>try simp only[hc]
 |(with_reducible refine aE hQ ?_;exact fV))
theorem Vm {nm pr x has th ot ar:Bool} (hf:v.ug) (hB:B.s = ⟨[],[]⟩) (hQ:pR 0 0 [(2,none)] (.bool p) ⟨[],[]⟩=Q) (e:(v.kind==4)=ar) (h:v.Ia (nm,pr,x,has,th,ot)=p) :
 Sem Tryz.prog B 93 ac6 Q [(1, .ptr 0 0),(3, .bool nm),(4, .bool pr),(5, .bool x),(6, .bool has),(7, .bool th),(8, .bool ot),(9, .bool ar)] ⟨[bh v],[]⟩:=by
 simp only[Sm.Ia,e]at h
 have⟨hD,hY,hZ,gA⟩:=bR
 refine Sem.ni ?_
 repeat' (first
 |simp only[go_sem,hD,hY,hZ,gA]
 |(with_reducible first|refine bo fun hc=>?_|refine bp fun hc=>?_|refine bq (fun hc=>?_) fun hc=>?_)<;>(try simp only[hc,bs,↓reduceIte]at h)<;>try simp only[hc]
 |(with_reducible refine aE hQ ?_;(try cases h);simp only[aV,aX,bH,bI,go_sem,hD,hY,hZ,gA];repeat' (first|exact Ok.out|with_reducible refine iZ ?_ ?_|(simp;done))))
 all_goals
  refine Sem.re _ _ 1 0 (by rw[hB];exact C2 rfl) (by rw[hB];exact C2 rfl) ?_ ?_ (Vl hf hB hQ h)
  ·(simp only[go_sem,hD,hY,hZ,gA];repeat' (first|exact Ok.out|with_reducible refine iZ ?_ ?_))
  ·(simp only[go_sem,hD,hY,hZ,gA];repeat' (first|exact Ok.out|with_reducible refine iZ ?_ ?_))
theorem Vn {ar:Bool} (hf:v.ug) (hB:B.s = ⟨[],[]⟩) (hQ:pR 0 0 [(2,none)] (.bool p) ⟨[],[]⟩=Q) (e:(v.kind==4)=ar) (h:v.fields=p) :
 Sem Tryz.prog B 93 Vd Q [(1, .ptr 0 0),(3, .bool false),(4, .bool false),(5, .bool false),(6, .bool v.has),(7, .bool false),(8, .bool false),(9, .bool ar)] ⟨[bh v],[]⟩:=by
 simp only[Sm.fields,Sm.flags]at h
 have⟨hD,hY,hZ,gA⟩:=bR
 refine Sem.ni ?_
 repeat' (first
 |simp only[go_sem,hD,hY,hZ,gA]
 |(with_reducible first|refine bo fun hc=>?_|refine bp fun hc=>?_|refine bq (fun hc=>?_) fun hc=>?_)<;>(try simp only[hc,bs,↓reduceIte]at h)<;>try simp only[hc]
 |(with_reducible refine aE hQ ?_;(try cases h);simp only[aV,aX,bH,bI,go_sem,hD,hY,hZ,gA];repeat' (first|exact Ok.out|with_reducible refine iZ ?_ ?_|(simp;done))))
 all_goals
  refine Sem.re _ _ 1 0 (by rw[hB];exact C2 rfl) (by rw[hB];exact C2 rfl) ?_ ?_ (Vm hf hB hQ e h)
  ·(simp only[go_sem,hD,hY,hZ,gA];repeat' (first|exact Ok.out|with_reducible refine iZ ?_ ?_))
  ·(simp only[go_sem,hD,hY,hZ,gA];repeat' (first|exact Ok.out|with_reducible refine iZ ?_ ?_))
end
theorem Vo {v:Sm} (hf:v.ug) (s:St):aF Tryz.prog tX [.agg (bh v)] s (.bool v.fields) s:=by
 refine aF.pure ?_ (by simp[D.bL,D.ok,rj]) rfl s
 unfold S0
 refine aF.goS EA rfl fun B Q hB hQ=>?_
 have⟨hD,hY,hZ,gA⟩:=bR
 refine Sem.seq (b:=ac8) (iG ?_)
 repeat' (first
 |simp only[go_sem,hD,hY,hZ,gA]
 |(with_reducible refine aE hQ ?_;exact bd))
 refine Sem.seq (b:=ac7) (iG ?_)
 repeat' (first
 |simp only[go_sem,hD,hY,hZ,gA]
 |(with_reducible refine aE hQ ?_;exact bd))
 refine Sem.seq (b:=Vd) (iG ?_)
 repeat' (first
 |simp only[go_sem,hD,hY,hZ,gA]
 |(with_reducible refine aE hQ ?_;exact bd))
 refine Sem.re _ _ 1 0 (by rw[hB];exact C2 rfl) (by rw[hB];exact C2 rfl) ?_ ?_ (Vn hf hB hQ rfl rfl)
 ·(simp only[go_sem,hD,hY,hZ,gA];repeat' (first|exact Ok.out|with_reducible refine iZ ?_ ?_))
 ·(simp only[go_sem,hD,hY,hZ,gA];repeat' (first|exact Ok.out|with_reducible refine iZ ?_ ?_))
end Go.Abs
namespace Go.Abs
set_option maxRecDepth 8000
open Go.Proofs
def fL (i:It):List D:= [.int .i64 i.s.id, .int .i64 i.s.kind, .slice .shared 1 (i.s.labels.map encStr), .str i.s.name, .str i.s.proc,
 .int .i64 i.s.x.op, .int .i64 i.s.x.n, .str i.s.x.name, .slice .shared 4 (i.s.x.kids.map cd), .bool i.s.has, .slice .shared 6 (i.s.args.map eC), .slice .shared 13 (i.s.a8.map bh), .slice .shared 13 (i.s.aS.map bh), .int .i64 i.deep, .int .i64 i.cy, .bool i.aS]
theorem Vp (i:It):D.bL 0 0 (fL i)=true:=by simp[fL,D.bL,D.ok,Tag.ok,fb,W6,H6,pD]
theorem EJ (l:List It):D.gS 0 0 (l.map fL)=true:=gT Vp l
theorem aht (n m:Nat) (l:List It):D.kv n m (l.map fL)=l.map fL:=lW Vp n m l
theorem ahu (n m:Nat) (i:It):D.gv n m (fL i)=fL i:=ig n m _ (Vp i)
theorem ahv (x:It):(fL x).length=16:=nd rfl
theorem adn (x:It):List.take 13 (fL x)=bh x.s:=by simp only[fL,ey];rfl
theorem Vq (x:It):(fL x)[0]? = some (.int .i64 x.s.id):=nd rfl
theorem RQ (x:It):(fL x)[13]? = some (.int .i64 x.deep):=nd rfl
theorem F0 (s:Sm) (d n:Int) (e:Bool):fL ⟨s,d,n,e⟩ = [.int .i64 s.id, .int .i64 s.kind, .slice .shared 1 (s.labels.map encStr), .str s.name, .str s.proc,
 .int .i64 s.x.op, .int .i64 s.x.n, .str s.x.name, .slice .shared 4 (s.x.kids.map cd), .bool s.has, .slice .shared 6 (s.args.map eC), .slice .shared 13 (s.a8.map bh), .slice .shared 13 (s.aS.map bh), .int .i64 d, .int .i64 n, .bool e]:=nd rfl
attribute [go_sem] aht ahu ahv adn Vq RQ
theorem JK (deep cy:Int) (aS:Bool) (out:List It) (s:Sm) :
 iS deep cy aS out s=if decide (deep≤12)then dQ (deep+1) s.id true (dQ (deep+1) s.id false (out++ [⟨s,deep,cy,aS⟩]) s.a8) s.aS else out++ [⟨s,deep,cy,aS⟩]:=by
 cases s;simp only[iS]
mutual
theorem RR (deep cy:Int) (aS:Bool) (out:List It) (h:out.length≤200) : ∀ s:Sm,(iS deep cy aS out s).length≤201
 |⟨id,kind,labels,name,proc,x,has,args,a8,e⟩=>by
  simp only[iS]
  have h1:(out++ [(⟨⟨id,kind,labels,name,proc,x,has,args,a8,e⟩,deep,cy,aS⟩:It)]).length≤201:=by simp;omega
  split
  ·exact lj _ _ _ _ (lj _ _ _ _ h1 a8) e
  ·exact h1
theorem lj (deep cy:Int) (aS:Bool) (out:List It) (h:out.length≤201) : ∀ l:List Sm,(dQ deep cy aS out l).length≤201
 | []=>by simpa only[dQ]using h
 | s::l=>by
  simp only[dQ]
  split
  ·rename_i hc
   simp only[decide_eq_true_eq]at hc
   exact lj deep cy aS _ (RR _ _ _ _ (by omega) s) l
  ·exact h
end
abbrev RS (N:Nat):Prop:=∀ (l:List Sm) (deep cy:Int) (aS:Bool) (out:List It),Sm.a7 l<N→0≤deep→deep≤13→out.length≤201→∀ {s:St} {t:Nat},s.aw[t]? = some (some out.length)→
 aF Tryz.prog mJ [.slice .shared 13 (l.map bh), .int .i64 deep, .int .i64 cy, .bool aS, .slice (.tok t) 16 (out.map fL)] s (.slice (.tok t) 16 ((dQ deep cy aS out l).map fL)) ⟨s.ah,s.aw.set t (some (dQ deep cy aS out l).length)⟩
theorem ado {N:Nat} (hN:N<4611686018427387904) (ih:RS N) {l:List Sm} {deep cy:Int} {aS:Bool} {out:List It} (hs:Sm.a7 l<N+1) (GO:0≤deep) (hd:deep≤13) (ho:out.length≤201) :
 aF Tryz.prog mJ [.slice .shared 13 (l.map bh), .int .i64 deep, .int .i64 cy, .bool aS, .slice (.tok 0) 16 (out.map fL)] ⟨[],[some out.length]⟩ (.slice (.tok 0) 16 ((dQ deep cy aS out l).map fL)) ⟨[],[some (dQ deep cy aS out l).length]⟩:=by
 generalize hR:dQ deep cy aS out l=R
 refine aF.go Ap rfl fun B Q hB hQ=>?_
 have⟨hD,hY,hZ,gA⟩:=bR
 repeat' (first
 |simp only[go_sem,hD,hY,hZ,gA]
 |(with_reducible refine aE hQ ?_;exact bd))
 refine fi 0 1 (bt.ind (ι:=List Sm×Nat×List It×Nat) (fun i=>l.drop i.2.1=i.1∧dQ deep cy aS i.2.2.1 i.1=R∧i.2.2.1.length≤201∧i.2.2.2=i.2.2.1.length) (fun i=>i.1.length)
  (fun i=> [(0, .slice .shared 13 (l.map bh)),(1, .int .i64 deep),(2, .int .i64 cy),(3, .bool aS),(4, .slice (.tok 0) 16 (i.2.2.1.map fL)),(11, .int .i64 (i.2.1:Int))]) (fun i=>⟨[],[some i.2.2.2]⟩) ?_ (l,0,out,out.length) ⟨rfl,hR,ho,rfl⟩)
 rintro⟨rest,k,out,n⟩ ⟨h1,h2,h3,h4⟩ IH
 dsimp only at h1 h2 h3 h4
 subst h4
 have hlen:l.length<4611686018427387904:=by have:=Sm.eJ l;omega
 cases rest with
 |nil=>
  have hD:=drop_nil h1
  simp only[dQ]at h2
  subst h2
  repeat' (first
 |simp only[go_sem,hD,hY,hZ,gA]
 |(with_reducible refine aE hQ ?_;exact bd))
 | cons v rest=>
  obtain⟨hY,g2,hD,g4⟩:=drop_cons h1
  have bU:k<4611686018427387904:=by omega
  have hv:=Sm.dm (List.mem_of_getElem? hY)
  have oY:Sm.a7 v.a8<N∧Sm.a7 v.aS<N:=by
   obtain⟨_,_,_,_,_,_,_,_,_,_⟩:=v
   simp only[Sm.size]at hv ⊢;omega
  simp only[dQ]at h2
  by_cases hc:out.length≤200
  ·have c1:decide ((out.length:Int)≤200)=true:=by simp;omega
   simp only[c1,↓reduceIte,JK]at h2
   have hZ:(out.length+1)*233≤bC:=by unfold bC;omega
   have iX:(out++ [(⟨v,deep,cy,aS⟩:It)]).length≤201:=by simp;omega
   have hw:IntKind.wrap .i64 (deep+1)=deep+1:=ek (by omega) (by omega)
   by_cases anX:deep≤12
   ·have c2:decide (deep≤12)=true:=by simp;omega
    simp only[c2,↓reduceIte]at h2
    have f1:=fun {s:St} {t:Nat} (ht:s.aw[t]? = some (some (out++ [(⟨v,deep,cy,aS⟩:It)]).length))=>ih v.a8 (deep+1) v.id false _ oY.1 (by omega) (by omega) iX ht
    have f2:=fun {s:St} {t:Nat} (ht:s.aw[t]? = some (some (dQ (deep+1) v.id false (out++ [(⟨v,deep,cy,aS⟩:It)]) v.a8).length))=>ih v.aS (deep+1) v.id true _ oY.2 (by omega) (by omega) (lj _ _ _ _ iX _) ht
    simp only[List.map_append,List.map_cons,List.map_nil,F0,List.length_append,List.length_cons,List.length_nil]at f1
    repeat' (first
 |simp only[go_sem,hD,hY,hZ,gA,c1,c2,hw,ey]
 |(with_reducible refine CU (f1 (by with_unfolding_all rfl)) ?_)
 |(with_reducible refine CU (f2 (by with_unfolding_all rfl)) ?_)
 | (with_reducible refine aE hQ ?_;exact bd))
    refine eY 0 1 ?_ ?_ (IH (rest,k+1,_,_) ⟨g2,h2,lj _ _ _ _ (lj _ _ _ _ iX _) _,rfl⟩ (Nat.lt_succ_self _))
    ·(simp only[go_sem,hD,hY,hZ,gA,aI bU];try exact cj)
    ·(simp only[go_sem,hD,hY,hZ,gA,aI bU];try exact cj)
   ·have c2:decide (deep≤12)=false:=by simp;omega
    simp only[c2,Bool.false_eq_true,↓reduceIte]at h2
    repeat' (first
 |simp only[go_sem,hD,hY,hZ,gA,c1,c2,ey]
 | (with_reducible refine aE hQ ?_;exact bd))
    refine eY 0 1 ?_ ?_ (IH (rest,k+1,out++ [⟨v,deep,cy,aS⟩],out.length+1) ⟨g2,h2,iX,by simp⟩ (Nat.lt_succ_self _))
    ·(simp only[go_sem,hD,hY,hZ,gA,aI bU,F0,List.map_append,List.map_cons,List.map_nil];try exact cj)
    ·(simp only[go_sem,hD,hY,hZ,gA,aI bU,F0,List.map_append,List.map_cons,List.map_nil];try exact cj)
  ·have c1:decide ((out.length:Int)≤200)=false:=by simp;omega
   simp only[c1,Bool.false_eq_true,↓reduceIte]at h2
   subst h2
   repeat' (first
 |simp only[go_sem,hD,hY,hZ,gA,c1]
 |(with_reducible refine aE hQ ?_;exact bd))
theorem Vr : ∀ N,N<4611686018427387904→RS N:=by
 intro N
 induction N with
 |zero=>exact fun _ l deep cy aS out h=>absurd h (Nat.not_lt_zero _)
 |succ N ih=>
  intro h l deep cy aS out hs GO hd ho s t ht
  exact(ado (by omega) (ih (by omega)) hs GO hd ho).abv (pre:= [_,_,_,_]) (post:= []) (by simp[D.bL,D.ok,Tag.ok,pD]) rfl (EJ out) (EJ _) ht
theorem Vs {l:List Sm} (hs:Sm.a7 l<4611686018427387000) (s:St) :
 aF Tryz.prog mJ [.slice .shared 13 (l.map bh), .int .i64 1, .int .i64 0, .bool false, .slice .full 0 []] s (.slice .shared 16 ((dQ 1 0 false [] l).map fL)) s:=by
 refine aF.pure ?_ (by simp[D.bL,D.ok,Tag.ok,pD,D.gS]) (by simp[D.ok,Tag.ok,EJ]) s
 obtain⟨N,hN⟩ : ∃ N,N=Sm.a7 l:=⟨_,rfl⟩
 have ih:=Vr N (by omega)
 replace hs:Sm.a7 l<N+1∧N<4611686018427387000:=by omega
 obtain⟨hs,hN⟩:=hs
 generalize hR:dQ 1 0 false [] l=R
 obtain⟨deep,Pb⟩ : ∃ d:Int,d=1:=⟨_,rfl⟩
 obtain⟨cy,Vt⟩ : ∃ d:Int,d=0:=⟨_,rfl⟩
 obtain⟨aS,Vu⟩ : ∃ d:Bool,d=false:=⟨_,rfl⟩
 rw[← Pb, ← Vt, ← Vu]at hR
 rw[← Pb, ← Vt, ← Vu]
 have GO:0≤deep:=by omega
 have hd:deep≤13:=by omega
 clear Pb Vt Vu
 have ho:([] : List It).length≤201:=Nat.zero_le _
 unfold S0
 refine aF.go Ap rfl fun B Q hB hQ=>?_
 have⟨hD,hY,hZ,gA⟩:=bR
 repeat' (first
 |simp only[go_sem,hD,hY,hZ,gA]
 |(with_reducible refine aE hQ ?_;exact bd))
 refine bt.sm 4 16 rfl ?_
 simp only[go_sem,hD,hY,hZ,gA]
 refine fi 0 1 (bt.ind (ι:=List Sm×Nat×List It×Nat) (fun i=>l.drop i.2.1=i.1∧dQ deep cy aS i.2.2.1 i.1=R∧i.2.2.1.length≤201∧i.2.2.2=i.2.2.1.length) (fun i=>i.1.length)
  (fun i=> [(0, .slice .shared 13 (l.map bh)),(1, .int .i64 deep),(2, .int .i64 cy),(3, .bool aS),(4, .slice (.tok 0) 16 (i.2.2.1.map fL)),(11, .int .i64 (i.2.1:Int))]) (fun i=>⟨[],[some i.2.2.2]⟩) ?_ (l,0,[],0) ⟨rfl,hR,ho,rfl⟩)
 rintro⟨rest,k,out,n⟩ ⟨h1,h2,h3,h4⟩ IH
 dsimp only at h1 h2 h3 h4
 subst h4
 have hlen:l.length<4611686018427387904:=by have:=Sm.eJ l;omega
 cases rest with
 |nil=>
  have hD:=drop_nil h1
  simp only[dQ]at h2
  subst h2
  repeat' (first
 |simp only[go_sem,hD,hY,hZ,gA]
 |(with_reducible refine aE hQ ?_;exact bd))
 | cons v rest=>
  obtain⟨hY,g2,hD,g4⟩:=drop_cons h1
  have bU:k<4611686018427387904:=by omega
  have hv:=Sm.dm (List.mem_of_getElem? hY)
  have oY:Sm.a7 v.a8<N∧Sm.a7 v.aS<N:=by
   obtain⟨_,_,_,_,_,_,_,_,_,_⟩:=v
   simp only[Sm.size]at hv ⊢;omega
  simp only[dQ]at h2
  by_cases hc:out.length≤200
  ·have c1:decide ((out.length:Int)≤200)=true:=by simp;omega
   simp only[c1,↓reduceIte,JK]at h2
   have hZ:(out.length+1)*233≤bC:=by unfold bC;omega
   have iX:(out++ [(⟨v,deep,cy,aS⟩:It)]).length≤201:=by simp;omega
   have hw:IntKind.wrap .i64 (deep+1)=deep+1:=ek (by omega) (by omega)
   by_cases anX:deep≤12
   ·have c2:decide (deep≤12)=true:=by simp;omega
    simp only[c2,↓reduceIte]at h2
    have f1:=fun {s:St} {t:Nat} (ht:s.aw[t]? = some (some (out++ [(⟨v,deep,cy,aS⟩:It)]).length))=>ih v.a8 (deep+1) v.id false _ oY.1 (by omega) (by omega) iX ht
    have f2:=fun {s:St} {t:Nat} (ht:s.aw[t]? = some (some (dQ (deep+1) v.id false (out++ [(⟨v,deep,cy,aS⟩:It)]) v.a8).length))=>ih v.aS (deep+1) v.id true _ oY.2 (by omega) (by omega) (lj _ _ _ _ iX _) ht
    simp only[List.map_append,List.map_cons,List.map_nil,F0,List.length_append,List.length_cons,List.length_nil]at f1
    repeat' (first
 |simp only[go_sem,hD,hY,hZ,gA,c1,c2,hw,ey]
 |(with_reducible refine CU (f1 (by with_unfolding_all rfl)) ?_)
 |(with_reducible refine CU (f2 (by with_unfolding_all rfl)) ?_)
 | (with_reducible refine aE hQ ?_;exact bd))
    refine eY 0 1 ?_ ?_ (IH (rest,k+1,_,_) ⟨g2,h2,lj _ _ _ _ (lj _ _ _ _ iX _) _,rfl⟩ (Nat.lt_succ_self _))
    ·(simp only[go_sem,hD,hY,hZ,gA,aI bU];try exact cj)
    ·(simp only[go_sem,hD,hY,hZ,gA,aI bU];try exact cj)
   ·have c2:decide (deep≤12)=false:=by simp;omega
    simp only[c2,Bool.false_eq_true,↓reduceIte]at h2
    repeat' (first
 |simp only[go_sem,hD,hY,hZ,gA,c1,c2,ey]
 | (with_reducible refine aE hQ ?_;exact bd))
    refine eY 0 1 ?_ ?_ (IH (rest,k+1,out++ [⟨v,deep,cy,aS⟩],out.length+1) ⟨g2,h2,iX,by simp⟩ (Nat.lt_succ_self _))
    ·(simp only[go_sem,hD,hY,hZ,gA,aI bU,F0,List.map_append,List.map_cons,List.map_nil];try exact cj)
    ·(simp only[go_sem,hD,hY,hZ,gA,aI bU,F0,List.map_append,List.map_cons,List.map_nil];try exact cj)
  ·have c1:decide ((out.length:Int)≤200)=false:=by simp;omega
   simp only[c1,Bool.false_eq_true,↓reduceIte]at h2
   subst h2
   repeat' (first
 |simp only[go_sem,hD,hY,hZ,gA,c1]
 |(with_reducible refine aE hQ ?_;exact bd))
theorem adp {f:Pc} (hs:Sm.a7 f.body<4611686018427387000) (s:St):aF Tryz.prog xx [.agg (cu f)] s (.slice .shared 16 (f.flat.map fL)) s:=by
 refine aF.pure ?_ (by simp only[D.bL,D.ok,xp];rfl) (by simp[D.ok,Tag.ok,EJ]) s
 have h:=fun s=>Vs hs s
 unfold S0
 refine aF.go HM rfl fun B Q hB hQ=>?_
 have⟨hD,hY,hZ,gA⟩:=bR
 repeat' (first
 |simp only[go_sem,hD,hY,hZ,gA,Pc.flat]
 |(with_reducible refine CU (h _) ?_)
 |(with_reducible first|refine bo fun hc=>?_|refine bp fun hc=>?_|refine bq (fun hc=>?_) fun hc=>?_)<;>(try simp only[hc,bs,↓reduceIte]at h)<;>try simp only[hc]
 |(with_reducible refine aE hQ ?_;simp only[aV,aX,bH,bI,go_sem,hD,hY,hZ,gA,Pc.flat];try exact cq))
end Go.Abs
namespace Go.Abs
set_option maxRecDepth 8000
open Go.Proofs
theorem Pc.Vv (f:Pc):f.flat.length≤201:=lj _ _ _ _ (Nat.zero_le _) _
theorem ahw {p:Pg} (hs:Pc.a7 p.procs<4611686018427387000) (s:St):aF Tryz.prog zi [.agg (cD p)] s (.slice .shared 16 (p.all.map fL)) s:=by
 refine aF.pure ?_ (by simp only[D.bL,D.ok,jv];rfl) (by simp[D.ok,Tag.ok,EJ]) s
 have hlen:p.procs.length<4611686018427387904:=by have:=Pc.eJ p.procs;omega
 generalize hR:p.all=R
 unfold Pg.all at hR
 unfold S0
 refine aF.go JB rfl fun B Q hB hQ=>?_
 have⟨hD,hY,hZ,gA⟩:=bR
 repeat' (first
 |simp only[go_sem,hD,hY,hZ,gA]
 |(with_reducible refine aE hQ ?_;exact bd))
 refine bt.sm 3 16 rfl ?_
 simp only[go_sem,hD,hY,hZ,gA]
 refine fi 1 1 (bt.ind (ι:=List Pc×Nat×List It×Nat) (fun i=>p.procs.drop i.2.1=i.1∧allM i.2.2.1 i.1=R∧i.2.2.1.length≤200∧i.2.2.2=i.2.2.1.length) (fun i=>i.1.length)
  (fun i=> [(1, .ptr 0 0),(3, .slice (.tok 0) 16 (i.2.2.1.map fL)),(7, .slice .shared 5 (p.procs.map cu)),(8, .int .i64 (p.procs.length:Int)),(9, .int .i64 (i.2.1:Int))]) (fun i=>⟨[cD p],[some i.2.2.2]⟩) ?_ (p.procs,0,[],0) ⟨rfl,hR,Nat.zero_le _,rfl⟩)
 rintro⟨rest,k,out,n⟩ ⟨h1,h,h3,h4⟩ IH
 dsimp only at h1 h h3 h4
 subst h4
 cases rest with
 |nil=>
  have hD:=drop_nil h1
  simp only[allM]at h
  subst h
  repeat' (first
 |simp only[go_sem,hD,hY,hZ,gA]
 |(with_reducible refine aE hQ ?_;exact bd))
 |cons f rest=>
  obtain⟨hY,g2,hD,g4⟩:=drop_cons h1
  have bU:k<4611686018427387904:=by omega
  have hf:=Pc.dm (List.mem_of_getElem? hY)
  have hb:Sm.a7 f.body<4611686018427387000:=by simp only[Pc.size]at hf;omega
  have il:=fun s=>adp hb s
  have av6:=f.Vv
  have hZ:(out.length+f.flat.length)*233≤bC:=by unfold bC;omega
  simp only[allM,List.length_append]at h
  have eQ:=fun(o:List (List D))=>mH (size:=16) (bytes:=232) (t:=0) (rows:=out.map fL) (new:=f.flat.map fL) (g:= .shared) (s:=⟨o,[some out.length]⟩) (by simpa using hZ) (by simp)
  repeat' (first
 |simp only[go_sem,hD,hY,hZ,gA,eQ]
 |(with_reducible refine CU (il _) ?_)
 |(with_reducible first|refine bo fun hc=>?_|refine bp fun hc=>?_|refine bq (fun hc=>?_) fun hc=>?_)<;>(try simp only[hc,bs,↓reduceIte]at h)<;>try simp only[hc]
 |(with_reducible refine aE hQ ?_;(try cases h);simp only[aV,aX,bH,bI,go_sem,hD,hY,hZ,gA,eQ];try exact cq))
  refine eY 1 1 ?_ ?_ (IH (rest,k+1,out++f.flat,out.length+f.flat.length) ⟨g2,h,by rename_i hc;simp only[decide_eq_false_iff_not]at hc;simp only[List.length_append];omega,by simp⟩ (Nat.lt_succ_self _))
  ·(simp only[go_sem,hD,hY,hZ,gA,aI bU];try exact cj)
  ·(simp only[go_sem,hD,hY,hZ,gA,aI bU];try exact cj)
structure Pg.ug (p:Pg):Prop where
 sz:p.size<4611686018427387000
 ui : ∀ t∈p.globals,t.length<4611686018427387904
 nX : ∀ f∈p.procs,f.name.length<4611686018427387904∧(∀ t∈f.vars,t.length<4611686018427387904)∧(∀ t∈f.fin,t.length<4611686018427387904)∧∀ a∈f.params,a.name.length<4611686018427387904
 items : ∀ i∈p.all,i.s.ug
def gate (nest:Int) (len n:Nat) (r:Bool×Nat):Bool×Nat:=if decide (nest > 12) && decide ((len:Int) > 0)then(false,n)else r
mutual
def Sm.pU (nest:Int) (n:Nat):Sm→Bool×Nat
 |⟨id,kind,labels,name,proc,x,has,args,a8,aS⟩=>
  if decide (((n+1:Nat):Int) > 200) ||id != ((n+1:Nat):Int) || !(fc labels) || !(Sm.fields ⟨id,kind,labels,name,proc,x,has,args,a8,aS⟩)then(false,n+1)
  else if !(gate (nest+1) a8.length (n+1) (Sm.fk (nest+1) (n+1) a8)).1 then(false,(gate (nest+1) a8.length (n+1) (Sm.fk (nest+1) (n+1) a8)).2)
  else gate (nest+1) aS.length (gate (nest+1) a8.length (n+1) (Sm.fk (nest+1) (n+1) a8)).2 (Sm.fk (nest+1) (gate (nest+1) a8.length (n+1) (Sm.fk (nest+1) (n+1) a8)).2 aS)
def Sm.fk (nest:Int) (n:Nat):List Sm→Bool×Nat
 | []=>(true,n)
 |s::l=>if !(Sm.pU nest n s).1 then(false,(Sm.pU nest n s).2)else Sm.fk nest (Sm.pU nest n s).2 l
end
def Sm.gB (nest:Int) (n:Nat) (l:List Sm):Bool×Nat:=gate nest l.length n (Sm.fk nest n l)
theorem F1 (nest:Int) (n:Nat) (s:Sm):Sm.pU nest n s =
 if decide (((n+1:Nat):Int) > 200) ||s.id != ((n+1:Nat):Int) || !(fc s.labels) || !(s.fields)then(false,n+1)
 else if !(Sm.gB (nest+1) (n+1) s.a8).1 then(false,(Sm.gB (nest+1) (n+1) s.a8).2)
 else Sm.gB (nest+1) (Sm.gB (nest+1) (n+1) s.a8).2 s.aS:=by
 cases s;simp only[Sm.pU,Sm.gB];rfl
mutual
def Sm.wM:Sm→Prop
 |⟨id,kind,labels,name,proc,x,has,args,a8,aS⟩=>Sm.ug ⟨id,kind,labels,name,proc,x,has,args,a8,aS⟩∧Sm.ku a8∧Sm.ku aS
def Sm.ku:List Sm→Prop
 | []=>True
 |s::l=>s.wM∧Sm.ku l
end
theorem DF (s:Sm):s.wM↔s.ug∧Sm.ku s.a8∧Sm.ku s.aS:=by cases s;simp only[Sm.wM]
theorem EK {s:Sm} : ∀ {l:List Sm},Sm.ku l→s∈l→s.wM
 |y::l,h,m=>by
  simp only[Sm.ku]at h
  rcases List.mem_cons.1 m with rfl|m
  ·exact h.1
  ·exact EK h.2 m
mutual
theorem ZL (nest:Int) (n:Nat) : ∀ s:Sm,n≤201→(Sm.pU nest n s).2≤202∧((Sm.pU nest n s).1=true→(Sm.pU nest n s).2≤200)
 | ⟨id,kind,labels,name,proc,x,has,args,a8,aS⟩,hn=>by
  simp only[Sm.pU]
  split
  ·exact⟨by dsimp only;omega,fun h=>by cases h⟩
  rename_i hc
  simp only[Bool.or_eq_true,decide_eq_true_eq,not_or]at hc
  have vL:n+1≤200:=by omega
  have g1 : ∀ (nest:Int) (l:List Sm) (m:Nat),m≤200→(Sm.fk nest m l).2≤202∧((Sm.fk nest m l).1=true→(Sm.fk nest m l).2≤200)→
   (gate nest l.length m (Sm.fk nest m l)).2≤202∧((gate nest l.length m (Sm.fk nest m l)).1=true→(gate nest l.length m (Sm.fk nest m l)).2≤200):=by
   intro nest l m hm h
   unfold gate
   split
   ·exact⟨by dsimp only;omega,fun h=>by cases h⟩
   ·exact h
  have h1:=g1 (nest+1) a8 (n+1) vL (Cg (nest+1) (n+1) a8 vL)
  split
  ·exact⟨h1.1,fun h=>by cases h⟩
  rename_i Iy
  have h2:=h1.2 (by simpa using Iy)
  exact g1 (nest+1) aS _ h2 (Cg (nest+1) _ aS h2)
theorem Cg (nest:Int) (n:Nat) : ∀ l:List Sm,n≤200→(Sm.fk nest n l).2≤202∧((Sm.fk nest n l).1=true→(Sm.fk nest n l).2≤200)
 | [],hn=>by simp only[Sm.fk];exact⟨by omega,fun _=>hn⟩
 |s::l,hn=>by
  simp only[Sm.fk]
  have h1:=ZL nest n s (by omega)
  split
  ·exact⟨h1.1,fun h=>by cases h⟩
  rename_i hc
  exact Cg nest _ l (h1.2 (by simpa using hc))
end
theorem F2 {nest:Int} {n:Nat} {l:List Sm} (hn:n≤200):(Sm.gB nest n l).2≤202∧((Sm.gB nest n l).1=true→(Sm.gB nest n l).2≤200):=by
 unfold Sm.gB gate
 split
 ·exact⟨by dsimp only;omega,fun h=>by cases h⟩
 ·exact Cg nest n l hn
theorem ZM : ∀ (m:Nat) (l:List Sm),Sm.a7 l≤m→Sm.a7 l<4611686018427387000→Sm.ku l→∀ (nest:Int) (n:Nat),0≤nest→nest≤13→n≤200→
 aF Tryz.prog kq [.ptr 0 0, .slice .shared 13 (l.map bh), .int .i64 nest] ⟨[[.int .i64 n]],[]⟩ (.bool (Sm.gB nest n l).1) ⟨[[.int .i64 (Sm.gB nest n l).2]],[]⟩:=by
 intro m
 induction m with
 | zero=>
  intro l h hs hf nest n h0 h13 hn
  cases l with
  |nil=>
   have d1:decide ((0:Int) > 0)=false:=rfl
   have e:Sm.gB nest n [] = (true,n):=by simp[Sm.gB,gate,Sm.fk]
   have z:decide ((0:Int)<0)=false:=rfl
   rw[e]
   refine aF.go rE rfl fun B Q hB hQ=>?_
   have⟨hD,hY,hZ,gA⟩:=bR
   repeat' (first
 |simp only[go_sem,hD,hY,hZ,gA,d1,z]
 |(with_reducible refine bt.kR ?_)
 |(with_reducible first|refine bo fun hc=>?_|refine bp fun hc=>?_|refine bq (fun hc=>?_) fun hc=>?_)<;>(try simp only[hc,bs,↓reduceIte]at h)<;>try simp only[hc]
 |(with_reducible refine aE hQ ?_;exact bd))
  |cons s l=>simp only[Sm.a7]at h;omega
 |succ m ih=>
  intro l h hs hf nest n h0 h13 hn
  generalize hR:Sm.gB nest n l=R
  have hlen:=Sm.eJ l
  unfold Sm.gB gate at hR
  have h:=hR
  refine aF.go rE rfl fun B Q hB hQ=>?_
  have⟨hD,hY,hZ,gA⟩:=bR
  repeat' (first
 |simp only[go_sem,hD,hY,hZ,gA]
 |(with_reducible first|refine bo fun hc=>?_|refine bp fun hc=>?_|refine bq (fun hc=>?_) fun hc=>?_)<;>(try simp only[hc,bs,↓reduceIte]at h)<;>try simp only[hc]
 | (with_reducible refine aE hQ ?_;(try cases h);simp only [aV,aX,bH,bI,go_sem,hD,hY,hZ,gA];repeat' (first | exact Ok.out | with_reducible refine iZ ?_ ?_ | (simp;done))))
  all_goals
   have ahx:l≠ []→nest≤12:=by
    intro eO
    have:l.length≠0:=by simpa using eO
    simp_all<;>omega
   refine fi 1 0 (bt.ind (ι:=List Sm×Nat×Nat) (fun i=>l.drop i.2.1=i.1∧Sm.fk nest i.2.2 i.1=R∧i.2.2≤200) (fun i=>i.1.length)
    (fun i=> [(0, .ptr 0 0),(2, .int .i64 nest),(16, .slice .shared 13 (l.map bh)),(17, .int .i64 (l.length:Int)),(18, .int .i64 (i.2.1:Int))]) (fun i=>⟨[[.int .i64 (i.2.2:Int)]],[]⟩) ?_ (l,0,n) ⟨rfl,h,hn⟩)
   rintro⟨rest,k,j⟩ ⟨h1,h,hj⟩ IH
   dsimp only at h1 h hj
   cases rest with
   |nil=>
    have hD:=drop_nil h1
    simp only[Sm.fk]at h
    repeat' (first
 |simp only[go_sem,hD,hY,hZ,gA]
 |(with_reducible first|refine bo fun hc=>?_|refine bp fun hc=>?_|refine bq (fun hc=>?_) fun hc=>?_)<;>(try simp only[hc,bs,↓reduceIte]at h)<;>try simp only[hc]
 | (with_reducible refine aE hQ ?_;exact fV))
   | cons s rest=>
    obtain⟨hY,g2,hD,g4⟩:=drop_cons h1
    have hZ:k<4611686018427387904:=by omega
    have gE:=List.mem_of_getElem? hY
    have dO:=Sm.dm gE
    have av7:=ahx (by rintro rfl;simp at gE)
    obtain⟨Eb,hft,hfe⟩:=(DF s).1 (EK hf gE)
    have TF:Sm.a7 s.a8<s.size∧Sm.a7 s.aS<s.size:=by cases s;simp only[Sm.size];omega
    have w1:IntKind.wrap .i64 ((j:Int)+1)=((j+1:Nat):Int):=by rw[ek]<;>omega
    have w2:IntKind.wrap .i64 (nest+1)=nest+1:=ek (by omega) (by omega)
    have c1:=fun s=>zw Eb.anT Eb.XU s
    have c2:=fun s=>Vo Eb s
    simp only[Sm.fk,F1]at h
    by_cases RT:j+1≤200
    ·have r1:=F2 (nest:=nest+1) (l:=s.a8) RT
     have c3:=fun s' ho=>(ih s.a8 (by omega) (by omega) hft (nest+1) (j+1) (by omega) (by omega) RT).TL (s:=s') (o:=0) (by simp[D.bL,D.ok,pD,Tag.ok]) rfl rfl rfl ho
     by_cases wD:(Sm.gB (nest+1) (j+1) s.a8).1=true
     ·have c4:=fun s' ho=>(ih s.aS (by omega) (by omega) hfe (nest+1) _ (by omega) (by omega) (r1.2 wD)).TL (s:=s') (o:=0) (by simp [D.bL,D.ok,pD,Tag.ok]) rfl rfl rfl ho
      have r2:=F2 (nest:=nest+1) (l:=s.aS) (r1.2 wD)
      simp only[wD]at c3
      simp only[wD,Bool.not_true,Bool.false_eq_true,↓reduceIte]at h
      repeat' (first
 |simp only[go_sem,hD,hY,hZ,gA,w1,w2,wD]
 |(with_reducible refine CU (c1 _) ?_)
 |(with_reducible refine CU (c2 _) ?_)
 |(with_reducible refine CU (c3 _ rfl) ?_)
 |(with_reducible refine CU (c4 _ rfl) ?_)
 |(with_reducible first|refine bo fun hc=>?_|refine bp fun hc=>?_|refine bq (fun hc=>?_) fun hc=>?_)<;>(try simp only[hc,bs,↓reduceIte]at h)<;>try simp only[hc]
 |(with_reducible refine aE hQ ?_;(try cases h);simp only[aV,aX,bH,bI,go_sem,hD,hY,hZ,gA,w1,w2,wD];try exact cq))
      refine fi 1 0 (IH (rest,k+1,(Sm.gB (nest+1) (Sm.gB (nest+1) (j+1) s.a8).2 s.aS).2) ⟨g2,h,r2.2 (by assumption)⟩ (Nat.lt_succ_self _))
     ·have wD:(Sm.gB (nest+1) (j+1) s.a8).1=false:=by simpa using wD
      simp only[wD]at c3
      simp only[wD,Bool.not_false,↓reduceIte]at h
      repeat' (first
 |simp only[go_sem,hD,hY,hZ,gA,w1,w2,wD]
 |(with_reducible refine CU (c1 _) ?_)
 |(with_reducible refine CU (c2 _) ?_)
 |(with_reducible refine CU (c3 _ rfl) ?_)
 |(with_reducible first|refine bo fun hc=>?_|refine bp fun hc=>?_|refine bq (fun hc=>?_) fun hc=>?_)<;>(try simp only[hc,bs,↓reduceIte]at h)<;>try simp only[hc]
 | (with_reducible refine aE hQ ?_;(try cases h);simp only [aV,aX,bH,bI,go_sem,hD,hY,hZ,gA,w1,w2,wD];try exact cq))
    ·have d1:decide (((j+1:Nat):Int) > 200)=true:=by simp;omega
     simp only[d1,Bool.true_or,Bool.not_false,↓reduceIte]at h
     repeat' (first
 |simp only[go_sem,hD,hY,hZ,gA,w1,w2,d1]
 |(with_reducible refine CU (c1 _) ?_)
 |(with_reducible refine CU (c2 _) ?_)
 |(with_reducible first|refine bo fun hc=>?_|refine bp fun hc=>?_|refine bq (fun hc=>?_) fun hc=>?_)<;>(try simp only[hc,bs,↓reduceIte]at h)<;>try simp only[hc]
 |(with_reducible refine aE hQ ?_;(try cases h);simp only[aV,aX,bH,bI,go_sem,hD,hY,hZ,gA,w1,w2,d1];try exact cq))
def Pc.fk (n:Nat):List Pc→Bool
 | []=>true
 |f::l=>
  if decide ((f.params.length:Int) > 8) ||decide ((f.vars.length:Int) > 16) || !(isName f.name) || !(fc f.vars) || !(fc f.fin)then false
  else if !(Pm.fN f.params)then false
  else if !(Sm.gB 1 n f.body).1 then false
  else Pc.fk (Sm.gB 1 n f.body).2 l
def Pg.F3 (p:Pg):Bool:=
 if decide ((p.globals.length:Int) > 16) ||decide ((p.procs.length:Int) > 16) || !(fc p.globals)then false
 else Pc.fk 0 p.procs
structure Pg.Ib (p:Pg):Prop where
 sz:p.size<4611686018427387000
 ui : ∀ t∈p.globals,t.length<4611686018427387904
 nX : ∀ f∈p.procs,f.name.length<4611686018427387904∧(∀ t∈f.vars,t.length<4611686018427387904)∧(∀ t∈f.fin,t.length<4611686018427387904)∧∀ a∈f.params,a.name.length<4611686018427387904
 body : ∀ f∈p.procs,Sm.ku f.body
theorem JL {p:Pg} (hf:p.Ib) (s:St):aF Tryz.prog rn [.agg (cD p)] s (.bool p.F3) s:=by
 refine aF.pure ?_ (by simp only[D.bL,D.ok,jv];rfl) rfl s
 obtain⟨dO,rI,adq,B6⟩:=hf
 have rJ:Pc.a7 p.procs<4611686018427387000:=by simp only[Pg.size]at dO;omega
 have ahy:p.globals.length<4611686018427387904:=by simp only[Pg.size]at dO;omega
 have avW:p.procs.length<4611686018427387904:=by have:=Pc.eJ p.procs;omega
 have hg:=fun s=>zw ahy rI s
 unfold S0
 generalize h:p.F3=R
 unfold Pg.F3 at h
 refine aF.go Jz rfl fun B Q hB hQ=>?_
 have⟨hD,hY,hZ,gA⟩:=bR
 repeat' (first
 |simp only[go_sem,hD,hY,hZ,gA]
 |(with_reducible refine CU (hg _) ?_)
 |(with_reducible first|refine bo fun hc=>?_|refine bp fun hc=>?_|refine bq (fun hc=>?_) fun hc=>?_)<;>(try simp only[hc,bs,↓reduceIte]at h)<;>try simp only[hc]
 |(with_reducible refine aE hQ ?_;exact fV))
 refine fi 2 0 (bt.ind (ι:=List Pc×Nat×Nat) (fun i=>p.procs.drop i.2.1=i.1∧Pc.fk i.2.2 i.1=R∧i.2.2≤200) (fun i=>i.1.length)
  (fun i=> [(1, .ptr 0 0),(3, .ptr 1 0),(27, .slice .shared 5 (p.procs.map cu)),(28, .int .i64 (p.procs.length:Int)),(29, .int .i64 (i.2.1:Int))]) (fun i=>⟨[cD p,[.int .i64 (i.2.2:Int)]],[]⟩) ?_ (p.procs,0,0) ⟨rfl,h,Nat.zero_le _⟩)
 rintro⟨rest,k,n⟩ ⟨h1,h,hn⟩ IH
 dsimp only at h1 h hn
 cases rest with
 |nil=>
  have hD:=drop_nil h1
  simp only[Pc.fk]at h
  repeat' (first
 |simp only[go_sem,hD,hY,hZ,gA]
 |(with_reducible first|refine bo fun hc=>?_|refine bp fun hc=>?_|refine bq (fun hc=>?_) fun hc=>?_)<;>(try simp only[hc,bs,↓reduceIte]at h)<;>try simp only[hc]
 |(with_reducible refine aE hQ ?_;exact fV))
 |cons f rest=>
  obtain⟨hY,g2,hD,g4⟩:=drop_cons h1
  have bU:k<4611686018427387904:=by omega
  have gE:=List.mem_of_getElem? hY
  have Aq:=Pc.dm gE
  simp only[Pc.size]at Aq
  obtain⟨As,hfv,hff,hfp⟩:=adq f gE
  have hnm:=By f.name As
  have hv:=fun s=>zw (by omega) hfv s
  have he:=fun s=>zw (by omega) hff s
  have hb:=fun s' o ho=>(ZM _ f.body (Nat.le_refl _) (by omega) (B6 f gE) 1 n (by omega) (by omega) hn).TL (s:=s') (o:=o) (by simp[D.bL,D.ok,pD,Tag.ok]) rfl rfl rfl ho
  have hle:=F2 (nest:=1) (l:=f.body) hn
  simp only[Pc.fk]at h
  repeat' (first
 |simp only[go_sem,hD,hY,hZ,gA]
 |(with_reducible refine CU (hnm _) ?_)
 |(with_reducible refine CU (hv _) ?_)
 |(with_reducible refine CU (he _) ?_)
 |(with_reducible first|refine bo fun hc=>?_|refine bp fun hc=>?_|refine bq (fun hc=>?_) fun hc=>?_)<;>(try simp only[hc,bs,↓reduceIte]at h)<;>try simp only[hc]
 |(with_reducible refine aE hQ ?_;exact fV)
 | (cases h;done))
  refine fi 3 0 (bt.ind (ι:=List Pm×Nat) (fun i=>f.params.drop i.2=i.1∧(if !(Pm.fN i.1)then false else if !(Sm.gB 1 n f.body).1 then false else Pc.fk (Sm.gB 1 n f.body).2 rest)=R) (fun i=>i.1.length)
   (fun i=> [(1, .ptr 0 0),(3, .ptr 1 0),(5, .ptr 2 0),(27, .slice .shared 5 (p.procs.map cu)),(28, .int .i64 (p.procs.length:Int)),(29, .int .i64 (k:Int)),(62, .slice .shared 2 (f.params.map iH)),(63, .int .i64 (f.params.length:Int)),(64, .int .i64 (i.2:Int))]) (fun i=>⟨[cD p,[.int .i64 (n:Int)],cu f],[]⟩) ?_ (f.params,0) ⟨rfl,h⟩)
  rintro⟨Pe,j⟩ ⟨j1,h⟩ EL
  dsimp only at j1 h
  cases Pe with
  |nil=>
   have hD:=drop_nil j1
   simp only[Pm.fN,Bool.not_true,Bool.false_eq_true,↓reduceIte]at h
   repeat' (first
 |simp only[go_sem,hD,hY,hZ,gA]
 |(with_reducible refine CU (hb _ _ rfl) ?_)
 |(with_reducible first|refine bo fun hc=>?_|refine bp fun hc=>?_|refine bq (fun hc=>?_) fun hc=>?_)<;>(try simp only[hc,bs,↓reduceIte]at h)<;>try simp only[hc]
 |(with_reducible refine aE hQ ?_;exact fV)
 | (cases h;done))
   refine eY 2 0 ?_ ?_ (IH (rest,k+1,(Sm.gB 1 n f.body).2) ⟨g2,h,hle.2 (by assumption)⟩ (Nat.lt_succ_self _))
   ·(simp only[go_sem,hD,hY,hZ,gA,aI bU];try exact cj)
   ·(simp only[go_sem,hD,hY,hZ,gA,aI bU];try exact cj)
  |cons a Pe=>
   obtain⟨hY,b2,hD,b4⟩:=drop_cons j1
   have RT:j<4611686018427387904:=by omega
   have ha:=By a.name (hfp a (List.mem_of_getElem? hY))
   simp only[Pm.fN]at h
   repeat' (first
 |simp only[go_sem,hD,hY,hZ,gA]
 |(with_reducible refine CU (ha _) ?_)
 |(with_reducible first|refine bo fun hc=>?_|refine bp fun hc=>?_|refine bq (fun hc=>?_) fun hc=>?_)<;>(try simp only[hc,bs,↓reduceIte]at h)<;>try simp only[hc]
 |(with_reducible refine aE hQ ?_;exact fV)
 | (cases h;done))
   refine eY 3 0 ?_ ?_ (EL (Pe,j+1) ⟨b2,h⟩ (Nat.lt_succ_self _))
   ·(simp only[go_sem,hD,hY,hZ,gA,aI RT];try exact cj)
   ·(simp only[go_sem,hD,hY,hZ,gA,aI RT];try exact cj)
theorem zA {s:aG} (h:isName s=true):s.length≤8:=by
 cases s with
 |nil=>simp
 | cons c r=>
  simp only[isName]at h
  split at h
  ·cases h
  ·rename_i hc
   simp only[Bool.or_eq_true,decide_eq_true_eq,not_or]at hc
   simp only[List.length_cons];omega
theorem pg {t:aG} : ∀ {l:List aG},fc l=true→t∈l→isName t=true
 | s::l,h,m=>by
  simp only[fc]at h
  cases hs:isName s
  ·simp[hs]at h
  ·simp [hs]at h
   rcases List.mem_cons.1 m with rfl|m
   ·exact hs
   ·exact pg h m
theorem JM {a:Ar} : ∀ {l:List Ar},Ar.fN l=true→a∈l→a.may=true
 | s::l,h,m=>by
  simp only[Ar.fN]at h
  cases hs:s.may
  ·simp[hs]at h
  ·simp [hs]at h
   rcases List.mem_cons.1 m with rfl|m
   ·exact hs
   ·exact JM h m
theorem GQ {a:Pm} : ∀ {l:List Pm},Pm.fN l=true→a∈l→isName a.name=true
 | s::l,h,m=>by
  simp only[Pm.fN]at h
  cases hs:isName s.name
  ·simp[hs]at h
  ·simp [hs]at h
   rcases List.mem_cons.1 m with rfl|m
   ·exact hs
   ·exact GQ h m
mutual
theorem EM : ∀ x:Ex,x.form=true→x.texts
 | ⟨op,n,name,kids⟩,h=>by
  simp only[Ex.form]at h
  split at h
  ·cases h
  ·rename_i hc
   refine⟨?_,C5 kids h⟩
   simp only[Bool.or_eq_true,Bool.and_eq_true,Bool.not_eq_true',not_or,not_and,Bool.not_eq_false]at hc
   cases hn:(name == [])
   ·have:=zA (hc.2 hn);omega
   ·simp at hn;subst hn;simp
theorem C5 : ∀ l:List Ex,Ex.sP l=true→Ex.vH l
 | [],_=>trivial
 | x::l,h=>by
  simp only[Ex.sP]at h
  cases hx:x.form
  ·simp[hx]at h
  ·simp [hx]at h
   exact⟨EM x hx,C5 l h⟩
end
theorem GR {x:Ex} (h:x.may=true):x.texts:=by
 unfold Ex.may at h
 simp only[Bool.and_eq_true]at h
 exact EM x h.2
theorem EN {x:Ex} (h:x.none=true):x.texts:=by
 obtain⟨op,n,name,kids⟩:=x
 simp[Ex.none]at h
 obtain⟨⟨_,h1⟩,h2⟩:=h
 subst h1 h2
 exact⟨by simp,trivial⟩
mutual
theorem RU {deep cy:Int} {aS:Bool} {out:List It} {i:It} : ∀ s:Sm,i∈iS deep cy aS out s→i∈out∨i.s.size≤s.size
 | ⟨id,kind,labels,name,proc,x,has,args,a8,e⟩,h=>by
  simp only[iS]at h
  have key:i∈out++ [(⟨⟨id,kind,labels,name,proc,x,has,args,a8,e⟩,deep,cy,aS⟩:It)]→i∈out∨i.s.size≤(⟨id,kind,labels,name,proc,x,has,args,a8,e⟩:Sm).size:=by
   intro h
   rcases List.mem_append.1 h with h|h
   ·exact .inl h
   ·simp at h;subst h;exact .inr (Nat.le_refl _)
  split at h
  ·rcases wN e h with h | h
   ·rcases wN a8 h with h | h
    ·exact key h
    ·right;simp only[Sm.size];omega
   ·right;simp only[Sm.size];omega
  ·exact key h
theorem wN {deep cy:Int} {aS:Bool} {out:List It} {i:It} : ∀ l:List Sm,i∈dQ deep cy aS out l→i∈out∨i.s.size<Sm.a7 l
 | [],h=>by simp only[dQ]at h;exact .inl h
 | s::l,h=>by
  simp only[dQ]at h
  split at h
  ·rcases wN l h with h | h
   ·rcases RU s h with h | h
    ·exact .inl h
    ·right;simp only[Sm.a7];omega
   ·right;simp only[Sm.a7];omega
  ·exact .inl h
end
theorem JN {i:It} : ∀ (l:List Pc) (out:List It),i∈allM out l→i∈out∨i.s.size<Pc.a7 l
 | [],out,h=>by simp only[allM]at h;exact .inl h
 | f::l,out,h=>by
  have key:i∈out++f.flat→i∈out∨i.s.size<Pc.a7 (f::l):=by
   intro h
   rcases List.mem_append.1 h with h|h
   ·exact .inl h
   ·rcases wN _ h with h | h
    ·simp at h
    ·right;simp only[Pc.a7,Pc.size];omega
  simp only[allM]at h
  split at h
  ·exact key h
  ·rcases JN l _ h with h | h
   ·exact key h
   ·right;simp only[Pc.a7];omega
theorem EO {i:It} : ∀ (l:List It) (n:Nat),It.fN n l=true→i∈l→i.s.one=true
 | s::l,n,h,m=>by
  simp only[It.fN]at h
  split at h
  ·cases h
  ·rename_i hc
   simp only[Bool.or_eq_true,Bool.not_eq_true',not_or,Bool.not_eq_false]at hc
   rcases List.mem_cons.1 m with rfl|m
   ·exact hc.2
   ·exact EO l (n+1) h m
theorem JO {s:Sm} (h:s.one=true) (hs:s.size<4611686018427387000):s.ug:=by
 unfold Sm.one at h
 split at h
 ·cases h
 split at h
 ·cases h
 split at h
 ·cases h
 split at h
 ·cases h
 rename_i c1 c2 c3 c4
 simp only[Bool.or_eq_true,Bool.and_eq_true,Bool.not_eq_true',not_or,not_and,Bool.not_eq_false,decide_eq_true_eq]at c1 c2 c3 c4
 obtain⟨⟨⟨⟨⟨_,_⟩,anY⟩,cx⟩,cn⟩,_⟩:=c1
 obtain⟨c21,c22⟩:=c2
 obtain⟨⟨c31,c32⟩,c33⟩:=c3
 have nm : ∀ {t:aG},isName t=true→t.length<4611686018427387904:=fun h=>by have:=zA h;omega
 have dO:1+s.labels.length+s.x.size+Ar.a7 s.args≤s.size:=by cases s;simp only[Sm.size];omega
 have yi:=Ar.eJ s.args
 refine⟨fun t ht=>nm (pg anY ht),by omega, ?_, ?_,by omega, ?_,by omega,fun a ha=>?_⟩
 ·cases hn:s.hasName
  ·cases he:(s.name == [])
   ·exact nm (c22 ⟨hn,he⟩).2
   ·simp at he;rw[he];simp
  ·exact nm (c21 hn)
 ·cases oK:s.yy
  ·rw [oK]at c31
   have:s.proc = []:=by simpa using c31
   rw[this];simp
  ·exact nm (c32 oK)
 ·cases hx:s.O7
  ·exact EN (cn hx)
  ·exact GR (cx hx)
 ·have hm:=JM c4 ha
  have X1:=Ar.dm ha
  unfold Ar.may at hm
  split at hm
  ·simp only [Bool.and_eq_true]at hm
   exact⟨by omega,EN hm.2,nm hm.1⟩
  ·simp only [Bool.and_eq_true,beq_iff_eq]at hm
   exact⟨by omega,GR hm.2,by rw[hm.1];simp⟩
theorem GU {f:Pc} : ∀ {l:List Pc},Pc.nX l=true→f∈l→isName f.name=true∧fc f.vars=true∧fc f.fin=true∧Pm.fN f.params=true
 |s::l,h,m=>by
  simp only[Pc.nX]at h
  split at h
  ·cases h
  split at h
  ·cases h
  rename_i c1 c2
  simp only[Bool.or_eq_true,Bool.not_eq_true',not_or,Bool.not_eq_false]at c1 c2
  rcases List.mem_cons.1 m with rfl|m
  ·exact⟨c1.1.1.1.1,c1.1.2,c1.2,c2⟩
  ·exact GU h m
theorem Vw {p:Pg} (h:p.may=true) (hs:p.size<4611686018427387000):p.ug:=by
 unfold Pg.may at h
 split at h
 ·cases h
 split at h
 ·cases h
 split at h
 ·cases h
 rename_i c1 c2 c3
 simp only[Bool.or_eq_true,Bool.not_eq_true',not_or,Bool.not_eq_false]at c1 c2
 have nm : ∀ {t:aG},isName t=true→t.length<4611686018427387904:=fun h=>by have:=zA h;omega
 refine⟨hs,fun t ht=>nm (pg c1.2 ht),fun f hf=>?_,fun i hi=>?_⟩
 ·obtain⟨a,b,c,d⟩:=GU c2 hf
  exact⟨nm a,fun t ht=>nm (pg b ht),fun t ht=>nm (pg c ht),fun t ht=>nm (GQ d ht)⟩
 ·refine JO (EO _ _ h hi) ?_
  rcases JN _ _ hi with h1|h1
  ·simp at h1
  ·simp only[Pg.size]at hs;omega
theorem RV {t:aG} (h:isName t=true):t≠ []:=by rintro rfl;cases h
theorem Vx (op n:Int) (name:aG) (kids:List Ex):Ex.form ⟨op,n,name,kids⟩=true↔
 oh op=(kids.length:Int)∧(op=1∨n=0)∧0≤n∧(op=2↔name≠ [])∧(name = []∨isName name=true)∧Ex.sP kids=true:=by
 simp only[Ex.form]
 split
 ·rename_i h
  simp only[Bool.or_eq_true,Bool.and_eq_true,bne_iff_ne,ne_eq,decide_eq_true_eq,Bool.not_eq_true']at h
  refine⟨fun h=>(Bool.false_ne_true h).elim,fun⟨h1,h2,h3,h4,h5,_⟩=>?_⟩
  exfalso
  rcases h with (((h|h)|h)|h)|h
  ·exact h h1
  ·rcases h2 with h2 | h2
   ·exact h.1 h2
   ·exact h.2 h2
  ·omega
  ·by_cases h2:op=2<;>cases name<;>simp_all
  ·rcases h5 with h5 | h5
   ·subst h5;simp at h
   ·rw[h5]at h;simp at h
 ·rename_i h
  simp only[Bool.or_eq_true,Bool.and_eq_true,bne_iff_ne,ne_eq,decide_eq_true_eq,Bool.not_eq_true',not_or,not_and,Decidable.not_not,Bool.not_eq_false]at h
  obtain⟨⟨⟨⟨h1,h2⟩,h3⟩,h4⟩,h5⟩:=h
  refine⟨fun h=>⟨h1, ?_,by omega, ?_, ?_,h⟩,fun h=>h.2.2.2.2.2⟩
  ·by_cases h:op=1
   ·exact .inl h
   ·exact .inr (h2 h)
  ·by_cases h2:op=2<;>cases name<;>simp_all
  ·cases name with
   |nil=>exact .inl rfl
   |cons c r=>exact .inr (h5 rfl)
theorem JP (op n:Int) (name:aG) (kids:List Ex) (k:Int):Ex.dp k ⟨op,n,name,kids⟩=true↔
 1≤k∧(kids.length:Int)=oh op∧(if op=1 then 0≤n∧name = []else if op=2 then n=0∧isName name=true else n=0∧name = []∧Ex.Bz (k - 1) kids=true):=by
 simp only[Ex.dp]
 split
 ·rename_i h
  simp only[Bool.or_eq_true,decide_eq_true_eq,bne_iff_ne,ne_eq]at h
  refine⟨fun h=>(Bool.false_ne_true h).elim,fun⟨h1,h2,_⟩=>?_⟩
  rcases h with h|h
  ·omega
  ·exact(h h2).elim
 rename_i h
 simp only[Bool.or_eq_true,decide_eq_true_eq,bne_iff_ne,ne_eq,not_or,Decidable.not_not]at h
 have h1:1≤k:=by omega
 simp only[h1,h.2,true_and]
 by_cases o1:op=1
 ·subst o1
  cases name<;>simp
 ·have o1' : ¬ (op==1)=true:=by simpa using o1
  rw[if_neg o1',if_neg o1]
  by_cases o2:op=2
  ·subst o2;simp
  ·have o2' : ¬ (op==2)=true:=by simpa using o2
   rw[if_neg o2',if_neg o2]
   by_cases hn:n=0
   ·subst hn
    cases name<;>simp
   ·simp[hn]
mutual
theorem X2 : ∀ (x:Ex) (k:Int),0≤k→(x.dp k=true↔(x.depth:Int)≤k∧x.form=true)
 | ⟨op,n,name,kids⟩,k,hk=>by
  rw[JP,Vx]
  have hd:Ex.depth ⟨op,n,name,kids⟩=Ex.p8 kids+1:=by simp only[Ex.depth]
  rw[hd]
  by_cases h1:1≤k
  ·have ih:=RW kids (k - 1) (by omega)
   by_cases o1:op=1
   ·subst o1
    have ha:oh 1=0:=rfl
    rw[ha,if_pos rfl]
    constructor
    ·rintro⟨_,h2,h3,h4⟩
     have:kids = []:=List.eq_nil_of_length_eq_zero (by omega)
     subst this;subst h4
     simp[Ex.p8,Ex.sP,h3];omega
    ·rintro⟨h2,h3,_,h4,h5,_⟩
     refine⟨h1,h3.symm,h4, ?_⟩
     cases name
     ·rfl
     ·simp at h5
   ·rw [if_neg o1]
    by_cases o2:op=2
    ·subst o2
     have ha:oh 2=0:=rfl
     rw[ha,if_pos rfl]
     constructor
     ·rintro⟨_,h2,h3,h4⟩
      have:kids = []:=List.eq_nil_of_length_eq_zero (by omega)
      subst this;subst h3
      have:=RV h4
      simp[Ex.p8,Ex.sP,h4,this];omega
     ·rintro⟨h2,h3,h4,_,h5,h6,_⟩
      refine⟨h1,h3.symm,h4.resolve_left o1, ?_⟩
      exact h6.resolve_left (h5.1 rfl)
    ·rw [if_neg o2,ih]
     constructor
     ·rintro⟨_,h2,h3,h4,h5,h6⟩
      subst h3;subst h4
      exact⟨by omega,h2.symm, .inr rfl,Int.le_refl _,by simp[o2], .inl rfl,h6⟩
     ·rintro⟨h2,h3,h4,_,h5,h6,h7⟩
      refine⟨h1,h3.symm,h4.resolve_left o1, ?_,by omega,h7⟩
      exact Decidable.byContradiction fun h=>o2 (h5.2 h)
  ·constructor
   ·rintro⟨h,_⟩;exact(h1 h).elim
   ·rintro⟨h,_⟩;omega
theorem RW : ∀ (l:List Ex) (k:Int),0≤k→(Ex.Bz k l=true↔(Ex.p8 l:Int)≤k∧Ex.sP l=true)
 | [],k,hk=>by simp[Ex.Bz,Ex.p8,Ex.sP,hk]
 | x::l,k,hk=>by
  have h1:=X2 x k hk
  have h2:=RW l k hk
  have hd:Ex.p8 (x::l)=max x.depth (Ex.p8 l):=by simp only[Ex.p8]
  rw[hd]
  simp only[Ex.Bz,Ex.sP]
  cases hx:Ex.dp k x
  ·simp only [Bool.not_false, ↓reduceIte,Bool.false_eq_true,false_iff,not_and]
   intro h3
   have : ¬ ((x.depth:Int)≤k∧x.form=true):=by rw[← h1,hx];simp
   have hf:x.form=false:=by
    cases hf:x.form
    ·rfl
    ·exact(this ⟨by omega,hf⟩).elim
   simp[hf]
  ·have:=h1.1 hx
   simp only[Bool.not_true,Bool.false_eq_true,↓reduceIte,this.2,h2]
   have h3:=this.1
   refine and_congr_left fun _=>?_
   omega
end
theorem EP (x:Ex):x.dp 20=x.may:=by
 rw[Bool.eq_iff_iff,X2 x 20 (by omega)]
 unfold Ex.may
 simp only[Bool.and_eq_true,decide_eq_true_eq]
 refine and_congr_left fun _=>?_
 omega
theorem GV (x:Ex) (b:Bool):vK x b=if b then x.may else x.none:=by
 unfold vK
 rw[EP]
 cases b<;>simp
theorem GX (t:aG) (b:Bool):tt t b=if b then isName t else t == []:=by
 unfold tt
 cases b<;>simp
theorem C6 : ∀ l:List Ar,pF l=Ar.fN l
 | []=>rfl
 |a::l=>by
  simp only[pF,Ar.fN,Ar.may,GV,GX,C6 l]
  grind
theorem FD {α:Type} (l:List α):((l.length:Int)==0) = !(decide ((l.length:Int) > 0)):=by
 cases l with
 |nil=>rfl
 |cons a l=>
  have h1:(((a::l).length:Int)==0)=false:=by simp only[List.length_cons,beq_eq_false_iff_ne];omega
  have h2:decide (((a::l).length:Int) > 0)=true:=by simp only[List.length_cons,decide_eq_true_eq];omega
  rw[h1,h2];rfl
theorem ER (s:Sm):s.one=(fc s.labels && s.fields):=by
 have hk:s.kind=1∨s.kind=2∨s.kind=3∨s.kind=4∨s.kind=5∨s.kind=6∨s.kind=7∨s.kind=8∨s.kind=9∨s.kind=10∨s.kind<1∨s.kind > 10:=by omega
 unfold Sm.one Sm.fields Sm.flags Sm.O7 Sm.hasName Sm.yy
 have p1:isName [] = false:=rfl
 rcases hk with h|h|h|h|h|h|h|h|h|h|h|h
 all_goals
  simp only[h,FD,C6,GV,GX,Sm.Ia,Sm.H9]
  grind
mutual
def Ex.mK (out:List aG):Ex→List aG
 |⟨op,_,name,kids⟩=>Ex.lP (if op==2 && !(fw out name)then out++ [name]else out) kids
def Ex.lP (out:List aG):List Ex→List aG
 | []=>out
 |x::l=>Ex.lP (Ex.mK out x) l
end
def Ex.names (x:Ex):List aG:=if x.may then x.mK []else []
mutual
theorem sv (out:List aG) : ∀ x:Ex,(Ex.mK out x).length≤out.length+x.size
 |⟨op,n,name,kids⟩=>by
  simp only[Ex.mK,Ex.size]
  have h:=GY (if op==2 && !(fw out name)then out++ [name]else out) kids
  refine Nat.le_trans h ?_
  split<;>simp<;>omega
theorem GY (out:List aG) : ∀ l:List Ex,(Ex.lP out l).length≤out.length+Ex.a7 l
 | []=>by simp[Ex.lP,Ex.a7]
 |x::l=>by
  simp only[Ex.lP,Ex.a7]
  have h1:=sv out x
  have h2:=GY (Ex.mK out x) l
  omega
end
def Ch (out:List aG) (x:aG):List aG:=if fw out x then out else out++ [x]
def ahz (x:aG):List aG→Bool
 | []=>false
 |s::l=>if s==x then true else ahz x l
abbrev RX (N:Nat):Prop:=∀ (x:Ex),x.size≤N→∀ out:List aG,out.length+x.size≤1000000000→∀ {s:St} {t:Nat},s.aw[t]? = some (some out.length)→
 aF Tryz.prog iR [.agg (cd x), .slice (.tok t) 1 (out.map encStr)] s (.slice (.tok t) 1 ((x.mK out).map encStr)) ⟨s.ah,s.aw.set t (some (x.mK out).length)⟩
theorem adt {N:Nat} (ih:RX N) {op m:Int} {name:aG} {kids:List Ex} (h:Ex.size ⟨op,m,name,kids⟩≤N+1) {out:List aG} (ho:out.length+Ex.size ⟨op,m,name,kids⟩≤1000000000) :
 aF Tryz.prog iR [.agg (cd ⟨op,m,name,kids⟩), .slice (.tok 0) 1 (out.map encStr)] ⟨[],[some out.length]⟩ (.slice (.tok 0) 1 ((Ex.mK out ⟨op,m,name,kids⟩).map encStr)) ⟨[],[some (Ex.mK out ⟨op,m,name,kids⟩).length]⟩:=by
 obtain⟨R,hG⟩ : ∃ R,Ex.mK out ⟨op,m,name,kids⟩=R:=⟨_,rfl⟩
 rw[hG]
 simp only[Ex.mK]at hG
 simp only[Ex.size]at h ho
 have hlen:kids.length<1000000000:=by have:=Ex.eJ kids;omega
 have hk : ∀ y∈kids,∀ out:List aG,out.length+y.size≤1000000000→∀ {s:St} {t:Nat},s.aw[t]? = some (some out.length)→
  aF Tryz.prog iR [.agg (cd y), .slice (.tok t) 1 (out.map encStr)] s (.slice (.tok t) 1 ((y.mK out).map encStr)) ⟨s.ah,s.aw.set t (some (y.mK out).length)⟩:=fun y hy out ho=>
  ih y (by have:=Ex.dm hy;omega) out ho
 refine aF.go rF rfl fun B Q hB hQ=>?_
 have⟨hD,hY,hZ,gA⟩:=bR
 have hZ:(out.length+1)*17≤bC:=by unfold bC;omega
 rcases Bool.eq_false_or_eq_true (op==2)with b1|b1
 ·rcases Bool.eq_false_or_eq_true (fw out name)with b2 | b2
  ·simp only [b1,b2,Bool.not_true,Bool.and_false,Bool.false_eq_true,if_false]at hG
   repeat' (first
 |simp only[go_sem,hD,hY,hZ,gA,b1,b2]
 |(with_reducible refine CU (jB (l:=out) (by omega) name _ _) ?_)
 | (with_reducible refine aE hQ ?_;exact bd))
   refine fi 1 1 (bt.ind (ι:=List Ex×Nat×List aG×Nat) (fun i=>kids.drop i.2.1=i.1∧Ex.lP i.2.2.1 i.1=R∧i.2.2.1.length+Ex.a7 i.1≤1000000000∧i.2.2.2=i.2.2.1.length) (fun i=>i.1.length)
    (fun i=> [(1, .slice (.tok 0) 1 (i.2.2.1.map encStr)),(2, .ptr 0 0),(23, .slice .shared 4 (kids.map cd)),(24, .int .i64 (kids.length:Int)),(25, .int .i64 (i.2.1:Int))]) (fun i=>⟨[cd ⟨op,m,name,kids⟩],[some i.2.2.2]⟩) ?_ (kids,0,out,out.length) ⟨rfl,hG,by simp;omega,by simp⟩)
   rintro⟨rest,k,cG,n'⟩ ⟨h1,h2,h3,h4⟩ IH
   dsimp only at h1 h2 h3 h4
   subst h4
   cases rest with
   |nil=>
    have hD:=drop_nil h1
    simp only[Ex.lP]at h2
    subst h2
    repeat' (first
 |simp only[go_sem,hD,hY,hZ,gA]
 | (with_reducible refine aE hQ ?_;exact bd))
   |cons y rest=>
    obtain⟨hY,g2,hD,g4⟩:=drop_cons h1
    have bU:k<4611686018427387904:=by omega
    simp only[Ex.lP]at h2
    simp only[Ex.a7]at h3
    have hy:=fun {s:St} {t:Nat} (ht:s.aw[t]? = some (some cG.length))=>hk y (List.mem_of_getElem? hY) cG (by omega) ht
    have hl:=sv cG y
    repeat' (first
 |simp only[go_sem,hD,hY,hZ,gA]
 |(with_reducible refine CU (hy (by with_unfolding_all rfl)) ?_)
 | (with_reducible refine aE hQ ?_;exact bd))
    refine eY 1 1 ?_ ?_ (IH (rest,k+1,_,_) ⟨g2,h2,by dsimp only;omega,rfl⟩ (Nat.lt_succ_self _))
    ·(simp only[go_sem,hD,hY,hZ,gA,aI bU];try exact cj)
    ·(simp only[go_sem,hD,hY,hZ,gA,aI bU];try exact cj)
  ·simp only [b1,b2,Bool.not_false,Bool.and_true,if_true]at hG
   repeat' (first
 |simp only[go_sem,hD,hY,hZ,gA,b1,b2]
 |(with_reducible refine CU (jB (l:=out) (by omega) name _ _) ?_)
 | (with_reducible refine aE hQ ?_;exact bd))
   refine eY 1 1 ?_ ?_ (bt.ind (ι:=List Ex×Nat×List aG×Nat) (fun i=>kids.drop i.2.1=i.1∧Ex.lP i.2.2.1 i.1=R∧i.2.2.1.length+Ex.a7 i.1≤1000000000∧i.2.2.2=i.2.2.1.length) (fun i=>i.1.length)
    (fun i=> [(1, .slice (.tok 0) 1 (i.2.2.1.map encStr)),(2, .ptr 0 0),(23, .slice .shared 4 (kids.map cd)),(24, .int .i64 (kids.length:Int)),(25, .int .i64 (i.2.1:Int))]) (fun i=>⟨[cd ⟨op,m,name,kids⟩],[some i.2.2.2]⟩) ?_ (kids,0,(out++ [name]),(out.length+1)) ⟨rfl,hG,by simp;omega,by simp⟩)
   ·(simp only[go_sem,hD,hY,hZ,gA,List.map_append,List.map_cons,List.map_nil,List.length_append,List.length_cons,List.length_nil,encStr];try exact cj)
   ·(simp only[go_sem,hD,hY,hZ,gA,List.map_append,List.map_cons,List.map_nil,List.length_append,List.length_cons,List.length_nil,encStr];try exact cj)
   rintro⟨rest,k,cG,n'⟩ ⟨h1,h2,h3,h4⟩ IH
   dsimp only at h1 h2 h3 h4
   subst h4
   cases rest with
   |nil=>
    have hD:=drop_nil h1
    simp only[Ex.lP]at h2
    subst h2
    repeat' (first
 |simp only[go_sem,hD,hY,hZ,gA]
 | (with_reducible refine aE hQ ?_;exact bd))
   |cons y rest=>
    obtain⟨hY,g2,hD,g4⟩:=drop_cons h1
    have bU:k<4611686018427387904:=by omega
    simp only[Ex.lP]at h2
    simp only[Ex.a7]at h3
    have hy:=fun {s:St} {t:Nat} (ht:s.aw[t]? = some (some cG.length))=>hk y (List.mem_of_getElem? hY) cG (by omega) ht
    have hl:=sv cG y
    repeat' (first
 |simp only[go_sem,hD,hY,hZ,gA]
 |(with_reducible refine CU (hy (by with_unfolding_all rfl)) ?_)
 | (with_reducible refine aE hQ ?_;exact bd))
    refine eY 1 1 ?_ ?_ (IH (rest,k+1,_,_) ⟨g2,h2,by dsimp only;omega,rfl⟩ (Nat.lt_succ_self _))
    ·(simp only[go_sem,hD,hY,hZ,gA,aI bU];try exact cj)
    ·(simp only[go_sem,hD,hY,hZ,gA,aI bU];try exact cj)
 ·simp only [b1,Bool.false_and,Bool.false_eq_true,if_false]at hG
  repeat' (first
 |simp only[go_sem,hD,hY,hZ,gA,b1]
 | (with_reducible refine aE hQ ?_;exact bd))
  refine fi 1 1 (bt.ind (ι:=List Ex×Nat×List aG×Nat) (fun i=>kids.drop i.2.1=i.1∧Ex.lP i.2.2.1 i.1=R∧i.2.2.1.length+Ex.a7 i.1≤1000000000∧i.2.2.2=i.2.2.1.length) (fun i=>i.1.length)
   (fun i=> [(1, .slice (.tok 0) 1 (i.2.2.1.map encStr)),(2, .ptr 0 0),(23, .slice .shared 4 (kids.map cd)),(24, .int .i64 (kids.length:Int)),(25, .int .i64 (i.2.1:Int))]) (fun i=>⟨[cd ⟨op,m,name,kids⟩],[some i.2.2.2]⟩) ?_ (kids,0,out,out.length) ⟨rfl,hG,by simp;omega,by simp⟩)
  rintro⟨rest,k,cG,n'⟩ ⟨h1,h2,h3,h4⟩ IH
  dsimp only at h1 h2 h3 h4
  subst h4
  cases rest with
  |nil=>
   have hD:=drop_nil h1
   simp only[Ex.lP]at h2
   subst h2
   repeat' (first
 |simp only[go_sem,hD,hY,hZ,gA]
 | (with_reducible refine aE hQ ?_;exact bd))
  |cons y rest=>
   obtain⟨hY,g2,hD,g4⟩:=drop_cons h1
   have bU:k<4611686018427387904:=by omega
   simp only[Ex.lP]at h2
   simp only[Ex.a7]at h3
   have hy:=fun {s:St} {t:Nat} (ht:s.aw[t]? = some (some cG.length))=>hk y (List.mem_of_getElem? hY) cG (by omega) ht
   have hl:=sv cG y
   repeat' (first
 |simp only[go_sem,hD,hY,hZ,gA]
 |(with_reducible refine CU (hy (by with_unfolding_all rfl)) ?_)
 | (with_reducible refine aE hQ ?_;exact bd))
   refine eY 1 1 ?_ ?_ (IH (rest,k+1,_,_) ⟨g2,h2,by dsimp only;omega,rfl⟩ (Nat.lt_succ_self _))
   ·(simp only[go_sem,hD,hY,hZ,gA,aI bU];try exact cj)
   ·(simp only[go_sem,hD,hY,hZ,gA,aI bU];try exact cj)
theorem Vy : ∀ N,RX N:=by
 intro N
 induction N with
 |zero=>rintro⟨op,m,name,kids⟩ h;simp only[Ex.size]at h;omega
 |succ N ih=>
  rintro⟨op,m,name,kids⟩ h out ho s t ht
  exact(adt ih h ho).abv (pre:= [_]) (post:= []) (by simp only[D.bL,D.ok,lT];rfl) rfl (fb out) (fb _) ht
abbrev aoI (N:Nat):Prop:=∀ (x:Ex),x.size≤N→∀ out:List aG,out.length+x.size≤1000000000→∀ {s:St} {t:Nat},s.aw[t]? = some (some out.length)→
 aF Tryz.prog Ll [.agg (cd x), .slice (.tok t) 1 (out.map encStr)] s (.slice (.tok t) 1 ((x.mK out).map encStr)) ⟨s.ah,s.aw.set t (some (x.mK out).length)⟩
theorem RY {op m:Int} {name:aG} {kids:List Ex} (h:Ex.form ⟨op,m,name,kids⟩=true) (h2:(op==2)=true):kids = []:=by
 have e:op=2:=by simpa using h2
 subst e
 simp only[Ex.form]at h
 split at h
 ·cases h
 ·rename_i hh
  simp only[Bool.or_eq_true,not_or,bne_iff_ne,ne_eq,Decidable.not_not]at hh
  have:=hh.1.1.1.1
  have e:oh 2=0:=rfl
  rw[e]at this
  exact List.length_eq_zero_iff.1 (by omega)
theorem Vz {op m:Int} {name:aG} {kids:List Ex} (hf:(op==2)=true→kids = []) (ho:Ex.size ⟨op,m,name,kids⟩≤1000000000) (s:St) :
 aF Tryz.prog iR [.agg (cd ⟨op,m,name,kids⟩), .slice .full 0 []] s (.slice .shared 1 ((Ex.mK [] ⟨op,m,name,kids⟩).map encStr)) s:=by
 refine aF.pure ?_ (by simp only[D.bL,D.ok,lT];rfl) (by simp only[D.ok,Tag.ok,fb];rfl) s
 obtain⟨R,hG⟩ : ∃ R,Ex.mK [] ⟨op,m,name,kids⟩=R:=⟨_,rfl⟩
 rw[hG]
 simp only[Ex.mK]at hG
 simp only[Ex.size]at ho
 have hlen:kids.length<1000000000:=by have:=Ex.eJ kids;omega
 have hk : ∀ y∈kids,∀ out:List aG,out.length+y.size≤1000000000→∀ {s:St} {t:Nat},s.aw[t]? = some (some out.length)→
  aF Tryz.prog iR [.agg (cd y), .slice (.tok t) 1 (out.map encStr)] s (.slice (.tok t) 1 ((y.mK out).map encStr)) ⟨s.ah,s.aw.set t (some (y.mK out).length)⟩:=fun y hy out ho=>
  Vy y.size y (Nat.le_refl _) out ho
 unfold S0
 rcases Bool.eq_false_or_eq_true (op==2)with b1|b1
 ·have hk0:=hf b1
  subst hk0
  have e:fw [] name=false:=rfl
  simp only[b1,e,Bool.not_false,Bool.and_true,if_true,Ex.lP,List.nil_append]at hG
  subst hG
  refine aF.go rF rfl fun B Q hB hQ=>?_
  have⟨hD,hY,hZ,gA⟩:=bR
  have hZ:17≤bC:=by unfold bC;omega
  repeat' (first
 |simp only[go_sem,hD,hY,hZ,gA,b1,List.map_nil,List.map_cons,List.length_nil,encStr,Int.natCast_zero,Int.lt_irrefl,decide_false]
 |(with_reducible refine CU (JI name _ _ _) ?_)
 |(with_reducible refine bt.kR ?_)
 |(with_reducible refine aE hQ ?_;exact bd))
 ·simp only [b1,Bool.false_and,Bool.false_eq_true,if_false]at hG
  refine aF.go rF rfl fun B Q hB hQ=>?_
  have⟨hD,hY,hZ,gA⟩:=bR
  repeat' (first
 |simp only[go_sem,hD,hY,hZ,gA,b1]
 | (with_reducible refine aE hQ ?_;exact bd))
  refine bt.sm 1 1 rfl ?_
  simp only[go_sem,hD,hY,hZ,gA]
  refine fi 1 1 (bt.ind (ι:=List Ex×Nat×List aG×Nat) (fun i=>kids.drop i.2.1=i.1∧Ex.lP i.2.2.1 i.1=R∧i.2.2.1.length+Ex.a7 i.1≤1000000000∧i.2.2.2=i.2.2.1.length) (fun i=>i.1.length)
   (fun i=> [(1, .slice (.tok 0) 1 (i.2.2.1.map encStr)),(2, .ptr 0 0),(23, .slice .shared 4 (kids.map cd)),(24, .int .i64 (kids.length:Int)),(25, .int .i64 (i.2.1:Int))]) (fun i=>⟨[cd ⟨op,m,name,kids⟩],[some i.2.2.2]⟩) ?_ (kids,0,[],0) ⟨rfl,hG,by simp;omega,by simp⟩)
  rintro⟨rest,k,cG,n'⟩ ⟨h1,h2,h3,h4⟩ IH
  dsimp only at h1 h2 h3 h4
  subst h4
  cases rest with
  |nil=>
   have hD:=drop_nil h1
   simp only[Ex.lP]at h2
   subst h2
   repeat' (first
 |simp only[go_sem,hD,hY,hZ,gA]
 | (with_reducible refine aE hQ ?_;exact bd))
  |cons y rest=>
   obtain⟨hY,g2,hD,g4⟩:=drop_cons h1
   have bU:k<4611686018427387904:=by omega
   simp only[Ex.lP]at h2
   simp only[Ex.a7]at h3
   have hy:=fun {s:St} {t:Nat} (ht:s.aw[t]? = some (some cG.length))=>hk y (List.mem_of_getElem? hY) cG (by omega) ht
   have hl:=sv cG y
   repeat' (first
 |simp only[go_sem,hD,hY,hZ,gA]
 |(with_reducible refine CU (hy (by with_unfolding_all rfl)) ?_)
 | (with_reducible refine aE hQ ?_;exact bd))
   refine eY 1 1 ?_ ?_ (IH (rest,k+1,_,_) ⟨g2,h2,by dsimp only;omega,rfl⟩ (Nat.lt_succ_self _))
   ·(simp only[go_sem,hD,hY,hZ,gA,aI bU];try exact cj)
   ·(simp only[go_sem,hD,hY,hZ,gA,aI bU];try exact cj)
theorem ny {x:Ex} (hx:x.size≤1000000000) (ht:x.texts) (s:St):aF Tryz.prog rD [.agg (cd x)] s (.slice .shared 1 (x.names.map encStr)) s:=by
 refine aF.pure ?_ (by simp only[D.bL,D.ok,lT];rfl) (by simp only[D.ok,Tag.ok,fb];rfl) s
 have hm:=fun s=>zz (x:=x) (by omega) ht s
 simp only[EP]at hm
 unfold Ex.names
 unfold S0
 cases hb:x.may
 ·simp only [hb]at hm
  simp only[Bool.false_eq_true,if_false,List.map_nil]
  refine aF.go yu rfl fun B Q hB hQ=>?_
  have⟨hD,hY,hZ,gA⟩:=bR
  repeat' (first
 |simp only[go_sem,hD,hY,hZ,gA]
 |(with_reducible refine CU (hm _) ?_)
 |(with_reducible refine aE hQ ?_;exact bd))
 ·simp only [hb]at hm
  simp only[if_true]
  have hg : ∀ s,aF Tryz.prog iR [.agg (cd x), .slice .full 0 []] s (.slice .shared 1 ((x.mK []).map encStr)) s:=by
   intro s
   obtain⟨op,m,name,kids⟩:=x
   exact Vz (fun h2=>RY (by simp only[Ex.may,Bool.and_eq_true]at hb;exact hb.2) h2) hx s
  refine aF.go yu rfl fun B Q hB hQ=>?_
  have⟨hD,hY,hZ,gA⟩:=bR
  repeat' (first
 |simp only[go_sem,hD,hY,hZ,gA]
 |(with_reducible refine CU (hm _) ?_)
 |(with_reducible refine CU (hg _) ?_)
 |(with_reducible refine aE hQ ?_;exact bd))
def Ar.said (out:List aG):List Ar→List aG
 | []=>out
 |a::l=>Ar.said ((if a.ref then out++ [a.name]else out)++a.x.names) l
def Sm.sQ (v:Sm):List aG:=if v.kind != 10 && v.name != []then [v.name]else []
def Sm.said (v:Sm):List aG:=Ar.said (v.sQ++v.x.names) v.args
theorem lk (x:Ex):x.names.length≤x.size:=by
 unfold Ex.names
 split
 ·simpa using sv [] x
 ·exact Nat.zero_le _
def Ar.vH:List Ar→Prop
 | []=>True
 |a::l=>a.x.texts∧Ar.vH l
def Sm.nz (v:Sm):Prop:=v.x.texts∧(∀ a∈v.args,a.x.texts)∧v.x.size+Ar.a7 v.args<1000000
theorem kI {l nx:List aG} {n:Nat} (hn:n=l.length) (h:l.length+nx.length≤1000000000) {g:Tag} (o:List (List D)) :
 gY 1 16 (.slice (.tok 0) 1 (l.map encStr)) (.slice g 1 (nx.map encStr)) ⟨o,[some n]⟩=some (.slice (.tok 0) 1 ((l++nx).map encStr),⟨o,[some (l++nx).length]⟩):=by
 subst hn
 have:=mH (size:=1) (bytes:=16) (t:=0) (rows:=l.map encStr) (new:=nx.map encStr) (g:=g) (s:=⟨o,[some l.length]⟩) (by simp only[List.length_map];unfold bC;omega) (by simp)
 rw[this]
 simp
theorem BA {v:Sm} (hv:v.nz) (s:St):aF Tryz.prog rB [.agg (bh v)] s (.slice .shared 1 (v.said.map encStr)) s:=by
 refine aF.pure ?_ (by simp only[D.bL,D.ok,rj];rfl) (by simp only[D.ok,Tag.ok,fb];rfl) s
 obtain⟨wO,tu,dO⟩:=hv
 obtain⟨R,hG⟩ : ∃ R,v.said=R:=⟨_,rfl⟩
 rw[hG]
 simp only[Sm.said]at hG
 have hlen:v.args.length<1000000000:=by have:=Ar.eJ v.args;omega
 have hx:=fun s=>ny (x:=v.x) (by omega) wO s
 have L2:=lk v.x
 unfold S0
 refine aF.go FR rfl fun B Q hB hQ=>?_
 have⟨hD,hY,hZ,gA⟩:=bR
 have hZ:17≤bC:=by unfold bC;omega
 by_cases hb:(v.kind != 10 && v.name != [])=true
 ·simp only [Sm.sQ,hb,if_true]at hG
  rw[Bool.and_eq_true]at hb
  obtain⟨b1,b2⟩:=hb
  have eQ:=kI (l:= [v.name]) (nx:=v.x.names) (n:=1) rfl (by simp;omega) (g:= .shared)
  simp only[List.map_append,List.map_cons,List.map_nil,encStr]at eQ
  have b3:(v.name == [])=false:=by simpa using b2
  repeat' (first
 |simp only[go_sem,hD,hY,hZ,gA,b1,b2,b3,eQ]
 |(with_reducible refine CU (hx _) ?_)
 | (with_reducible refine aE hQ ?_;exact bd))
  refine eY 1 1 ?_ ?_ (bt.ind (ι:=List Ar×Nat×List aG×Nat) (fun i=>v.args.drop i.2.1=i.1∧Ar.said i.2.2.1 i.1=R∧i.2.2.1.length+Ar.a7 i.1≤2000000∧i.2.2.2=i.2.2.1.length) (fun i=>i.1.length)
   (fun i=> [(3, .slice (.tok 0) 1 (i.2.2.1.map encStr)),(1, .ptr 0 0),(25, .slice .shared 6 (v.args.map eC)),(26, .int .i64 (v.args.length:Int)),(27, .int .i64 (i.2.1:Int))]) (fun i=>⟨[bh v],[some i.2.2.2]⟩) ?_ (v.args,0,([v.name]++v.x.names),(v.x.names.length+1)) ⟨rfl,hG,by simp at L2 ⊢;omega,by simp⟩)
  ·(simp only[go_sem,hD,hY,hZ,gA,List.map_append,List.map_cons,List.map_nil,encStr];try exact cj)
  ·(simp only[go_sem,hD,hY,hZ,gA,List.map_append,List.map_cons,List.map_nil,encStr];try exact cj)
  rintro⟨rest,k,out,n'⟩ ⟨h1,h2,h3,h4⟩ IH
  dsimp only at h1 h2 h3 h4
  subst h4
  cases rest with
  |nil=>
   have hD:=drop_nil h1
   simp only[Ar.said]at h2
   subst h2
   repeat' (first
 |simp only[go_sem,hD,hY,hZ,gA]
 | (with_reducible refine aE hQ ?_;exact bd))
  | cons a rest=>
   obtain⟨hY,g2,hD,g4⟩:=drop_cons h1
   have bU:k<4611686018427387904:=by omega
   simp only[Ar.said]at h2
   simp only[Ar.a7]at h3
   have wP:=fun s=>ny (x:=a.x) (by have:=Ar.dm (List.mem_of_getElem? hY);omega) (tu a (List.mem_of_getElem? hY)) s
   have hl:=lk a.x
   have hZ:(out.length+1)*17≤bC:=by unfold bC;omega
   rcases Bool.eq_false_or_eq_true a.ref with b1|b1
   ·simp only [b1,if_true]at h2
    have eQ:=kI (l:=out++ [a.name]) (nx:=a.x.names) (n:=out.length+1) (by simp) (by simp;omega) (g:= .shared)
    simp only[List.map_append,List.map_cons,List.map_nil,encStr]at eQ
    repeat' (first
 |simp only[go_sem,hD,hY,hZ,gA,b1,eQ]
 |(with_reducible refine CU (wP _) ?_)
 | (with_reducible refine aE hQ ?_;exact bd))
    refine eY 1 1 ?_ ?_ (IH (rest,k+1,out++ [a.name]++a.x.names,_) ⟨g2,h2,by simp;omega,by simp<;>omega⟩ (Nat.lt_succ_self _))
    ·(simp only[go_sem,hD,hY,hZ,gA,aI bU,List.map_append,List.map_cons,List.map_nil,encStr];try exact cj)
    ·(simp only[go_sem,hD,hY,hZ,gA,aI bU,List.map_append,List.map_cons,List.map_nil,encStr];try exact cj)
   ·simp only [b1,Bool.false_eq_true,if_false]at h2
    have eQ:=kI (l:=out) (nx:=a.x.names) rfl (by omega) (g:= .shared)
    repeat' (first
 |simp only[go_sem,hD,hY,hZ,gA,b1,eQ]
 |(with_reducible refine CU (wP _) ?_)
 | (with_reducible refine aE hQ ?_;exact bd))
    refine eY 1 1 ?_ ?_ (IH (rest,k+1,out++a.x.names,_) ⟨g2,h2,by simp;omega,by simp<;>omega⟩ (Nat.lt_succ_self _))
    ·(simp only[go_sem,hD,hY,hZ,gA,aI bU];try exact cj)
    ·(simp only[go_sem,hD,hY,hZ,gA,aI bU];try exact cj)
 ·simp only [Sm.sQ,hb,Bool.false_eq_true,if_false,List.nil_append]at hG
  have rV:(v.kind != 10 && v.name != [])=false:=by simpa using hb
  obtain⟨nx,hnx⟩ : ∃ nx,nx=v.x.names:=⟨_,rfl⟩
  rw[← hnx]at hG L2
  simp only[← hnx]at hx
  by_cases IL:nx = []
  ·subst IL
   simp only[List.map_nil]at hx
   have eQ : ∀ o:List (List D),gY 1 16 (.slice .full 0 []) (.slice .shared 1 []) ⟨o,[]⟩=some (.slice .full 0 [],⟨o,[]⟩):=fun o=>by simp[gY,bC]
   have HB:(v.kind != 10)=false∨(v.kind != 10)=true∧(v.name != [])=false:=by
    cases h1:(v.kind != 10)
    ·exact .inl rfl
    ·rw[h1]at rV;exact .inr ⟨rfl,by simpa using rV⟩
   rcases HB with b1|⟨b1,b2⟩
   ·rcases Bool.eq_false_or_eq_true (v.name != [])with b2 | b2
    all_goals
     have b3:(v.name == []) = !(v.name != []):=by simp only[bne,Bool.not_not]
     rw[b2]at b3
     repeat' (first
 |simp only[go_sem,hD,hY,hZ,gA,b1,b2,b3,Bool.not_true,Bool.not_false,eQ]
 |(with_reducible refine CU (hx _) ?_)
 | (with_reducible refine aE hQ ?_;simp only [aV,aX,bH,bI,go_sem,hD,hY,hZ,gA];repeat' (first | exact Ok.out | with_reducible refine iZ ?_ ?_ | (simp;done))))
    all_goals
     refine bt.sm 3 1 rfl ?_
     simp only[go_sem,hD,hY,hZ,gA]
     refine fi 1 1 (bt.ind (ι:=List Ar×Nat×List aG×Nat) (fun i=>v.args.drop i.2.1=i.1∧Ar.said i.2.2.1 i.1=R∧i.2.2.1.length+Ar.a7 i.1≤2000000∧i.2.2.2=i.2.2.1.length) (fun i=>i.1.length)
      (fun i=> [(3, .slice (.tok 0) 1 (i.2.2.1.map encStr)),(1, .ptr 0 0),(25, .slice .shared 6 (v.args.map eC)),(26, .int .i64 (v.args.length:Int)),(27, .int .i64 (i.2.1:Int))]) (fun i=>⟨[bh v],[some i.2.2.2]⟩) ?_ (v.args,0,[],0) ⟨rfl,hG,by simp at L2 ⊢;omega,by simp⟩)
     rintro⟨rest,k,out,n'⟩ ⟨h1,h2,h3,h4⟩ IH
     dsimp only at h1 h2 h3 h4
     subst h4
     cases rest with
     |nil=>
      have hD:=drop_nil h1
      simp only[Ar.said]at h2
      subst h2
      repeat' (first
 |simp only[go_sem,hD,hY,hZ,gA]
 |(with_reducible refine aE hQ ?_;exact bd))
     | cons a rest=>
      obtain⟨hY,g2,hD,g4⟩:=drop_cons h1
      have bU:k<4611686018427387904:=by omega
      simp only[Ar.said]at h2
      simp only[Ar.a7]at h3
      have wP:=fun s=>ny (x:=a.x) (by have:=Ar.dm (List.mem_of_getElem? hY);omega) (tu a (List.mem_of_getElem? hY)) s
      have hl:=lk a.x
      have hZ:(out.length+1)*17≤bC:=by unfold bC;omega
      rcases Bool.eq_false_or_eq_true a.ref with b1|b1
      ·simp only [b1,if_true]at h2
       have eQ:=kI (l:=out++ [a.name]) (nx:=a.x.names) (n:=out.length+1) (by simp) (by simp;omega) (g:= .shared)
       simp only[List.map_append,List.map_cons,List.map_nil,encStr]at eQ
       repeat' (first
 |simp only[go_sem,hD,hY,hZ,gA,b1,eQ]
 |(with_reducible refine CU (wP _) ?_)
 |(with_reducible refine aE hQ ?_;exact bd))
       refine eY 1 1 ?_ ?_ (IH (rest,k+1,out++ [a.name]++a.x.names,_) ⟨g2,h2,by simp;omega,by simp<;>omega⟩ (Nat.lt_succ_self _))
       ·(simp only[go_sem,hD,hY,hZ,gA,aI bU,List.map_append,List.map_cons,List.map_nil,encStr];try exact cj)
       ·(simp only[go_sem,hD,hY,hZ,gA,aI bU,List.map_append,List.map_cons,List.map_nil,encStr];try exact cj)
      ·simp only [b1,Bool.false_eq_true,if_false]at h2
       have eQ:=kI (l:=out) (nx:=a.x.names) rfl (by omega) (g:= .shared)
       repeat' (first
 |simp only[go_sem,hD,hY,hZ,gA,b1,eQ]
 |(with_reducible refine CU (wP _) ?_)
 | (with_reducible refine aE hQ ?_;exact bd))
       refine eY 1 1 ?_ ?_ (IH (rest,k+1,out++a.x.names,_) ⟨g2,h2,by simp;omega,by simp<;>omega⟩ (Nat.lt_succ_self _))
       ·(simp only[go_sem,hD,hY,hZ,gA,aI bU];try exact cj)
       ·(simp only[go_sem,hD,hY,hZ,gA,aI bU];try exact cj)
   ·have b3:(v.name == [])=true:=by simpa using b2
    repeat' (first
 |simp only[go_sem,hD,hY,hZ,gA,b1,b2,b3,eQ]
 |(with_reducible refine CU (hx _) ?_)
 | (with_reducible refine aE hQ ?_;exact bd))
    refine bt.sm 3 1 rfl ?_
    simp only[go_sem,hD,hY,hZ,gA]
    refine fi 1 1 (bt.ind (ι:=List Ar×Nat×List aG×Nat) (fun i=>v.args.drop i.2.1=i.1∧Ar.said i.2.2.1 i.1=R∧i.2.2.1.length+Ar.a7 i.1≤2000000∧i.2.2.2=i.2.2.1.length) (fun i=>i.1.length)
     (fun i=> [(3, .slice (.tok 0) 1 (i.2.2.1.map encStr)),(1, .ptr 0 0),(25, .slice .shared 6 (v.args.map eC)),(26, .int .i64 (v.args.length:Int)),(27, .int .i64 (i.2.1:Int))]) (fun i=>⟨[bh v],[some i.2.2.2]⟩) ?_ (v.args,0,[],0) ⟨rfl,hG,by simp at L2 ⊢;omega,by simp⟩)
    rintro⟨rest,k,out,n'⟩ ⟨h1,h2,h3,h4⟩ IH
    dsimp only at h1 h2 h3 h4
    subst h4
    cases rest with
    |nil=>
     have hD:=drop_nil h1
     simp only[Ar.said]at h2
     subst h2
     repeat' (first
 |simp only[go_sem,hD,hY,hZ,gA]
 | (with_reducible refine aE hQ ?_;exact bd))
    | cons a rest=>
     obtain⟨hY,g2,hD,g4⟩:=drop_cons h1
     have bU:k<4611686018427387904:=by omega
     simp only[Ar.said]at h2
     simp only[Ar.a7]at h3
     have wP:=fun s=>ny (x:=a.x) (by have:=Ar.dm (List.mem_of_getElem? hY);omega) (tu a (List.mem_of_getElem? hY)) s
     have hl:=lk a.x
     have hZ:(out.length+1)*17≤bC:=by unfold bC;omega
     rcases Bool.eq_false_or_eq_true a.ref with b1|b1
     ·simp only [b1,if_true]at h2
      have eQ:=kI (l:=out++ [a.name]) (nx:=a.x.names) (n:=out.length+1) (by simp) (by simp;omega) (g:= .shared)
      simp only[List.map_append,List.map_cons,List.map_nil,encStr]at eQ
      repeat' (first
 |simp only[go_sem,hD,hY,hZ,gA,b1,eQ]
 |(with_reducible refine CU (wP _) ?_)
 |(with_reducible refine aE hQ ?_;exact bd))
      refine eY 1 1 ?_ ?_ (IH (rest,k+1,out++ [a.name]++a.x.names,_) ⟨g2,h2,by simp;omega,by simp<;>omega⟩ (Nat.lt_succ_self _))
      ·(simp only[go_sem,hD,hY,hZ,gA,aI bU,List.map_append,List.map_cons,List.map_nil,encStr];try exact cj)
      ·(simp only[go_sem,hD,hY,hZ,gA,aI bU,List.map_append,List.map_cons,List.map_nil,encStr];try exact cj)
     ·simp only [b1,Bool.false_eq_true,if_false]at h2
      have eQ:=kI (l:=out) (nx:=a.x.names) rfl (by omega) (g:= .shared)
      repeat' (first
 |simp only[go_sem,hD,hY,hZ,gA,b1,eQ]
 |(with_reducible refine CU (wP _) ?_)
 | (with_reducible refine aE hQ ?_;exact bd))
      refine eY 1 1 ?_ ?_ (IH (rest,k+1,out++a.x.names,_) ⟨g2,h2,by simp;omega,by simp<;>omega⟩ (Nat.lt_succ_self _))
      ·(simp only[go_sem,hD,hY,hZ,gA,aI bU];try exact cj)
      ·(simp only[go_sem,hD,hY,hZ,gA,aI bU];try exact cj)
  ·have eQ : ∀ o:List (List D),gY 1 16 (.slice .full 0 []) (.slice .shared 1 (nx.map encStr)) ⟨o,[]⟩=some (.slice (.tok 0) 1 (nx.map encStr),⟨o,[some nx.length]⟩):=fun o=>by
    have:nx.length*17≤bC:=by unfold bC;omega
    cases nx with
    |nil=>exact absurd rfl IL
    |cons a r=>simp only[List.length_cons]at this;simp[gY,this]
   have HB:(v.kind != 10)=false∨(v.kind != 10)=true∧(v.name != [])=false:=by
    cases h1:(v.kind != 10)
    ·exact .inl rfl
    ·rw[h1]at rV;exact .inr ⟨rfl,by simpa using rV⟩
   rcases HB with b1|⟨b1,b2⟩
   ·rcases Bool.eq_false_or_eq_true (v.name != [])with b2 | b2
    all_goals
     have b3:(v.name == []) = !(v.name != []):=by simp only[bne,Bool.not_not]
     rw[b2]at b3
     repeat' (first
 |simp only[go_sem,hD,hY,hZ,gA,b1,b2,b3,Bool.not_true,Bool.not_false,eQ]
 |(with_reducible refine CU (hx _) ?_)
 | (with_reducible refine aE hQ ?_;simp only [aV,aX,bH,bI,go_sem,hD,hY,hZ,gA];repeat' (first | exact Ok.out | with_reducible refine iZ ?_ ?_ | (simp;done))))
    all_goals
     refine fi 1 1 (bt.ind (ι:=List Ar×Nat×List aG×Nat) (fun i=>v.args.drop i.2.1=i.1∧Ar.said i.2.2.1 i.1=R∧i.2.2.1.length+Ar.a7 i.1≤2000000∧i.2.2.2=i.2.2.1.length) (fun i=>i.1.length)
      (fun i=> [(3, .slice (.tok 0) 1 (i.2.2.1.map encStr)),(1, .ptr 0 0),(25, .slice .shared 6 (v.args.map eC)),(26, .int .i64 (v.args.length:Int)),(27, .int .i64 (i.2.1:Int))]) (fun i=>⟨[bh v],[some i.2.2.2]⟩) ?_ (v.args,0,nx,_) ⟨rfl,hG,by simp at L2 ⊢;omega,by simp⟩)
     rintro⟨rest,k,out,n'⟩ ⟨h1,h2,h3,h4⟩ IH
     dsimp only at h1 h2 h3 h4
     subst h4
     cases rest with
     |nil=>
      have hD:=drop_nil h1
      simp only[Ar.said]at h2
      subst h2
      repeat' (first
 |simp only[go_sem,hD,hY,hZ,gA]
 |(with_reducible refine aE hQ ?_;exact bd))
     | cons a rest=>
      obtain⟨hY,g2,hD,g4⟩:=drop_cons h1
      have bU:k<4611686018427387904:=by omega
      simp only[Ar.said]at h2
      simp only[Ar.a7]at h3
      have wP:=fun s=>ny (x:=a.x) (by have:=Ar.dm (List.mem_of_getElem? hY);omega) (tu a (List.mem_of_getElem? hY)) s
      have hl:=lk a.x
      have hZ:(out.length+1)*17≤bC:=by unfold bC;omega
      rcases Bool.eq_false_or_eq_true a.ref with b1|b1
      ·simp only [b1,if_true]at h2
       have eQ:=kI (l:=out++ [a.name]) (nx:=a.x.names) (n:=out.length+1) (by simp) (by simp;omega) (g:= .shared)
       simp only[List.map_append,List.map_cons,List.map_nil,encStr]at eQ
       repeat' (first
 |simp only[go_sem,hD,hY,hZ,gA,b1,eQ]
 |(with_reducible refine CU (wP _) ?_)
 |(with_reducible refine aE hQ ?_;exact bd))
       refine eY 1 1 ?_ ?_ (IH (rest,k+1,out++ [a.name]++a.x.names,_) ⟨g2,h2,by simp;omega,by simp<;>omega⟩ (Nat.lt_succ_self _))
       ·(simp only[go_sem,hD,hY,hZ,gA,aI bU,List.map_append,List.map_cons,List.map_nil,encStr];try exact cj)
       ·(simp only[go_sem,hD,hY,hZ,gA,aI bU,List.map_append,List.map_cons,List.map_nil,encStr];try exact cj)
      ·simp only [b1,Bool.false_eq_true,if_false]at h2
       have eQ:=kI (l:=out) (nx:=a.x.names) rfl (by omega) (g:= .shared)
       repeat' (first
 |simp only[go_sem,hD,hY,hZ,gA,b1,eQ]
 |(with_reducible refine CU (wP _) ?_)
 | (with_reducible refine aE hQ ?_;exact bd))
       refine eY 1 1 ?_ ?_ (IH (rest,k+1,out++a.x.names,_) ⟨g2,h2,by simp;omega,by simp<;>omega⟩ (Nat.lt_succ_self _))
       ·(simp only[go_sem,hD,hY,hZ,gA,aI bU];try exact cj)
       ·(simp only[go_sem,hD,hY,hZ,gA,aI bU];try exact cj)
   ·have b3:(v.name == [])=true:=by simpa using b2
    repeat' (first
 |simp only[go_sem,hD,hY,hZ,gA,b1,b2,b3,eQ]
 |(with_reducible refine CU (hx _) ?_)
 | (with_reducible refine aE hQ ?_;exact bd))
    refine fi 1 1 (bt.ind (ι:=List Ar×Nat×List aG×Nat) (fun i=>v.args.drop i.2.1=i.1∧Ar.said i.2.2.1 i.1=R∧i.2.2.1.length+Ar.a7 i.1≤2000000∧i.2.2.2=i.2.2.1.length) (fun i=>i.1.length)
     (fun i=> [(3, .slice (.tok 0) 1 (i.2.2.1.map encStr)),(1, .ptr 0 0),(25, .slice .shared 6 (v.args.map eC)),(26, .int .i64 (v.args.length:Int)),(27, .int .i64 (i.2.1:Int))]) (fun i=>⟨[bh v],[some i.2.2.2]⟩) ?_ (v.args,0,nx,_) ⟨rfl,hG,by simp at L2 ⊢;omega,by simp⟩)
    rintro⟨rest,k,out,n'⟩ ⟨h1,h2,h3,h4⟩ IH
    dsimp only at h1 h2 h3 h4
    subst h4
    cases rest with
    |nil=>
     have hD:=drop_nil h1
     simp only[Ar.said]at h2
     subst h2
     repeat' (first
 |simp only[go_sem,hD,hY,hZ,gA]
 | (with_reducible refine aE hQ ?_;exact bd))
    | cons a rest=>
     obtain⟨hY,g2,hD,g4⟩:=drop_cons h1
     have bU:k<4611686018427387904:=by omega
     simp only[Ar.said]at h2
     simp only[Ar.a7]at h3
     have wP:=fun s=>ny (x:=a.x) (by have:=Ar.dm (List.mem_of_getElem? hY);omega) (tu a (List.mem_of_getElem? hY)) s
     have hl:=lk a.x
     have hZ:(out.length+1)*17≤bC:=by unfold bC;omega
     rcases Bool.eq_false_or_eq_true a.ref with b1|b1
     ·simp only [b1,if_true]at h2
      have eQ:=kI (l:=out++ [a.name]) (nx:=a.x.names) (n:=out.length+1) (by simp) (by simp;omega) (g:= .shared)
      simp only[List.map_append,List.map_cons,List.map_nil,encStr]at eQ
      repeat' (first
 |simp only[go_sem,hD,hY,hZ,gA,b1,eQ]
 |(with_reducible refine CU (wP _) ?_)
 |(with_reducible refine aE hQ ?_;exact bd))
      refine eY 1 1 ?_ ?_ (IH (rest,k+1,out++ [a.name]++a.x.names,_) ⟨g2,h2,by simp;omega,by simp<;>omega⟩ (Nat.lt_succ_self _))
      ·(simp only[go_sem,hD,hY,hZ,gA,aI bU,List.map_append,List.map_cons,List.map_nil,encStr];try exact cj)
      ·(simp only[go_sem,hD,hY,hZ,gA,aI bU,List.map_append,List.map_cons,List.map_nil,encStr];try exact cj)
     ·simp only [b1,Bool.false_eq_true,if_false]at h2
      have eQ:=kI (l:=out) (nx:=a.x.names) rfl (by omega) (g:= .shared)
      repeat' (first
 |simp only[go_sem,hD,hY,hZ,gA,b1,eQ]
 |(with_reducible refine CU (wP _) ?_)
 |(with_reducible refine aE hQ ?_;exact bd))
      refine eY 1 1 ?_ ?_ (IH (rest,k+1,out++a.x.names,_) ⟨g2,h2,by simp;omega,by simp<;>omega⟩ (Nat.lt_succ_self _))
      ·(simp only[go_sem,hD,hY,hZ,gA,aI bU];try exact cj)
      ·(simp only[go_sem,hD,hY,hZ,gA,aI bU];try exact cj)
theorem kY : ∀ (a b:List It) (n:Nat),It.fN n (a++b)=(It.fN n a && It.fN (n+a.length) b)
 | [],b,n=>by simp[It.fN]
 |i::a,b,n=>by
  simp only[List.cons_append,It.fN,kY a b (n+1),List.length_cons]
  have:n+1+a.length=n+(a.length+1):=by omega
  rw[this]
  split<;>simp
theorem ES (n:Nat) (i:It):It.fN n [i] = true↔i.s.id=((n+1:Nat):Int)∧i.deep≤12∧i.s.one=true:=by
 simp only[It.fN]
 split
 ·rename_i h
  simp only[Bool.or_eq_true,bne_iff_ne,ne_eq,decide_eq_true_eq,Bool.not_eq_true']at h
  refine⟨fun h=>(Bool.false_ne_true h).elim,fun⟨h1,h2,h3⟩=>?_⟩
  rcases h with (h|h)|h
  ·exact(h h1).elim
  ·omega
  ·rw[h]at h3;cases h3
 ·rename_i h
  simp only[Bool.or_eq_true,bne_iff_ne,ne_eq,decide_eq_true_eq,Bool.not_eq_true',not_or,Decidable.not_not,Bool.not_eq_false]at h
  exact⟨fun _=>⟨h.1.1,by omega,h.2⟩,fun _=>rfl⟩
mutual
theorem BB (deep cy:Int) (aS:Bool) : ∀ (s:Sm) (out:List It),∃ new,iS deep cy aS out s=out++(⟨s,deep,cy,aS⟩::new)
 | ⟨id,kind,labels,name,proc,x,has,args,a8,e⟩,out=>by
  simp only[iS]
  split
  ·obtain⟨n1,h1⟩:=qM (deep+1) id false a8 (out++ [⟨⟨id,kind,labels,name,proc,x,has,args,a8,e⟩,deep,cy,aS⟩])
   obtain⟨n2,h2⟩:=qM (deep+1) id true e (dQ (deep+1) id false (out++ [⟨⟨id,kind,labels,name,proc,x,has,args,a8,e⟩,deep,cy,aS⟩]) a8)
   rw[h2,h1]
   exact⟨n1++n2,by simp⟩
  ·exact⟨[],rfl⟩
theorem qM (deep cy:Int) (aS:Bool) : ∀ (l:List Sm) (out:List It),∃ new,dQ deep cy aS out l=out++new
 | [],out=>⟨[],by simp[dQ]⟩
 | s::l,out=>by
  simp only[dQ]
  split
  ·obtain⟨n1,h1⟩:=BB deep cy aS s out
   obtain⟨n2,h2⟩:=qM deep cy aS l (iS deep cy aS out s)
   rw[h2,h1]
   exact⟨⟨s,deep,cy,aS⟩::n1++n2,by simp⟩
  ·exact⟨[],by simp⟩
end
theorem GZ {nest:Int} {n:Nat} {s:Sm} (h:(Sm.pU nest n s).1=true) :
 n+1≤200∧s.id=((n+1:Nat):Int)∧s.one=true∧(Sm.gB (nest+1) (n+1) s.a8).1=true∧(Sm.gB (nest+1) (Sm.gB (nest+1) (n+1) s.a8).2 s.aS).1=true∧
 (Sm.pU nest n s).2=(Sm.gB (nest+1) (Sm.gB (nest+1) (n+1) s.a8).2 s.aS).2:=by
 rw[F1]at h ⊢
 split at h
 ·cases h
 rename_i h1
 simp only[Bool.or_eq_true,bne_iff_ne,ne_eq,decide_eq_true_eq,Bool.not_eq_true',not_or,Decidable.not_not,Bool.not_eq_false]at h1
 split at h
 ·cases h
 rename_i h2
 have uA:(Sm.gB (nest+1) (n+1) s.a8).1=true:=by simpa using h2
 refine⟨by omega,h1.1.1.2, ?_,uA,h, ?_⟩
 ·rw[ER,h1.1.2,h1.2];rfl
 ·rw[if_neg (by simp only[Bool.or_eq_true,bne_iff_ne,ne_eq,decide_eq_true_eq,Bool.not_eq_true',not_or,Decidable.not_not,Bool.not_eq_false];exact h1),if_neg h2]
theorem tv {nest:Int} {n:Nat} {l:List Sm} (h:(Sm.gB nest n l).1=true):(l = []∨nest≤12)∧Sm.gB nest n l=Sm.fk nest n l:=by
 unfold Sm.gB gate at *
 split at h
 ·cases h
 ·rename_i hc
  rw[if_neg hc]
  refine⟨?_,rfl⟩
  simp only[Bool.and_eq_true,decide_eq_true_eq,not_and]at hc
  cases l with
  |nil=>exact .inl rfl
  |cons s l=>right;simp only[List.length_cons]at hc;omega
mutual
theorem RZ : ∀ (s:Sm) (nest cy:Int) (aS:Bool) (n:Nat) (out:List It),nest≤12→out.length≤n→n≤200→(Sm.pU nest n s).1=true→
 ∃ new,iS nest cy aS out s=out++new∧It.fN n new=true∧n+new.length=(Sm.pU nest n s).2∧(Sm.pU nest n s).2≤200
 | ⟨id,kind,labels,name,proc,x,has,args,a8,e⟩,nest,cy,aS,n,out,R0,ho,hn,h=>by
  obtain⟨h1,h2,h3,h4,h5,h6⟩:=GZ h
  dsimp only at h2 h4 h5 h6
  rw[h6]
  obtain⟨g1,e1⟩:=tv h4
  rw[e1]at h4 h5 ⊢
  obtain⟨g2,e2⟩:=tv h5
  rw[e2]at h5 ⊢
  have pO:It.fN n [(⟨⟨id,kind,labels,name,proc,x,has,args,a8,e⟩,nest,cy,aS⟩:It)] = true:=(ES _ _).2 ⟨h2,R0,h3⟩
  obtain⟨n1,k1,k2,k3,k4⟩:=wQ a8 (nest+1) id false (n+1) (out++ [⟨⟨id,kind,labels,name,proc,x,has,args,a8,e⟩,nest,cy,aS⟩]) g1 (by simp;omega) h1 h4
  obtain⟨n2,j1,j2,j3,j4⟩:=wQ e (nest+1) id true _ (out++ [⟨⟨id,kind,labels,name,proc,x,has,args,a8,e⟩,nest,cy,aS⟩]++n1) g2 (by simp;omega) k4 h5
  simp only[iS]
  rw[if_pos (by simpa using R0),k1,j1]
  refine⟨⟨⟨id,kind,labels,name,proc,x,has,args,a8,e⟩,nest,cy,aS⟩::(n1++n2),by simp, ?_, ?_,j4⟩
  ·have:(⟨⟨id,kind,labels,name,proc,x,has,args,a8,e⟩,nest,cy,aS⟩:It)::(n1++n2) = [⟨⟨id,kind,labels,name,proc,x,has,args,a8,e⟩,nest,cy,aS⟩]++n1++n2:=by simp
   rw[this,kY,kY,pO,Bool.true_and]
   have e3:n+([(⟨⟨id,kind,labels,name,proc,x,has,args,a8,e⟩,nest,cy,aS⟩:It)]++n1).length=(Sm.fk (nest+1) (n+1) a8).2:=by simp;omega
   rw[e3,j2]
   have e4:n + [(⟨⟨id,kind,labels,name,proc,x,has,args,a8,e⟩,nest,cy,aS⟩:It)].length=n+1:=rfl
   rw[e4,k2];rfl
  ·simp only[List.length_cons,List.length_append];omega
theorem wQ : ∀ (l:List Sm) (nest cy:Int) (aS:Bool) (n:Nat) (out:List It),(l = []∨nest≤12)→out.length≤n→n≤200→(Sm.fk nest n l).1=true→
 ∃ new,dQ nest cy aS out l=out++new∧It.fN n new=true∧n+new.length=(Sm.fk nest n l).2∧(Sm.fk nest n l).2≤200
 | [],nest,cy,aS,n,out,R0,ho,hn,h=>⟨[],by simp[dQ],rfl,by simp[Sm.fk],by simpa[Sm.fk]using hn⟩
 |s::l,nest,cy,aS,n,out,R0,ho,hn,h=>by
  have adv:nest≤12:=R0.resolve_left (by simp)
  simp only[Sm.fk]at h ⊢
  split at h
  ·cases h
  rename_i hc
  rw[if_neg hc]
  obtain⟨n1,k1,k2,k3,k4⟩:=RZ s nest cy aS n out adv ho hn (by simpa using hc)
  obtain⟨n2,j1,j2,j3,j4⟩:=wQ l nest cy aS _ (out++n1) (.inr adv) (by simp;omega) k4 h
  simp only[dQ]
  rw[if_pos (by simp only[decide_eq_true_eq];omega),k1,j1]
  refine⟨n1++n2,by simp, ?_,by simp;omega,j4⟩
  rw[kY,k2,k3,j2];rfl
end
mutual
theorem R3 : ∀ (s:Sm) (nest cy:Int) (aS:Bool) (n:Nat) (out new:List It),iS nest cy aS out s=out++new→It.fN n new=true→out.length≤n→n+new.length≤200→
 Sm.pU nest n s=(true,n+new.length)∧nest≤12
 | ⟨id,kind,labels,name,proc,x,has,args,a8,e⟩,nest,cy,aS,n,out,new,il,hm,ho,hn=>by
  obtain⟨n0,h0⟩:=BB nest cy aS ⟨id,kind,labels,name,proc,x,has,args,a8,e⟩ out
  have e0:new = ⟨⟨id,kind,labels,name,proc,x,has,args,a8,e⟩,nest,cy,aS⟩::n0:=List.append_cancel_left (il.symm.trans h0)
  subst e0
  have ahA:(⟨⟨id,kind,labels,name,proc,x,has,args,a8,e⟩,nest,cy,aS⟩:It)::n0 = [⟨⟨id,kind,labels,name,proc,x,has,args,a8,e⟩,nest,cy,aS⟩]++n0:=rfl
  rw[ahA,kY,Bool.and_eq_true]at hm
  obtain⟨nA,jD⟩:=hm
  obtain⟨c1,c2,c3⟩:=(ES _ _).1 nA
  dsimp only at c1 c2 c3
  simp only[List.length_cons]at hn ⊢
  have VA:dQ (nest+1) id true (dQ (nest+1) id false (out++ [⟨⟨id,kind,labels,name,proc,x,has,args,a8,e⟩,nest,cy,aS⟩]) a8) e=out++([⟨⟨id,kind,labels,name,proc,x,has,args,a8,e⟩,nest,cy,aS⟩]++n0):=by
   simp only[iS]at il
   rw[if_pos (by simpa using c2)]at il
   exact il
  obtain⟨n1,g1⟩:=qM (nest+1) id false a8 (out++ [⟨⟨id,kind,labels,name,proc,x,has,args,a8,e⟩,nest,cy,aS⟩])
  obtain⟨n2,g2⟩:=qM (nest+1) id true e (dQ (nest+1) id false (out++ [⟨⟨id,kind,labels,name,proc,x,has,args,a8,e⟩,nest,cy,aS⟩]) a8)
  have en:n0=n1++n2:=by
   rw[g2,g1]at VA
   simp only[List.append_assoc,List.append_cancel_left_eq]at VA
   exact VA.symm
  subst en
  have VB:It.fN (n+1) (n1++n2)=true:=jD
  rw[kY,Bool.and_eq_true]at VB
  simp only[List.length_append]at hn ⊢
  obtain⟨r1,r2⟩:=wR a8 (nest+1) id false (n+1) _ n1 g1 VB.1 (by simp;omega) (by omega)
  obtain⟨q1,q2⟩:=wR e (nest+1) id true (n+1+n1.length) _ n2 g2 VB.2 (by rw[g1];simp;omega) (by omega)
  refine⟨?_,c2⟩
  have gg : ∀ {l:List Sm} {m:Nat} {r:Bool×Nat},Sm.fk (nest+1) m l=r→(l = []∨nest+1≤12)→Sm.gB (nest+1) m l=r:=by
   intro l m r h1 h2
   unfold Sm.gB gate
   rw[if_neg]
   ·exact h1
   ·simp only [Bool.and_eq_true,decide_eq_true_eq,not_and]
    rcases h2 with h2|h2
    ·subst h2;simp
    ·omega
  have t1:=gg r1 r2
  have t2:=gg q1 q2
  rw[F1]
  dsimp only
  rw[t1]
  dsimp only
  rw[t2]
  rw[ER,Bool.and_eq_true]at c3
  rw[if_neg]
  ·simp;omega
  ·simp only [Bool.or_eq_true,bne_iff_ne,ne_eq,decide_eq_true_eq,Bool.not_eq_true',not_or,Decidable.not_not,Bool.not_eq_false]
   exact⟨⟨⟨by omega,c1⟩,c3.1⟩,c3.2⟩
theorem wR : ∀ (l:List Sm) (nest cy:Int) (aS:Bool) (n:Nat) (out new:List It),dQ nest cy aS out l=out++new→It.fN n new=true→out.length≤n→n+new.length≤200→
 Sm.fk nest n l=(true,n+new.length)∧(l = []∨nest≤12)
 | [],nest,cy,aS,n,out,new,il,hm,ho,hn=>by
  simp only[dQ]at il
  have:new = []:=by simpa using il
  subst this
  exact⟨by simp[Sm.fk], .inl rfl⟩
 | s::l,nest,cy,aS,n,out,new,il,hm,ho,hn=>by
  simp only[dQ]at il
  rw[if_pos (by simp only[decide_eq_true_eq];omega)]at il
  obtain⟨n1,g1⟩:=BB nest cy aS s out
  obtain⟨n2,g2⟩:=qM nest cy aS l (iS nest cy aS out s)
  have en:new=(⟨s,nest,cy,aS⟩::n1)++n2:=by
   rw[g2,g1,List.append_assoc,List.append_cancel_left_eq]at il
   exact il.symm
  subst en
  rw[kY,Bool.and_eq_true]at hm
  rw[List.length_append]at hn ⊢
  obtain⟨r1,r2⟩:=R3 s nest cy aS n out _ g1 hm.1 ho (by omega)
  obtain⟨q1,q2⟩:=wR l nest cy aS (n+(⟨s,nest,cy,aS⟩::n1:List It).length) _ n2 g2 hm.2 (by rw[g1,List.length_append];omega) (by omega)
  refine⟨?_, .inr r2⟩
  simp only[Sm.fk,r1,Bool.not_true,Bool.false_eq_true,↓reduceIte,q1]
  congr 1;omega
end
theorem BD : ∀ (l:List Pc) (out:List It),out.length≤200→(Pc.fk out.length l=true↔Pc.nX l=true∧∃ new,allM out l=out++new∧(out++new).length≤200∧It.fN out.length new=true)
 | [],out,ho=>by simp[Pc.fk,Pc.nX,allM,It.fN];exact ho
 | f::l,out,ho=>by
  have pV : ∀ (l:List Pc) (out:List It),∃ new,allM out l=out++new:=by
   intro l
   induction l with
   |nil=>intro out;exact⟨[],by simp[allM]⟩
   | cons f l ih=>
    intro out
    simp only[allM]
    split
    ·exact⟨_,rfl⟩
    ·obtain⟨n1,h1⟩:=ih (out++f.flat)
     exact⟨f.flat++n1,by rw[h1,List.append_assoc]⟩
  simp only[Pc.fk,Pc.nX]
  have ahB:(decide ((f.params.length:Int) > 8) ||decide ((f.vars.length:Int) > 16) || !(isName f.name) || !(fc f.vars) || !(fc f.fin))=(!(isName f.name) ||decide ((f.params.length:Int) > 8) ||decide ((f.vars.length:Int) > 16) || !(fc f.vars) || !(fc f.fin)):=by
   cases isName f.name<;>simp
  rw[ahB]
  split
  ·simp
  split
  ·simp
  have hg:Sm.gB 1 out.length f.body=Sm.fk 1 out.length f.body:=by unfold Sm.gB gate;rw[if_neg (by simp)]
  rw[hg]
  constructor
  ·intro h
   split at h
   ·cases h
   rename_i hc
   obtain⟨n1,k1,k2,k3,k4⟩:=wQ f.body 1 0 false out.length [] (.inr (by omega)) (by simp) ho (by simpa using hc)
   have il:f.flat=n1:=by unfold Pc.flat;rw[k1];rfl
   rw[← k3, ← List.length_append]at h
   obtain⟨hh,n2,j1,j2,j3⟩:=(BD l (out++n1) (by rw[List.length_append];omega)).1 h
   refine⟨hh,n1++n2, ?_,by simpa using j2, ?_⟩
   ·simp only [allM,il]
    rw[if_neg (by simp only[List.length_append,decide_eq_true_eq];omega),j1,List.append_assoc]
   ·rw[kY,k2, ← List.length_append,j3];rfl
  ·rintro⟨hh,new,j1,j2,j3⟩
   simp only[allM]at j1
   split at j1
   ·rename_i hc
    have:new=f.flat:=(List.append_cancel_left j1).symm
    subst this
    simp only[decide_eq_true_eq]at hc
    omega
   rename_i hc
   simp only[decide_eq_true_eq]at hc
   obtain⟨n2,g2⟩:=pV l (out++f.flat)
   have en:new=f.flat++n2:=by
    rw[g2,List.append_assoc]at j1
    exact(List.append_cancel_left j1).symm
   subst en
   rw[kY,Bool.and_eq_true]at j3
   rw[List.length_append,List.length_append]at j2
   obtain⟨r1,_⟩:=wR f.body 1 0 false out.length [] f.flat (by unfold Pc.flat;rfl) j3.1 (by simp) (by omega)
   rw[r1]
   simp only[Bool.not_true,Bool.false_eq_true,↓reduceIte]
   rw[← List.length_append]
   exact(BD l (out++f.flat) (by rw[List.length_append];omega)).2 ⟨hh,n2,g2,by simp;omega,by rw[List.length_append];exact j3.2⟩
theorem Ci (p:Pg):p.F3=p.may:=by
 have h:=BD p.procs [] (by simp)
 unfold Pg.F3 Pg.may
 split
 ·rfl
 ·have e:Pc.fk 0 p.procs=(if !(Pc.nX p.procs)then false else if decide ((p.all.length:Int) > 200)then false else It.fN 0 p.all):=by
   rw[Bool.eq_iff_iff]
   have h':Pc.fk 0 p.procs=true↔_:=h
   rw[h']
   have ha:p.all=allM [] p.procs:=rfl
   constructor
   ·rintro⟨h1,new,h2,h3,h4⟩
    rw[ha,h2,h1]
    simp only[List.nil_append]at h3 ⊢
    simp only[Bool.not_true,Bool.false_eq_true,↓reduceIte]
    rw[if_neg (by simp only[decide_eq_true_eq];omega)]
    exact h4
   ·intro h1
    cases hh:Pc.nX p.procs
    ·rw[hh]at h1;simp at h1
    ·rw [hh]at h1
     simp only[Bool.not_true,Bool.false_eq_true,↓reduceIte]at h1
     split at h1
     ·cases h1
     ·rename_i hc
      simp only[decide_eq_true_eq]at hc
      exact⟨rfl,p.all,by rw[ha];rfl,by simp;omega,h1⟩
  exact e
def an0 (x:aG):List aG→Bool
 | []=>false
 |s::l=>if x==s then true else an0 x l
def qd (pre:List aG):List aG→Bool
 | []=>false
 |s::l=>if fw pre s then true else qd (pre++ [s]) l
def fG (l:List aG):Bool:=qd [] l
theorem R4 {l:List aG} {k:Nat} {a:aG} (h:l[k]? = some a):l.take (k+1)=l.take k++ [a]:=by rw[List.take_add_one,h];rfl
theorem DH {l:List aG} (hl:l.length<4611686018427387904) (g:Tag) (s:St):aF Tryz.prog oe [.slice g 1 (l.map encStr)] s (.bool (fG l)) s:=by
 refine aF.XZ (d':= .slice .shared 1 (l.map encStr)) ?_ (Wk.shared _ _ _)
 refine aF.pure ?_ (by simp[D.bL,D.ok,Tag.ok,fb]) rfl s
 generalize h:fG l=p
 simp only[fG]at h
 unfold S0
 refine aF.go EB rfl fun B Q hB hQ=>?_
 have⟨hD,hY,hZ,gA⟩:=bR
 repeat' (first
 |simp only[go_sem,hD,hY,hZ,gA]
 |(with_reducible first|refine bo fun hc=>?_|refine bp fun hc=>?_|refine bq (fun hc=>?_) fun hc=>?_)<;>(try simp only[hc,bs,↓reduceIte]at h)<;>try simp only[hc]
 |(with_reducible refine aE hQ ?_;exact fV))
 refine fi 0 0 (bt.ind (ι:=List aG×Nat) (fun i=>l.drop i.2=i.1∧qd (l.take i.2) i.1=p) (fun i=>i.1.length)
  (fun i=> [(0, .slice .shared 1 (l.map encStr)),(5, .slice .shared 1 (l.map encStr)),(6, .int .i64 (l.length:Int)),(7, .int .i64 (i.2:Int))]) (fun i=>⟨[],[]⟩) ?_ (l,0) ⟨rfl,h⟩)
 rintro⟨rest,k⟩ ⟨h1,h⟩ IH
 dsimp only at h1 h
 cases rest with
 |nil=>
  have hD:=drop_nil h1
  simp only[qd]at h
  repeat' (first
 |simp only[go_sem,hD,hY,hZ,gA]
 |(with_reducible first|refine bo fun hc=>?_|refine bp fun hc=>?_|refine bq (fun hc=>?_) fun hc=>?_)<;>(try simp only[hc,bs,↓reduceIte]at h)<;>try simp only[hc]
 |(with_reducible refine aE hQ ?_;exact fV))
 |cons a rest=>
  obtain⟨hY,g2,hD,g4⟩:=drop_cons h1
  have bU:k<4611686018427387904:=by omega
  simp only[qd]at h
  have hc:=jB (l:=l.take k) (by rw[List.length_take];omega) a
  have e1:List.drop 0 (List.take k (l.map encStr))=(l.take k).map encStr:=by simp[List.map_take]
  have c1:((0:Int)≤(k:Int))=True:=by simp
  have c2:((k:Int)≤(l.length:Int))=True:=by simp only[eq_iff_iff,iff_true];omega
  have e2:List.take k (l.map encStr)=(l.take k).map encStr:=by simp[List.map_take]
  repeat' (first
 |simp only[go_sem,hD,hY,hZ,gA,e1,e2,c1,c2,or_true,true_and,and_self,ite_self,Int.toNat_natCast,List.drop_zero]
 |(with_reducible refine CU (hc _ _) ?_)
 |(with_reducible first|refine bo fun hc=>?_|refine bp fun hc=>?_|refine bq (fun hc=>?_) fun hc=>?_)<;>(try simp only[hc,bs,↓reduceIte]at h)<;>try simp only[hc]
 |(with_reducible refine aE hQ ?_;(try cases h);simp only[aV,aX,bH,bI,go_sem,hD,hY,hZ,gA,e1,e2,c1,c2,or_true,true_and,and_self,ite_self,Int.toNat_natCast,List.drop_zero];try exact cq))
  refine eY 0 0 ?_ ?_ (IH (rest,k+1) ⟨g2,by dsimp only;rw[R4 (by assumption)];exact h⟩ (Nat.lt_succ_self _))
  ·(simp only[go_sem,hD,hY,hZ,gA,aI bU];try exact cj)
  ·(simp only[go_sem,hD,hY,hZ,gA,aI bU];try exact cj)
end Go.Abs
