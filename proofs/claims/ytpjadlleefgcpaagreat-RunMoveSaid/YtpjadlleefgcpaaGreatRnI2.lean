/-
  What is proved here: part 2 of the road to the claim (Codes1, Have1, Codes2, Have2, Codes3, Codes4, Have4, Codes5, Have5, Have3, MirLex, MirMay, Prs, Lex1, Lex2, RefLex1, Prs2, Ref1, Ref2, RefMay2, Flat1, Flat2, Flat3, Sl1, MirFlat2, Sl2, TMay1, TMay2, RefMay3, RefMay4, TMay3, TMay4, MayFine, MayEq, Nm1, Nm2, Nm3).
  No conditions.
-/
import Derived.Test.YtpjadlleefgcpaaGreatRnI1
import Derived.Test.YtpjadlleefgcpaaGreatProg
import Derived.KernelRfl

set_option linter.unusedSimpArgs false
set_option linter.unusedVariables false
namespace Go.Abs
abbrev Q85:AC:= .seq (.run [.o 1 (.box bK),(.o 2 (.mv (.k (.val (.complex .f64 0 0)))))]) (.seq (.run [.o 3 (.aw br 1), .o 4 (.load cJ false 1), .o 5 (.sP (.ofInt .f64) fH fH), .o 6 (.aw br 2), .o 7 (.load dK false 1), .o 8 (.sP (.ofInt .f64) dc dc), .o 9 (.sP .Ly cj dd), .m 2 du]) .ret)
abbrev Q87:AC:= .run [(.o 3 (.dv [(.str [])] 1 1 [(0,(.k (.str [118])))])), .c 4 td [(.k (.int .i64 2))],(.o 5 (.build [(.int .i64 0),(.int .i64 0),(.slice .full 0 []),(.str []),(.str []),(.int .i64 0),(.int .i64 0),(.str []),(.slice .full 0 []),(.bool false),(.slice .full 0 []),(.slice .full 0 []),(.slice .full 0 [])] [(0,(1,(.k (.int .i64 1)))),(1,(1,(.k (.int .i64 1)))),(3,(1,(.k (.str [118])))),(5,(4,fH))])), .c 6 td [(.k (.int .i64 3))], .o 7 (.build [(.bool false),(.str []),(.int .i64 0),(.int .i64 0),(.str []),(.slice .full 0 [])] [(2,(4,dK))]),(.o 8 (.build [(.bool false),(.str []),(.int .i64 0),(.int .i64 0),(.str []),(.slice .full 0 [])] [(0,(1,(.k (.bool true)))),(1,(1,(.k (.str [118]))))])), .o 9 (.dv [(.bool false),(.str []),(.int .i64 0),(.int .i64 0),(.str []),(.slice .full 0 [])] 6 2 [(0,dc),(1,dd)]),(.o 10 (.build [(.int .i64 0),(.int .i64 0),(.slice .full 0 []),(.str []),(.str []),(.int .i64 0),(.int .i64 0),(.str []),(.slice .full 0 []),(.bool false),(.slice .full 0 []),(.slice .full 0 []),(.slice .full 0 [])] [(0,(1,(.k (.int .i64 2)))),(1,(1,(.k (.int .i64 4)))),(3,(1,(.k (.str [103])))),(4,(1,(.k (.str [112])))),(10,(1,du))])),(.c 11 l7 [(.k (.str [118]))]),(.o 12 (.build [(.int .i64 0),(.int .i64 0),(.slice .full 0 []),(.str []),(.str []),(.int .i64 0),(.int .i64 0),(.str []),(.slice .full 0 []),(.bool false),(.slice .full 0 []),(.slice .full 0 []),(.slice .full 0 [])] [(0,(1,(.k (.int .i64 3)))),(1,(1,(.k (.int .i64 3)))),(5,(4,cW))])),(.c 13 l7 [(.k (.str [103]))]),(.o 14 (.build [(.int .i64 0),(.int .i64 0),(.slice .full 0 []),(.str []),(.str []),(.int .i64 0),(.int .i64 0),(.str []),(.slice .full 0 []),(.bool false),(.slice .full 0 []),(.slice .full 0 []),(.slice .full 0 [])] [(0,(1,(.k (.int .i64 4)))),(1,(1,(.k (.int .i64 3)))),(5,(4,dm))])), .o 15 (.dv [(.int .i64 0),(.int .i64 0),(.slice .full 0 []),(.str []),(.str []),(.int .i64 0),(.int .i64 0),(.str []),(.slice .full 0 []),(.bool false),(.slice .full 0 []),(.slice .full 0 []),(.slice .full 0 [])] 13 4 [(0,cj),(1,cv),(2,de),(3,c6)]),(.o 16 (.build [(.str []),(.slice .full 0 []),(.slice .full 0 []),(.slice .full 0 []),(.slice .full 0 [])] [(0,(1,(.k (.str [109,97,105,110])))),(2,(1,cJ)),(3,(1,dD))])), .o 1 (.alloc [(.str []),(.slice .full 0 []),(.slice .full 0 []),(.slice .full 0 []),(.slice .full 0 [])]), .op none none (.store br dn 5)]
abbrev Q88:AC:= .run [(.o 17 (.build [(.str []),(.bool false)] [(0,(1,(.k (.str [120]))))])),(.o 18 (.build [(.str []),(.bool false)] [(0,(1,(.k (.str [121])))),(1,(1,(.k (.bool true))))])), .o 19 (.dv [(.str []),(.bool false)] 2 2 [(0,dN),(1,dL)]),(.o 20 (.dv [(.str [])] 1 1 [(0,(.k (.str [101])))])),(.c 21 l7 [(.k (.str [121]))]),(.c 22 l7 [(.k (.str [120]))]), .c 23 wM [(.k (.int .i64 8)),eH,eO],(.o 24 (.build [(.int .i64 0),(.int .i64 0),(.slice .full 0 []),(.str []),(.str []),(.int .i64 0),(.int .i64 0),(.str []),(.slice .full 0 []),(.bool false),(.slice .full 0 []),(.slice .full 0 []),(.slice .full 0 [])] [(0,(1,(.k (.int .i64 5)))),(1,(1,(.k (.int .i64 1)))),(3,(1,(.k (.str [121])))),(5,(4,eR))])),(.c 25 l7 [(.k (.str [121]))]), .c 26 td [(.k (.int .i64 9))], .c 27 wM [(.k (.int .i64 12)),fj,fB],(.o 28 (.build [(.int .i64 0),(.int .i64 0),(.slice .full 0 []),(.str []),(.str []),(.int .i64 0),(.int .i64 0),(.str []),(.slice .full 0 []),(.bool false),(.slice .full 0 []),(.slice .full 0 []),(.slice .full 0 [])] [(0,(1,(.k (.int .i64 7)))),(1,(1,(.k (.int .i64 10)))),(3,(1,(.k (.str [101]))))])), .o 29 (.dv [(.int .i64 0),(.int .i64 0),(.slice .full 0 []),(.str []),(.str []),(.int .i64 0),(.int .i64 0),(.str []),(.slice .full 0 []),(.bool false),(.slice .full 0 []),(.slice .full 0 []),(.slice .full 0 [])] 13 1 [(0,gp)]),(.o 30 (.build [(.int .i64 0),(.int .i64 0),(.slice .full 0 []),(.str []),(.str []),(.int .i64 0),(.int .i64 0),(.str []),(.slice .full 0 []),(.bool false),(.slice .full 0 []),(.slice .full 0 []),(.slice .full 0 [])] [(0,(1,(.k (.int .i64 6)))),(1,(1,(.k (.int .i64 5)))),(5,(4,fL)),(11,(1,gy))])),(.c 31 l7 [(.k (.str [121]))]),(.o 32 (.build [(.int .i64 0),(.int .i64 0),(.slice .full 0 []),(.str []),(.str []),(.int .i64 0),(.int .i64 0),(.str []),(.slice .full 0 []),(.bool false),(.slice .full 0 []),(.slice .full 0 []),(.slice .full 0 [])] [(0,(1,(.k (.int .i64 8)))),(1,(1,(.k (.int .i64 9)))),(9,(1,(.k (.bool true)))),(5,(4,gJ))])), .o 33 (.dv [(.int .i64 0),(.int .i64 0),(.slice .full 0 []),(.str []),(.str []),(.int .i64 0),(.int .i64 0),(.str []),(.slice .full 0 []),(.bool false),(.slice .full 0 []),(.slice .full 0 []),(.slice .full 0 [])] 13 3 [(0,fb),(1,gG),(2,iG)]),(.o 34 (.build [(.str []),(.slice .full 0 []),(.slice .full 0 []),(.slice .full 0 []),(.slice .full 0 [])] [(0,(1,(.k (.str [112])))),(1,(1,eC)),(4,(1,eK)),(3,(1,iA))])), .o 2 (.alloc [(.str []),(.slice .full 0 []),(.slice .full 0 []),(.slice .full 0 []),(.slice .full 0 [])]), .op none none (.store dC ji 5)]
abbrev Q8A:AC:= .seq (.run [(.o 35 (.dv [(.str [])] 1 1 [(0,(.k (.str [103])))])), .o 36 (.load br true 5), .o 37 (.load dC true 5), .o 38 (.dv [(.str []),(.slice .full 0 []),(.slice .full 0 []),(.slice .full 0 []),(.slice .full 0 [])] 5 2 [(0,iY),(1,ju)]), .o 39 (.build [(.slice .full 0 []),(.slice .full 0 [])] [(0,(1,iH)),(1,(1,ke))]), .op none none (.store bK jU 2)]) .ret
abbrev Q8D:AC:= .seq (.run [.o 0 (.alloc [(.slice .full 0 []),(.slice .full 0 [])])]) (.seq Q87 (.seq Q88 Q8A))
abbrev Q8N:AC:= .seq (.seq (.run [.m 6 cj, .m 7 bK, .o 8 (.len dc), .o 9 (.bin .lss dK dd), .m 10 du, .g 11 10 true (.mv br), .g 12 10 true (.bin .leq cW (.k (.int .i64 20000))), .o 13 (.pick cv de (.k (.bool false)))]) (.cond dm .skip (.exit 0))) (.seq (.block 1 (.run [.m 16 bK, .m 17 cj, .o 18 (.cH dn dN 1), .o 19 (.load dL false 1), .m 20 br, .c 21 iz [eC,eK], .m 1 eH])) (.run [.m 14 cj, .o 15 (.bin .add c6 (.k (.int .i64 1))), .m 5 dD]))
abbrev Q8T:AC:= .seq (.seq (.run [.o 5 (.mv (.k (.int .i64 0)))]) (.block 0 (.loop Q8N))) (.seq (.run [.m 22 br, .m 4 eO]) .ret)
abbrev Q8U:AC:= .seq (.run [.o 4 (.mv (.k (.int .i64 0)))]) Q8T
abbrev Q8Z:AC:= .cond dm (.seq (.run [.o 4 (.mv (.k (.int .i64 20001)))]) .ret) .skip
abbrev Q93:AC:= .seq (.seq (.run [.m 5 br, .o 6 (.bin .gtr cj (.k (.int .i64 20000))), .m 7 dK, .g 8 7 false (.mv bK), .g 9 7 false (.w7 dd), .g 10 7 false (.mv br), .g 11 7 false (.bin .sub (.k (.int .i64 20000)) cv), .g 12 7 false (.bin .geq du cW), .o 13 (.pick dc (.k (.bool true)) de)]) Q8Z) (.seq (.run [.m 14 br, .o 15 (.bin .add c6 (.k (.int .i64 1))), .m 16 bK, .o 17 (.w7 dn), .o 18 (.bin .add dD dN), .m 4 dL]) .ret)
abbrev Q94:AC:= .seq (.run [.o 4 (.mv (.k (.int .i64 0)))]) Q93
abbrev Q9B:AC:= .par [.o 22 (.aw dK 4), .o 23 (.load eO false 1), .o 24 (.aw dK 3), .o 25 (.load fb false 1), .o 26 (.aw dK 2), .o 27 (.load fB false 1), .o 28 (.aw dK 5), .o 29 (.load gp true 4), .m 30 br, .c 31 kX [gy,gG], .c 32 kF [fL,gJ], .c 33 iz [fj,iG], .c 34 iz [eR,iA], .m 1 ji] [(6,0),(7,0),(8,0),(9,0),(4,0),(5,1),(10,0),(2,0),(3,2),(11,0),(0,0),(1,3),(12,0),(13,0)]
abbrev Q9G:AC:= .par [.o 46 (.aw dK 10), .o 47 (.load mN false 1), .m 48 dc, .o 49 (.cH nS mO 6), .o 50 (.aw mP 1), .o 51 (.load ng false 1), .o 52 (.aw dK 10), .o 53 (.load lW false 1), .m 54 dc, .o 55 (.cH mQ nh 6), .o 56 (.aw ni 2), .o 57 (.load pD true 4), .m 58 br, .c 59 kX [qG,qc], .c 60 iz [lV,nT], .m 1 rD] [(6,0),(7,0),(8,0),(9,0),(10,0),(11,0),(12,0),(13,0),(0,0),(1,1),(2,0),(3,0),(4,0),(5,1),(14,0),(15,0)]
abbrev Q9K:AC:= .seq (.seq (.run [.m 35 dc, .o 36 (.aw dK 10), .o 37 (.load iY false 1), .o 38 (.len ju), .o 39 (.bin .lss iH ke), .m 40 jU, .g 41 40 true (.mv br), .g 42 40 true (.bin .leq ku (.k (.int .i64 20000))), .o 43 (.pick kL kZ (.k (.bool false)))]) (.cond kM .skip (.exit 2))) (.seq (.block 3 Q9G) (.run [.m 44 dc, .o 45 (.bin .add k8 (.k (.int .i64 1))), .m 7 mM]))
abbrev Q9O:AC:= .par [.o 61 (.aw dK 12), .o 62 (.load tu false 1), .o 63 (.aw dK 11), .o 64 (.load tv false 1), .m 65 br, .c 66 lN [tw,xC], .c 67 lN [su,zO], .m 1 zP] [(2,0),(3,0),(4,0),(5,0),(0,0),(1,1),(6,0),(7,0)]
abbrev Q9P:AC:= .seq (.seq (.run [.o 7 (.mv (.k (.int .i64 0)))]) (.block 2 (.loop Q9K))) Q9O
abbrev Q9U:AC:= .seq (.block 1 (.seq (.run [.m 18 bK, .m 19 cj, .o 20 (.cH dL eC 13), .o 21 (.load eK true 13), .o 6 (.alloc [(.int .i64 0),(.int .i64 0),(.slice .full 0 []),(.str []),(.str []),(.int .i64 0),(.int .i64 0),(.str []),(.slice .full 0 []),(.bool false),(.slice .full 0 []),(.slice .full 0 []),(.slice .full 0 [])]), .op none none (.store dK eH 13)]) (.seq Q9B Q9P))) (.run [.m 16 cj, .o 17 (.bin .add dn (.k (.int .i64 1))), .m 5 dN])
abbrev Q9V:AC:= .seq (.seq (.run [.m 8 cj, .m 9 bK, .o 10 (.len du), .o 11 (.bin .lss dd cv), .m 12 cW, .g 13 12 true (.mv br), .g 14 12 true (.bin .leq dm (.k (.int .i64 20000))), .o 15 (.pick de c6 (.k (.bool false)))]) (.cond dD .skip (.exit 0))) Q9U
abbrev QA1:AC:= .seq (.seq (.run [.o 5 (.mv (.k (.int .i64 0)))]) (.block 0 (.loop Q9V))) (.seq (.run [.m 68 br, .m 4 xD]) .ret)
abbrev QA2:AC:= .seq (.run [.o 4 (.mv (.k (.int .i64 0)))]) QA1
abbrev QA9:AC:= .par [.m 17 cJ, .m 18 cJ, .o 19 (.cz dL), .o 20 (.aw eC 3), .o 21 (.load eK false 1), .m 22 cJ, .o 23 (.cz eO), .o 24 (.aw eR 2), .o 25 (.load fb false 1), .o 26 (.len fj), .o 27 (.bin .add fB (.k (.int .i64 1))), .o 28 (.dv [(.int .i64 0)] 1 1 [(0,fL)]), .o 29 (.app 1 8 eH gp), .o 30 (.cz dN), .o 31 (.aw gG 3), .op none none (.store gJ gy 1)] [(1,0),(2,0),(3,0),(4,0),(5,0),(6,0),(7,0),(8,0),(9,0),(10,0),(11,0),(12,0),(0,0),(13,0),(14,0),(15,0)]
abbrev QAB:AC:= .par [.m 38 cJ, .m 39 cJ, .o 40 (.cz jU), .o 41 (.aw kL 4), .o 42 (.load ku false 1), .m 43 cJ, .o 44 (.cz kM), .o 45 (.aw k8 2), .o 46 (.load mM false 1), .o 47 (.len mN), .o 48 (.bin .add nS (.k (.int .i64 1))), .o 49 (.dv [(.int .i64 0)] 1 1 [(0,mO)]), .o 50 (.app 1 8 kZ mP), .o 51 (.cz ke), .o 52 (.aw lV 4), .op none none (.store lW ng 1)] [(1,0),(2,0),(3,0),(4,0),(5,0),(6,0),(7,0),(8,0),(9,0),(10,0),(11,0),(12,0),(0,0),(13,0),(14,0),(15,0)]
abbrev QAC:AC:= .seq (.run [.m 32 cJ, .o 33 (.aw cj 3), .o 34 (.load iA false 1), .m 35 fH,(.o 36 (.build [(.int .i64 0),(.int .i64 0),(.slice .full 0 []),(.str []),(.str []),(.int .i64 0),(.int .i64 0),(.str []),(.slice .full 0 []),(.bool false),(.slice .full 0 []),(.slice .full 0 []),(.slice .full 0 []),(.int .i64 0),(.int .i64 0),(.int .i64 0),(.int .i64 0)] [(13,(1,iH)),(15,(1,(.k (.int .i64 (-1)))))])), .c 37 kY [iG,ji,iY]]) QAB
abbrev QAH:AC:= .seq (.block 1 (.seq (.run [.m 14 de, .o 15 (.cH cv de 5), .o 16 (.load dD true 5), .o 5 (.alloc [(.str []),(.slice .full 0 []),(.slice .full 0 []),(.slice .full 0 []),(.slice .full 0 [])]), .m 4 c6, .op none none (.store cj dn 5)]) (.seq QA9 QAC))) (.run [.o 53 (.bin .add de (.k (.int .i64 1))), .m 12 mQ])
abbrev QAL:AC:= .block 0 (.loop (.seq (.run [.o 13 (.bin .lss de cW)]) (.seq (.cond dm .skip (.exit 0)) QAH)))
abbrev QAP:AC:= .seq (.seq (.run [.o 9 (.aw br 1), .o 10 (.load du false 1), .o 11 (.len cv), .o 12 (.mv (.k (.int .i64 0)))]) QAL) (.seq (.run [.m 54 cJ, .m 2 nh]) .ret)
abbrev QAR:AC:= .seq (.run [.o 1 (.box bK), .o 2 (.mv (.k .eW))]) (.seq (.run [.o 6 (.load br true 2), .o 7 (.build [(.slice .full 0 []),(.slice .full 0 []),(.slice .full 0 []),(.slice .full 0 []),(.slice .full 0 [])] [(0,(2,dK))]), .o 8 (.box dc), .m 3 dd]) QAP)
abbrev QAU:AC:= .par [.m 22 br, .m 23 bK, .o 24 (.cz eR), .o 25 (.aw fb 0), .o 26 (.load fj false 1), .o 27 (.cz fB), .o 28 (.aw fL 0), .o 29 (.load gp true 2), .o 30 (.aw du 0), .o 31 (.load gG false 1), .c 32 xv [gy,gJ], .m 33 cJ, .o 34 (.build [(.int .i64 0),(.slice .full 0 []),(.slice .full 0 []),(.int .i64 0)] [(0,(1,eO)),(1,(1,iG)),(3,(1,iA))]), .o 35 (.box ji), .m 10 iH] [(1,0),(2,0),(3,0),(4,0),(5,0),(6,0),(7,0),(8,0),(9,0),(10,0),(0,0),(11,0),(12,0),(13,0),(14,0)]
abbrev QAV:AC:= .par [.m 36 cv, .m 37 cv, .o 38 (.cz ju), .o 39 (.aw ke 2), .o 40 (.load jU false 1), .m 41 bK, .o 42 (.cz ku), .o 43 (.aw kZ 1), .o 44 (.load kM false 1), .o 45 (.app 1 8 kL k8), .m 46 dC, .o 47 (.app 1 8 mM mN), .o 48 (.cz iY), .o 49 (.aw mO 2), .op none none (.store mP nS 1)] [(1,0),(2,0),(3,0),(4,0),(5,0),(6,0),(7,0),(8,0),(9,0),(10,0),(11,0),(0,0),(12,0),(13,0),(14,0)]
abbrev QB3:AC:= .seq (.cond nh .skip (.exit 0)) (.seq (.block 1 (.run [.m 55 cv, .m 56 cv, .o 57 (.cz pD), .o 58 (.aw qG 2), .o 59 (.load qc false 1), .o 60 (.alloc [(.int .i64 0)]), .o 61 (.dv [.eW] 1 1 [(0,rD)]), .o 62 (.app 1 8 nT tu), .o 63 (.cz ni), .o 64 (.aw tv 2), .op none none (.store tw su 1)])) (.run [.o 65 (.bin .add mQ (.k (.int .i64 1))), .m 53 xC]))
abbrev QB4:AC:= .seq (.run [.o 54 (.bin .lss mQ lW)]) QB3
abbrev QBB:AC:= .seq (.run [.m 66 bK, .m 67 bK, .o 68 (.cz zP), .o 69 (.aw xD 4), .o 70 (.load Bo false 1), .m 71 cv, .o 72 (.dv [.eW] 1 1 [(0,FR)]), .o 73 (.app 1 8 Bp Du), .o 74 (.cz zO), .o 75 (.aw FT 4), .op none none (.store FU Dv 1)]) (.seq (.run [.m 76 bK, .o 77 (.cz Dw), .o 78 (.aw FV 0), .o 79 (.load Bq false 1), .m 80 br, .c 81 qD [IT,IU], .m 8 IV]) .ret)
abbrev QBC:AC:= .seq (.seq (.run [.o 50 (.aw du 2), .o 51 (.load ng false 1), .o 52 (.len lV), .o 53 (.mv (.k (.int .i64 0)))]) (.block 0 (.loop QB4))) QBB
abbrev QBG:AC:= .seq (.run [.o 8 (.mv (.k (.int .i64 0)))]) (.seq (.run [.m 11 bK, .o 12 (.cz cW), .o 13 (.aw de 0), .o 14 (.load dm false 1), .o 15 (.cz c6), .o 16 (.aw dD 0), .o 17 (.aw dn 1), .o 18 (.load dN false 1), .m 19 br, .o 20 (.cH dL eC 5), .o 21 (.load eK true 5), .o 9 (.alloc [(.str []),(.slice .full 0 []),(.slice .full 0 []),(.slice .full 0 []),(.slice .full 0 [])]), .op none none (.store du eH 5)]) (.seq QAU (.seq QAV QBC)))
abbrev QBK:AC:= .seq (.run [.o 3 (.box br), .o 4 (.mv (.k (.int .i64 0)))]) (.seq (.run [.m 5 bK, .o 6 (.cz cj), .o 7 (.aw dK 0), .o 8 (.aw dc 1), .o 9 (.load dd false 1), .o 10 (.wG 76 [cJ]), .c 11 iu [du,cv], .m 4 cW]) .ret)
abbrev QBV:AC:= .seq (.run [.o 18 (.aw dc 0), .o 19 (.load dL false 1)]) (.cond eC (.seq (.run [.m 20 cj, .m 21 bK, .o 22 (.aw dc 1), .o 23 (.load eO false 1), .c 24 jC [eH,eR], .o 25 (.dv [.eW] 1 1 [(0,fb)]), .o 26 (.app 1 8 eK fj), .m 5 fB]) (.exit 1)) .skip)
abbrev QBZ:AC:= .seq (.run [(.o 4 (.mv (.k (.int .i64 (-1)))))]) .ret
abbrev QC6:AC:= .seq (.run [.m 28 bK, .o 29 (.aw dc 2), .o 30 (.load gy true 4), .c 31 kT [gp,gG], .m 27 gJ, .o 32 (.ext fL 0), .o 33 (.ext fL 1), .m 8 iG, .m 9 iA]) (.seq (.seq (.run [.m 34 du, .o 35 (.un .not ji)]) (.cond iH QBZ .skip)) (.seq (.run [.m 36 dd, .o 10 (.alloc [(.int .i64 0)]), .op none none (.store cv iY 1)]) (.run [.m 37 cj, .o 38 (.dv [.eW] 1 1 [(0,cv)]), .o 39 (.app 1 8 ju ke), .m 5 jU])))
abbrev QCB:AC:= .seq (.block 1 (.seq (.run [.o 16 (.cH de c6 6), .o 17 (.load dn true 6), .o 7 (.alloc [(.bool false),(.str []),(.int .i64 0),(.int .i64 0),(.str []),(.slice .full 0 [])]), .op none none (.store dc dN 6)]) (.seq QBV QC6))) (.run [.o 40 (.bin .add c6 (.k (.int .i64 1))), .m 14 kL])
abbrev QCD:AC:= .seq (.run [.o 15 (.bin .lss c6 dm)]) (.seq (.cond dD .skip (.exit 0)) QCB)
abbrev QCK:AC:= .seq (.run [(.o 4 (.mv (.k (.int .i64 (-1)))))]) .ret
abbrev QCM:AC:= .cond mN (.seq (.run [.m 47 bK, .o 48 (.cz nS), .o 49 (.aw mO 6), .o 50 (.aw mP 0), .op none none (.store ng (.k (.int .i64 5)) 1)]) QCK) .skip
abbrev QCP:AC:= .par [.m 55 bK, .m 56 bK, .o 57 (.cz pD), .o 58 (.aw qG 0), .o 59 (.load qc false 1), .o 60 (.aw cJ 4), .o 61 (.load rD false 1), .c 62 jt [nT,tu], .m 63 cj, .o 64 (.aw cJ 0), .o 65 (.load tw false 1), .c 66 jZ [ni,su,tv,xC], .m 4 zO] [(1,0),(2,0),(3,0),(4,0),(5,0),(6,0),(7,0),(0,0),(8,0),(9,0),(10,1),(11,0),(12,0)]
abbrev QCS:AC:= .seq (.seq (.run [.m 41 bK, .o 42 (.cz ku), .o 43 (.aw kZ 4), .o 44 (.load kM false 1), .o 45 (.len k8), .o 46 (.bin .gtr mM (.k (.int .i64 100)))]) QCM) (.seq (.run [.m 51 bK, .o 52 (.aw cJ 0), .o 53 (.load lW false 1),(.c 54 fu [lV,mQ,(.k (.slice .full 0 []))])]) (.seq QCP .ret))
abbrev QCT:AC:= .seq (.seq (.run [.o 11 (.aw cJ 10), .o 12 (.load cW false 1), .o 13 (.len de), .o 14 (.mv (.k (.int .i64 0)))]) (.block 0 (.loop QCD))) QCS
abbrev QCV:AC:= .seq (.run [.o 3 (.box br), .o 4 (.mv (.k (.int .i64 0)))]) (.seq (.run [.o 5 (.mv (.k (.slice .full 0 [])))]) QCT)
abbrev QD1:AC:= .seq (.run [.m 10 bK, .o 11 (.aw cJ 0), .o 12 (.load cW false 1),(.c 13 fu [cv,de,(.k (.slice .full 0 []))])]) (.seq (.run [.o 4 (.mv (.k (.int .i64 0)))]) .ret)
abbrev QDB:AC:= .seq (.seq (.run [.m 21 dK]) (.cond eH (.run [.m 22 bK, .o 23 (.aw cJ 0), .o 24 (.load eR false 1), .m 25 cj, .o 26 (.dv [(.int .i64 0)] 1 1 [(0,fj)]), .c 27 fu [eO,fb,fB]]) .skip)) (.seq (.run [.m 28 cj, .m 4 gp]) .ret)
abbrev QDE:AC:= .seq (.run [.o 3 (.box br), .o 4 (.mv (.k (.int .i64 0)))]) (.seq (.seq (.run [.o 7 (.aw cJ 9), .o 8 (.load dc false 1), .o 9 (.un .not dd)]) (.cond du QD1 .skip)) (.seq (.run [.m 15 bK, .o 16 (.aw cJ 5), .o 17 (.load dn true 4), .c 18 kT [dD,dN], .m 14 dL, .o 19 (.ext c6 0), .o 20 (.ext c6 1), .m 5 eC, .m 6 eK]) QDB))
abbrev QDK:AC:= .par [.m 21 bK, .o 22 (.cz eH), .o 23 (.aw eO 0), .o 24 (.load eR false 1), .o 25 (.cz fb), .o 26 (.aw fj 2), .o 27 (.load fB false 1), .o 28 (.aw cJ 16), .o 29 (.load gp false 1), .o 30 (.bin .sub gy (.k (.int .i64 1))), .o 31 (.cH fL gG 17), .o 32 (.aw gJ 15), .o 33 (.load iG false 1), .m 4 iA] [(0,0),(1,0),(2,0),(3,0),(4,0),(5,0),(6,0),(7,0),(8,0),(9,0),(10,0),(11,0),(12,0),(13,0)]
abbrev QDU:AC:= .par [.m 49 bK, .o 50 (.cz mP), .o 51 (.aw ng 0), .o 52 (.load lV false 1), .o 53 (.aw cJ 13), .o 54 (.load mQ false 1), .o 55 (.aw cj 3), .o 56 (.load ni false 1), .c 57 qj [lW,nh,pD], .m 48 qG, .o 58 (.ext mO 0), .o 59 (.ext mO 1), .m 6 qc, .m 7 nT] [(0,0),(1,0),(2,0),(3,0),(4,0),(5,0),(6,0),(7,0),(8,0),(9,0),(10,0),(11,0),(12,0),(13,0)]
abbrev QE0:AC:= .par [.m 63 bK, .o 64 (.cz tv), .o 65 (.aw tw 6), .o 66 (.aw xC 2), .o 67 (.load zO false 1), .m 68 bK, .o 69 (.cz xD), .o 70 (.aw Bo 2), .o 71 (.load Bp false 1), .o 72 (.len FR), .o 73 (.bin .geq zP Du)] [(0,0),(1,0),(2,0),(3,0),(4,0),(5,0),(6,0),(7,0),(8,0),(9,0),(10,0)]
abbrev QE3:AC:= .seq (.run [(.o 4 (.mv (.k (.int .i64 (-1)))))]) .ret
abbrev QE5:AC:= .cond Dv (.seq (.run [.m 74 bK, .o 75 (.cz FT), .o 76 (.aw FU 6), .o 77 (.aw Dw 0), .op none none (.store FV (.k (.int .i64 3)) 1)]) QE3) .skip
abbrev QE7:AC:= .par [.m 78 bK, .o 79 (.cz Bq), .o 80 (.aw IT 2), .o 81 (.load IU false 1), .m 82 bK, .o 83 (.cz MJ), .o 84 (.aw MK 6), .o 85 (.aw MM 2), .o 86 (.load MN false 1), .o 87 (.cH IV MO 1), .o 88 (.load MP false 1), .m 8 MQ] [(0,0),(1,0),(2,0),(3,0),(4,0),(5,0),(6,0),(7,0),(8,0),(9,0),(10,0),(11,0)]
abbrev QEF:AC:= .seq (.run [.m 89 bK, .o 90 (.cz FW), .o 91 (.aw IW 6), .o 92 (.aw MR 2), .o 93 (.load S8 false 1), .o 94 (.bin .add Zd (.k (.int .i64 1))), .o 95 (.cz FW), .o 96 (.aw Zf 6), .o 97 (.aw ahj 2), .op none none (.store ahk Ze 1)]) (.seq (.run [.m 98 bK, .o 99 (.aw cj 3), .o 100 (.load ahm false 1), .c 101 jC [ahl,abG], .m 102 dd, .o 103 (.cz abH), .op none none (.store abJ abI 1)]) (.seq (.run [.m 104 bK, .o 105 (.aw cj 0), .o 106 (.load abL false 1), .m 107 dd, .o 108 (.dv [(.int .i64 0)] 1 1 [(0,abN)]), .c 109 fu [abK,abM,abO]]) (.seq (.run [.o 110 (.aw cJ 15), .o 111 (.load abP false 1), .m 4 abQ]) .ret)))
abbrev QEK:AC:= .cond kZ (.seq (.run [.m 44 bK, .o 45 (.aw cj 0), .o 46 (.load mM false 1),(.c 47 fu [k8,mN,(.k (.slice .full 0 []))])]) (.seq QDU (.seq (.run [.m 60 dK, .m 4 rD]) .ret))) (.seq (.run [.o 62 (.bin .eql c6 (.k (.int .i64 2))), .m 61 su]) (.cond tu (.seq (.seq QE0 QE5) (.seq QE7 QEF)) .skip))
abbrev QEM:AC:= .cond ji (.seq (.run [.m 36 bK, .o 37 (.aw cj 0), .o 38 (.load ju false 1),(.c 39 fu [iY,ke,(.k (.slice .full 0 []))])]) (.seq (.run [.o 40 (.aw cJ 16), .o 41 (.load kL false 1), .m 4 ku]) .ret)) (.seq (.run [.o 43 (.bin .eql c6 (.k (.int .i64 10))), .m 42 kM]) QEK)
abbrev QEO:AC:= .cond dD (.seq (.run [.m 17 bK, .o 18 (.aw cj 0), .o 19 (.load dL false 1),(.c 20 fu [dN,eC,(.k (.slice .full 0 []))])]) (.seq QDK .ret)) (.seq (.run [.o 35 (.bin .eql c6 (.k (.int .i64 8))), .m 34 iH]) QEM)
abbrev QEQ:AC:= .block 0 (.seq (.run [.o 16 (.bin .eql c6 (.k (.int .i64 7))), .m 15 dn]) QEO)
abbrev QEV:AC:= .seq (.run [(.o 4 (.mv (.k (.int .i64 (-1)))))]) .ret
abbrev QFC:AC:= .seq (.seq (.run [.m 153 du, .o 154 (.bin .neq als (.k (.int .i64 0)))]) (.cond alu (.seq (.run [.o 155 (.aw cj 11), .o 156 (.load alv false 1), .o 157 (.aw cJ 15), .o 158 (.load alx false 1), .c 159 rP [alw,aly], .m 4 alz]) .ret) .skip)) (.seq (.run [.o 160 (.aw cj 12), .o 161 (.load alA false 1), .o 162 (.aw cJ 15), .o 163 (.load alC false 1), .c 164 rP [alB,alD], .m 4 alE]) .ret)
abbrev QFJ:AC:= .cond alG (.seq (.run [.m 167 du, .o 168 (.bin .neq alI (.k (.int .i64 0)))]) (.cond alJ (.seq (.run [.o 169 (.aw cj 11), .o 170 (.load alK false 1), .o 171 (.aw cj 0), .o 172 (.load alM false 1), .c 173 rP [alL,alN], .m 4 alO]) .ret) .skip)) .skip
abbrev QFL:AC:= .cond alq QFC (.seq (.run [.o 166 (.bin .eql Ha (.k (.int .i64 6))), .m 165 alH]) QFJ)
abbrev QFN:AC:= .cond alb (.run [.m 139 bK, .m 140 bK, .o 141 (.cz ale), .o 142 (.aw alf 6), .o 143 (.aw alg 3), .o 144 (.load alh false 1), .m 145 du, .o 146 (.dv [(.int .i64 0)] 1 1 [(0,alj)]), .o 147 (.app 1 8 ali alk), .o 148 (.cz ald), .o 149 (.aw aln 6), .o 150 (.aw alo 3), .op none none (.store alp alm 1)]) (.seq (.run [.o 152 (.bin .eql Ha (.k (.int .i64 5))), .m 151 alr]) QFL)
abbrev QFP:AC:= .cond ab5 (.run [.m 131 bK, .o 132 (.aw cj 3), .o 133 (.load ak6 false 1), .c 134 jC [ak5,ak7], .m 135 du, .o 136 (.cz ak8), .op none none (.store ala ak9 1)]) (.seq (.run [.o 138 (.bin .eql Ha (.k (.int .i64 3))), .m 137 alc]) QFN)
abbrev QFR:AC:= .block 1 (.seq (.run [.o 130 (.bin .eql Ha (.k (.int .i64 1))), .m 129 ab6]) QFP)
abbrev QFX:AC:= .seq (.seq (.run [.m 119 cv, .o 120 (.un .not abX)]) (.cond abY QEV .skip)) (.seq (.run [.m 121 bK, .o 122 (.aw cj 0), .o 123 (.load ab0 false 1), .m 124 du, .o 125 (.dv [(.int .i64 0)] 1 1 [(0,ab2)]), .c 126 fu [abZ,ab1,ab3]]) (.seq (.seq (.run [.o 127 (.aw cj 1), .o 128 (.load ab4 false 1)]) QFR) (.seq (.run [.o 174 (.aw cJ 15), .o 175 (.load alP false 1), .m 4 alQ]) .ret)))
abbrev QG1:AC:= .seq (.run [.o 3 (.box br), .o 4 (.mv (.k (.int .i64 0)))]) (.seq (.run [.o 11 (.aw cJ 0), .o 12 (.load cW true 13), .o 5 (.alloc [(.int .i64 0),(.int .i64 0),(.slice .full 0 []),(.str []),(.str []),(.int .i64 0),(.int .i64 0),(.str []),(.slice .full 0 []),(.bool false),(.slice .full 0 []),(.slice .full 0 []),(.slice .full 0 [])]), .op none none (.store cj de 13)]) (.seq (.seq (.run [.o 13 (.aw cj 1), .o 14 (.load dm false 1)]) QEQ) (.seq (.run [.m 113 bK, .o 114 (.aw cj 5), .o 115 (.load abS true 4), .c 116 kT [abR,abT], .m 112 abU, .o 117 (.ext S9 0), .o 118 (.ext S9 1), .m 9 abV, .m 10 abW]) QFX)))
abbrev QG4:AC:= .par [.m 12 bK, .m 13 bK, .o 14 (.cz dm), .o 15 (.aw c6 4), .o 16 (.load dD false 1), .m 17 bK, .o 18 (.cz dN), .o 19 (.aw dL 4), .o 20 (.load eC false 1), .o 21 (.len eK), .o 22 (.bin .sub eH (.k (.int .i64 1))), .o 23 (.CO 1 dn none (some eO)), .o 24 (.cz de), .o 25 (.aw fb 4), .op none none (.store fj eR 1)] [(0,0),(1,0),(2,0),(3,0),(4,0),(5,0),(6,0),(7,0),(8,0),(9,0),(10,0),(11,0),(12,0),(13,0),(14,0)]
abbrev QG8:AC:= .seq (.run [(.o 4 (.mv (.k (.int .i64 (-1)))))]) .ret
abbrev QGA:AC:= .cond fL (.seq (.run [.m 28 bK, .o 29 (.cz gp), .o 30 (.aw gy 6), .o 31 (.aw gG 0), .op none none (.store gJ (.k (.int .i64 1)) 1)]) QG8) .skip
abbrev QGJ:AC:= .seq (.seq (.run [.o 43 (.aw dK 0), .o 44 (.aw kM 3), .o 45 (.load k8 false 1), .o 46 (.bin .neq mM (.k (.str [])))]) (.cond mN (.run [.m 47 bK, .o 48 (.aw dK 0), .o 49 (.aw mO 3), .o 50 (.load mP false 1), .c 51 jC [nS,ng], .m 52 br, .o 53 (.cz lV), .op none none (.store mQ lW 1)]) .skip)) (.seq (.run [.o 54 (.aw dK 15), .o 55 (.load nh false 1), .m 4 ni]) .ret)
abbrev QGL:AC:= .seq (.seq (.run [.m 26 cj, .o 27 (.bin .eql fB (.k (.int .i64 0)))]) QGA) (.seq (.run [.m 32 bK, .o 33 (.cz iG), .o 34 (.aw iA 0), .o 35 (.load ji false 1), .o 36 (.cz iH), .o 37 (.aw iY 2), .o 38 (.load ju false 1), .m 39 cj, .o 40 (.bin .sub jU (.k (.int .i64 1))), .o 41 (.cH ke kL 17), .o 42 (.load ku true 17), .o 6 (.alloc [(.int .i64 0),(.int .i64 0),(.slice .full 0 []),(.str []),(.str []),(.int .i64 0),(.int .i64 0),(.str []),(.slice .full 0 []),(.bool false),(.slice .full 0 []),(.slice .full 0 []),(.slice .full 0 []),(.int .i64 0),(.int .i64 0),(.int .i64 0),(.int .i64 0)]), .op none none (.store dK kZ 17)]) QGJ)
abbrev QGO:AC:= .seq (.run [.o 4 (.mv (.k (.int .i64 0)))]) (.seq (.run [.m 7 bK, .c 8 lO [dc], .o 9 (.cz dd), .o 10 (.aw du 3), .o 11 (.load cv false 1), .m 5 cW]) (.seq QG4 QGL))
abbrev QGS:AC:= .seq (.run [(.o 7 (.build [(.int .i64 0),(.int .i64 0)] [(0,(1,(.k (.int .i64 1))))])), .op none none (.store dC dc 2)]) .ret
abbrev QHA:AC:= .seq (.seq (.run [.o 20 (.aw cJ 0), .o 21 (.load eK false 1), .o 22 (.bin .eql eH (.k (.int .i64 0)))]) (.cond eO (.run [.o 23 (.load br true 2), .c 24 v7 [eR], .op none none (.store cJ fb 2)]) .skip)) (.seq (.run [.o 25 (.load cJ true 2), .op none none (.store dC fj 2)]) .ret)
abbrev QHB:AC:= .seq (.seq (.run [.o 15 (.aw cJ 0), .o 16 (.load dD false 1), .o 17 (.bin .eql dn (.k (.int .i64 0)))]) (.cond dN (.run [.o 18 (.load br true 2), .c 19 xw [dL], .op none none (.store cJ eC 2)]) .skip)) QHA
abbrev QHC:AC:= .seq (.seq (.run [.o 10 (.aw cJ 0), .o 11 (.load cv false 1), .o 12 (.bin .eql cW (.k (.int .i64 0)))]) (.cond de (.run [.o 13 (.load br true 2), .c 14 sa [dm], .op none none (.store cJ c6 2)]) .skip)) QHB
abbrev QHF:AC:= .seq (.run [.o 1 (.box bK), .o 2 (.alloc [(.int .i64 0),(.int .i64 0)])]) (.seq (.seq (.run [.o 4 (.load br true 2), .c 5 tc [fH], .o 6 (.un .not cj)]) (.cond dK QGS .skip)) (.seq (.run [.o 8 (.load br true 2), .c 9 np [dd], .o 3 (.alloc [(.int .i64 0),(.int .i64 0)]), .op none none (.store cJ du 2)]) QHC))
abbrev QHH:AC:= .par [.m 7 br, .o 8 (.bin .lss dc (.k (.int .i64 1))), .m 9 dd, .g 10 9 false (.aw dC 3), .g 11 9 false (.load cv false 1), .g 12 9 false (.len cW), .g 13 9 false (.aw dC 0), .g 14 9 false (.load dm false 1), .d 15 9 false zK [c6], .g 16 9 false (.bin .neq de dD), .o 17 (.pick du (.k (.bool true)) dn)] [(0,0),(1,0),(2,0),(6,0),(7,0),(8,0),(3,0),(4,1),(5,0),(9,0),(10,0)]
abbrev QHK:AC:= .cond dN (.seq (.run [.o 4 (.mv (.k (.bool false)))]) .ret) .skip
abbrev QHT:AC:= .cond gG (.seq (.run [.o 32 (.aw dC 1), .o 33 (.load iG false 1), .o 34 (.bin .eql iA (.k (.int .i64 0))), .m 35 ji, .g 36 35 true (.aw dC 2), .g 37 35 true (.load iY false 1), .d 38 35 true pA [ju], .o 39 (.pick iH ke (.k (.bool false))), .m 4 jU]) .ret) .skip
abbrev QHV:AC:= .cond eK (.seq (.run [.o 22 (.aw dC 1), .o 23 (.load eO false 1), .o 24 (.bin .geq eR (.k (.int .i64 0))), .m 25 fb, .g 26 25 true (.aw dC 2), .g 27 25 true (.load fB false 1), .g 28 25 true (.bin .eql fL (.k (.str []))), .o 29 (.pick fj gp (.k (.bool false))), .m 4 gy]) .ret) (.seq (.run [.o 31 (.bin .eql eC (.k (.int .i64 2))), .m 30 gJ]) QHT)
abbrev QHX:AC:= .block 0 (.seq (.run [.o 21 (.bin .eql eC (.k (.int .i64 1))), .m 20 eH]) QHV)
abbrev QI2:AC:= .cond nS (.seq (.run [.o 4 (.mv (.k (.bool false)))]) .ret) .skip
abbrev QIB:AC:= .cond nT (.seq (.run [.o 4 (.mv (.k (.bool false)))]) .ret) .skip
abbrev QID:AC:= .seq (.run [.o 53 (.cH mP lV 4), .o 54 (.load mQ true 4), .o 6 (.alloc [(.int .i64 0),(.int .i64 0),(.str []),(.slice .full 0 [])]), .op none none (.store dK nh 4)]) (.seq (.run [.o 55 (.load dK true 4), .m 56 br, .o 57 (.bin .sub pD (.k (.int .i64 1))), .c 58 rO [ni,qG], .o 59 (.un .not qc)]) QIB)
abbrev QIH:AC:= .seq (.cond lW .skip (.exit 1)) (.seq (.block 2 QID) (.run [.o 60 (.bin .add lV (.k (.int .i64 1))), .m 51 rD]))
abbrev QIL:AC:= .seq (.run [.o 48 (.aw dC 3), .o 49 (.load mO false 1), .o 50 (.len mP), .o 51 (.mv (.k (.int .i64 0)))]) (.block 1 (.loop (.seq (.run [.o 52 (.bin .lss lV ng)]) QIH)))
abbrev QIO:AC:= .seq QIL (.seq (.run [.o 4 (.mv (.k (.bool true)))]) .ret)
abbrev QIP:AC:= .seq (.seq (.run [.o 40 (.aw dC 1), .o 41 (.load kL false 1), .o 42 (.bin .neq ku (.k (.int .i64 0))), .m 43 kZ, .g 44 43 false (.aw dC 2), .g 45 43 false (.load k8 false 1), .g 46 43 false (.bin .neq mM (.k (.str []))), .o 47 (.pick kM (.k (.bool true)) mN)]) QI2) QIO
abbrev QIS:AC:= .seq (.run [.o 2 (.box bK), .o 4 (.mv (.k (.bool false)))]) (.seq (.seq QHH QHK) (.seq (.seq (.run [.o 18 (.aw dC 0), .o 19 (.load dL false 1)]) QHX) QIP))
abbrev QIV:AC:= .seq (.run [.o 3 (.load br true 2),(.o 4 (.build [(.int .i64 0),(.int .i64 0),(.slice .full 0 []),(.str []),(.str []),(.int .i64 0),(.int .i64 0),(.str []),(.slice .full 0 []),(.bool false),(.slice .full 0 []),(.slice .full 0 []),(.slice .full 0 [])] [(0,(1,(.k (.int .i64 (-1)))))])), .c 5 pB [cJ,fH], .op none none (.store dC cj 2)]) .ret
abbrev QIW:AC:= .seq (.run [.o 1 (.box bK), .o 2 (.alloc [(.slice .full 0 []),(.slice .full 0 [])])]) QIV
abbrev QJ1:AC:= .cond dK (.seq (.run [.o 4 (.mv (.k (.int .i64 0)))]) .ret) .skip
abbrev QJB:AC:= .seq (.seq (.run [.m 10 bK, .o 11 (.bin .lss cv (.k (.int .i64 0)))]) (.cond cW (.seq (.run [.m 12 bK, .m 13 br, .o 14 (.bin .add de dm), .m 4 c6]) .ret) .skip)) (.seq (.run [.m 15 bK, .m 4 dD]) .ret)
abbrev QJD:AC:= .seq (.seq (.run [.m 5 br, .o 6 (.bin .lss cj (.k (.int .i64 1)))]) QJ1) (.seq (.run [.m 7 bK, .m 8 br, .o 9 (.bin .rem dc dd), .m 0 du]) QJB)
abbrev QJE:AC:= .seq (.run [.o 4 (.mv (.k (.int .i64 0)))]) QJD
abbrev QJM:AC:= .par [.o 15 (.aw cJ 1), .o 16 (.load dD false 1), .m 17 cj, .o 18 (.aw br 1), .o 19 (.load dL false 1), .m 20 cj, .o 21 (.cH eC eK 5), .o 22 (.aw eH 3), .o 23 (.load eO false 1), .m 24 fH, .c 25 ko [eR,fb], .m 14 fj, .o 26 (.ext c6 0), .o 27 (.ext c6 1), .o 28 (.cH dn dN 5), .o 29 (.aw gp 3), .op none none (.store gy fB 1), .m 4 fL] [(3,0),(4,0),(5,0),(6,0),(7,0),(8,0),(9,0),(10,0),(0,0),(1,1),(2,0),(11,0),(12,0),(14,0),(15,0),(16,0),(13,0),(17,0)]
abbrev QJR:AC:= .seq (.cond de .skip (.exit 0)) (.seq (.block 1 (.seq (.run [.m 13 cW, .m 5 dm]) QJM)) (.run [.o 30 (.bin .add cW (.k (.int .i64 1))), .m 11 gG]))
abbrev QJS:AC:= .seq (.run [.o 12 (.bin .lss cW cv)]) QJR
abbrev QJX:AC:= .seq (.run [.o 31 (.load cJ true 2), .op none none (.store dC gJ 2)]) .ret
abbrev QJY:AC:= .seq (.seq (.run [.o 8 (.aw cJ 1), .o 9 (.load dd false 1), .o 10 (.len du), .o 11 (.mv (.k (.int .i64 0)))]) (.block 0 (.loop QJS))) QJX
abbrev QK0:AC:= .seq (.run [.o 6 (.load br true 2), .c 7 pX [dK], .o 3 (.alloc [(.slice .full 0 []),(.slice .full 0 [])]), .op none none (.store cJ dc 2)]) (.seq (.run [.o 4 (.mv (.k (.int .i64 0)))]) QJY)
abbrev QK1:AC:= .seq (.run [.o 1 (.box bK), .o 2 (.alloc [(.slice .full 0 []),(.slice .full 0 [])])]) QK0
abbrev QKE:AC:= .seq (.run [.m 13 cJ, .o 14 (.load cj true 5), .c 15 zJ [c6], .o 16 (.app 16 232 dm dD), .m 3 dn]) (.seq (.run [.m 17 cJ, .o 18 (.len dN), .o 19 (.bin .gtr dL (.k (.int .i64 200)))]) (.cond eC (.seq (.run [.m 20 cJ, .m 2 eK]) .ret) .skip))
abbrev QKI:AC:= .seq (.block 1 (.seq (.run [.o 11 (.cH dc du 5), .o 12 (.load cW true 5), .o 5 (.alloc [(.str []),(.slice .full 0 []),(.slice .full 0 []),(.slice .full 0 []),(.slice .full 0 [])]), .op none none (.store cj de 5)]) QKE)) (.run [.o 21 (.bin .add du (.k (.int .i64 1))), .m 9 eH])
abbrev QKM:AC:= .block 0 (.loop (.seq (.run [.o 10 (.bin .lss du dd)]) (.seq (.cond cv .skip (.exit 0)) QKI)))
abbrev QKQ:AC:= .seq (.seq (.run [.o 6 (.aw br 1), .o 7 (.load dK false 1), .o 8 (.len dc), .o 9 (.mv (.k (.int .i64 0)))]) QKM) (.seq (.run [.m 22 cJ, .m 2 eO]) .ret)
abbrev QKS:AC:= .seq (.run [.o 1 (.box bK), .o 2 (.mv (.k (.slice .full 0 [])))]) (.seq (.run [.o 3 (.mv (.k (.slice .full 0 [])))]) QKQ)
open Go.Proofs
theorem KU:Has Tryz.prog zG 10 [(2,none)] Q85:=⟨Tryz.f38,by kernel_rfl,by kernel_rfl⟩
theorem KV:Has Tryz.prog zH 40 [(0,(some (true,2)))] Q8D:=⟨Tryz.f39,by kernel_rfl,by kernel_rfl⟩
theorem CA:Has Tryz.prog kF 23 [(4,none)] Q8U:=⟨Tryz.f40,by kernel_rfl,by kernel_rfl⟩
theorem qH:Has Tryz.prog iz 19 [(4,none)] Q94:=⟨Tryz.f41,by kernel_rfl,by kernel_rfl⟩
theorem uu:Has Tryz.prog lN 69 [(4,none)] QA2:=⟨Tryz.f42,by kernel_rfl,by kernel_rfl⟩
theorem MU:Has Tryz.prog lT 55 [(2,none)] QAR:=⟨Tryz.f43,by kernel_rfl,by kernel_rfl⟩
theorem Br:Has Tryz.prog jZ 82 [(8,none)] QBG:=⟨Tryz.f44,by kernel_rfl,by kernel_rfl⟩
theorem CC:Has Tryz.prog jt 12 [(4,none)] QBK:=⟨Tryz.f45,by kernel_rfl,by kernel_rfl⟩
theorem Bs:Has Tryz.prog qC 67 [(4,none)] QCV:=⟨Tryz.f46,by kernel_rfl,by kernel_rfl⟩
theorem Ax:Has Tryz.prog qa 29 [(4,none)] QDE:=⟨Tryz.f47,by kernel_rfl,by kernel_rfl⟩
theorem jj:Has Tryz.prog sr 176 [(4,none)] QG1:=⟨Tryz.f48,by kernel_rfl,by kernel_rfl⟩
theorem sK:Has Tryz.prog qb 56 [(4,none)] QGO:=⟨Tryz.f49,by kernel_rfl,by kernel_rfl⟩
theorem pQ:Has Tryz.prog zI 26 [(2,(some (true,2)))] QHF:=⟨Tryz.f53,by kernel_rfl,by kernel_rfl⟩
theorem Cp:Has Tryz.prog rO 61 [(4,none)] QIS:=⟨Tryz.f55,by kernel_rfl,by kernel_rfl⟩
theorem Cq:Has Tryz.prog pX 6 [(2,(some (true,2)))] QIW:=⟨Tryz.f59,by kernel_rfl,by kernel_rfl⟩
theorem Dx:Has Tryz.prog Bj 16 [(4,none)] QJE:=⟨Tryz.f60,by kernel_rfl,by kernel_rfl⟩
theorem He:Has Tryz.prog rZ 32 [(2,(some (true,2)))] QK1:=⟨Tryz.f61,by kernel_rfl,by kernel_rfl⟩
theorem MV:Has Tryz.prog Bk 23 [(2,none)] QKS:=⟨Tryz.f62,by kernel_rfl,by kernel_rfl⟩
abbrev QL1:AC:= .cond dm (.seq (.run [.o 2 (.mv (.k (.bool false)))]) .ret) .skip
abbrev QL6:AC:= .seq (.block 1 (.seq (.run [.o 9 (.cH cj dc 1), .o 10 (.load du false 1), .m 4 cv]) (.seq (.run [.m 11 fH, .c 12 pA [cW], .o 13 (.un .not de)]) QL1))) (.run [.o 14 (.bin .add dc (.k (.int .i64 1))), .m 7 c6])
abbrev QLA:AC:= .block 0 (.loop (.seq (.run [.o 8 (.bin .lss dc dK)]) (.seq (.cond dd .skip (.exit 0)) QL6)))
abbrev QLE:AC:= .seq (.seq (.run [.m 5 bK, .o 6 (.len cj), .o 7 (.mv (.k (.int .i64 0)))]) QLA) (.seq (.run [.o 2 (.mv (.k (.bool true)))]) .ret)
abbrev QLF:AC:= .seq (.run [.o 2 (.mv (.k (.bool false)))]) QLE
abbrev QLK:AC:= .cond dn (.seq (.run [.o 2 (.mv (.k (.bool false)))]) .ret) .skip
abbrev QLO:AC:= .seq (.seq (.run [.m 3 bK, .o 4 (.w7 cJ), .o 5 (.bin .lss fH (.k (.int .i64 1))), .m 6 cj, .g 7 6 false (.mv bK), .g 8 6 false (.w7 dc), .g 9 6 false (.bin .gtr dd (.k (.int .i64 8))), .o 10 (.pick dK (.k (.bool true)) du), .m 11 cv, .g 12 11 false (.mv bK), .g 13 11 false (.CP de (.k (.int .i64 0))), .d 14 11 false tf [dm], .g 15 11 false (.un .not c6), .o 16 (.pick cW (.k (.bool true)) dD)]) QLK) (.seq (.run [.m 17 bK, .c 18 Dr [dN,(.k (.int .i64 0))], .m 19 bK, .o 20 (.w7 eC), .o 21 (.bin .eql dL eK), .m 22 eH, .g 23 22 true (.mv bK), .d 24 22 true Bl [eR], .g 25 22 true (.un .not fb), .o 26 (.pick eO fj (.k (.bool false))), .m 2 fB]) .ret)
abbrev QLP:AC:= .seq (.run [.o 2 (.mv (.k (.bool false)))]) QLO
abbrev QLU:AC:= .cond dD (.seq (.run [.o 6 (.mv (.k (.bool false)))]) .ret) .skip
abbrev QM1:AC:= .par [.m 29 bK, .o 30 (.cz gy), .o 31 (.aw gG 0), .o 32 (.load gJ false 1), .o 33 (.bin .gtr iG (.k (.int .i64 200))), .m 34 iA, .g 35 34 false (.aw dd 0), .g 36 34 false (.load iH false 1), .g 37 34 false (.mv bK), .g 38 34 false (.cz ju), .g 39 34 false (.aw ke 0), .g 40 34 false (.load jU false 1), .g 41 34 false (.bin .neq iY kL), .o 42 (.pick ji (.k (.bool true)) ku), .m 43 kZ, .g 44 43 false (.aw dd 2), .g 45 43 false (.load k8 false 1), .d 46 43 false oA [mM], .g 47 43 false (.un .not mN), .o 48 (.pick kM (.k (.bool true)) nS), .m 49 mO, .g 50 49 false (.load dd true 13), .d 51 49 false v8 [ng], .g 52 49 false (.un .not lV), .o 53 (.pick mP (.k (.bool true)) lW)] [(0,0),(1,0),(2,0),(3,0),(4,0),(5,0),(6,0),(7,0),(8,0),(9,0),(10,0),(11,0),(12,0),(13,0),(14,0),(15,0),(16,0),(17,0),(18,0),(19,0),(20,0),(21,0),(22,0),(23,0),(24,0)]
abbrev QM4:AC:= .cond mQ (.seq (.run [.o 6 (.mv (.k (.bool false)))]) .ret) .skip
abbrev QM9:AC:= .cond Bo (.seq (.run [.o 6 (.mv (.k (.bool false)))]) .ret) .skip
abbrev QMB:AC:= .seq (.seq QM1 QM4) (.seq (.run [.m 54 bK, .o 55 (.aw dd 11), .o 56 (.load ni false 1), .m 57 dC, .o 58 (.bin .add qG (.k (.int .i64 1))), .c 59 ly [nh,pD,qc], .o 60 (.un .not nT), .m 61 rD, .g 62 61 false (.mv bK), .g 63 61 false (.aw dd 12), .g 64 61 false (.load tv false 1), .g 65 61 false (.mv dC), .g 66 61 false (.bin .add xC (.k (.int .i64 1))), .d 67 61 false ly [su,tw,zO], .g 68 61 false (.un .not zP), .o 69 (.pick tu (.k (.bool true)) xD)]) QM9)
abbrev QMD:AC:= .seq (.run [.o 20 (.cH dn dL 13), .o 21 (.load eK true 13), .o 8 (.alloc [(.int .i64 0),(.int .i64 0),(.slice .full 0 []),(.str []),(.str []),(.int .i64 0),(.int .i64 0),(.str []),(.slice .full 0 []),(.bool false),(.slice .full 0 []),(.slice .full 0 []),(.slice .full 0 [])]), .op none none (.store dd eH 13)]) (.seq (.run [.m 22 bK, .o 23 (.cz eO), .o 24 (.aw eR 0), .o 25 (.load fb false 1), .o 26 (.bin .add fj (.k (.int .i64 1))), .o 27 (.cz eO), .o 28 (.aw fL 0), .op none none (.store gp fB 1)]) QMB)
abbrev QMH:AC:= .seq (.cond eC .skip (.exit 0)) (.seq (.block 1 QMD) (.run [.o 70 (.bin .add dL (.k (.int .i64 1))), .m 18 Bp]))
abbrev QML:AC:= .seq (.run [.m 16 br, .o 17 (.len dn), .o 18 (.mv (.k (.int .i64 0)))]) (.block 0 (.loop (.seq (.run [.o 19 (.bin .lss dL dN)]) QMH)))
abbrev QMO:AC:= .seq QML (.seq (.run [.o 6 (.mv (.k (.bool true)))]) .ret)
abbrev QMP:AC:= .seq (.seq (.run [.m 9 dC, .o 10 (.bin .gtr du (.k (.int .i64 12))), .m 11 cv, .g 12 11 true (.mv br), .g 13 11 true (.len de), .g 14 11 true (.bin .gtr dm (.k (.int .i64 0))), .o 15 (.pick cW c6 (.k (.bool false)))]) QLU) QMO
abbrev QMQ:AC:= .seq (.run [.o 6 (.mv (.k (.bool false)))]) QMP
abbrev QMT:AC:= .seq (.run [.m 3 bK,(.o 4 (.build [(.int .i64 0),(.int .i64 0),(.str []),(.slice .full 0 [])] [(0,(1,(.k (.int .i64 1)))),(1,(1,cJ))])), .op none none (.store dC fH 4)]) .ret
abbrev QMU:AC:= .seq (.run [.o 2 (.alloc [(.int .i64 0),(.int .i64 0),(.str []),(.slice .full 0 [])])]) QMT
abbrev QMX:AC:= .seq (.run [.m 3 bK,(.o 4 (.build [(.int .i64 0),(.int .i64 0),(.str []),(.slice .full 0 [])] [(0,(1,(.k (.int .i64 2)))),(2,(1,cJ))])), .op none none (.store dC fH 4)]) .ret
abbrev QMY:AC:= .seq (.run [.o 2 (.alloc [(.int .i64 0),(.int .i64 0),(.str []),(.slice .full 0 [])])]) QMX
abbrev QN2:AC:= .seq (.run [.o 4 (.box br), .o 5 (.box dC), .o 6 (.alloc [(.int .i64 0),(.int .i64 0),(.str []),(.slice .full 0 [])])]) (.seq (.run [.m 7 bK, .o 8 (.load fH true 4), .o 9 (.load cj true 4), .o 10 (.dv [(.int .i64 0),(.int .i64 0),(.str []),(.slice .full 0 [])] 4 2 [(0,dd),(1,du)]), .o 11 (.build [(.int .i64 0),(.int .i64 0),(.str []),(.slice .full 0 [])] [(0,(1,dc)),(3,(1,cv))]), .op none none (.store dK cW 4)]) .ret)
abbrev QND:AC:= .seq (.seq (.run [.m 10 cj, .o 11 (.aw dC 3), .o 12 (.load cW false 1), .o 13 (.len de), .o 14 (.bin .lss cv dm), .m 15 c6, .g 16 15 true (.mv br), .g 17 15 true (.bin .leq dn (.k (.int .i64 20000))), .o 18 (.pick dD dN (.k (.bool false)))]) (.cond dL .skip (.exit 0))) (.seq (.block 1 (.run [.o 21 (.aw dC 3), .o 22 (.load eH false 1), .m 23 cj, .o 24 (.cH eO eR 4), .o 25 (.load fb true 4), .m 26 br, .c 27 kX [fj,fB], .m 1 fL])) (.run [.m 19 cj, .o 20 (.bin .add eC (.k (.int .i64 1))), .m 5 eK]))
abbrev QNJ:AC:= .seq (.seq (.run [.o 5 (.mv (.k (.int .i64 0)))]) (.block 0 (.loop QND))) (.seq (.run [.m 28 br, .m 4 gp]) .ret)
abbrev QNL:AC:= .seq (.run [.o 2 (.box bK), .o 4 (.mv (.k (.int .i64 0)))]) (.seq (.run [.o 6 (.aw dC 2), .o 7 (.load dK false 1), .m 8 br, .c 9 iz [dc,dd], .m 1 du]) QNJ)
abbrev QNY:AC:= .par [.m 37 bK, .m 38 bK, .o 39 (.cz ke), .o 40 (.aw jU 2), .o 41 (.load kL false 1), .o 42 (.load du true 17), .o 43 (.dv [(.int .i64 0),(.int .i64 0),(.slice .full 0 []),(.str []),(.str []),(.int .i64 0),(.int .i64 0),(.str []),(.slice .full 0 []),(.bool false),(.slice .full 0 []),(.slice .full 0 []),(.slice .full 0 []),(.int .i64 0),(.int .i64 0),(.int .i64 0),(.int .i64 0)] 17 1 [(0,kZ)]), .o 44 (.app 17 240 ku kM), .o 45 (.cz ju), .o 46 (.aw mM 2), .op none none (.store mN k8 1)] [(1,0),(2,0),(3,0),(4,0),(5,0),(6,0),(7,0),(0,0),(8,0),(9,0),(10,0)]
abbrev QNZ:AC:= .run [.o 47 (.aw cj 13), .o 48 (.load nS false 1), .m 49 dd, .o 50 (.aw du 15), .o 51 (.load ng false 1), .o 52 (.aw cj 16), .o 53 (.load lW false 1), .o 54 (.build [(.int .i64 0),(.int .i64 0),(.slice .full 0 []),(.str []),(.str []),(.int .i64 0),(.int .i64 0),(.str []),(.slice .full 0 []),(.bool false),(.slice .full 0 []),(.slice .full 0 []),(.slice .full 0 []),(.int .i64 0),(.int .i64 0),(.int .i64 0),(.int .i64 0)] [(13,(1,mO)),(14,(1,mP)),(15,(1,lV)),(16,(1,mQ))]), .o 10 (.alloc [(.int .i64 0),(.int .i64 0),(.slice .full 0 []),(.str []),(.str []),(.int .i64 0),(.int .i64 0),(.str []),(.slice .full 0 []),(.bool false),(.slice .full 0 []),(.slice .full 0 []),(.slice .full 0 []),(.int .i64 0),(.int .i64 0),(.int .i64 0),(.int .i64 0)]), .op none none (.store cv nh 17)]
abbrev QO7:AC:= .seq (.seq (.run [.o 55 (.aw dc 1), .o 56 (.load ni false 1), .o 57 (.bin .eql pD (.k (.int .i64 6)))]) (.cond qG (.run [.m 58 dd, .m 59 dd, .o 60 (.aw cv 15), .op none none (.store rD qc 1), .o 61 (.aw cv 16), .op none none (.store tu nT 1)]) .skip)) (.seq (.run [.m 62 bK, .o 63 (.aw dc 11), .o 64 (.load tv false 1), .o 65 (.load cv true 17), .c 66 kY [su,tw,xC]]) (.run [.m 67 bK, .o 68 (.aw dc 12), .o 69 (.load xD false 1), .o 70 (.load cv true 17), .c 71 kY [zP,Bo,Bp]]))
abbrev QOA:AC:= .seq (.seq (.run [.m 27 dK, .o 28 (.bin .add fL (.k (.int .i64 1))), .m 29 br, .o 30 (.len gy), .o 31 (.bin .lss gp gG)]) (.cond gJ (.run [.m 32 dd, .o 33 (.load dc true 13), .c 34 nQ [iA], .o 35 (.bin .add iG ji), .o 36 (.aw du 15), .op none none (.store iY iH 1)]) .skip)) (.seq QNY (.seq QNZ QO7))
abbrev QOE:AC:= .seq (.run [.m 15 dm, .o 16 (.cH cW dm 13), .o 17 (.load dn true 13), .o 7 (.alloc [(.int .i64 0),(.int .i64 0),(.slice .full 0 []),(.str []),(.str []),(.int .i64 0),(.int .i64 0),(.str []),(.slice .full 0 []),(.bool false),(.slice .full 0 []),(.slice .full 0 []),(.slice .full 0 [])]), .m 6 dD, .op none none (.store dc dN 13)]) (.seq (.run [.m 18 bK, .o 19 (.cz dL), .o 20 (.aw eC 2), .o 21 (.load eK false 1), .o 22 (.len eH), .o 23 (.bin .add eO (.k (.int .i64 1))), .m 8 eR]) (.seq (.run [.o 24 (.load cj true 17), .o 9 (.alloc [(.int .i64 0),(.int .i64 0),(.slice .full 0 []),(.str []),(.str []),(.int .i64 0),(.int .i64 0),(.str []),(.slice .full 0 []),(.bool false),(.slice .full 0 []),(.slice .full 0 []),(.slice .full 0 []),(.int .i64 0),(.int .i64 0),(.int .i64 0),(.int .i64 0)]), .op none none (.store du fb 17)]) (.seq (.run [.o 25 (.load dc true 13), .o 26 (.aw du 0), .op none none (.store fB fj 13)]) QOA)))
abbrev QOI:AC:= .seq (.cond c6 .skip (.exit 0)) (.seq (.block 1 QOE) (.run [.o 72 (.bin .add dm (.k (.int .i64 1))), .m 13 Du]))
abbrev QOM:AC:= .seq (.run [.m 11 br, .o 12 (.len cW), .o 13 (.mv (.k (.int .i64 0)))]) (.block 0 (.loop (.seq (.run [.o 14 (.bin .lss dm de)]) QOI)))
abbrev QON:AC:= .seq (.run [.o 5 (.box dC)]) QOM
abbrev QOS:AC:= .cond du (.seq (.run [.o 4 (.mv (.k (.slice .full 0 [])))]) .ret) .skip
abbrev QOZ:AC:= .par [.o 21 (.aw dC 0), .o 22 (.load eH false 1), .c 23 lF [eO], .o 24 (.load dK true 5), .c 25 vf [fb], .o 26 (.app 1 16 eR fj), .m 4 fB] [(0,0),(1,0),(2,0),(3,1),(4,0),(5,0),(6,0)]
abbrev QP6:AC:= .seq (.block 1 (.seq (.run [.o 15 (.cH cW dm 5), .o 16 (.load dD true 5), .o 6 (.alloc [(.str []),(.slice .full 0 []),(.slice .full 0 []),(.slice .full 0 []),(.slice .full 0 [])]), .op none none (.store dK dn 5)]) (.seq (.run [.o 17 (.aw dK 0), .o 18 (.load dN false 1), .m 19 br, .o 20 (.bin .eql dL eC)]) (.cond eK (.seq QOZ .ret) .skip)))) (.run [.o 27 (.bin .add dm (.k (.int .i64 1))), .m 13 fL])
abbrev QPA:AC:= .block 0 (.loop (.seq (.run [.o 14 (.bin .lss dm de)]) (.seq (.cond c6 .skip (.exit 0)) QP6)))
abbrev QPE:AC:= .seq (.seq (.run [.o 10 (.aw dC 1), .o 11 (.load cv false 1), .o 12 (.len cW), .o 13 (.mv (.k (.int .i64 0)))]) QPA) (.seq (.run [.o 4 (.mv (.k (.slice .full 0 [])))]) .ret)
abbrev QPG:AC:= .seq (.run [.o 2 (.box bK), .o 4 (.mv (.k (.slice .full 0 [])))]) (.seq (.seq (.run [.o 7 (.load dC true 2), .c 8 tc [dc], .o 9 (.un .not dd)]) QOS) QPE)
abbrev QPI:AC:= .par [.m 5 bK, .o 6 (.cz cj), .o 7 (.aw dK 3), .o 8 (.load dc false 1), .m 9 br, .o 10 (.cH dd du 1), .o 11 (.load cv false 1), .m 12 bK, .o 13 (.cz de), .o 14 (.aw dm 4), .o 15 (.load c6 false 1), .m 16 br, .o 17 (.cH dD dn 1), .o 18 (.load dN false 1), .o 19 (.bin .lss cW dL)] [(0,0),(1,0),(2,0),(3,0),(4,0),(5,0),(6,0),(7,0),(8,0),(9,0),(10,0),(11,0),(12,0),(13,0),(14,0)]
abbrev QPO:AC:= .seq (.run [(.o 4 (.mv (.k (.int .i64 (-1)))))]) .ret
abbrev QPP:AC:= .seq (.seq QPI (.cond eC (.seq (.run [.m 20 bK, .o 21 (.cz eK), .o 22 (.aw eH 3), .o 23 (.load eO false 1), .m 24 br, .o 25 (.cH eR fb 1), .o 26 (.load fj false 1), .m 4 fB]) .ret) .skip)) QPO
abbrev QPQ:AC:= .seq (.run [.o 4 (.mv (.k (.int .i64 0)))]) QPP
abbrev QQ2:AC:= .block 1 (.seq (.run [.m 10 dd, .m 5 cv]) (.seq (.run [.m 11 br, .m 12 bK, .m 13 cj, .o 14 (.cH de dm 5), .o 15 (.load c6 true 5),(.kj (some 16) none 11 [dD])]) (.cond dn (.seq (.run [.m 17 cj, .m 4 dN]) .ret) .skip)))
abbrev QQ5:AC:= .seq (.cond du .skip (.exit 0)) (.seq QQ2 (.run [.o 18 (.bin .add dd (.k (.int .i64 1))), .m 8 dL]))
abbrev QQ9:AC:= .seq (.run [.m 6 bK, .o 7 (.len dK), .o 8 (.mv (.k (.int .i64 0)))]) (.block 0 (.loop (.seq (.run [.o 9 (.bin .lss dd dc)]) QQ5)))
abbrev QQB:AC:= .seq (.run [(.o 4 (.mv (.k (.int .i64 (-1)))))]) .ret
abbrev QQD:AC:= .seq (.run [.o 4 (.mv (.k (.int .i64 0)))]) (.seq QQ9 QQB)
abbrev QQH:AC:= .seq (.run [.o 2 (.box bK), .o 3 (.mv (.k (.bool false)))]) (.seq (.run [.o 4 (.aw dC 0), .o 5 (.load fH false 1), .o 6 (.load br false 1), .o 7 (.bin .eql cj dK), .m 3 dc]) .ret)
abbrev QQK:AC:= .par [.m 8 cj, .o 9 (.cz dd), .o 10 (.aw du 2), .o 11 (.load cv false 1), .m 12 cj, .o 13 (.cz de), .o 14 (.aw dm 1), .o 15 (.load c6 false 1), .m 16 br, .c 17 gY [dD,dn], .o 18 (.cH cW dN 1), .o 19 (.load dL false 1), .m 4 eC] [(4,0),(5,0),(6,0),(7,0),(8,0),(9,0),(0,0),(1,0),(2,0),(3,1),(10,0),(11,0),(12,0)]
abbrev QQN:AC:= .seq (.run [.o 4 (.mv (.k .eW))]) (.seq (.run [.m 6 bK, .c 7 lO [dK], .m 5 dc]) (.seq QQK .ret))
abbrev QQV:AC:= .par [.m 30 bK, .m 31 bK, .o 32 (.cz gJ), .o 33 (.aw iG 5), .o 34 (.load iA false 1), .m 35 dd, .o 36 (.cz iH), .o 37 (.load iY false 1), .o 38 (.dv [(.int .i64 0)] 1 1 [(0,ju)]), .o 39 (.app 1 8 ji ke), .o 40 (.cz gG), .o 41 (.aw kL 5), .op none none (.store ku jU 1)] [(1,0),(2,0),(3,0),(4,0),(5,0),(6,0),(7,0),(8,0),(9,0),(0,0),(10,0),(11,0),(12,0)]
abbrev QR0:AC:= .seq (.cond fL .skip (.exit 0)) (.seq (.block 1 (.seq (.run [.o 28 (.cH fb fB 1), .o 29 (.load gp false 1), .m 8 gy]) QQV)) (.run [.o 42 (.bin .add fB (.k (.int .i64 1))), .m 26 kZ]))
abbrev QR1:AC:= .seq (.run [.o 27 (.bin .lss fB fj)]) QR0
abbrev QR5:AC:= .par [.o 44 (.load cJ true 4), .m 45 dK, .o 46 (.cz mM), .o 47 (.aw mN 1), .o 48 (.load nS false 1), .m 49 bK, .o 50 (.cz mP), .o 51 (.aw ng 5), .o 52 (.load lV false 1), .c 53 yB [k8,mO,lW], .m 43 mQ, .o 54 (.ext kM 0), .o 55 (.ext kM 1), .m 9 nh, .m 10 ni] [(0,0),(1,0),(2,0),(3,0),(4,0),(5,0),(6,0),(7,0),(8,0),(9,0),(10,0),(11,0),(12,0),(13,0),(14,0)]
abbrev QR9:AC:= .seq (.run [.m 56 cv, .o 57 (.un .not pD)]) (.cond qG (.run [.m 58 bK, .o 59 (.cz qc), .o 60 (.aw nT 6), .o 61 (.aw rD 0), .op none none (.store tu (.k (.int .i64 4)) 1)]) .skip)
abbrev QRD:AC:= .seq QR5 (.seq QR9 (.seq (.run [.m 62 du, .m 63 cv, .m 4 su, .m 5 tv]) .ret))
abbrev QRE:AC:= .seq (.seq (.run [.m 21 dK, .o 22 (.cz eH), .o 23 (.aw eO 2), .o 24 (.load eR false 1), .o 25 (.len fb), .o 26 (.mv (.k (.int .i64 0)))]) (.block 0 (.loop QR1))) QRD
abbrev QRF:AC:= .seq (.run [.m 13 bK, .m 14 bK, .o 15 (.cz c6), .o 16 (.aw dD 5), .o 17 (.load dn false 1),(.o 18 (.CO 1 dN none (some (.k (.int .i64 0))))), .o 19 (.cz dm), .o 20 (.aw eC 5), .op none none (.store eK dL 1)]) QRE
abbrev QRH:AC:= .seq (.run [.o 3 (.box br), .o 4 (.mv (.k (.int .i64 0))), .o 5 (.mv (.k (.bool false)))]) (.seq (.run [.m 11 bK, .c 12 lO [cW], .m 6 de]) QRF)
abbrev QRL:AC:= .seq (.run [.m 6 bK, .o 7 (.cz dK), .o 8 (.aw dc 3), .o 9 (.load dd false 1), .m 10 br, .c 11 oD [du,cv]]) (.cond cW (.run [.m 12 bK, .m 13 bK, .o 14 (.cz dm), .o 15 (.aw c6 6), .o 16 (.aw dD 4), .o 17 (.load dn false 1), .m 18 br, .m 19 dC, .o 20 (.build [(.int .i64 0),(.slice .full 0 [])] [(0,(1,dL)),(1,(1,eC))]), .o 21 (.dv [(.int .i64 0),(.slice .full 0 [])] 2 1 [(0,eK)]), .o 22 (.app 2 32 dN eH), .o 23 (.cz de), .o 24 (.aw eR 6), .o 25 (.aw fb 4), .op none none (.store fj eO 1)]) .skip)
abbrev QRU:AC:= .cond eO (.seq (.run [.o 23 (.aw du 0), .o 24 (.aw eR 0), .o 25 (.load fb false 1), .m 6 fj, .o 7 (.mv (.k (.bool true)))]) .ret) .skip
abbrev QRZ:AC:= .seq (.block 1 (.seq (.run [.o 16 (.cH de c6 17), .o 17 (.load dn true 17), .o 9 (.alloc [(.int .i64 0),(.int .i64 0),(.slice .full 0 []),(.str []),(.str []),(.int .i64 0),(.int .i64 0),(.str []),(.slice .full 0 []),(.bool false),(.slice .full 0 []),(.slice .full 0 []),(.slice .full 0 []),(.int .i64 0),(.int .i64 0),(.int .i64 0),(.int .i64 0)]), .op none none (.store du dN 17)]) (.seq (.run [.o 18 (.aw du 0), .o 19 (.aw dL 2), .o 20 (.load eC false 1), .m 21 dC, .c 22 cT [eK,eH]]) QRU))) (.run [.o 26 (.bin .add c6 (.k (.int .i64 1))), .m 14 fB])
abbrev QS3:AC:= .block 0 (.loop (.seq (.run [.o 15 (.bin .lss c6 dm)]) (.seq (.cond dD .skip (.exit 0)) QRZ)))
abbrev QS7:AC:= .seq (.run [(.o 6 (.mv (.k (.int .i64 (-1))))), .o 7 (.mv (.k (.bool true)))]) .ret
abbrev QSC:AC:= .seq (.seq (.run [.m 27 bK, .o 28 (.cz fL), .o 29 (.aw gp 0), .o 30 (.aw gy 1), .o 31 (.load gG false 1), .m 32 br, .o 33 (.cH gJ iG 5), .o 34 (.aw iA 4), .o 35 (.load ji false 1), .m 36 dC, .c 37 cT [iH,iY]]) (.cond ju QS7 .skip)) (.seq (.run [.o 6 (.mv (.k (.int .i64 0))), .o 7 (.mv (.k (.bool false)))]) .ret)
abbrev QSD:AC:= .seq (.seq (.run [.m 10 bK, .m 11 br, .c 12 iV [cv,cW], .o 13 (.len de), .o 14 (.mv (.k (.int .i64 0)))]) QS3) QSC
abbrev QSE:AC:= .seq (.run [.o 6 (.mv (.k (.int .i64 0))), .o 7 (.mv (.k (.bool false)))]) QSD
abbrev QSJ:AC:= .cond dc (.seq (.run [.m 8 bK, .o 9 (.cH dd (.k (.int .i64 0)) 13), .o 10 (.aw du 0), .o 11 (.load cv false 1), .m 4 cW]) .ret) .skip
abbrev QSN:AC:= .seq (.seq (.run [.m 5 bK, .o 6 (.len cj), .o 7 (.bin .gtr dK (.k (.int .i64 0)))]) QSJ) (.seq (.run [.m 12 br, .m 4 de]) .ret)
abbrev QSO:AC:= .seq (.run [.o 4 (.mv (.k (.int .i64 0)))]) QSN
abbrev QSQ:AC:= .par [.m 3 bK, .o 4 (.cz cJ), .o 5 (.aw fH 4), .o 6 (.load cj false 1), .m 7 bK, .o 8 (.cz dc), .o 9 (.aw dd 4), .o 10 (.load du false 1), .o 11 (.len cv), .o 12 (.bin .sub cW (.k (.int .i64 1))), .o 13 (.cH dK de 1), .o 14 (.load dm false 1), .m 2 c6] [(0,0),(1,0),(2,0),(3,0),(4,0),(5,0),(6,0),(7,0),(8,0),(9,0),(10,0),(11,0),(12,0)]
abbrev QSS:AC:= .seq (.run [.o 2 (.mv (.k .eW))]) (.seq QSQ .ret)
abbrev QSW:AC:= .seq (.run [.o 1 (.box bK), .o 2 (.mv (.k (.slice .full 0 [])))]) (.seq (.run [.o 3 (.aw br 3), .o 4 (.load cJ false 1),(.c 5 nR [fH,(.k (.int .i64 1)),(.k (.int .i64 0)),(.k (.bool false)),(.k (.slice .full 0 []))]), .m 2 cj]) .ret)
abbrev QT0:AC:= .seq (.run [(.o 16 (.build [(.int .i64 0),(.int .i64 0)] [(0,(1,(.k (.int .i64 1))))])), .op none none (.store dC dn 2)]) .ret
abbrev QTC:AC:= .seq (.block 1 (.seq (.run [.o 22 (.cH dL eK 5), .o 23 (.load eO true 5), .o 5 (.alloc [(.str []),(.slice .full 0 []),(.slice .full 0 []),(.slice .full 0 []),(.slice .full 0 [])]), .op none none (.store cj eR 5)]) (.run [.m 24 cJ, .o 25 (.aw cj 0), .o 26 (.load fj false 1), .o 27 (.dv [(.str [])] 1 1 [(0,fB)]), .o 28 (.app 1 16 fb fL), .m 3 gp]))) (.run [.o 29 (.bin .add eK (.k (.int .i64 1))), .m 20 gy])
abbrev QTG:AC:= .block 0 (.loop (.seq (.run [.o 21 (.bin .lss eK eC)]) (.seq (.cond eH .skip (.exit 0)) QTC)))
abbrev QTL:AC:= .seq (.run [(.o 53 (.build [(.int .i64 0),(.int .i64 0)] [(0,(1,(.k (.int .i64 5))))])), .op none none (.store dC mQ 2)]) .ret
abbrev QTW:AC:= .seq (.run [(.o 73 (.build [(.int .i64 0),(.int .i64 0)] [(0,(1,(.k (.int .i64 5))))])), .op none none (.store dC Dv 2)]) .ret
abbrev QU5:AC:= .seq (.run [.o 89 (.aw de 0), .o 90 (.aw FW 0), .o 91 (.load IW false 1),(.o 92 (.build [(.int .i64 0),(.int .i64 0)] [(0,(1,(.k (.int .i64 5)))),(1,(1,MR))])), .op none none (.store dC S8 2)]) .ret
abbrev QUB:AC:= .seq (.block 5 (.seq (.run [.o 80 (.cH Dw Bq 17), .o 81 (.load IU true 17), .o 12 (.alloc [(.int .i64 0),(.int .i64 0),(.slice .full 0 []),(.str []),(.str []),(.int .i64 0),(.int .i64 0),(.str []),(.slice .full 0 []),(.bool false),(.slice .full 0 []),(.slice .full 0 []),(.slice .full 0 []),(.int .i64 0),(.int .i64 0),(.int .i64 0),(.int .i64 0)]), .op none none (.store de IV 17)]) (.seq (.run [.o 82 (.load br true 2), .o 83 (.load du true 5), .m 84 cJ, .o 85 (.aw de 0), .o 86 (.load MN true 13), .c 87 sb [MJ,MK,MM,MO], .o 88 (.un .not MP)]) (.cond MQ QU5 .skip)))) (.run [.o 93 (.bin .add Bq (.k (.int .i64 1))), .m 78 Zd])
abbrev QUF:AC:= .block 4 (.loop (.seq (.run [.o 79 (.bin .lss Bq FV)]) (.seq (.cond IT .skip (.exit 4)) QUB)))
abbrev QUH:AC:= .seq (.seq (.run [.m 66 cv, .c 67 pP [zO], .m 68 zP, .g 69 68 false (.mv cv), .g 70 68 false (.wG 130 [br]), .d 71 68 false gZ [Bo,Bp], .o 72 (.pick xD (.k (.bool true)) FR)]) (.cond Du QTW .skip)) (.seq (.run [.m 74 dc, .m 75 dd, .c 76 iV [FT,FU], .o 77 (.len Dw), .o 78 (.mv (.k (.int .i64 0)))]) QUF)
abbrev QUM:AC:= .seq (.block 3 (.seq (.run [.m 61 nT, .o 62 (.cH qG nT 5), .o 63 (.load su true 5), .o 9 (.alloc [(.str []),(.slice .full 0 []),(.slice .full 0 []),(.slice .full 0 []),(.slice .full 0 [])]), .m 8 tu, .op none none (.store du tv 5)]) (.seq (.run [.o 64 (.load du true 5), .c 65 vf [tw], .m 10 xC]) QUH))) (.run [.o 94 (.bin .add nT (.k (.int .i64 1))), .m 59 Ze])
abbrev QUQ:AC:= .block 2 (.loop (.seq (.run [.o 60 (.bin .lss nT qc)]) (.seq (.cond rD .skip (.exit 2)) QUM)))
abbrev QUU:AC:= .seq (.seq (.run [.o 56 (.aw br 1), .o 57 (.load pD false 1), .o 58 (.len qG), .o 59 (.mv (.k (.int .i64 0)))]) QUQ) (.seq (.run [.o 95 (.build [(.int .i64 0),(.int .i64 0)] []), .op none none (.store dC Zf 2)]) .ret)
abbrev QUW:AC:= .seq (.seq (.run [.o 32 (.aw br 0), .o 33 (.load iG false 1), .c 34 pP [iA], .m 35 ji, .g 36 35 false (.mv cJ), .d 37 35 false pP [iY], .o 38 (.pick iH (.k (.bool true)) ju), .m 39 ke, .g 40 39 false (.mv dK), .g 41 39 false (.bin .lss kL (.k (.int .i64 0))), .o 42 (.pick jU (.k (.bool true)) ku), .m 43 kZ, .g 44 43 false (.aw br 1), .g 45 43 false (.load k8 false 1), .g 46 43 false (.mv dK), .g 47 43 false (.cH mM mN 5), .g 48 43 false (.aw nS 1), .g 49 43 false (.load mO false 1), .g 50 43 false (.len mP), .g 51 43 false (.bin .gtr ng (.k (.int .i64 0))), .o 52 (.pick kM (.k (.bool true)) lV)]) (.cond lW QTL .skip)) (.seq (.run [.o 54 (.load br true 2), .c 55 lT [nh], .m 7 ni]) QUU)
abbrev QUY:AC:= .seq (.seq (.run [.o 17 (.aw br 1), .o 18 (.load dN false 1), .o 19 (.len dL), .o 20 (.mv (.k (.int .i64 0)))]) QTG) (.seq (.run [.m 30 cJ,(.c 31 gY [gG,(.k (.str [109,97,105,110]))]), .m 6 gJ]) QUW)
abbrev QV0:AC:= .seq (.seq (.run [.o 13 (.load br true 2), .c 14 tc [dm], .o 15 (.un .not c6)]) (.cond dD QT0 .skip)) (.seq (.run [.o 3 (.mv (.k (.slice .full 0 [])))]) QUY)
abbrev QV1:AC:= .seq (.run [.o 1 (.box bK), .o 2 (.alloc [(.int .i64 0),(.int .i64 0)])]) QV0
abbrev QV5:AC:= .seq (.run [(.o 9 (.build [(.int .i64 0),(.int .i64 0)] [(0,(1,(.k (.int .i64 1))))])), .op none none (.store dC du 2)]) .ret
abbrev QVE:AC:= .seq (.run [.o 31 (.aw fH 0), .o 32 (.aw gJ 0), .o 33 (.load iG false 1),(.o 34 (.build [(.int .i64 0),(.int .i64 0)] [(0,(1,(.k (.int .i64 6)))),(1,(1,iA))])), .op none none (.store dC ji 2)]) .ret
abbrev QVH:AC:= .seq (.run [.o 18 (.cH c6 dn 17), .o 19 (.load dL true 17), .o 4 (.alloc [(.int .i64 0),(.int .i64 0),(.slice .full 0 []),(.str []),(.str []),(.int .i64 0),(.int .i64 0),(.str []),(.slice .full 0 []),(.bool false),(.slice .full 0 []),(.slice .full 0 []),(.slice .full 0 []),(.int .i64 0),(.int .i64 0),(.int .i64 0),(.int .i64 0)]), .op none none (.store fH eC 17)]) (.seq (.run [.o 20 (.aw fH 0), .o 21 (.aw eK 1), .o 22 (.load eH false 1), .o 23 (.bin .eql eO (.k (.int .i64 4))), .m 24 eR, .g 25 24 true (.load br true 2), .g 26 24 true (.aw fH 0), .g 27 24 true (.load fB true 13), .d 28 24 true xx [fj,fL], .g 29 24 true (.un .not gp), .o 30 (.pick fb gy (.k (.bool false)))]) (.cond gG QVE .skip))
abbrev QVL:AC:= .seq (.cond dN .skip (.exit 0)) (.seq (.block 1 QVH) (.run [.o 35 (.bin .add dn (.k (.int .i64 1))), .m 16 iH]))
abbrev QVP:AC:= .seq (.run [.o 10 (.load br true 2), .c 11 lT [cv], .o 12 (.cz cW), .o 13 (.aw de 2), .o 14 (.load dm false 1), .o 15 (.len c6), .o 16 (.mv (.k (.int .i64 0)))]) (.block 0 (.loop (.seq (.run [.o 17 (.bin .lss dn dD)]) QVL)))
abbrev QVT:AC:= .seq (.seq (.run [.o 5 (.load br true 2), .c 6 np [cj], .o 7 (.E4 dK 0 false 1), .o 8 (.bin .neq dc (.k (.int .i64 0)))]) (.cond dd QV5 .skip)) (.seq QVP (.seq (.run [.o 36 (.build [(.int .i64 0),(.int .i64 0)] []), .op none none (.store dC iY 2)]) .ret))
abbrev QVU:AC:= .seq (.run [.o 1 (.box bK), .o 2 (.alloc [(.int .i64 0),(.int .i64 0)])]) QVT
abbrev QVZ:AC:= .seq (.run [(.o 14 (.build [(.int .i64 0),(.int .i64 0)] [(0,(1,(.k (.int .i64 1))))])), .op none none (.store dC c6 2)]) .ret
abbrev QWF:AC:= .seq (.run [.o 47 (.aw du 0), .o 48 (.aw nS 0), .o 49 (.load mO false 1),(.o 50 (.build [(.int .i64 0),(.int .i64 0)] [(0,(1,(.k (.int .i64 7)))),(1,(1,mP))])), .op none none (.store dC ng 2)]) .ret
abbrev QWI:AC:= .seq (.run [.m 32 dK, .o 33 (.aw du 0), .o 34 (.aw iA 2), .o 35 (.load ji false 1), .c 36 rQ [iG,iH], .m 31 iY, .o 37 (.ext gJ 0), .o 38 (.ext gJ 1), .m 6 ju, .m 7 ke]) (.seq (.run [.m 39 dc, .o 40 (.un .not jU), .m 41 kL, .g 42 41 false (.mv cJ), .g 43 41 false (.load du true 17), .d 44 41 false xy [kZ,kM], .g 45 41 false (.un .not k8), .o 46 (.pick ku (.k (.bool true)) mM)]) (.cond mN QWF .skip))
abbrev QWM:AC:= .seq (.block 3 (.seq (.run [.o 29 (.cH fj fL 17), .o 30 (.load gy true 17), .o 9 (.alloc [(.int .i64 0),(.int .i64 0),(.slice .full 0 []),(.str []),(.str []),(.int .i64 0),(.int .i64 0),(.str []),(.slice .full 0 []),(.bool false),(.slice .full 0 []),(.slice .full 0 []),(.slice .full 0 []),(.int .i64 0),(.int .i64 0),(.int .i64 0),(.int .i64 0)]), .op none none (.store du gG 17)]) QWI)) (.run [.o 51 (.bin .add fL (.k (.int .i64 1))), .m 27 lV])
abbrev QWQ:AC:= .block 2 (.loop (.seq (.run [.o 28 (.bin .lss fL fB)]) (.seq (.cond gp .skip (.exit 2)) QWM)))
abbrev QWV:AC:= .seq (.run [(.o 61 (.build [(.int .i64 0),(.int .i64 0)] [(0,(1,(.k (.int .i64 7))))])), .op none none (.store dC tu 2)]) .ret
abbrev QWZ:AC:= .seq (.seq (.run [.m 23 cJ, .m 24 fH, .c 25 iV [eR,fb], .o 26 (.len fj), .o 27 (.mv (.k (.int .i64 0)))]) QWQ) (.seq (.run [.m 53 dK, .o 54 (.aw cj 4), .o 55 (.load nh false 1), .c 56 rQ [mQ,ni], .m 52 pD, .o 57 (.ext lW 0), .o 58 (.ext lW 1), .m 7 qc]) (.seq (.run [.m 59 dc, .o 60 (.un .not nT)]) (.cond rD QWV .skip)))
abbrev QX1:AC:= .seq (.run [.o 6 (.mv (.k (.slice .full 0 [])))]) (.seq (.run [.o 7 (.mv (.k (.bool true)))]) QWZ)
abbrev QX5:AC:= .seq (.block 1 (.seq (.run [.m 20 dL, .o 21 (.cH dn dL 5), .o 22 (.load eH true 5), .o 5 (.alloc [(.str []),(.slice .full 0 []),(.slice .full 0 []),(.slice .full 0 []),(.slice .full 0 [])]), .m 4 eK, .op none none (.store cj eO 5)]) QX1)) (.run [.o 62 (.bin .add dL (.k (.int .i64 1))), .m 18 su])
abbrev QX9:AC:= .block 0 (.loop (.seq (.run [.o 19 (.bin .lss dL dN)]) (.seq (.cond eC .skip (.exit 0)) QX5)))
abbrev QXD:AC:= .seq (.seq (.run [.o 15 (.aw br 1), .o 16 (.load dD false 1), .o 17 (.len dn), .o 18 (.mv (.k (.int .i64 0)))]) QX9) (.seq (.run [.o 63 (.build [(.int .i64 0),(.int .i64 0)] []), .op none none (.store dC tv 2)]) .ret)
abbrev QXF:AC:= .seq (.run [.o 10 (.load br true 2), .c 11 ti [cv], .m 3 cW]) (.seq (.seq (.run [.m 12 cJ, .o 13 (.Jv false de (.k .eW))]) (.cond dm QVZ .skip)) QXD)
abbrev QXG:AC:= .seq (.run [.o 1 (.box bK), .o 2 (.alloc [(.int .i64 0),(.int .i64 0)])]) QXF
abbrev QXK:AC:= .seq (.run [(.o 12 (.build [(.int .i64 0),(.int .i64 0)] [(0,(1,(.k (.int .i64 1))))])), .op none none (.store dC de 2)]) .ret
abbrev QXS:AC:= .par [.m 21 cJ, .o 22 (.aw cj 0), .o 23 (.load eO false 1), .o 24 (.load br true 2), .o 25 (.aw cj 0), .o 26 (.load fj false 1), .c 27 tj [fb,fB], .op none none (.A0 eH eR fL)] [(3,0),(4,0),(5,0),(6,0),(0,0),(1,0),(2,1),(7,0)]
abbrev QXW:AC:= .seq (.block 1 (.seq (.run [.o 19 (.cH dD dN 5), .o 20 (.load eC true 5), .o 5 (.alloc [(.str []),(.slice .full 0 []),(.slice .full 0 []),(.slice .full 0 []),(.slice .full 0 [])]), .op none none (.store cj eK 5)]) QXS)) (.run [.o 28 (.bin .add dN (.k (.int .i64 1))), .m 17 gp])
abbrev QY0:AC:= .block 0 (.loop (.seq (.run [.o 18 (.bin .lss dN dn)]) (.seq (.cond dL .skip (.exit 0)) QXW)))
abbrev QY8:AC:= .seq (.run [.o 54 (.aw dc 0), .o 55 (.aw nh 0), .o 56 (.load ni false 1),(.o 57 (.build [(.int .i64 0),(.int .i64 0)] [(0,(1,(.k (.int .i64 8)))),(1,(1,pD))])), .op none none (.store dC qG 2)]) .ret
abbrev QYB:AC:= .seq (.run [.o 37 (.cH iA iH 17), .o 38 (.load ju true 17), .o 7 (.alloc [(.int .i64 0),(.int .i64 0),(.slice .full 0 []),(.str []),(.str []),(.int .i64 0),(.int .i64 0),(.str []),(.slice .full 0 []),(.bool false),(.slice .full 0 []),(.slice .full 0 []),(.slice .full 0 []),(.int .i64 0),(.int .i64 0),(.int .i64 0),(.int .i64 0)]), .op none none (.store dc ke 17)]) (.seq (.run [.o 39 (.aw dc 0), .o 40 (.aw jU 1), .o 41 (.load kL false 1), .o 42 (.bin .eql ku (.k (.int .i64 4))), .m 43 kZ, .g 44 43 true (.aw dc 0), .g 45 43 true (.load k8 true 13), .g 46 43 true (.mv cJ), .g 47 43 true (.aw dc 0), .g 48 43 true (.aw nS 4), .g 49 43 true (.load mO false 1), .g 50 43 true (.yh mN mP (.slice .full 0 [])), .d 51 43 true uH [mM,ng], .g 52 43 true (.un .not lV), .o 53 (.pick kM lW (.k (.bool false)))]) (.cond mQ QY8 .skip))
abbrev QYF:AC:= .seq (.cond iY .skip (.exit 2)) (.seq (.block 3 QYB) (.run [.o 58 (.bin .add iH (.k (.int .i64 1))), .m 35 qc]))
abbrev QYJ:AC:= .seq (.run [.o 29 (.load br true 2), .c 30 lT [gy], .o 31 (.cz gG), .o 32 (.aw gJ 2), .o 33 (.load iG false 1), .o 34 (.len iA), .o 35 (.mv (.k (.int .i64 0)))]) (.block 2 (.loop (.seq (.run [.o 36 (.bin .lss iH ji)]) QYF)))
abbrev QYN:AC:= .seq (.seq (.run [.o 14 (.aw br 1), .o 15 (.load c6 false 1), .o 16 (.len dD), .o 17 (.mv (.k (.int .i64 0)))]) QY0) (.seq QYJ (.seq (.run [.o 59 (.build [(.int .i64 0),(.int .i64 0)] []), .op none none (.store dC nT 2)]) .ret))
abbrev QYP:AC:= .seq (.seq (.run [.o 8 (.load br true 2), .c 9 sa [dd], .o 10 (.E4 du 0 false 1), .o 11 (.bin .neq cv (.k (.int .i64 0)))]) (.cond cW QXK .skip)) (.seq (.run [.op (some 13) none .wH, .m 3 dm]) QYN)
abbrev QYQ:AC:= .seq (.run [.o 1 (.box bK), .o 2 (.alloc [(.int .i64 0),(.int .i64 0)])]) QYP
abbrev QZ1:AC:= .cond dN (.seq (.run [.o 2 (.mv (.k (.int .i64 2)))]) .ret) .skip
abbrev QZ3:AC:= .cond cv (.seq (.run [.o 2 (.mv (.k (.int .i64 1)))]) .ret) (.seq (.run [.m 18 bK, .o 19 (.bin .geq dL (.k (.int .i64 5))), .m 20 eC, .g 21 20 true (.mv bK), .g 22 20 true (.bin .leq eH (.k (.int .i64 17))), .o 23 (.pick eK eO (.k (.bool false))), .m 17 eR]) QZ1)
abbrev QZ5:AC:= .cond cJ (.seq (.run [.o 2 (.mv (.k (.int .i64 0)))]) .ret) (.seq (.run [.m 11 bK, .o 12 (.bin .eql cW (.k (.int .i64 3))), .m 13 de, .g 14 13 false (.mv bK), .g 15 13 false (.bin .eql c6 (.k (.int .i64 4))), .o 16 (.pick dm (.k (.bool true)) dD), .m 10 dn]) QZ3)
abbrev QZ7:AC:= .block 0 (.seq (.run [.m 4 bK, .o 5 (.bin .eql fH (.k (.int .i64 1))), .m 6 cj, .g 7 6 false (.mv bK), .g 8 6 false (.bin .eql dc (.k (.int .i64 2))), .o 9 (.pick dK (.k (.bool true)) dd), .m 3 du]) QZ5)
abbrev QZ9:AC:= .seq (.run [(.o 2 (.mv (.k (.int .i64 (-1)))))]) .ret
abbrev QZB:AC:= .seq (.run [.o 2 (.mv (.k (.int .i64 0)))]) (.seq QZ7 QZ9)
abbrev QZI:AC:= .par [.o 20 (.aw dc 0), .o 21 (.load eK false 1), .o 22 (.aw dc 2), .o 23 (.load eO false 1), .c 24 oE [eR], .o 25 (.aw dc 4), .o 26 (.load fj false 1), .c 27 oE [fB], .o 28 (.aw dc 3), .o 29 (.load gp false 1), .o 30 (.load cJ true 13), .c 31 pC [gy,gG], .o 32 (.build [(.str []),(.slice .full 0 []),(.slice .full 0 []),(.slice .full 0 []),(.slice .full 0 [])] [(0,(1,eH)),(2,(1,fb)),(4,(1,fL)),(3,(1,gJ))]), .o 8 (.alloc [(.str []),(.slice .full 0 []),(.slice .full 0 []),(.slice .full 0 []),(.slice .full 0 [])]), .op none none (.store dd iG 5)] [(2,0),(3,0),(4,0),(5,0),(6,1),(7,0),(8,0),(9,2),(10,2),(11,0),(13,0),(0,0),(1,4),(12,0),(14,0)]
abbrev QZN:AC:= .seq (.run [.o 18 (.cH c6 dn 5), .o 19 (.load dL true 5), .o 7 (.alloc [(.str []),(.slice .full 0 []),(.slice .full 0 []),(.slice .full 0 []),(.slice .full 0 [])]), .op none none (.store dc eC 5)]) (.seq QZI (.seq (.run [.o 33 (.aw dd 1), .o 34 (.load iA false 1), .o 35 (.aw dc 1), .o 36 (.load iH false 1), .o 37 (.app 2 24 ji iY), .o 38 (.aw dd 1), .op none none (.store ke ju 1)]) (.run [.o 39 (.aw cj 1), .o 40 (.load jU false 1), .o 41 (.load dd true 5), .o 42 (.dv [(.str []),(.slice .full 0 []),(.slice .full 0 []),(.slice .full 0 []),(.slice .full 0 [])] 5 1 [(0,ku)]), .o 43 (.app 5 112 kL kZ), .o 44 (.aw cj 1), .op none none (.store k8 kM 1)])))
abbrev QZR:AC:= .seq (.cond dN .skip (.exit 0)) (.seq (.block 1 QZN) (.run [.o 45 (.bin .add dn (.k (.int .i64 1))), .m 16 mM]))
abbrev QZS:AC:= .seq (.run [.o 17 (.bin .lss dn dD)]) QZR
abbrev QZX:AC:= .seq (.run [.o 46 (.load cj true 2), .op none none (.store fH mN 2)]) .ret
abbrev QZY:AC:= .seq (.seq (.run [.o 13 (.aw dC 1), .o 14 (.load dm false 1), .o 15 (.len c6), .o 16 (.mv (.k (.int .i64 0)))]) (.block 0 (.loop QZS))) QZX
abbrev ao1:AC:= .seq (.run [.o 2 (.box bK), .o 3 (.box br), .o 4 (.alloc [(.slice .full 0 []),(.slice .full 0 [])])]) (.seq (.run [.o 9 (.aw dC 0), .o 10 (.load du false 1), .c 11 oE [cv], .o 12 (.build [(.slice .full 0 []),(.slice .full 0 [])] [(0,(1,cW))]), .o 5 (.alloc [(.slice .full 0 []),(.slice .full 0 [])]), .op none none (.store cj de 2)]) QZY)
open Go.Proofs
theorem IY:Has Tryz.prog oA 15 [(2,none)] QLF:=⟨Tryz.f64,by kernel_rfl,by kernel_rfl⟩
theorem oG:Has Tryz.prog pA 27 [(2,none)] QLP:=⟨Tryz.f65,by kernel_rfl,by kernel_rfl⟩
theorem tx:Has Tryz.prog ly 71 [(6,none)] QMQ:=⟨Tryz.f66,by kernel_rfl,by kernel_rfl⟩
theorem MW:Has Tryz.prog td 5 [(2,(some (true,4)))] QMU:=⟨Tryz.f68,by kernel_rfl,by kernel_rfl⟩
theorem KW:Has Tryz.prog l7 5 [(2,(some (true,4)))] QMY:=⟨Tryz.f69,by kernel_rfl,by kernel_rfl⟩
theorem MX:Has Tryz.prog wM 12 [(6,(some (true,4)))] QN2:=⟨Tryz.f70,by kernel_rfl,by kernel_rfl⟩
theorem Dy:Has Tryz.prog kX 29 [(4,none)] QNL:=⟨Tryz.f71,by kernel_rfl,by kernel_rfl⟩
theorem Dz:Has Tryz.prog kY 73 [] QON:=⟨Tryz.f72,by kernel_rfl,by kernel_rfl⟩
theorem IZ:Has Tryz.prog xv 28 [(4,none)] QPG:=⟨Tryz.f73,by kernel_rfl,by kernel_rfl⟩
theorem Bt:Has Tryz.prog qD 27 [(4,none)] QPQ:=⟨Tryz.f74,by kernel_rfl,by kernel_rfl⟩
theorem uf:Has Tryz.prog iu 19 [(4,none)] QQD:=⟨Tryz.f75,by kernel_rfl,by kernel_rfl⟩
theorem Ay:Has Tryz.prog mU 8 [(3,none)] QQH:=⟨Tryz.f76,by kernel_rfl,by kernel_rfl⟩
theorem Az:Has Tryz.prog jC 20 [(4,none)] QQN:=⟨Tryz.f77,by kernel_rfl,by kernel_rfl⟩
theorem AA:Has Tryz.prog kT 64 [(4,none),(5,none)] QRH:=⟨Tryz.f78,by kernel_rfl,by kernel_rfl⟩
theorem AB:Has Tryz.prog fu 26 [] QRL:=⟨Tryz.f79,by kernel_rfl,by kernel_rfl⟩
theorem EV:Has Tryz.prog qj 38 [(6,none),(7,none)] QSE:=⟨Tryz.f80,by kernel_rfl,by kernel_rfl⟩
theorem Cr:Has Tryz.prog rP 13 [(4,none)] QSO:=⟨Tryz.f81,by kernel_rfl,by kernel_rfl⟩
theorem CD:Has Tryz.prog lO 15 [(2,none)] QSS:=⟨Tryz.f82,by kernel_rfl,by kernel_rfl⟩
theorem KX:Has Tryz.prog zJ 6 [(2,none)] QSW:=⟨Tryz.f85,by kernel_rfl,by kernel_rfl⟩
theorem yC:Has Tryz.prog np 96 [(2,(some (true,2)))] QV1:=⟨Tryz.f95,by kernel_rfl,by kernel_rfl⟩
theorem yD:Has Tryz.prog sa 37 [(2,(some (true,2)))] QVU:=⟨Tryz.f96,by kernel_rfl,by kernel_rfl⟩
theorem AE:Has Tryz.prog xw 64 [(2,(some (true,2)))] QXG:=⟨Tryz.f97,by kernel_rfl,by kernel_rfl⟩
theorem yE:Has Tryz.prog v7 60 [(2,(some (true,2)))] QYQ:=⟨Tryz.f98,by kernel_rfl,by kernel_rfl⟩
theorem KY:Has Tryz.prog zK 24 [(2,none)] QZB:=⟨Tryz.f99,by kernel_rfl,by kernel_rfl⟩
theorem DA:Has Tryz.prog pB 47 [(4,(some (true,2)))] ao1:=⟨Tryz.f101,by kernel_rfl,by kernel_rfl⟩
abbrev ao2:AC:= .seq (.run [.m 20 br, .o 21 (.aw du 0), .op none none (.store eH eK 1)]) (.seq (.run [.o 23 (.aw dd 11), .o 24 (.load eR false 1), .m 25 br, .c 26 ko [fb,fj], .m 22 fB, .o 27 (.ext eO 0), .o 28 (.ext eO 1), .o 29 (.aw du 11), .op none none (.store gy fL 1), .m 1 gp]) (.seq (.run [.o 31 (.aw dd 12), .o 32 (.load gJ false 1), .m 33 br, .c 34 ko [iG,iA], .m 30 ji, .o 35 (.ext gG 0), .o 36 (.ext gG 1), .o 37 (.aw du 12), .op none none (.store ju iH 1), .m 1 iY]) (.run [.m 38 dK, .o 39 (.load du true 13), .o 40 (.dv [(.int .i64 0),(.int .i64 0),(.slice .full 0 []),(.str []),(.str []),(.int .i64 0),(.int .i64 0),(.str []),(.slice .full 0 []),(.bool false),(.slice .full 0 []),(.slice .full 0 []),(.slice .full 0 [])] 13 1 [(0,jU)]), .o 41 (.app 13 208 ke kL), .m 6 ku])))
abbrev ao3:AC:= .seq (.run [.o 14 (.cH cv de 13), .o 15 (.load c6 true 13), .o 8 (.alloc [(.int .i64 0),(.int .i64 0),(.slice .full 0 []),(.str []),(.str []),(.int .i64 0),(.int .i64 0),(.str []),(.slice .full 0 []),(.bool false),(.slice .full 0 []),(.slice .full 0 []),(.slice .full 0 [])]), .op none none (.store dd dD 13)]) (.seq (.run [.m 16 br, .o 17 (.bin .add dn (.k (.int .i64 1))), .m 1 dN]) (.seq (.run [.o 18 (.load dd true 13), .c 19 oB [dL], .o 9 (.alloc [(.int .i64 0),(.int .i64 0),(.slice .full 0 []),(.str []),(.str []),(.int .i64 0),(.int .i64 0),(.str []),(.slice .full 0 []),(.bool false),(.slice .full 0 []),(.slice .full 0 []),(.slice .full 0 [])]), .op none none (.store du eC 13)]) ao2))
abbrev ao4:AC:= .seq (.cond dm .skip (.exit 0)) (.seq (.block 1 ao3) (.run [.o 42 (.bin .add de (.k (.int .i64 1))), .m 12 kZ]))
abbrev ao5:AC:= .seq (.run [.m 10 bK, .o 11 (.len cv), .o 12 (.mv (.k (.int .i64 0)))]) (.block 0 (.loop (.seq (.run [.o 13 (.bin .lss de cW)]) ao4)))
abbrev ao6:AC:= .seq (.run [.o 4 (.mv (.k (.slice .full 0 []))), .o 5 (.mv (.k (.int .i64 0)))]) (.seq (.run [.o 6 (.mv (.k (.slice .full 0 [])))]) (.seq ao5 (.seq (.run [.m 43 dK, .m 44 br, .m 4 kM, .m 5 k8]) .ret)))
abbrev ao7:AC:= .par [.o 6 (.aw br 0), .o 7 (.load dK false 1), .o 8 (.aw br 1), .o 9 (.load dd false 1), .o 10 (.aw br 2), .o 11 (.load cv false 1), .c 12 oE [cW], .o 13 (.aw br 3), .o 14 (.load dm false 1), .o 15 (.aw br 4), .o 16 (.load dD false 1), .o 17 (.aw br 5), .o 18 (.load dN true 4), .c 19 kp [dL], .o 20 (.aw br 9), .o 21 (.load eK false 1), .o 22 (.build [(.int .i64 0),(.int .i64 0),(.slice .full 0 []),(.str []),(.str []),(.int .i64 0),(.int .i64 0),(.str []),(.slice .full 0 []),(.bool false),(.slice .full 0 []),(.slice .full 0 []),(.slice .full 0 [])] [(0,(1,dc)),(1,(1,du)),(2,(1,de)),(3,(1,c6)),(4,(1,dn)),(5,(4,eC)),(9,(1,eH))]), .o 3 (.alloc [(.int .i64 0),(.int .i64 0),(.slice .full 0 []),(.str []),(.str []),(.int .i64 0),(.int .i64 0),(.str []),(.slice .full 0 []),(.bool false),(.slice .full 0 []),(.slice .full 0 []),(.slice .full 0 [])]), .op none none (.store cJ eO 13)] [(4,0),(5,0),(6,0),(11,0),(12,1),(13,0),(17,0),(0,0),(1,3),(2,0),(3,3),(7,0),(8,3),(9,0),(10,3),(14,0),(15,3),(16,0),(18,0)]
abbrev ao8:AC:= .par [.o 30 (.aw cJ 10), .o 31 (.load gG false 1), .o 32 (.aw cj 0), .o 33 (.load iG false 1), .o 34 (.aw cj 1), .o 35 (.load ji false 1), .o 36 (.aw cj 2), .o 37 (.load iY true 4), .c 38 kp [ju], .o 39 (.build [(.bool false),(.str []),(.int .i64 0),(.int .i64 0),(.str []),(.slice .full 0 [])] [(0,(1,iA)),(1,(1,iH)),(2,(4,ke))]), .o 40 (.dv [(.bool false),(.str []),(.int .i64 0),(.int .i64 0),(.str []),(.slice .full 0 [])] 6 1 [(0,jU)]), .o 41 (.app 6 80 gJ kL), .o 42 (.aw cJ 10), .op none none (.store kZ ku 1)] [(6,0),(7,0),(8,0),(0,0),(1,1),(2,0),(3,1),(4,0),(5,1),(9,0),(10,0),(11,0),(12,0),(13,0)]
abbrev ao9:AC:= .seq (.block 1 (.seq (.run [.o 28 (.cH fb fB 6), .o 29 (.load gp true 6), .o 5 (.alloc [(.bool false),(.str []),(.int .i64 0),(.int .i64 0),(.str []),(.slice .full 0 [])]), .op none none (.store cj gy 6)]) ao8)) (.run [.o 43 (.bin .add fB (.k (.int .i64 1))), .m 26 kM])
abbrev apa:AC:= .block 0 (.loop (.seq (.run [.o 27 (.bin .lss fB fj)]) (.seq (.cond fL .skip (.exit 0)) ao9)))
abbrev apb:AC:= .seq (.seq (.run [.o 23 (.aw br 10), .o 24 (.load eR false 1), .o 25 (.len fb), .o 26 (.mv (.k (.int .i64 0)))]) apa) (.seq (.run [.o 44 (.load cJ true 13), .op none none (.store dC k8 13)]) .ret)
abbrev apc:AC:= .seq (.run [.o 1 (.box bK), .o 2 (.alloc [(.int .i64 0),(.int .i64 0),(.slice .full 0 []),(.str []),(.str []),(.int .i64 0),(.int .i64 0),(.str []),(.slice .full 0 []),(.bool false),(.slice .full 0 []),(.slice .full 0 []),(.slice .full 0 [])])]) (.seq ao7 apb)
abbrev apd:AC:= .seq (.run [.o 2 (.mv (.k (.bool false)))]) (.seq (.run [.m 3 bK, .o 4 (.bin .geq cJ (.k (.int .u8 97))), .m 5 fH, .g 6 5 true (.mv bK), .g 7 5 true (.bin .leq dK (.k (.int .u8 122))), .o 8 (.pick cj dc (.k (.bool false))), .m 2 dd]) .ret)
abbrev ape:AC:= .seq (.seq (.run [.m 5 br, .m 6 bK, .o 7 (.w7 dK), .o 8 (.bin .lss cj dc), .m 9 dd, .g 10 9 true (.mv bK), .g 11 9 true (.mv br), .g 12 9 true (.CP cv cW), .d 13 9 true tf [de], .g 14 9 true (.mv dm), .g 15 14 false (.mv bK), .g 16 14 false (.mv br), .g 17 14 false (.CP dD dn), .d 18 14 false zL [dN], .g 19 9 true (.pick c6 (.k (.bool true)) dL), .o 20 (.pick du eC (.k (.bool false)))]) (.cond eK .skip (.exit 0))) (.block 1 (.run [.m 21 br, .o 22 (.bin .add eH (.k (.int .i64 1))), .m 1 eO]))
abbrev apf:AC:= .seq (.run [.o 4 (.mv (.k (.int .i64 0)))]) (.seq (.block 0 (.loop ape)) (.seq (.run [.m 23 br, .m 4 eR]) .ret))
abbrev apg:AC:= .seq (.run [.o 16 (.bin .eql cJ (.k (.str [114,101,97,100]))), .m 4 dn]) (.cond fH .skip (.run [.o 17 (.bin .eql cJ (.k (.str [112,114,105,110,116]))), .m 4 dN]))
abbrev aph:AC:= .cond fH .skip (.seq (.run [.o 15 (.bin .eql cJ (.k (.str [103,111,116,111]))), .m 4 dD]) (.cond fH .skip apg))
abbrev api:AC:= .cond fH .skip (.seq (.run [.o 14 (.bin .eql cJ (.k (.str [114,101,116,117,114,110]))), .m 4 c6]) aph)
abbrev apj:AC:= .cond fH .skip (.seq (.run [.o 13 (.bin .eql cJ (.k (.str [99,111,110,116,105,110,117,101]))), .m 4 dm]) api)
abbrev apk:AC:= .cond fH .skip (.seq (.run [.o 12 (.bin .eql cJ (.k (.str [98,114,101,97,107]))), .m 4 de]) apj)
abbrev apl:AC:= .cond fH .skip (.seq (.run [.o 11 (.bin .eql cJ (.k (.str [119,104,105,108,101]))), .m 4 cW]) apk)
abbrev apm:AC:= .cond fH .skip (.seq (.run [.o 10 (.bin .eql cJ (.k (.str [101,108,115,101]))), .m 4 cv]) apl)
abbrev apn:AC:= .cond fH .skip (.seq (.run [.o 9 (.bin .eql cJ (.k (.str [105,102]))), .m 4 du]) apm)
abbrev apo:AC:= .cond fH .skip (.seq (.run [.o 8 (.bin .eql cJ (.k (.str [114,101,102]))), .m 4 dd]) apn)
abbrev apq:AC:= .cond fH .skip (.seq (.run [.o 7 (.bin .eql cJ (.k (.str [118,97,114]))), .m 4 dc]) apo)
abbrev apr:AC:= .cond fH .skip (.seq (.run [.o 6 (.bin .eql cJ (.k (.str [112,114,111,99]))), .m 4 dK]) apq)
abbrev aps:AC:= .cond fH (.seq (.run [.o 2 (.mv (.k (.bool true)))]) .ret) .skip
abbrev apt:AC:= .seq (.seq (.run [.o 5 (.bin .eql cJ (.k (.str [103,108,111,98,97,108]))), .m 4 cj]) apr) aps
abbrev apu:AC:= .seq (.seq (.run [.m 3 bK]) (.block 0 apt)) (.seq (.run [.o 2 (.mv (.k (.bool false)))]) .ret)
abbrev apv:AC:= .seq (.run [.o 2 (.mv (.k (.bool false)))]) apu
abbrev apw:AC:= .par [.o 10 (.aw br 9), .o 11 (.load cv false 1), .o 3 (.mv (.k (.bool false))), .o 4 (.mv (.k (.bool false))), .o 5 (.mv (.k (.bool false))), .m 6 cW, .o 7 (.mv (.k (.bool false))), .o 8 (.mv (.k (.bool false)))] [(0,0),(1,0),(2,0),(3,0),(4,0),(5,0),(6,0),(7,0)]
abbrev apx:AC:= .seq (.run [.o 20 (.bin .eql dn (.k (.int .i64 2))), .m 19 eK]) (.cond eC .skip (.run [.o 21 (.bin .eql dn (.k (.int .i64 10))), .m 19 eH]))
abbrev apy:AC:= .seq (.run [.o 38 (.bin .eql dn (.k (.int .i64 7))), .m 37 ke]) (.cond ju .skip (.run [.o 39 (.bin .eql dn (.k (.int .i64 8))), .m 37 jU]))
abbrev apz:AC:= .cond ju .skip (.seq (.run [.o 2 (.mv (.k (.bool false)))]) .ret)
abbrev apA:AC:= .seq (.run [.o 34 (.bin .eql dn (.k (.int .i64 9))), .m 33 ji]) (.cond iA (.run [.o 35 (.aw br 9), .o 36 (.load iH false 1), .m 5 iY, .o 6 (.mv (.k (.bool false)))]) (.seq apy apz))
abbrev apB:AC:= .seq (.run [.o 32 (.bin .eql dn (.k (.int .i64 6))), .m 31 iG]) (.cond gJ (.run [.o 5 (.mv (.k (.bool true))), .o 7 (.mv (.k (.bool true)))]) apA)
abbrev apC:AC:= .seq (.run [.o 30 (.bin .eql dn (.k (.int .i64 5))), .m 29 gG]) (.cond gy (.run [.o 5 (.mv (.k (.bool true))), .o 7 (.mv (.k (.bool true))), .o 8 (.mv (.k (.bool true)))]) apB)
abbrev apD:AC:= .seq (.run [.o 25 (.bin .eql dn (.k (.int .i64 4))), .m 24 fj]) (.cond fb (.run [.o 26 (.aw br 3), .o 27 (.load fB false 1), .o 28 (.bin .neq fL (.k (.str []))), .m 3 gp, .o 4 (.mv (.k (.bool true)))]) apC)
abbrev apE:AC:= .seq (.run [.o 23 (.bin .eql dn (.k (.int .i64 3))), .m 22 eR]) (.cond eO (.run [.o 5 (.mv (.k (.bool true)))]) apD)
abbrev apG:AC:= .seq apx (.cond eC (.run [.o 3 (.mv (.k (.bool true)))]) apE)
abbrev apH:AC:= .seq (.run [.o 18 (.bin .eql dn (.k (.int .i64 1))), .m 17 dL]) (.cond dN (.run [.o 3 (.mv (.k (.bool true))), .o 5 (.mv (.k (.bool true)))]) apG)
abbrev apI:AC:= .run [.m 40 dK, .m 41 kL, .g 42 41 false (.mv dc), .g 43 41 false (.un .not kZ), .g 44 41 false (.mv kM), .g 45 44 true (.aw br 11), .g 46 44 true (.load mM false 1), .g 47 44 true (.len mN), .g 48 44 true (.bin .gtr nS (.k (.int .i64 0))), .g 49 41 false (.pick k8 mO (.k (.bool false))), .o 50 (.pick ku (.k (.bool true)) mP), .m 51 ng, .g 52 51 false (.mv dd), .g 53 51 false (.un .not lW), .g 54 51 false (.mv mQ), .g 55 54 true (.aw br 12), .g 56 54 true (.load ni false 1), .g 57 54 true (.len pD), .g 58 54 true (.bin .gtr qG (.k (.int .i64 0))), .g 59 51 false (.pick nh qc (.k (.bool false))), .o 60 (.pick lV (.k (.bool true)) nT), .m 61 rD, .g 62 61 false (.mv du), .g 63 61 false (.un .not su), .g 64 61 false (.mv tv), .g 65 64 true (.aw br 10), .g 66 64 true (.load xC false 1), .g 67 64 true (.len zO), .g 68 64 true (.bin .gtr zP (.k (.int .i64 0))), .g 69 61 false (.pick tw xD (.k (.bool false))), .o 70 (.pick tu (.k (.bool true)) Bo)]
abbrev apJ:AC:= .cond Bp (.seq (.run [.o 2 (.mv (.k (.bool false)))]) .ret) .skip
abbrev apK:AC:= .cond FW (.seq (.run [.o 2 (.mv (.k (.bool false)))]) .ret) .skip
abbrev aht:AC:= .seq (.seq (.run [.o 71 (.aw br 3), .o 72 (.load FR false 1), .m 73 cJ, .c 74 qE [Du,Dv], .o 75 (.un .not FT), .m 76 FU, .g 77 76 false (.aw br 4), .g 78 76 false (.load FV false 1), .g 79 76 false (.mv fH), .d 80 76 false qE [Bq,IT], .g 81 76 false (.un .not IU), .o 82 (.pick Dw (.k (.bool true)) IV), .m 83 MJ, .g 84 83 false (.aw br 5), .g 85 83 false (.load MM true 4), .g 86 83 false (.mv cj), .d 87 83 false tn [MN,MO], .g 88 83 false (.un .not MP), .o 89 (.pick MK (.k (.bool true)) MQ)]) apK) (.seq (.run [.o 90 (.aw br 10), .o 91 (.load IW false 1), .c 92 wa [MR], .m 2 S8]) .ret)
abbrev ahu:AC:= .seq (.seq apI apJ) aht
abbrev Zg:AC:= .seq (.seq (.run [.o 15 (.aw br 1), .o 16 (.load dD false 1)]) (.block 0 apH)) ahu
abbrev ahv:AC:= .seq (.run [.o 12 (.aw br 1), .o 13 (.load de false 1), .o 14 (.bin .eql dm (.k (.int .i64 4))), .m 9 c6]) Zg
abbrev ahw:AC:= .seq apw ahv
abbrev apL:AC:= .seq (.run [.o 1 (.box bK), .o 2 (.mv (.k (.bool false)))]) ahw
abbrev apN:AC:= .seq (.block 1 (.seq (.run [.o 13 (.cH du cW 13), .o 14 (.load dm true 13), .o 5 (.alloc [(.int .i64 0),(.int .i64 0),(.slice .full 0 []),(.str []),(.str []),(.int .i64 0),(.int .i64 0),(.str []),(.slice .full 0 []),(.bool false),(.slice .full 0 []),(.slice .full 0 []),(.slice .full 0 [])]), .op none none (.store cj c6 13)]) (.run [.m 15 cJ, .o 16 (.load cj true 13), .c 17 nQ [dn], .o 18 (.bin .add dD dN), .m 3 dL]))) (.run [.o 19 (.bin .add cW (.k (.int .i64 1))), .m 11 eC])
abbrev apO:AC:= .block 0 (.loop (.seq (.run [.o 12 (.bin .lss cW cv)]) (.seq (.cond de .skip (.exit 0)) apN)))
abbrev apP:AC:= .seq (.block 3 (.seq (.run [.o 25 (.cH eH eR 13), .o 26 (.load fj true 13), .o 7 (.alloc [(.int .i64 0),(.int .i64 0),(.slice .full 0 []),(.str []),(.str []),(.int .i64 0),(.int .i64 0),(.str []),(.slice .full 0 []),(.bool false),(.slice .full 0 []),(.slice .full 0 []),(.slice .full 0 [])]), .op none none (.store dc fB 13)]) (.run [.m 27 cJ, .o 28 (.load dc true 13), .c 29 nQ [gp], .o 30 (.bin .add fL gy), .m 3 gG]))) (.run [.o 31 (.bin .add eR (.k (.int .i64 1))), .m 23 gJ])
abbrev apQ:AC:= .block 2 (.loop (.seq (.run [.o 24 (.bin .lss eR eO)]) (.seq (.cond fb .skip (.exit 2)) apP)))
abbrev apR:AC:= .seq (.seq (.run [.o 20 (.aw br 12), .o 21 (.load eK false 1), .o 22 (.len eH), .o 23 (.mv (.k (.int .i64 0)))]) apQ) (.seq (.run [.m 32 cJ, .m 2 iG]) .ret)
abbrev apS:AC:= .seq (.seq (.run [.o 8 (.aw br 11), .o 9 (.load dd false 1), .o 10 (.len du), .o 11 (.mv (.k (.int .i64 0)))]) apO) apR
abbrev apT:AC:= .seq (.run [.o 1 (.box bK), .o 2 (.mv (.k (.int .i64 0)))]) (.seq (.run [.o 3 (.mv (.k (.int .i64 1)))]) apS)
abbrev apU:AC:= .cond fH (.seq (.run [.o 2 (.mv (.k (.slice .full 0 [])))]) .ret) .skip
abbrev apV:AC:= .seq (.run [.o 2 (.mv (.k (.slice .full 0 [])))]) (.seq (.seq (.run [.m 3 bK, .nil (some 4) none false cJ]) apU) (.seq (.run [.o 5 (.dv [(.str [])] 1 0 []), .m 6 bK, .o 7 (.app 1 16 cj dK), .m 2 dc]) .ret))
abbrev apW:AC:= .seq (.block 1 (.seq (.run [.o 11 (.cH dc du 2), .o 12 (.load cW true 2), .o 5 (.alloc [(.str []),(.bool false)]), .op none none (.store cj de 2)]) (.run [.m 13 cJ, .o 14 (.aw cj 0), .o 15 (.load c6 false 1), .o 16 (.dv [(.str [])] 1 1 [(0,dD)]), .o 17 (.app 1 16 dm dn), .m 3 dN]))) (.run [.o 18 (.bin .add du (.k (.int .i64 1))), .m 9 dL])
abbrev apX:AC:= .block 0 (.loop (.seq (.run [.o 10 (.bin .lss du dd)]) (.seq (.cond cv .skip (.exit 0)) apW)))
abbrev apY:AC:= .seq (.seq (.run [.o 6 (.aw br 1), .o 7 (.load dK false 1), .o 8 (.len dc), .o 9 (.mv (.k (.int .i64 0)))]) apX) (.seq (.run [.m 19 cJ, .o 20 (.aw br 2), .o 21 (.load eK false 1), .o 22 (.app 1 16 eC eH), .m 2 eO]) .ret)
abbrev apZ:AC:= .seq (.run [.o 1 (.box bK), .o 2 (.mv (.k (.slice .full 0 [])))]) (.seq (.run [.o 3 (.mv (.k (.slice .full 0 [])))]) apY)
abbrev ap0:AC:= .block 1 (.seq (.run [.m 10 dd, .m 5 cv]) (.seq (.run [.m 11 br, .m 12 bK, .m 13 cj, .o 14 (.cH de dm 1), .o 15 (.load c6 false 1), .o 16 (.bin .eql cW dD)]) (.cond dn (.seq (.run [.m 17 cj, .m 4 dN]) .ret) .skip)))
abbrev ap1:AC:= .seq (.cond du .skip (.exit 0)) (.seq ap0 (.run [.o 18 (.bin .add dd (.k (.int .i64 1))), .m 8 dL]))
abbrev ap2:AC:= .seq (.run [.m 6 bK, .o 7 (.len dK), .o 8 (.mv (.k (.int .i64 0)))]) (.block 0 (.loop (.seq (.run [.o 9 (.bin .lss dd dc)]) ap1)))
abbrev ap3:AC:= .seq (.run [(.o 4 (.mv (.k (.int .i64 (-1)))))]) .ret
abbrev ap4:AC:= .seq (.run [.o 4 (.mv (.k (.int .i64 0)))]) (.seq ap2 ap3)
abbrev ap5:AC:= .cond cv (.seq (.run [.o 6 (.mv (.k (.int .i64 0))), .o 7 (.mv (.k (.bool false)))]) .ret) .skip
abbrev ap6:AC:= .seq (.run [.o 3 (.box bK), .o 6 (.mv (.k (.int .i64 0))), .o 7 (.mv (.k (.bool false)))]) (.seq (.seq (.run [.o 8 (.load cJ true 4), .c 9 oz [dd], .o 10 (.un .not du)]) ap5) (.seq (.run [.o 11 (.load cJ true 4), .m 12 br, .m 13 dC, .c 14 l8 [cW,de,dm], .o 15 (.ext c6 0), .o 16 (.ext c6 1), .m 6 dD, .m 7 dn]) .ret))
abbrev ap7:AC:= .seq (.run [.o 4 (.mv (.k (.bool false)))]) (.seq (.run [.m 5 bK, .m 6 br, .c 7 qF [cj,dK], .o 8 (.bin .geq dc (.k (.int .i64 0))), .m 4 dd]) .ret)
abbrev ap8:AC:= .par [.m 5 bK, .o 6 (.cz cj), .o 7 (.aw dK 2), .o 8 (.load dc false 1), .m 9 bK, .o 10 (.cz du), .o 11 (.aw cv 3), .o 12 (.load cW false 1), .m 13 br, .o 14 (.cH de dm 1), .o 15 (.load c6 false 1), .o 16 (.bin .sub dD (.k (.int .i64 1))), .m 17 bK, .o 18 (.cz dN), .o 19 (.aw dL 4), .o 20 (.load eC false 1), .m 21 br, .o 22 (.cH eK eH 1), .o 23 (.load eO false 1), .o 24 (.bin .sub eR (.k (.int .i64 1))), .o 25 (.CO 17 dd (some dn) (some fb)), .m 4 fj] [(0,0),(1,0),(2,0),(3,0),(4,0),(5,0),(6,0),(7,0),(8,0),(9,0),(10,0),(11,0),(12,0),(13,0),(14,0),(15,0),(16,0),(17,0),(18,0),(19,0),(20,0),(21,0)]
abbrev ap9:AC:= .seq (.run [.o 4 (.mv (.k (.slice .full 0 [])))]) (.seq ap8 .ret)
abbrev aqa:AC:= .seq (.run [.o 4 (.mv (.k (.bool false)))]) (.seq (.run [.m 5 bK, .m 6 br, .c 7 gY [cj,dK], .o 8 (.bin .geq dc (.k (.int .i64 0))), .m 4 dd]) .ret)
abbrev aqb:AC:= .run [.m 23 fH, .m 24 bK, .m 25 cW, .o 26 (.cH fb fj 13), .o 27 (.load fB true 13), .m 28 br, .m 29 dC, .m 30 cJ, .o 31 (.build [(.int .i64 0),(.int .i64 0),(.slice .full 0 []),(.str []),(.str []),(.int .i64 0),(.int .i64 0),(.str []),(.slice .full 0 []),(.bool false),(.slice .full 0 []),(.slice .full 0 []),(.slice .full 0 []),(.int .i64 0),(.int .i64 0),(.bool false)] [(0,(13,fL)),(13,(1,gp)),(14,(1,gy)),(15,(1,gG))]), .o 32 (.dv [(.int .i64 0),(.int .i64 0),(.slice .full 0 []),(.str []),(.str []),(.int .i64 0),(.int .i64 0),(.str []),(.slice .full 0 []),(.bool false),(.slice .full 0 []),(.slice .full 0 []),(.slice .full 0 []),(.int .i64 0),(.int .i64 0),(.bool false)] 16 1 [(0,gJ)]), .o 33 (.app 16 232 eR iG), .m 4 iA]
abbrev aqc:AC:= .par [.m 36 bK, .m 37 cW, .o 38 (.cH iY ju 13), .o 39 (.aw ke 11), .o 40 (.load jU false 1), .m 41 br, .o 42 (.bin .add ku (.k (.int .i64 1))), .m 43 bK, .m 44 cW, .o 45 (.cH kM k8 13), .o 46 (.aw mM 0), .o 47 (.load mN false 1), .m 48 fH, .c 49 nR [kL,kZ,nS,(.k (.bool false)),mO], .m 4 mP] [(0,0),(1,0),(2,0),(3,0),(4,0),(5,0),(6,0),(7,0),(8,0),(9,0),(10,0),(11,0),(12,0),(13,0),(14,0)]
abbrev aqd:AC:= .par [.m 50 bK, .m 51 cW, .o 52 (.cH ng lV 13), .o 53 (.aw lW 12), .o 54 (.load mQ false 1), .m 55 br, .o 56 (.bin .add ni (.k (.int .i64 1))), .m 57 bK, .m 58 cW, .o 59 (.cH qG qc 13), .o 60 (.aw nT 0), .o 61 (.load rD false 1), .m 62 fH, .c 63 nR [nh,pD,tu,(.k (.bool true)),su], .m 4 tv] [(0,0),(1,0),(2,0),(3,0),(4,0),(5,0),(6,0),(7,0),(8,0),(9,0),(10,0),(11,0),(12,0),(13,0),(14,0)]
abbrev aqe:AC:= .seq aqb (.seq (.run [.m 34 br, .o 35 (.bin .leq ji (.k (.int .i64 12)))]) (.cond iH (.seq aqc aqd) .skip))
abbrev aqf:AC:= .seq (.seq (.run [.m 12 cW, .m 13 bK, .o 14 (.len dm), .o 15 (.bin .lss de c6), .m 16 dD, .g 17 16 true (.mv fH), .g 18 16 true (.len dN), .g 19 16 true (.bin .leq dL (.k (.int .i64 200))), .o 20 (.pick dn eC (.k (.bool false)))]) (.cond eK .skip (.exit 0))) (.seq (.block 1 aqe) (.run [.m 21 cW, .o 22 (.bin .add eH (.k (.int .i64 1))), .m 11 eO]))
abbrev aqg:AC:= .seq (.seq (.run [.o 11 (.mv (.k (.int .i64 0)))]) (.block 0 (.loop aqf))) (.seq (.run [.m 64 fH, .m 10 tw]) .ret)
abbrev aqh:AC:= .seq (.run [.o 10 (.mv (.k (.slice .full 0 [])))]) aqg
abbrev aqi:AC:= .cond dn (.seq (.run [.o 2 (.mv (.k (.bool true)))]) .ret) .skip
abbrev aqj:AC:= .block 1 (.seq (.run [.m 9 dc, .o 10 (.cH cj dc 1), .o 11 (.load cv false 1), .m 3 du, .m 4 cW]) (.seq (.run [.m 12 bK, .m 13 cJ, .o 14 (.CO 1 de none (some dm)), .m 15 fH, .c 16 cT [c6,dD]]) aqi))
abbrev aqk:AC:= .seq (.cond dd .skip (.exit 0)) (.seq aqj (.run [.o 17 (.bin .add dc (.k (.int .i64 1))), .m 7 dN]))
abbrev aql:AC:= .seq (.run [.m 5 bK, .o 6 (.len cj), .o 7 (.mv (.k (.int .i64 0)))]) (.block 0 (.loop (.seq (.run [.o 8 (.bin .lss dc dK)]) aqk)))
abbrev aqm:AC:= .seq aql (.seq (.run [.o 2 (.mv (.k (.bool false)))]) .ret)
abbrev aqn:AC:= .seq (.run [.o 2 (.mv (.k (.bool false)))]) aqm
abbrev aqo:AC:= .seq (.run [.o 4 (.mv (.k (.bool false)))]) (.seq (.run [.m 5 bK, .m 6 br, .c 7 lU [cj,dK], .o 8 (.bin .geq dc (.k (.int .i64 0))), .m 4 dd]) .ret)
abbrev aqp:AC:= .seq (.run [.o 3 (.mv (.k (.bool false)))]) (.seq (.run [.o 4 (.aw br 0), .o 5 (.load fH false 1), .m 6 bK, .c 7 cT [cj,dK], .m 3 dc]) .ret)
abbrev aqq:AC:= .cond eO (.seq (.run [.o 8 (.mv (.k (.bool false)))]) .ret) .skip
abbrev aqr:AC:= .seq (.run [.o 16 (.cH de c6 1), .o 17 (.load dn false 1), .m 10 dN]) (.seq (.run [.o 18 (.load fH true 2), .o 19 (.load cj true 5), .m 20 cv, .c 21 xA [dL,eC,eK], .o 22 (.bin .eql eH (.k (.int .i64 0)))]) aqq)
abbrev aqs:AC:= .seq (.cond dD .skip (.exit 0)) (.seq (.block 1 aqr) (.run [.o 23 (.bin .add c6 (.k (.int .i64 1))), .m 14 eR]))
abbrev aqt:AC:= .seq (.run [.o 11 (.load dc true 13), .c 12 tq [cW], .o 13 (.len de), .o 14 (.mv (.k (.int .i64 0)))]) (.block 0 (.loop (.seq (.run [.o 15 (.bin .lss c6 dm)]) aqs)))
abbrev aqu:AC:= .seq aqt (.seq (.run [.o 24 (.aw dc 1), .o 25 (.load fb false 1), .o 26 (.bin .neq fj (.k (.int .i64 4))), .m 27 fB, .g 28 27 false (.aw dc 4), .g 29 27 false (.load gp false 1), .g 30 27 false (.bin .neq gy (.k (.str [109,97,105,110]))), .g 31 27 false (.mv gG), .g 32 31 true (.mv dC), .g 33 31 true (.aw dc 4), .g 34 31 true (.load iA false 1), .d 35 31 true cT [iG,ji], .g 36 27 false (.pick gJ iH (.k (.bool false))), .o 37 (.pick fL (.k (.bool true)) iY), .m 8 ju]) .ret)
abbrev aqv:AC:= .seq (.run [.o 4 (.box bK), .o 5 (.box br), .o 7 (.box cJ), .o 8 (.mv (.k (.bool false)))]) aqu
abbrev aqw:AC:= .cond du (.seq (.run [.o 4 (.mv (.k (.bool false)))]) .ret) .skip
abbrev aqx:AC:= .seq (.run [.o 15 (.cH cW dm 5), .o 16 (.load dD true 5), .o 6 (.alloc [(.str []),(.slice .full 0 []),(.slice .full 0 []),(.slice .full 0 []),(.slice .full 0 [])]), .op none none (.store dK dn 5)]) (.seq (.run [.o 17 (.aw dK 0), .o 18 (.load dN false 1), .o 19 (.aw cJ 4), .o 20 (.load eC false 1), .o 21 (.bin .eql dL eK)]) (.cond eH (.seq (.run [.o 22 (.aw dK 1), .o 23 (.load eO false 1), .o 24 (.aw cJ 10), .o 25 (.load fb false 1), .c 26 xB [eR,fj], .m 4 fB]) .ret) .skip))
abbrev aqy:AC:= .seq (.cond c6 .skip (.exit 0)) (.seq (.block 1 aqx) (.run [.o 27 (.bin .add dm (.k (.int .i64 1))), .m 13 fL]))
abbrev aqz:AC:= .seq (.run [.o 10 (.aw dC 1), .o 11 (.load cv false 1), .o 12 (.len cW), .o 13 (.mv (.k (.int .i64 0)))]) (.block 0 (.loop (.seq (.run [.o 14 (.bin .lss dm de)]) aqy)))
abbrev aqA:AC:= .seq aqz (.seq (.run [.o 4 (.mv (.k (.bool false)))]) .ret)
abbrev aqB:AC:= .seq (.seq (.run [.o 7 (.aw cJ 1), .o 8 (.load dc false 1), .o 9 (.bin .neq dd (.k (.int .i64 4)))]) aqw) aqA
abbrev aqC:AC:= .seq (.run [.o 2 (.box bK), .o 3 (.box br), .o 4 (.mv (.k (.bool false)))]) aqB
abbrev aqD:AC:= .seq (.run [.o 3 (.load br true 2), .c 4 np [cJ], .o 5 (.E4 fH 0 false 1), .o 6 (.bin .neq cj (.k (.int .i64 0)))]) (.cond dK (.seq (.run [.o 2 (.mv (.k .eW))]) .ret) .skip)
abbrev aqE:AC:= .seq (.run [.o 1 (.box bK), .o 2 (.mv (.k .eW))]) (.seq aqD (.seq (.run [.o 7 (.load br true 2), .c 8 lT [dc], .m 2 dd]) .ret))
abbrev aqF:AC:= .cond dn (.seq (.run [.m 17 bK, .m 4 dN, .o 5 (.mv (.k (.bool false)))]) .ret) .skip
abbrev aqG:AC:= .block 1 (.seq (.run [.o 12 (.cH dd cv 1), .o 13 (.load de false 1), .m 7 dm]) (.seq (.seq (.run [.m 14 bK, .m 15 dc, .c 16 cT [c6,dD]]) aqF) (.run [.m 18 bK, .m 19 dc, .o 20 (.dv [(.str [])] 1 1 [(0,eC)]), .o 21 (.app 1 16 dL eK), .m 0 eH])))
abbrev aqH:AC:= .seq (.cond cW .skip (.exit 0)) (.seq aqG (.run [.o 22 (.bin .add cv (.k (.int .i64 1))), .m 10 eO]))
abbrev aqI:AC:= .seq (.run [.m 8 br, .o 9 (.len dd), .o 10 (.mv (.k (.int .i64 0)))]) (.block 0 (.loop (.seq (.run [.o 11 (.bin .lss cv du)]) aqH)))
abbrev aqJ:AC:= .seq aqI (.seq (.run [.m 23 bK, .m 4 eR, .o 5 (.mv (.k (.bool true)))]) .ret)
abbrev aqK:AC:= .seq (.run [.o 4 (.mv (.k (.slice .full 0 []))), .o 5 (.mv (.k (.bool false)))]) aqJ
abbrev aqL:AC:= .seq (.run [.o 11 (.bin .eql du (.k (.int .i64 7))), .m 10 cW]) (.cond cv .skip (.run [.o 12 (.bin .eql du (.k (.int .i64 8))), .m 10 de]))
abbrev aqM:AC:= .cond cv (.seq (.run [.o 13 (.aw cJ 16), .o 14 (.load dm false 1), .o 15 (.bin .neq c6 (.k (.int .i64 0))), .m 4 dD]) .ret) (.seq (.run [.o 17 (.bin .eql du (.k (.int .i64 10))), .m 16 dN]) (.cond dn (.seq (.run [.m 19 bK, .o 20 (.aw cJ 13), .o 21 (.load eK false 1), .o 22 (.aw cJ 0), .o 23 (.aw eO 3), .o 24 (.load eR false 1), .c 25 qj [eC,eH,fb], .m 18 fj, .o 26 (.ext dL 0), .o 27 (.ext dL 1), .m 5 fB, .m 6 fL]) (.seq (.run [.m 28 dK, .m 4 gp]) .ret)) .skip))
abbrev aqN:AC:= .seq (.seq (.run [.o 7 (.aw cJ 0), .o 8 (.aw dc 1), .o 9 (.load dd false 1)]) (.block 0 (.seq aqL aqM))) (.seq (.run [.o 4 (.mv (.k (.bool true)))]) .ret)
abbrev aqO:AC:= .seq (.run [.o 3 (.box br), .o 4 (.mv (.k (.bool false)))]) aqN
abbrev aqP:AC:= .cond dn (.seq (.run [.o 4 (.mv (.k (.slice .full 0 [])))]) .ret) .skip
abbrev aqQ:AC:= .seq (.run [.o 43 (.cH jU ku 1), .o 44 (.load kM false 1), .m 12 k8]) (.seq (.run [.o 45 (.aw dC 0), .o 46 (.load mM false 1), .m 47 de, .c 48 cT [mN,nS]]) (.cond mO (.run [.m 49 dK, .m 50 de, .o 51 (.dv [(.str [])] 1 1 [(0,ng)]), .o 52 (.app 1 16 mP lV), .m 6 lW]) .skip))
abbrev aqR:AC:= .seq (.cond kZ .skip (.exit 4)) (.seq (.block 5 aqQ) (.run [.o 53 (.bin .add ku (.k (.int .i64 1))), .m 41 mQ]))
abbrev aqS:AC:= .seq (.run [.o 37 (.aw cv 0), .o 38 (.load ju true 13), .c 39 tq [ke], .o 40 (.len jU), .o 41 (.mv (.k (.int .i64 0)))]) (.block 4 (.loop (.seq (.run [.o 42 (.bin .lss ku kL)]) aqR)))
abbrev aqT:AC:= .seq (.block 3 (.seq (.run [.o 35 (.cH gJ iA 17), .o 36 (.load iH true 17), .o 10 (.alloc [(.int .i64 0),(.int .i64 0),(.slice .full 0 []),(.str []),(.str []),(.int .i64 0),(.int .i64 0),(.str []),(.slice .full 0 []),(.bool false),(.slice .full 0 []),(.slice .full 0 []),(.slice .full 0 []),(.int .i64 0),(.int .i64 0),(.int .i64 0),(.int .i64 0)]), .op none none (.store cv iY 17)]) aqS)) (.run [.o 54 (.bin .add iA (.k (.int .i64 1))), .m 33 nh])
abbrev aqU:AC:= .block 2 (.loop (.seq (.run [.o 34 (.bin .lss iA iG)]) (.seq (.cond ji .skip (.exit 2)) aqT)))
abbrev aqV:AC:= .seq (.run [.o 25 (.cH eH eR 1), .o 26 (.load fj false 1), .m 8 fB]) (.seq (.run [.m 27 cj, .m 28 cj, .m 29 dd, .c 30 jt [gp,gy], .c 31 iV [fL,gG], .o 32 (.len gJ), .o 33 (.mv (.k (.int .i64 0)))]) aqU)
abbrev aqW:AC:= .seq (.cond fb .skip (.exit 0)) (.seq (.block 1 aqV) (.run [.o 55 (.bin .add eR (.k (.int .i64 1))), .m 23 ni]))
abbrev aqX:AC:= .seq (.run [.m 19 cj, .m 20 br, .c 21 zM [eC,eK], .o 22 (.len eH), .o 23 (.mv (.k (.int .i64 0)))]) (.block 0 (.loop (.seq (.run [.o 24 (.bin .lss eR eO)]) aqW)))
abbrev aqY:AC:= .seq (.run [.o 17 (.load dC true 2), .c 18 lT [dN], .m 5 dL]) (.seq (.run [.o 6 (.mv (.k (.slice .full 0 [])))]) (.seq aqX (.seq (.run [.m 56 dK, .c 57 kq [pD]]) (.seq (.run [.m 58 dK, .c 59 kP [qc], .m 4 nT]) .ret))))
abbrev aqZ:AC:= .seq (.run [.o 2 (.box bK), .o 4 (.mv (.k (.slice .full 0 [])))]) (.seq (.seq (.run [.o 13 (.load dC true 2), .m 14 br, .c 15 wb [dm,c6], .o 16 (.un .not dD)]) aqP) aqY)
abbrev aq0:AC:= .cond ji (.seq (.run [.o 4 (.mv (.k (.bool false)))]) .ret) .skip
abbrev aq1:AC:= .seq (.seq (.run [.m 18 cj, .o 19 (.aw dc 1), .o 20 (.load eC false 1), .c 21 cT [dL,eK], .m 22 eH, .g 23 22 false (.aw dc 1), .g 24 22 false (.load eR false 1), .g 25 22 false (.aw dC 3), .g 26 22 false (.load fj false 1), .g 27 22 false (.bin .eql fb fB), .o 28 (.pick eO (.k (.bool true)) fL), .m 29 gp, .g 30 29 false (.mv br), .g 31 29 false (.aw dc 1), .g 32 29 false (.load gJ false 1), .d 33 29 false cT [gG,iG], .o 34 (.pick gy (.k (.bool true)) iA)]) aq0) (.run [.m 35 cj, .o 36 (.aw dc 1), .o 37 (.load iY false 1), .o 38 (.dv [(.str [])] 1 1 [(0,ju)]), .o 39 (.app 1 16 iH ke), .m 5 jU])
abbrev aq2:AC:= .block 1 (.seq (.run [.o 13 (.cH du cW 6), .o 14 (.load dm true 6), .o 7 (.alloc [(.bool false),(.str []),(.int .i64 0),(.int .i64 0),(.str []),(.slice .full 0 [])]), .op none none (.store dc c6 6)]) (.seq (.seq (.run [.o 15 (.aw dc 0), .o 16 (.load dD false 1), .o 17 (.un .not dn)]) (.cond dN (.exit 1) .skip)) aq1))
abbrev aq3:AC:= .seq (.cond de .skip (.exit 0)) (.seq aq2 (.run [.o 40 (.bin .add cW (.k (.int .i64 1))), .m 11 kL]))
abbrev aq4:AC:= .seq (.run [.o 8 (.aw dC 10), .o 9 (.load dd false 1), .o 10 (.len du), .o 11 (.mv (.k (.int .i64 0)))]) (.block 0 (.loop (.seq (.run [.o 12 (.bin .lss cW cv)]) aq3)))
abbrev aq5:AC:= .seq aq4 (.seq (.run [.o 4 (.mv (.k (.bool true)))]) .ret)
abbrev aq6:AC:= .seq (.run [.o 2 (.box bK), .o 4 (.mv (.k (.bool false)))]) (.seq (.run [.o 5 (.mv (.k (.slice .full 0 [])))]) aq5)
abbrev aq7:AC:= .seq (.run [.o 2 (.mv (.k (.slice .full 0 [])))]) (.seq (.run [.o 3 (.mv (.k (.slice .full 0 [])))]) (.seq (.run [.m 4 cJ, .m 5 bK, .o 6 (.app 1 16 fH cj), .m 2 dK]) .ret))
abbrev aq8:AC:= .par [.o 24 (.aw dc 11), .o 25 (.load fb false 1), .o 26 (.load cJ true 13), .c 27 pC [fj,fB], .o 28 (.aw dc 12), .o 29 (.load gp false 1), .o 30 (.load cJ true 13), .c 31 pC [gy,gG], .o 32 (.aw dd 11), .op none none (.store iG fL 1), .o 33 (.aw dd 12), .op none none (.store iA gJ 1)] [(0,0),(1,0),(2,0),(3,0),(4,0),(5,1),(6,1),(7,0),(8,0),(9,0),(10,0),(11,0)]
abbrev aq9:AC:= .seq (.run [.o 15 (.load dc true 13), .c 16 oB [dD], .o 8 (.alloc [(.int .i64 0),(.int .i64 0),(.slice .full 0 []),(.str []),(.str []),(.int .i64 0),(.int .i64 0),(.str []),(.slice .full 0 []),(.bool false),(.slice .full 0 []),(.slice .full 0 []),(.slice .full 0 [])]), .op none none (.store dd dn 13)]) (.seq (.seq (.run [.o 17 (.aw dc 0), .o 18 (.load dN false 1), .o 19 (.aw cJ 0), .o 20 (.load eC false 1), .o 21 (.bin .eql dL eK)]) (.cond eH (.run [.o 22 (.load cJ true 13), .c 23 oB [eO], .op none none (.store dd eR 13)]) .skip)) (.seq aq8 (.run [.m 34 cj, .o 35 (.load dd true 13), .o 36 (.dv [(.int .i64 0),(.int .i64 0),(.slice .full 0 []),(.str []),(.str []),(.int .i64 0),(.int .i64 0),(.str []),(.slice .full 0 []),(.bool false),(.slice .full 0 []),(.slice .full 0 []),(.slice .full 0 [])] 13 1 [(0,iH)]), .o 37 (.app 13 208 ji iY), .m 5 ju])))
abbrev ara:AC:= .seq (.block 1 (.seq (.run [.o 13 (.cH du cW 13), .o 14 (.load dm true 13), .o 7 (.alloc [(.int .i64 0),(.int .i64 0),(.slice .full 0 []),(.str []),(.str []),(.int .i64 0),(.int .i64 0),(.str []),(.slice .full 0 []),(.bool false),(.slice .full 0 []),(.slice .full 0 []),(.slice .full 0 [])]), .op none none (.store dc c6 13)]) aq9)) (.run [.o 38 (.bin .add cW (.k (.int .i64 1))), .m 11 ke])
abbrev arb:AC:= .block 0 (.loop (.seq (.run [.o 12 (.bin .lss cW cv)]) (.seq (.cond de .skip (.exit 0)) ara)))
abbrev arc:AC:= .seq (.seq (.run [.m 9 bK, .o 10 (.len du), .o 11 (.mv (.k (.int .i64 0)))]) arb) (.seq (.run [.m 39 cj, .m 4 jU]) .ret)
abbrev ard:AC:= .seq (.run [.o 3 (.box br), .o 4 (.mv (.k (.slice .full 0 [])))]) (.seq (.run [.o 5 (.mv (.k (.slice .full 0 [])))]) arc)
abbrev arf:AC:= .par [.o 18 (.aw cJ 3), .o 19 (.load dL false 1), .o 20 (.aw br 3), .o 21 (.load eK false 1), .m 22 fH, .o 23 (.cH eH eO 4), .o 24 (.load eR true 4), .c 25 kp [fb], .o 26 (.dv [(.int .i64 0),(.int .i64 0),(.str []),(.slice .full 0 [])] 4 1 [(0,fj)]), .o 27 (.app 4 56 eC fB), .o 28 (.aw cJ 3), .op none none (.store gp fL 1)] [(2,0),(3,0),(4,0),(5,0),(6,0),(7,0),(0,0),(1,1),(8,0),(9,0),(10,0),(11,0)]
abbrev arh:AC:= .seq (.cond dn .skip (.exit 0)) (.seq (.block 1 (.seq (.run [.m 17 dD, .m 4 dN]) arf)) (.run [.o 29 (.bin .add dD (.k (.int .i64 1))), .m 15 gy]))
abbrev ari:AC:= .seq (.run [.o 12 (.aw br 3), .o 13 (.load de false 1), .o 14 (.len dm), .o 15 (.mv (.k (.int .i64 0)))]) (.block 0 (.loop (.seq (.run [.o 16 (.bin .lss dD c6)]) arh)))
abbrev arj:AC:= .seq (.run [.o 1 (.box bK), .o 2 (.alloc [(.int .i64 0),(.int .i64 0),(.str []),(.slice .full 0 [])])]) (.seq (.run [.o 5 (.aw br 0), .o 6 (.load cj false 1), .o 7 (.aw br 1), .o 8 (.load dc false 1), .o 9 (.aw br 2), .o 10 (.load du false 1), .o 11 (.build [(.int .i64 0),(.int .i64 0),(.str []),(.slice .full 0 [])] [(0,(1,dK)),(1,(1,dd)),(2,(1,cv))]), .o 3 (.alloc [(.int .i64 0),(.int .i64 0),(.str []),(.slice .full 0 [])]), .op none none (.store cJ cW 4)]) (.seq ari (.seq (.run [.o 30 (.load cJ true 4), .op none none (.store dC gG 4)]) .ret)))
abbrev ark:AC:= .seq (.run [.o 2 (.mv (.k (.bool false)))]) (.seq (.run [.m 3 bK, .o 4 (.bin .geq cJ (.k (.int .u8 48))), .m 5 fH, .g 6 5 true (.mv bK), .g 7 5 true (.bin .leq dK (.k (.int .u8 57))), .o 8 (.pick cj dc (.k (.bool false))), .m 2 dd]) .ret)
abbrev arl:AC:= .seq (.run [.o 4 (.mv (.k (.bool false)))]) (.seq (.run [.m 5 br, .m 6 cj, .g 7 6 true (.mv bK), .d 8 6 true pA [dc], .o 9 (.pick dK dd (.k (.bool false))), .m 10 du, .g 11 10 false (.mv br), .g 12 10 false (.un .not cW), .g 13 10 false (.mv de), .g 14 13 true (.mv bK), .g 15 13 true (.bin .eql c6 (.k (.str []))), .g 16 10 false (.pick dm dD (.k (.bool false))), .o 17 (.pick cv (.k (.bool true)) dn), .m 4 dN]) .ret)
abbrev arn:AC:= .seq (.run [.o 2 (.box bK), .o 4 (.mv (.k (.bool false)))]) (.seq (.run [.m 5 br, .m 6 cj, .g 7 6 true (.load dC true 4), .d 8 6 true oz [dc], .o 9 (.pick dK dd (.k (.bool false))), .m 10 du, .g 11 10 false (.mv br), .g 12 10 false (.un .not cW), .g 13 10 false (.mv de), .g 14 13 true (.load dC true 4), .d 15 13 true zN [c6], .g 16 10 false (.pick dm dD (.k (.bool false))), .o 17 (.pick cv (.k (.bool true)) dn), .m 4 dN]) .ret)
abbrev aro:AC:= .cond fj (.seq (.run [.o 2 (.mv (.k (.bool false)))]) .ret) .skip
abbrev arp:AC:= .seq (.run [.o 9 (.cH cj dc 6), .o 10 (.load du true 6), .o 4 (.alloc [(.bool false),(.str []),(.int .i64 0),(.int .i64 0),(.str []),(.slice .full 0 [])]), .op none none (.store fH cv 6)]) (.seq (.run [.o 11 (.aw fH 1), .o 12 (.load cW false 1), .o 13 (.aw fH 0), .o 14 (.load dm false 1), .c 15 qE [de,c6], .o 16 (.un .not dD), .m 17 dn, .g 18 17 false (.aw fH 2), .g 19 17 false (.load dL true 4), .g 20 17 false (.aw fH 0), .g 21 17 false (.load eK false 1), .g 22 17 false (.un .not eH), .d 23 17 false tn [eC,eO], .g 24 17 false (.un .not eR), .o 25 (.pick dN (.k (.bool true)) fb)]) aro)
abbrev arq:AC:= .seq (.cond dd .skip (.exit 0)) (.seq (.block 1 arp) (.run [.o 26 (.bin .add dc (.k (.int .i64 1))), .m 7 fB]))
abbrev art:AC:= .seq (.run [.m 5 bK, .o 6 (.len cj), .o 7 (.mv (.k (.int .i64 0)))]) (.block 0 (.loop (.seq (.run [.o 8 (.bin .lss dc dK)]) arq)))
abbrev aru:AC:= .seq art (.seq (.run [.o 2 (.mv (.k (.bool true)))]) .ret)
abbrev arv:AC:= .seq (.run [.o 2 (.mv (.k (.bool false)))]) aru
abbrev arw:AC:= .cond gJ (.seq (.run [.m 32 dC, .m 33 dd, .o 34 (.cH iG iA 1), .o 35 (.load ji false 1), .m 6 iH, .o 7 (.mv (.k (.bool true)))]) .ret) .skip
abbrev arx:AC:= .seq (.run [.m 20 br, .o 21 (.aw cJ 2), .o 22 (.load eH false 1), .c 23 gY [eK,eO], .m 8 eR]) (.seq (.run [.m 24 dd, .o 25 (.bin .geq fb (.k (.int .i64 0))), .m 26 fj, .g 27 26 true (.mv dd), .g 28 26 true (.mv dC), .g 29 26 true (.len gp), .g 30 26 true (.bin .lss fL gy), .o 31 (.pick fB gG (.k (.bool false)))]) arw)
abbrev ary:AC:= .seq arx (.seq (.run [.o 6 (.mv (.k (.int .i64 0))), .o 7 (.mv (.k (.bool true)))]) .ret)
abbrev arz:AC:= .cond c6 (.seq (.run [.o 16 (.aw cJ 1), .o 17 (.load dn false 1), .m 6 dN, .o 7 (.mv (.k (.bool true)))]) .ret) (.seq (.run [.o 19 (.bin .eql dm (.k (.int .i64 2))), .m 18 eC]) (.cond dL ary .skip))
abbrev arA:AC:= .block 0 (.seq (.run [.o 15 (.bin .eql dm (.k (.int .i64 1))), .m 14 dD]) arz)
abbrev arB:AC:= .cond nS (.seq (.run [.o 6 (.mv (.k (.int .i64 0))), .o 7 (.mv (.k (.bool false)))]) .ret) .skip
abbrev arC:AC:= .cond xC (.seq (.run [.o 6 (.mv (.k (.int .i64 0))), .o 7 (.mv (.k (.bool true)))]) .ret) .skip
abbrev arD:AC:= .cond Du (.seq (.run [.o 6 (.mv (.k (.int .i64 1))), .o 7 (.mv (.k (.bool true)))]) .ret) .skip
abbrev arE:AC:= .cond MM (.seq (.run [.o 6 (.mv (.k (.int .i64 0))), .o 7 (.mv (.k (.bool false)))]) .ret) .skip
abbrev arG:AC:= .seq (.seq (.run [.o 66 (.aw cJ 0), .o 67 (.load zO false 1), .o 68 (.bin .eql zP (.k (.int .i64 17))), .m 69 xD, .g 70 69 true (.mv du), .d 71 69 true tr [Bp], .o 72 (.pick Bo FR (.k (.bool false)))]) arD) (.seq (.run [.o 74 (.aw cJ 3), .o 75 (.load FT false 1), .o 76 (.cH FU (.k (.int .i64 1)) 4), .o 77 (.load Dw true 4), .m 78 br, .m 79 dC, .c 80 l8 [FV,Bq,IT], .m 73 IU, .o 81 (.ext Dv 0), .o 82 (.ext Dv 1), .m 11 IV, .m 10 MJ]) (.seq (.seq (.run [.m 83 cv, .o 84 (.un .not MK)]) arE) (.seq (.run [.o 85 (.aw cJ 0), .o 86 (.load MN false 1), .m 87 du, .m 88 cW, .c 89 Bn [MO,MP,MQ], .o 90 (.ext FW 0), .o 91 (.ext FW 1), .m 6 IW, .m 7 MR]) .ret)))
abbrev arH:AC:= .seq (.seq (.run [.o 58 (.aw cJ 0), .o 59 (.load qc false 1), .o 60 (.bin .eql nT (.k (.int .i64 16))), .m 61 rD, .g 62 61 true (.mv du), .d 63 61 true tr [su], .g 64 61 true (.un .not tv), .o 65 (.pick tu tw (.k (.bool false)))]) arC) arG
abbrev arI:AC:= .seq (.seq (.run [.o 48 (.aw cJ 3), .o 49 (.load mO false 1), .o 50 (.len mP), .o 51 (.bin .eql ng (.k (.int .i64 1)))]) (.cond lV (.seq (.run [.o 52 (.aw cJ 0), .o 53 (.load lW false 1), .m 54 du, .c 55 Bm [mQ,nh], .o 56 (.ext ni 0), .o 57 (.ext ni 1), .m 6 pD, .m 7 qG]) .ret) .skip)) arH
abbrev arJ:AC:= .seq (.seq (.run [.o 12 (.aw cJ 0), .o 13 (.load de false 1)]) arA) (.seq (.run [.o 37 (.aw cJ 3), .o 38 (.load ju false 1), .o 39 (.cH ke (.k (.int .i64 0)) 4), .o 40 (.load jU true 4), .m 41 br, .m 42 dC, .c 43 l8 [kL,ku,kZ], .m 36 kM, .o 44 (.ext iY 0), .o 45 (.ext iY 1), .m 9 k8, .m 10 mM]) (.seq (.seq (.run [.m 46 cv, .o 47 (.un .not mN)]) arB) arI))
abbrev arK:AC:= .seq (.run [.o 3 (.box bK), .o 6 (.mv (.k (.int .i64 0))), .o 7 (.mv (.k (.bool false)))]) arJ
abbrev arL:AC:= .block 1 (.seq (.run [.m 10 dd, .m 5 cv]) (.seq (.run [.m 11 br, .m 12 bK, .m 13 cj, .o 14 (.cH de dm 1), .o 15 (.load c6 false 1), .o 16 (.bin .eql cW dD)]) (.cond dn (.seq (.run [.m 17 cj, .m 4 dN]) .ret) .skip)))
abbrev arM:AC:= .seq (.cond du .skip (.exit 0)) (.seq arL (.run [.o 18 (.bin .add dd (.k (.int .i64 1))), .m 8 dL]))
abbrev arN:AC:= .seq (.run [.m 6 bK, .o 7 (.len dK), .o 8 (.mv (.k (.int .i64 0)))]) (.block 0 (.loop (.seq (.run [.o 9 (.bin .lss dd dc)]) arM)))
abbrev arO:AC:= .seq (.run [(.o 4 (.mv (.k (.int .i64 (-1)))))]) .ret
abbrev arP:AC:= .seq (.run [.o 4 (.mv (.k (.int .i64 0)))]) (.seq arN arO)
abbrev arQ:AC:= .block 1 (.seq (.run [.m 10 dd, .m 5 cv]) (.seq (.run [.m 11 br, .m 12 bK, .m 13 cj, .o 14 (.cH de dm 1), .o 15 (.load c6 false 1),(.kj (some 16) none 11 [dD])]) (.cond dn (.seq (.run [.m 17 cj, .m 4 dN]) .ret) .skip)))
abbrev arR:AC:= .seq (.cond du .skip (.exit 0)) (.seq arQ (.run [.o 18 (.bin .add dd (.k (.int .i64 1))), .m 8 dL]))
abbrev arS:AC:= .seq (.run [.m 6 bK, .o 7 (.len dK), .o 8 (.mv (.k (.int .i64 0)))]) (.block 0 (.loop (.seq (.run [.o 9 (.bin .lss dd dc)]) arR)))
abbrev arT:AC:= .seq (.run [(.o 4 (.mv (.k (.int .i64 (-1)))))]) .ret
abbrev arU:AC:= .seq (.run [.o 4 (.mv (.k (.int .i64 0)))]) (.seq arS arT)
abbrev arV:AC:= .seq (.seq (.run [.o 31 (.aw cj 0), .o 32 (.load gJ false 1)]) (.cond iG (.run [.m 33 cJ, .o 34 (.aw cj 1), .o 35 (.load ji false 1), .o 36 (.dv [(.str [])] 1 1 [(0,iH)]), .o 37 (.app 1 16 iA iY), .m 3 ju]) .skip)) (.run [.m 38 cJ, .o 39 (.aw cj 2), .o 40 (.load jU true 4), .c 41 tt [kL], .o 42 (.app 1 16 ke ku), .m 3 kZ])
abbrev arW:AC:= .seq (.block 1 (.seq (.run [.o 29 (.cH fj fL 6), .o 30 (.load gy true 6), .o 5 (.alloc [(.bool false),(.str []),(.int .i64 0),(.int .i64 0),(.str []),(.slice .full 0 [])]), .op none none (.store cj gG 6)]) arV)) (.run [.o 43 (.bin .add fL (.k (.int .i64 1))), .m 27 kM])
abbrev arX:AC:= .block 0 (.loop (.seq (.run [.o 28 (.bin .lss fL fB)]) (.seq (.cond gp .skip (.exit 0)) arW)))
abbrev arY:AC:= .seq (.seq (.run [.o 24 (.aw br 10), .o 25 (.load fb false 1), .o 26 (.len fj), .o 27 (.mv (.k (.int .i64 0)))]) arX) (.seq (.run [.m 44 cJ, .m 2 k8]) .ret)
abbrev arZ:AC:= .seq (.seq (.run [.o 6 (.aw br 1), .o 7 (.load dK false 1), .o 8 (.bin .neq dc (.k (.int .i64 10))), .m 9 dd, .g 10 9 true (.aw br 3), .g 11 9 true (.load cv false 1), .g 12 9 true (.bin .neq cW (.k (.str []))), .o 13 (.pick du de (.k (.bool false)))]) (.cond dm (.run [.m 14 cJ, .o 15 (.aw br 3), .o 16 (.load dD false 1), .o 17 (.dv [(.str [])] 1 1 [(0,dn)]), .o 18 (.app 1 16 c6 dN), .m 3 dL]) .skip)) (.seq (.run [.m 19 cJ, .o 20 (.aw br 5), .o 21 (.load eK true 4), .c 22 tt [eH], .o 23 (.app 1 16 eC eO), .m 3 eR]) arY)
abbrev ar1:AC:= .seq (.run [.o 1 (.box bK), .o 2 (.mv (.k (.slice .full 0 [])))]) (.seq (.run [.o 3 (.mv (.k (.slice .full 0 [])))]) arZ)
abbrev ar2:AC:= .cond eR (.seq (.run [.o 6 (.mv (.k (.int .i64 3)))]) .ret) .skip
abbrev ar3:AC:= .cond fL (.seq (.run [.o 6 (.mv (.k (.int .i64 2)))]) .ret) .skip
abbrev ar4:AC:= .seq (.seq (.run [.o 16 (.aw dd 0), .o 17 (.load dn false 1), .m 18 dC, .o 19 (.bin .eql dN dL), .m 20 eC, .g 21 20 true (.aw dd 1), .g 22 20 true (.load eH false 1), .o 23 (.pick eK eO (.k (.bool false)))]) ar2) (.seq (.run [.o 24 (.aw dd 0), .o 25 (.load fb false 1), .m 26 dC, .o 27 (.bin .eql fj fB)]) ar3)
abbrev ar5:AC:= .seq (.block 1 (.seq (.run [.o 14 (.cH cv de 2), .o 15 (.load c6 true 2), .o 8 (.alloc [(.str []),(.bool false)]), .op none none (.store dd dD 2)]) ar4)) (.run [.o 28 (.bin .add de (.k (.int .i64 1))), .m 12 gp])
abbrev ar6:AC:= .block 0 (.loop (.seq (.run [.o 13 (.bin .lss de cW)]) (.seq (.cond dm .skip (.exit 0)) ar5)))
abbrev ar7:AC:= .cond iG (.seq (.run [.o 6 (.mv (.k (.int .i64 4)))]) .ret) .skip
abbrev ar8:AC:= .cond iY (.seq (.run [.o 6 (.mv (.k (.int .i64 1)))]) .ret) .skip
abbrev ar9:AC:= .seq (.seq (.run [.o 33 (.aw cJ 0), .o 34 (.load iA false 1), .m 35 dC, .c 36 cT [ji,iH]]) ar8) (.seq (.run [.o 6 (.mv (.k (.int .i64 0)))]) .ret)
abbrev asa:AC:= .seq (.seq (.run [.o 9 (.aw fH 1), .o 10 (.load du false 1), .o 11 (.len cv), .o 12 (.mv (.k (.int .i64 0)))]) ar6) (.seq (.seq (.run [.o 29 (.aw fH 2), .o 30 (.load gy false 1), .m 31 dC, .c 32 cT [gG,gJ]]) ar7) ar9)
abbrev asb:AC:= .seq (.run [.o 3 (.box bK), .o 4 (.box br), .o 6 (.mv (.k (.int .i64 0)))]) asa
abbrev asc:AC:= .cond cW (.seq (.run [.o 4 (.mv (.k (.bool false)))]) .ret) .skip
abbrev asd:AC:= .par [.o 19 (.aw dK 1), .o 20 (.load eC false 1), .m 21 br, .m 22 cj, .o 23 (.cH eH eO 6), .o 24 (.aw eR 0), .o 25 (.load fb false 1), .o 26 (.Ju true eK fj)] [(0,0),(1,0),(2,0),(3,0),(4,0),(5,0),(6,0),(7,0)]
abbrev ase:AC:= .cond fB (.seq (.run [.o 4 (.mv (.k (.bool false)))]) .ret) .skip
abbrev asf:AC:= .seq (.block 1 (.seq (.run [.m 16 c6, .o 17 (.cH de c6 2), .o 18 (.load dN true 2), .o 6 (.alloc [(.str []),(.bool false)]), .m 5 dn, .op none none (.store dK dL 2)]) (.seq asd ase))) (.run [.o 27 (.bin .add c6 (.k (.int .i64 1))), .m 14 fL])
abbrev asg:AC:= .block 0 (.loop (.seq (.run [.o 15 (.bin .lss c6 dm)]) (.seq (.cond dD .skip (.exit 0)) asf)))
abbrev ash:AC:= .seq (.seq (.run [.m 12 bK, .o 13 (.len de), .o 14 (.mv (.k (.int .i64 0)))]) asg) (.seq (.run [.o 4 (.mv (.k (.bool true)))]) .ret)
abbrev asi:AC:= .seq (.run [.o 4 (.mv (.k (.bool false)))]) (.seq (.seq (.run [.m 7 bK, .o 8 (.len dc), .m 9 br, .o 10 (.len du), .o 11 (.bin .neq dd cv)]) asc) ash)
abbrev asj:AC:= .seq (.run [.o 2 (.box bK), .o 3 (.box br), .o 4 (.mv (.k (.bool false)))]) (.seq (.run [.o 5 (.load dC true 2), .c 6 np [cj], .o 7 (.E4 dK 0 false 1), .o 8 (.bin .eql dc (.k (.int .i64 0))), .m 9 dd, .g 10 9 true (.aw dC 1), .g 11 9 true (.load cv false 1), .g 12 9 true (.wG 191 [cJ]), .d 13 9 true iW [cW,de], .o 14 (.pick du dm (.k (.bool false))), .m 4 c6]) .ret)
abbrev asm:AC:= .seq (.run [.o 26 (.cH eO fb 1), .o 27 (.load fB false 1), .m 8 fL]) (.seq (.run [.m 28 cj, .m 29 dd, .c 30 cT [gp,gy], .o 31 (.un .not gG)]) (.cond gJ (.run [.m 32 cj, .m 33 dd, .o 34 (.dv [(.str [])] 1 1 [(0,iA)]), .o 35 (.app 1 16 iG ji), .m 5 iH]) .skip))
abbrev asn:AC:= .seq (.cond fj .skip (.exit 2)) (.seq (.block 3 asm) (.run [.o 36 (.bin .add fb (.k (.int .i64 1))), .m 24 iY]))
abbrev aso:AC:= .seq (.run [.m 17 bK, .m 18 cj, .m 19 dK, .o 20 (.cH dL eC 1), .o 21 (.load eK false 1), .c 22 wc [dN,eH], .o 23 (.len eO), .o 24 (.mv (.k (.int .i64 0)))]) (.block 2 (.loop (.seq (.run [.o 25 (.bin .lss fb eR)]) asn)))
abbrev asp:AC:= .seq (.seq (.run [.m 11 dK, .m 12 cj, .o 13 (.len de), .o 14 (.bin .lss cW dm)]) (.cond c6 .skip (.exit 0))) (.seq (.block 1 aso) (.run [.m 15 dK, .o 16 (.bin .add dD (.k (.int .i64 1))), .m 6 dn]))
abbrev ahx:AC:= .seq (.run [.m 39 cj, .m 4 jU]) .ret
abbrev asq:AC:= .seq (.seq (.run [.o 6 (.mv (.k (.int .i64 0)))]) (.block 0 (.loop asp))) (.seq (.run [.m 37 cj, .c 38 kq [ju]]) ahx)
abbrev asr:AC:= .seq (.run [.o 4 (.mv (.k (.slice .full 0 [])))]) (.seq (.run [.m 9 br, .o 10 (.dv [(.str [])] 1 1 [(0,du)]), .m 5 cv]) asq)
abbrev ass:AC:= .seq (.run [.o 1 (.box bK), .o 2 (.mv (.k (.bool false)))]) (.seq (.run [.o 3 (.aw br 0), .o 4 (.load cJ false 1), .o 5 (.bin .eql fH (.k (.int .i64 0))), .m 6 cj, .g 7 6 true (.aw br 1), .g 8 6 true (.load dc false 1), .g 9 6 true (.bin .eql dd (.k (.int .i64 0))), .o 10 (.pick dK du (.k (.bool false))), .m 11 cv, .g 12 11 true (.aw br 2), .g 13 11 true (.load de false 1), .g 14 11 true (.bin .eql dm (.k (.str []))), .o 15 (.pick cW c6 (.k (.bool false))), .m 16 dD, .g 17 16 true (.aw br 3), .g 18 16 true (.load dN false 1), .g 19 16 true (.len dL), .g 20 16 true (.bin .eql eC (.k (.int .i64 0))), .o 21 (.pick dn eK (.k (.bool false))), .m 2 eH]) .ret)
abbrev ast:AC:= .cond cW (.seq (.run [.m 13 br, .o 14 (.bin .eql dm (.k (.int .i64 0))), .c 15 kr [c6], .m 4 dD, .o 5 (.mv (.k (.bool true)))]) .ret) .skip
abbrev asu:AC:= .cond dc (.seq (.run [.m 9 br, .o 10 (.bin .sub (.k (.int .i64 0)) du), .m 4 cv, .o 5 (.mv (.k (.bool true)))]) .ret) (.seq (.run [.o 12 (.bin .eql dK (.k (.int .i64 4))), .m 11 de]) ast)
abbrev asv:AC:= .block 0 (.seq (.run [.o 8 (.bin .eql dK (.k (.int .i64 3))), .m 7 dd]) asu)
abbrev asw:AC:= .seq (.seq (.run [.m 6 bK]) asv) (.seq (.run [.o 4 (.mv (.k (.int .i64 0))), .o 5 (.mv (.k (.bool false)))]) .ret)
abbrev asx:AC:= .seq (.run [.o 4 (.mv (.k (.int .i64 0))), .o 5 (.mv (.k (.bool false)))]) asw
abbrev asy:AC:= .seq (.run [.o 2 (.mv (.k (.bool false)))]) (.seq (.run [.m 3 bK, .o 4 (.bin .neq cJ (.k (.int .i64 0))), .m 2 fH]) .ret)
abbrev asz:AC:= .seq (.run [.o 25 (.bin .eql dd (.k (.int .i64 6))), .m 24 fj]) (.cond fb .skip (.run [.o 26 (.bin .eql dd (.k (.int .i64 7))), .m 24 fB]))
abbrev asA:AC:= .cond kZ (.seq (.run [.m 44 br, .o 45 (.bin .neq k8 (.k (.int .i64 0))), .m 46 mM, .g 47 46 false (.mv dC), .g 48 46 false (.bin .neq nS (.k (.int .i64 0))), .o 49 (.pick mN (.k (.bool true)) mO), .c 50 kr [mP], .m 6 ng, .o 7 (.mv (.k (.bool true)))]) .ret) .skip
abbrev asB:AC:= .cond iA (.seq (.run [.m 35 br, .o 36 (.bin .neq iH (.k (.int .i64 0))), .m 37 iY, .g 38 37 true (.mv dC), .g 39 37 true (.bin .neq ke (.k (.int .i64 0))), .o 40 (.pick ju jU (.k (.bool false))), .c 41 kr [kL], .m 6 ku, .o 7 (.mv (.k (.bool true)))]) .ret) (.seq (.run [.o 43 (.bin .eql dd (.k (.int .i64 17))), .m 42 kM]) asA)
abbrev asC:AC:= .cond fb (.seq (.run [.m 27 bK, .m 28 br, .m 29 dC, .c 30 we [fL,gp,gy], .o 31 (.ext gG 0), .o 32 (.ext gG 1), .m 6 gJ, .m 7 iG]) .ret) (.seq (.run [.o 34 (.bin .eql dd (.k (.int .i64 16))), .m 33 ji]) asB)
abbrev asD:AC:= .cond eC (.seq (.run [.m 21 br, .m 22 dC, .o 23 (.bin .mul eH eO), .m 6 eR, .o 7 (.mv (.k (.bool true)))]) .ret) (.seq asz asC)
abbrev asE:AC:= .cond c6 (.seq (.run [.m 16 br, .m 17 dC, .o 18 (.bin .sub dn dN), .m 6 dL, .o 7 (.mv (.k (.bool true)))]) .ret) (.seq (.run [.o 20 (.bin .eql dd (.k (.int .i64 5))), .m 19 eK]) asD)
abbrev asF:AC:= .cond du (.seq (.run [.m 11 br, .m 12 dC, .o 13 (.bin .add cW de), .m 6 dm, .o 7 (.mv (.k (.bool true)))]) .ret) (.seq (.run [.o 15 (.bin .eql dd (.k (.int .i64 9))), .m 14 dD]) asE)
abbrev asG:AC:= .block 0 (.seq (.run [.o 10 (.bin .eql dd (.k (.int .i64 8))), .m 9 cv]) asF)
abbrev asH:AC:= .seq (.run [.o 6 (.mv (.k (.int .i64 0))), .o 7 (.mv (.k (.bool false)))]) (.seq (.seq (.run [.m 8 bK]) asG) (.seq (.run [.m 51 bK, .m 52 br, .m 53 dC, .c 54 uI [lV,lW,mQ], .o 55 (.ext nh 0), .o 56 (.ext nh 1), .m 6 ni, .m 7 pD]) .ret))
abbrev asI:AC:= .cond cj (.seq (.run [.o 2 (.mv (.k (.slice .full 0 [])))]) .ret) .skip
abbrev asJ:AC:= .seq (.seq (.run [.o 3 (.load br true 4), .c 4 oz [cJ], .o 5 (.un .not fH)]) asI) (.seq (.run [.o 6 (.load br true 4),(.c 7 jM [dK,(.k (.slice .full 0 []))]), .m 2 dc]) .ret)
abbrev asK:AC:= .seq (.run [.o 1 (.box bK), .o 2 (.mv (.k (.slice .full 0 [])))]) asJ
abbrev asL:AC:= .seq (.run [.o 4 (.mv (.k (.bool false)))]) (.seq (.run [.m 5 bK, .m 6 br, .c 7 iu [cj,dK], .o 8 (.bin .geq dc (.k (.int .i64 0))), .m 4 dd]) .ret)
abbrev asM:AC:= .seq (.run [.o 2 (.box bK), .o 3 (.mv (.k (.bool false)))]) (.seq (.run [.o 4 (.aw dC 0), .o 5 (.load fH false 1), .o 6 (.load br false 1), .o 7 (.bin .eql cj dK), .m 3 dc]) .ret)
abbrev asN:AC:= .seq (.run [.o 16 (.cH de c6 17), .o 17 (.load dn true 17), .o 7 (.alloc [(.int .i64 0),(.int .i64 0),(.slice .full 0 []),(.str []),(.str []),(.int .i64 0),(.int .i64 0),(.str []),(.slice .full 0 []),(.bool false),(.slice .full 0 []),(.slice .full 0 []),(.slice .full 0 []),(.int .i64 0),(.int .i64 0),(.int .i64 0),(.int .i64 0)]), .op none none (.store dc dN 17)]) (.seq (.run [.o 18 (.aw dc 0), .o 19 (.aw dL 1), .o 20 (.load eC false 1), .o 21 (.bin .eql eK (.k (.int .i64 4)))]) (.cond eH (.run [.m 22 cj, .o 23 (.aw dc 0), .o 24 (.aw eR 4), .o 25 (.load fb false 1), .o 26 (.dv [(.str [])] 1 1 [(0,fj)]), .o 27 (.app 1 16 eO fB), .m 5 fL]) .skip))
abbrev asO:AC:= .seq (.cond dD .skip (.exit 0)) (.seq (.block 1 asN) (.run [.o 28 (.bin .add c6 (.k (.int .i64 1))), .m 14 gp]))
abbrev asP:AC:= .seq (.run [.m 8 bK, .m 9 bK, .m 10 br, .c 11 jt [du,cv], .c 12 iV [dd,cW], .o 13 (.len de), .o 14 (.mv (.k (.int .i64 0)))]) (.block 0 (.loop (.seq (.run [.o 15 (.bin .lss c6 dm)]) asO)))
abbrev asQ:AC:= .seq (.run [.o 4 (.mv (.k (.slice .full 0 [])))]) (.seq (.run [.o 5 (.mv (.k (.slice .full 0 [])))]) (.seq asP (.seq (.run [.m 29 cj, .c 30 kq [gy]]) (.seq (.run [.m 31 cj, .c 32 kP [gJ], .m 4 iG]) .ret))))
open Go.Proofs
theorem Bu:Has Tryz.prog qF 19 [(4,none)] arP:=⟨Tryz.f146,by kernel_rfl,by kernel_rfl⟩
theorem vH:Has Tryz.prog lU 19 [(4,none)] arU:=⟨Tryz.f167,by kernel_rfl,by kernel_rfl⟩
theorem I0:Has Tryz.prog tq 45 [(2,none)] ar1:=⟨Tryz.f168,by kernel_rfl,by kernel_rfl⟩
theorem I1:Has Tryz.prog xA 37 [(6,none)] asb:=⟨Tryz.f169,by kernel_rfl,by kernel_rfl⟩
theorem AG:Has Tryz.prog xB 28 [(4,none)] asi:=⟨Tryz.f170,by kernel_rfl,by kernel_rfl⟩
theorem yF:Has Tryz.prog wb 15 [(4,none)] asj:=⟨Tryz.f171,by kernel_rfl,by kernel_rfl⟩
theorem KZ:Has Tryz.prog zM 40 [(4,none)] asr:=⟨Tryz.f172,by kernel_rfl,by kernel_rfl⟩
theorem K0:Has Tryz.prog zN 22 [(2,none)] ass:=⟨Tryz.f175,by kernel_rfl,by kernel_rfl⟩
theorem MY:Has Tryz.prog Bm 16 [(4,none),(5,none)] asx:=⟨Tryz.f176,by kernel_rfl,by kernel_rfl⟩
theorem I2:Has Tryz.prog tr 5 [(2,none)] asy:=⟨Tryz.f177,by kernel_rfl,by kernel_rfl⟩
theorem MZ:Has Tryz.prog Bn 57 [(6,none),(7,none)] asH:=⟨Tryz.f178,by kernel_rfl,by kernel_rfl⟩
theorem AH:Has Tryz.prog tt 8 [(2,none)] asK:=⟨Tryz.f189,by kernel_rfl,by kernel_rfl⟩
theorem sv:Has Tryz.prog iW 9 [(4,none)] asL:=⟨Tryz.f190,by kernel_rfl,by kernel_rfl⟩
theorem EW:Has Tryz.prog ql 8 [(3,none)] asM:=⟨Tryz.f191,by kernel_rfl,by kernel_rfl⟩
theorem Hf:Has Tryz.prog wc 33 [(4,none)] asQ:=⟨Tryz.f192,by kernel_rfl,by kernel_rfl⟩
abbrev asR:AC:= .cond cJ (.seq (.run [.o 2 (.mv (.k (.int .i64 1)))]) .ret) .skip
abbrev asS:AC:= .seq (.seq (.run [.m 3 bK]) asR) (.seq (.run [.o 2 (.mv (.k (.int .i64 0)))]) .ret)
abbrev asT:AC:= .seq (.run [.o 2 (.mv (.k (.int .i64 0)))]) asS
abbrev asU:AC:= .cond du (.seq (.run [.o 6 (.mv (.k (.int .i64 0))), .o 7 (.mv (.k (.bool false)))]) .ret) .skip
abbrev asV:AC:= .cond dm (.seq (.run [.o 6 (.mv (.k (.int .i64 0))), .o 7 (.mv (.k (.bool true)))]) .ret) .skip
abbrev asW:AC:= .cond dD (.seq (.run [.m 16 br, .m 6 dn, .o 7 (.mv (.k (.bool true)))]) .ret) .skip
abbrev asX:AC:= .seq (.run [.m 14 br,(.o 15 (.bin .eql c6 (.k (.int .i64 (-9223372036854775808)))))]) asW
abbrev asY:AC:= .seq asX (.seq (.run [.m 17 br, .o 18 (.bin .sub (.k (.int .i64 0)) dN), .m 6 dL, .o 7 (.mv (.k (.bool true)))]) .ret)
abbrev asZ:AC:= .seq (.seq (.run [.m 12 bK, .o 13 (.bin .eql de (.k (.int .i64 7)))]) asV) asY
abbrev as0:AC:= .seq (.run [.m 10 dC,(.o 11 (.bin .eql cv (.k (.int .i64 (-1)))))]) (.cond cW asZ .skip)
abbrev as1:AC:= .cond eK (.seq (.run [.m 21 br, .m 22 dC, .o 23 (.bin .rem eH eO), .m 6 eR, .o 7 (.mv (.k (.bool true)))]) .ret) .skip
abbrev as2:AC:= .seq (.seq (.run [.m 19 bK, .o 20 (.bin .eql eC (.k (.int .i64 7)))]) as1) (.seq (.run [.m 24 br, .m 25 dC, .o 26 (.bin .quo fb fj), .m 6 fB, .o 7 (.mv (.k (.bool true)))]) .ret)
abbrev as3:AC:= .seq (.seq (.run [.m 8 dC, .o 9 (.bin .eql dd (.k (.int .i64 0)))]) asU) (.seq as0 as2)
abbrev as4:AC:= .seq (.run [.o 6 (.mv (.k (.int .i64 0))), .o 7 (.mv (.k (.bool false)))]) as3
abbrev as5:AC:= .cond jU (.seq (.run [.m 41 br, .m 42 dC, .o 43 (.bin .neq ku kZ), .c 44 kr [kM], .m 6 k8, .o 7 (.mv (.k (.bool true)))]) .ret) .skip
abbrev as6:AC:= .cond iA (.seq (.run [.m 35 br, .m 36 dC, .o 37 (.bin .eql iH iY), .c 38 kr [ju], .m 6 ke, .o 7 (.mv (.k (.bool true)))]) .ret) (.seq (.run [.o 40 (.bin .eql dd (.k (.int .i64 15))), .m 39 kL]) as5)
abbrev as7:AC:= .cond fL (.seq (.run [.m 29 br, .m 30 dC, .o 31 (.bin .geq gy gG), .c 32 kr [gJ], .m 6 iG, .o 7 (.mv (.k (.bool true)))]) .ret) (.seq (.run [.o 34 (.bin .eql dd (.k (.int .i64 14))), .m 33 ji]) as6)
abbrev as8:AC:= .cond eH (.seq (.run [.m 23 br, .m 24 dC, .o 25 (.bin .gtr eR fb), .c 26 kr [fj], .m 6 fB, .o 7 (.mv (.k (.bool true)))]) .ret) (.seq (.run [.o 28 (.bin .eql dd (.k (.int .i64 13))), .m 27 gp]) as7)
abbrev as9:AC:= .cond dD (.seq (.run [.m 17 br, .m 18 dC, .o 19 (.bin .leq dN dL), .c 20 kr [eC], .m 6 eK, .o 7 (.mv (.k (.bool true)))]) .ret) (.seq (.run [.o 22 (.bin .eql dd (.k (.int .i64 12))), .m 21 eO]) as8)
abbrev ata:AC:= .cond du (.seq (.run [.m 11 br, .m 12 dC, .o 13 (.bin .lss cW de), .c 14 kr [dm], .m 6 c6, .o 7 (.mv (.k (.bool true)))]) .ret) (.seq (.run [.o 16 (.bin .eql dd (.k (.int .i64 11))), .m 15 dn]) as9)
abbrev atb:AC:= .block 0 (.seq (.run [.o 10 (.bin .eql dd (.k (.int .i64 10))), .m 9 cv]) ata)
abbrev atc:AC:= .seq (.seq (.run [.m 8 bK]) atb) (.seq (.run [.o 6 (.mv (.k (.int .i64 0))), .o 7 (.mv (.k (.bool false)))]) .ret)
abbrev atd:AC:= .seq (.run [.o 6 (.mv (.k (.int .i64 0))), .o 7 (.mv (.k (.bool false)))]) atc
abbrev ate:AC:= .seq (.block 1 (.seq (.run [.o 27 (.cH eR fj 4), .o 28 (.load fL true 4), .o 6 (.alloc [(.int .i64 0),(.int .i64 0),(.str []),(.slice .full 0 [])]), .op none none (.store dK gp 4)]) (.run [.o 29 (.load dK true 4), .m 30 br, .c 31 jM [gy,gG], .m 1 gJ]))) (.run [.o 32 (.bin .add fj (.k (.int .i64 1))), .m 25 iG])
abbrev atf:AC:= .block 0 (.loop (.seq (.run [.o 26 (.bin .lss fj fb)]) (.seq (.cond fB .skip (.exit 0)) ate)))
abbrev atg:AC:= .seq (.seq (.run [.o 22 (.aw dC 3), .o 23 (.load eO false 1), .o 24 (.len eR), .o 25 (.mv (.k (.int .i64 0)))]) atf) (.seq (.run [.m 33 br, .m 4 iA]) .ret)
abbrev ath:AC:= .seq (.seq (.run [.o 7 (.aw dC 0), .o 8 (.load dc false 1), .o 9 (.bin .eql dd (.k (.int .i64 2))), .m 10 du, .g 11 10 true (.mv br), .g 12 10 true (.aw dC 2), .g 13 10 true (.load de false 1), .d 14 10 true cT [cW,dm], .g 15 10 true (.un .not c6), .o 16 (.pick cv dD (.k (.bool false)))]) (.cond dn (.run [.m 17 br, .o 18 (.aw dC 2), .o 19 (.load dL false 1), .o 20 (.dv [(.str [])] 1 1 [(0,eC)]), .o 21 (.app 1 16 dN eK), .m 1 eH]) .skip)) atg
abbrev ati:AC:= .seq (.run [.o 2 (.box bK), .o 4 (.mv (.k (.slice .full 0 [])))]) ath
open Go.Proofs
theorem M3:Has Tryz.prog kr 4 [(2,none)] asT:=⟨Tryz.f195,by kernel_rfl,by kernel_rfl⟩
theorem yG:Has Tryz.prog we 27 [(6,none),(7,none)] as4:=⟨Tryz.f196,by kernel_rfl,by kernel_rfl⟩
theorem FY:Has Tryz.prog uI 45 [(6,none),(7,none)] atd:=⟨Tryz.f197,by kernel_rfl,by kernel_rfl⟩
theorem tz:Has Tryz.prog jM 34 [(4,none)] ati:=⟨Tryz.f207,by kernel_rfl,by kernel_rfl⟩
open Go.Proofs
theorem EX:Has Tryz.prog ko 45 [(4,none),(5,none)] ao6:=⟨Tryz.f102,by kernel_rfl,by kernel_rfl⟩
theorem FZ:Has Tryz.prog oB 45 [(2,(some (true,13)))] apc:=⟨Tryz.f103,by kernel_rfl,by kernel_rfl⟩
theorem I3:Has Tryz.prog tf 9 [(2,none)] apd:=⟨Tryz.f104,by kernel_rfl,by kernel_rfl⟩
theorem Pj:Has Tryz.prog Dr 24 [(4,none)] apf:=⟨Tryz.f105,by kernel_rfl,by kernel_rfl⟩
theorem M4:Has Tryz.prog Bl 18 [(2,none)] apv:=⟨Tryz.f106,by kernel_rfl,by kernel_rfl⟩
theorem Hg:Has Tryz.prog v8 93 [(2,none)] apL:=⟨Tryz.f107,by kernel_rfl,by kernel_rfl⟩
theorem K1:Has Tryz.prog nQ 33 [(2,none)] apT:=⟨Tryz.f108,by kernel_rfl,by kernel_rfl⟩
theorem rm:Has Tryz.prog lF 8 [(2,none)] apV:=⟨Tryz.f109,by kernel_rfl,by kernel_rfl⟩
theorem K3:Has Tryz.prog vf 23 [(2,none)] apZ:=⟨Tryz.f110,by kernel_rfl,by kernel_rfl⟩
theorem yd:Has Tryz.prog gY 19 [(4,none)] ap4:=⟨Tryz.f111,by kernel_rfl,by kernel_rfl⟩
theorem Fh:Has Tryz.prog yB 17 [(6,none),(7,none)] ap6:=⟨Tryz.f112,by kernel_rfl,by kernel_rfl⟩
theorem ye:Has Tryz.prog oD 9 [(4,none)] ap7:=⟨Tryz.f113,by kernel_rfl,by kernel_rfl⟩
theorem EY:Has Tryz.prog iV 26 [(4,none)] ap9:=⟨Tryz.f114,by kernel_rfl,by kernel_rfl⟩
theorem wg:Has Tryz.prog cT 9 [(4,none)] aqa:=⟨Tryz.f115,by kernel_rfl,by kernel_rfl⟩
theorem Cs:Has Tryz.prog nR 65 [(10,none)] aqh:=⟨Tryz.f120,by kernel_rfl,by kernel_rfl⟩
theorem Hh:Has Tryz.prog pP 18 [(2,none)] aqn:=⟨Tryz.f128,by kernel_rfl,by kernel_rfl⟩
theorem tA:Has Tryz.prog gZ 9 [(4,none)] aqo:=⟨Tryz.f129,by kernel_rfl,by kernel_rfl⟩
theorem EZ:Has Tryz.prog qk 8 [(3,none)] aqp:=⟨Tryz.f130,by kernel_rfl,by kernel_rfl⟩
theorem Hi:Has Tryz.prog sb 38 [(8,none)] aqv:=⟨Tryz.f131,by kernel_rfl,by kernel_rfl⟩
theorem AJ:Has Tryz.prog xx 28 [(4,none)] aqC:=⟨Tryz.f132,by kernel_rfl,by kernel_rfl⟩
theorem AL:Has Tryz.prog ti 9 [(2,none)] aqE:=⟨Tryz.f133,by kernel_rfl,by kernel_rfl⟩
theorem K4:Has Tryz.prog rQ 24 [(4,none),(5,none)] aqK:=⟨Tryz.f134,by kernel_rfl,by kernel_rfl⟩
theorem qX:Has Tryz.prog xy 29 [(4,none)] aqO:=⟨Tryz.f135,by kernel_rfl,by kernel_rfl⟩
theorem wA:Has Tryz.prog tj 60 [(4,none)] aqZ:=⟨Tryz.f136,by kernel_rfl,by kernel_rfl⟩
theorem F0:Has Tryz.prog uH 41 [(4,none)] aq6:=⟨Tryz.f137,by kernel_rfl,by kernel_rfl⟩
theorem AN:Has Tryz.prog oE 7 [(2,none)] aq7:=⟨Tryz.f138,by kernel_rfl,by kernel_rfl⟩
theorem M5:Has Tryz.prog pC 40 [(4,none)] ard:=⟨Tryz.f139,by kernel_rfl,by kernel_rfl⟩
theorem E0:Has Tryz.prog kp 31 [(2,(some (true,4)))] arj:=⟨Tryz.f140,by kernel_rfl,by kernel_rfl⟩
theorem K5:Has Tryz.prog zL 9 [(2,none)] ark:=⟨Tryz.f141,by kernel_rfl,by kernel_rfl⟩
theorem I4:Has Tryz.prog qE 18 [(4,none)] arl:=⟨Tryz.f142,by kernel_rfl,by kernel_rfl⟩
theorem I5:Has Tryz.prog tn 18 [(4,none)] arn:=⟨Tryz.f143,by kernel_rfl,by kernel_rfl⟩
theorem Hj:Has Tryz.prog wa 27 [(2,none)] arv:=⟨Tryz.f144,by kernel_rfl,by kernel_rfl⟩
theorem pY:Has Tryz.prog l8 92 [(6,none),(7,none)] arK:=⟨Tryz.f145,by kernel_rfl,by kernel_rfl⟩
def DB (c:UInt8):Bool:=decide ((c.toNat:Int)≥97) && decide ((c.toNat:Int)≤122)
def Hk (c:UInt8):Bool:=decide ((c.toNat:Int)≥48) && decide ((c.toNat:Int)≤57)
def isB (c:UInt8):Bool:=(c.toNat:Int)==32 ||(c.toNat:Int)==9 ||(c.toNat:Int)==10 ||(c.toNat:Int)==13
def qI:aK→Nat
 | []=>0
 |c::r=>if DB c ||Hk c then qI r+1 else 0
def ahy:aK→Nat
 | []=>0
 |c::r=>if Hk c then ahy r+1 else 0
def Ta:aK→Nat
 | []=>0
 |c::r=>if(c.toNat:Int) != 10 then Ta r+1 else 0
def isWord (s:aK):Bool:=
 s == [103,108,111,98,97,108] ||s == [112,114,111,99] ||s == [118,97,114] ||s == [114,101,102] ||s == [105,102] ||s == [101,108,115,101] ||s == [119,104,105,108,101] ||s == [98,114,101,97,107] ||s == [99,111,110,116,105,110,117,101] ||s == [114,101,116,117,114,110] ||s == [103,111,116,111] ||s == [114,101,97,100] ||s == [112,114,105,110,116]
def alR (s:aK):Bool:=s == [61,61] ||s == [33,61] ||s == [60,61] ||s == [62,61] ||s == [38,38] ||s == [124,124]
def ab7 (c:UInt8):Bool:=
 (c.toNat:Int)==40 ||(c.toNat:Int)==41 ||(c.toNat:Int)==123 ||(c.toNat:Int)==125 ||(c.toNat:Int)==44 ||(c.toNat:Int)==59 ||(c.toNat:Int)==58 ||(c.toNat:Int)==61 ||
 (c.toNat:Int)==33 ||(c.toNat:Int)==60 ||(c.toNat:Int)==62 ||(c.toNat:Int)==43 ||(c.toNat:Int)==45 ||(c.toNat:Int)==42 ||(c.toNat:Int)==47 ||(c.toNat:Int)==37
def ab8:aK→Nat
 | []=>0
 | [c]=>if ab7 c then 1 else 0
 |c::d::_=>if alR [c,d]then 2 else if ab7 c then 1 else 0
def bg:Int→aK→Option Int
 |n,[]=>some n
 |n,c::r=>if n > (9223372036854775807 - ((c.toNat:Int) - 48)) / 10 then none else bg (n*10+((c.toNat:Int) - 48)) r
def atj (pos:Nat):aK→rj ⊕ Int
 | []=> .inr 2
 | c::r=>
  if DB c then
   let s:=(c::r).take (qI (c::r))
   if s.length > 8 then .inr 4 else .inl ⟨if isWord s then 3 else 1,s,0,pos⟩
  else if Hk c then
   let s:=(c::r).take (ahy (c::r))
   if s.length > 1∧(c.toNat:Int)=48 then .inr 2 else
   match bg 0 s with
   |some n=> .inl ⟨2,s,n,pos⟩
   |none=> .inr 4
  else
   if ab8 (c::r)=0 then .inr 2 else .inl ⟨4,(c::r).take (ab8 (c::r)),0,pos⟩
def Tb:Nat→Nat→aK→List rj→List rj×Int×Int
 | 0,_,_,_=>([],0,0)
 |_+1,pos,[],out=>(out++ [⟨0,[],0,pos⟩],0,0)
 | n+1,pos,c::r,out=>
  if isB c then Tb n (pos+1) r out
  else if(c.toNat:Int)==35 then Tb n (pos+Ta (c::r)) ((c::r).drop (Ta (c::r))) out
  else match atj pos (c::r)with
   | .inr e=>([],e,pos)
   | .inl t=>if out.length=2000 then([],4,pos)else Tb n (pos+t.text.length) ((c::r).drop t.text.length) (out++ [t])
def AP (text:aK):List rj×Int×Int:=if text.length > 100000 then([],4,0)else Tb (text.length+1) 0 text []
def Eu:aK→Bool
 | []=>true
 |c::r=>if !(DB c) && !(Hk c)then false else Eu r
def isName:aK→Bool
 | []=>false
 |c::r=>if decide (((r.length+1:Nat):Int) > 8) || !(DB c)then false else if Eu r then !(isWord (c::r))else false
def pR (op:Int):Int:=if op==1 ||op==2 then 0 else if op==3 ||op==4 then 1 else if decide (op≥5) && decide (op≤17)then 2 else -1
mutual
def Ex.form:Ex→Bool
 |⟨op,n,name,kids⟩=>
  if pR op != (kids.length:Int) ||(op != 1 && n != 0) ||decide (n<0) || !((op==2) == !(name == [])) ||(!(name == []) && !(isName name))then false else Ex.vg kids
def Ex.vg:List Ex→Bool
 | []=>true
 |x::l=>if !(Ex.form x)then false else Ex.vg l
end
mutual
def Ex.texts:Ex→Prop
 |⟨_,_,name,kids⟩=>name.length<4611686018427387904∧Ex.xF kids
def Ex.xF:List Ex→Prop
 | []=>True
 |x::l=>x.texts∧Ex.xF l
end
theorem Ex.Hl {x:Ex} : ∀ {l:List Ex},Ex.xF l→x∈l→x.texts
 |y::l,h,m=>by
  rcases List.mem_cons.1 m with rfl|m
  ·exact h.1
  ·exact Ex.Hl h.2 m
theorem Ex.VM {op n:Int} {name:aK} {kids:List Ex} (h:Ex.texts ⟨op,n,name,kids⟩) {y:Ex} (m:y∈kids):y.texts:=Ex.Hl h.2 m
def Ex.may (x:Ex):Bool:=decide (((min x.depth 21:Nat):Int)≤20) && x.form
def Ex.none (x:Ex):Bool:=x.op==0 && x.n==0 && x.name == [] && (x.kids.length:Int)==0
def ew:List aK→Bool
 | []=>true
 |s::l=>if !(isName s)then false else ew l
def Ar.may (a:Ar):Bool:=if a.ref then isName a.name && a.x.none else a.name == [] && a.x.may
def Ar.fP:List Ar→Bool
 | []=>true
 |a::l=>if !(a.may)then false else Ar.fP l
def Sm.DC (s:Sm):Bool:=s.kind==1 ||s.kind==3 ||s.kind==5 ||s.kind==6 ||(s.kind==9 && s.has)
def Sm.hasName (s:Sm):Bool:=s.kind==1 ||s.kind==2 ||s.kind==10
def Sm.xG (s:Sm):Bool:=s.kind==4
def Sm.one (s:Sm):Bool:=
 if decide (s.kind<1) ||decide (s.kind > 10) || !(ew s.labels) ||(s.DC && !(s.x.may)) ||(!(s.DC) && !(s.x.none)) ||(s.has && s.kind != 9)then false
 else if(s.hasName && !(isName s.name)) ||(!(s.hasName) && !(s.name == []) && !(s.xG && isName s.name))then false
 else if !(s.xG == !(s.proc == [])) ||(s.xG && !(isName s.proc)) ||(!(s.xG) && decide ((s.args.length:Int) > 0))then false
 else if !(Ar.fP s.args)then false
 else((s.aP.length:Int)==0 ||s.kind==5 ||s.kind==6) && ((s.aM.length:Int)==0 ||s.kind==5)
structure It where
 s:Sm
 deep:Int
 bW:Int
 aM:Bool
mutual
def gL (deep bW:Int) (aM:Bool) (out:List It):Sm→List It
 |⟨id,kind,labels,name,proc,x,has,args,aP,e⟩=>
  if decide (deep≤12)then dO (deep+1) id true (dO (deep+1) id false (out++ [⟨⟨id,kind,labels,name,proc,x,has,args,aP,e⟩,deep,bW,aM⟩]) aP) e
  else out++ [⟨⟨id,kind,labels,name,proc,x,has,args,aP,e⟩,deep,bW,aM⟩]
def dO (deep bW:Int) (aM:Bool) (out:List It):List Sm→List It
 | []=>out
 |s::l=>if decide ((out.length:Int)≤200)then dO deep bW aM (gL deep bW aM out s) l else out
end
def Pc.flat (f:Pc):List It:=dO 1 0 false [] f.body
def allM (out:List It):List Pc→List It
 | []=>out
 |f::l=>if decide (((out++f.flat).length:Int) > 200)then out++f.flat else allM (out++f.flat) l
def Pg.all (p:Pg):List It:=allM [] p.procs
def Pm.fP:List Pm→Bool
 | []=>true
 |a::l=>if !(isName a.name)then false else Pm.fP l
def Pc.gQ:List Pc→Bool
 | []=>true
 |f::l=>
  if !(isName f.name) ||decide ((f.params.length:Int) > 8) ||decide ((f.vars.length:Int) > 16) || !(ew f.vars) || !(ew f.fin)then false
  else if !(Pm.fP f.params)then false else Pc.gQ l
def It.fP (n:Nat):List It→Bool
 | []=>true
 |i::l=>if i.s.id != ((n+1:Nat):Int) ||decide (i.deep > 12) || !(i.s.one)then false else It.fP (n+1) l
def Pg.may (p:Pg):Bool:=
 if decide ((p.globals.length:Int) > 16) ||decide ((p.procs.length:Int) > 16) || !(ew p.globals)then false
 else if !(Pc.gQ p.procs)then false
 else if decide ((p.all.length:Int) > 200)then false else It.fP 0 p.all
open Go.Proofs
@[go_sem] def aBm (r:Rd):List D:= [.slice .shared 4 (r.l.map kS), .int .i64 r.i, .int .i64 r.code, .int .i64 r.MH, .int .i64 r.n]
set_option maxRecDepth 8000
open Go.Proofs
theorem uJ (c:UInt8) (s:St):aH Tryz.prog tf [.int .u8 (c.toNat:Int)] s (.bool (DB c)) s:=by
 refine aH.pure ?_ rfl rfl s
 generalize h:DB c=b
 unfold DB at h
 unfold S0
 refine aH.go I3 rfl fun B Q hB hQ=>?_
 have⟨hD,hZ,gA,gB⟩:=bX
 repeat' (first
 |simp only[go_sem,hD,hZ,gA,gB]
 |(with_reducible first|refine bt fun hc=>?_|refine bu fun hc=>?_|refine bx (fun hc=>?_) fun hc=>?_)<;>(try simp only[hc,bs,↓reduceIte]at h)<;>try simp only[hc]
 |(with_reducible refine aI hQ ?_;exact fS))
theorem I6 (c:UInt8) (s:St):aH Tryz.prog zL [.int .u8 (c.toNat:Int)] s (.bool (Hk c)) s:=by
 refine aH.pure ?_ rfl rfl s
 generalize h:Hk c=b
 unfold Hk at h
 unfold S0
 refine aH.go K5 rfl fun B Q hB hQ=>?_
 have⟨hD,hZ,gA,gB⟩:=bX
 repeat' (first
 |simp only[go_sem,hD,hZ,gA,gB]
 |(with_reducible first|refine bt fun hc=>?_|refine bu fun hc=>?_|refine bx (fun hc=>?_) fun hc=>?_)<;>(try simp only[hc,bs,↓reduceIte]at h)<;>try simp only[hc]
 |(with_reducible refine aI hQ ?_;exact fS))
theorem ahz (t:aK) (s:St):aH Tryz.prog Bl [.str t] s (.bool (isWord t)) s:=by
 refine aH.pure ?_ rfl rfl s
 generalize h:isWord t=b
 unfold isWord at h
 unfold S0
 refine aH.go M4 rfl fun B Q hB hQ=>?_
 have⟨hD,hZ,gA,gB⟩:=bX
 repeat' (first
 |simp only[go_sem,hD,hZ,gA,gB]
 |(with_reducible first|refine bt fun hc=>?_|refine bu fun hc=>?_|refine bx (fun hc=>?_) fun hc=>?_)<;>(try simp only[hc,bs,↓reduceIte]at h)<;>try simp only[hc]
 |(with_reducible refine aI hQ ?_;exact fS))
theorem alS {text:aK} {pos:Nat} (hl:text.length<4611686018427387904) (s:St):aH Tryz.prog Dr [.str text, .int .i64 (pos:Int)] s (.int .i64 ((pos+qI (text.drop pos):Nat):Int)) s:=by
 refine aH.pure ?_ rfl rfl s
 unfold S0
 refine aH.go Pj rfl fun B Q hB hQ=>?_
 have⟨hD,hZ,gA,gB⟩:=bX
 repeat' (first
 |simp only[go_sem,hD,hZ,gA,gB]
 |(with_reducible refine aI hQ ?_;exact bA))
 refine fG 0 0 (bp.ind (ι:=aK×Nat) (fun i=>text.drop i.2=i.1∧i.2+qI i.1=pos+qI (text.drop pos)) (fun i=>i.1.length)
  (fun i=> [(0, .str text),(1, .int .i64 (i.2:Int))]) (fun i=>⟨[],[]⟩) ?_ (text.drop pos,pos) ⟨rfl,rfl⟩)
 rintro⟨rest,k⟩ ⟨h1,h2⟩ IH
 dsimp only at h1 h2
 cases rest with
 |nil=>
  have hD:=drop_nil h1
  simp only[qI,Nat.add_zero]at h2
  rw[← h2]at hQ
  repeat' (first
 |simp only[go_sem,hD,hZ,gA,gB]
 |(with_reducible refine aI hQ ?_;exact bA))
 | cons c rest=>
  obtain⟨hZ,g2,hD,g4⟩:=drop_cons h1
  have gA:k<4611686018427387904:=by omega
  cases hb:(DB c ||Hk c)
  ·simp only [qI,hb,Bool.false_eq_true, ↓reduceIte,Nat.add_zero]at h2
   rw[← h2]at hQ
   simp only[Bool.or_eq_false_iff]at hb
   repeat' (first
 |simp only[go_sem,hD,hZ,gA,gB,hb.1,hb.2]
 |(with_reducible refine CU (uJ _ _) ?_)
 |(with_reducible refine CU (I6 _ _) ?_)
 | (with_reducible refine aI hQ ?_;exact bA))
  ·simp only [qI,hb, ↓reduceIte]at h2
   cases L5:DB c
   ·rw [L5,Bool.false_or]at hb
    repeat' (first
 |simp only[go_sem,hD,hZ,gA,gB,hb,L5]
 |(with_reducible refine CU (uJ _ _) ?_)
 |(with_reducible refine CU (I6 _ _) ?_)
 | (with_reducible refine aI hQ ?_;exact bA))
    refine fG 0 0 (IH (rest,k+1) ⟨g2,by dsimp only;omega⟩ (Nat.lt_succ_self _))
   ·repeat' (first
 |simp only[go_sem,hD,hZ,gA,gB,L5]
 |(with_reducible refine CU (uJ _ _) ?_)
 |(with_reducible refine CU (I6 _ _) ?_)
 | (with_reducible refine aI hQ ?_;exact bA))
    refine fG 0 0 (IH (rest,k+1) ⟨g2,by dsimp only;omega⟩ (Nat.lt_succ_self _))
def azP (s:aK):Int×Bool:=match bg 0 s with|some n=>(n,true)|none=>(0,false)
open Go.Proofs
def atk (f:Int×Int):List D:= [.int .i64 f.1, .int .i64 f.2]
def alT (text:aK) (out:List rj) (pos:Nat):Tm:= [(0, .str text),(3, .ptr 0 0),(4, .slice (.tok 0) 4 (out.map kS)),(5, .ptr 1 0),(6, .int .i64 (pos:Int))]
def alU (out:List rj):St:=⟨[[.int .i64 0, .int .i64 0],[.junk, .junk, .junk, .junk]],[some out.length]⟩
attribute [go_sem] alT alU atk
end Go.Abs
namespace Go.Abs
set_option maxRecDepth 8000
open Go.Proofs
def auh (s:aK):Bool:=
 [103,108,111,98,97,108] == s || [112,114,111,99] == s || [118,97,114] == s || [114,101,102] == s || [105,102] == s || [101,108,115,101] == s || [119,104,105,108,101] == s || [98,114,101,97,107] == s || [99,111,110,116,105,110,117,101] == s || [114,101,116,117,114,110] == s || [103,111,116,111] == s || [114,101,97,100] == s || [112,114,105,110,116] == s
def OpR (p:Int×Int):Prop:=0≤p.2∧p.2≤6
@[go_sem] def aBn (z:D) (r:Rd):List D:= [.slice .shared 4 (r.l.map kS), .int .i64 r.i, .int .i64 r.code, .int .i64 r.MH,z]
class Cell (z:D):Prop where
 ok:D.ok 0 0 z=true
 fg : ∀ n m,D.fg n m z=z
instance (n:Int):Cell (.int .i64 n):=⟨rfl,fun _ _=>rfl⟩
instance:Cell .junk:=⟨rfl,fun _ _=>rfl⟩
theorem ad4 (z:D) [h:Cell z] (n m:Nat):D.fg n m z=z:=h.fg n m
attribute [go_sem] ad4
def Rd.isO (text:aK) (r:Rd):Option Bool:=if r.good then r.is text else some false
end Go.Abs
namespace Go.Abs
open Go.Proofs
def ahA (s:aK):Int×Int:=
 if [42] == s then(6,5)else if [47] == s then(6,6)else if [37] == s then(6,7)else if [43] == s then(5,8)else if [45] == s then(5,9)
 else if [60] == s then(4,10)else if [60,61] == s then(4,11)else if [62] == s then(4,12)else if [62,61] == s then(4,13)
 else if [61,61] == s then(3,14)else if [33,61] == s then(3,15)else if [38,38] == s then(2,16)else if [124,124] == s then(1,17)else(0,0)
def BZ (p:Int×Int):Prop:=(p.2==0)=(p.1==0)
set_option maxRecDepth 8000
open Go.Proofs
structure Sm.wh (s:Sm):Prop where
 mR : ∀ t∈s.labels,t.length<4611686018427387904
 atl:s.labels.length<4611686018427387904
 name:s.name.length<4611686018427387904
 proc:s.proc.length<4611686018427387904
 x:s.x.size<4611686018427387904
 xt:s.x.texts
 atm:s.args.length<4611686018427387904
 arg : ∀ a∈s.args,a.x.size<4611686018427387904∧a.x.texts∧a.name.length<4611686018427387904
section
variable {v:Sm} {B:gW} {Q:Exit→Tm→St→Prop} {p:Bool}
end
theorem aH.goS {P:Program} {f:FuncId} {nt:Nat} {res:List (Nat×Option (Bool×Nat))} {body:AC} {args:List D} {s:St} {d:D} {s':St} (h0:Has P f nt res body) (hl:Nat.ble args.length nt=true)
 (h : ∀ (B:gW) (Q:Exit→Tm→St→Prop),B.s=s→rB s.al.length s.aA.length res d s'=Q→Sem P B nt body Q (oc 0 args) s):aH P f args s d s':=by
 obtain⟨fn,hf,hc⟩:=h0
 exact aH.intro ⟨fn,hf,hc⟩ (Nat.le_of_ble_eq_true hl) fun B hB=>h B _ hB rfl
end Go.Abs
namespace Go.Abs
set_option maxRecDepth 8000
open Go.Proofs
def dP (i:Im):List D:= [.int .i64 i.s.id, .int .i64 i.s.kind, .slice .shared 1 (i.s.labels.map encStr), .str i.s.name, .str i.s.proc,
 .int .i64 i.s.x.op, .int .i64 i.s.x.n, .str i.s.x.name, .slice .shared 4 (i.s.x.kids.map cb), .bool i.s.has, .slice .shared 6 (i.s.args.map fc), .slice .shared 13 (i.s.aP.map bd), .slice .shared 13 (i.s.aM.map bd), .int .i64 i.proc, .int .i64 i.up, .int .i64 i.next, .int .i64 i.loop]
def cR (n:Int):List D:= [.int .i64 n]
theorem Tc (i:Im):D.bM 0 0 (dP i)=true:=by simp[dP,D.bM,D.ok,Tag.ok,fI,abk,Ln,nF]
theorem Lp (l:List Im):D.jb 0 0 (l.map dP)=true:=jc Tc l
theorem ab9 (n m:Nat) (l:List Im):D.lE n m (l.map dP)=l.map dP:=nj Tc n m l
theorem alV (n m:Nat) (i:Im):D.iD n m (dP i)=dP i:=jg n m _ (Tc i)
theorem alW (x:Im):(dP x).length=17:=nd rfl
theorem ad5 (x:Im):List.take 17 (dP x)=dP x:=nd rfl
theorem ahB (x:Im):List.drop 17 (dP x) = []:=nd rfl
theorem ahC (x:Im):List.take 13 (dP x)=bd x.s:=by simp only[dP,dM];rfl
theorem Zh (x:Im):(dP x)[0]? = some (.int .i64 x.s.id):=nd rfl
theorem Zi (x:Im):(dP x)[1]? = some (.int .i64 x.s.kind):=nd rfl
theorem Zj (x:Im):(dP x)[4]? = some (.str x.s.proc):=nd rfl
theorem VN (x:Im):(dP x)[13]? = some (.int .i64 x.proc):=nd rfl
theorem VO (x:Im):(dP x)[14]? = some (.int .i64 x.up):=nd rfl
theorem VP (x:Im):(dP x)[15]? = some (.int .i64 x.next):=nd rfl
theorem VQ (x:Im):(dP x)[16]? = some (.int .i64 x.loop):=nd rfl
theorem Td (s:Sm) (a b c d:Int):dP ⟨s,a,b,c,d⟩ = [.int .i64 s.id, .int .i64 s.kind, .slice .shared 1 (s.labels.map encStr), .str s.name, .str s.proc,
 .int .i64 s.x.op, .int .i64 s.x.n, .str s.x.name, .slice .shared 4 (s.x.kids.map cb), .bool s.has, .slice .shared 6 (s.args.map fc), .slice .shared 13 (s.aP.map bd), .slice .shared 13 (s.aM.map bd), .int .i64 a, .int .i64 b, .int .i64 c, .int .i64 d]:=nd rfl
theorem aca (n:Int):D.bM 0 0 (cR n)=true:=rfl
theorem jH (l:List Int):D.jb 0 0 (l.map cR)=true:=jc aca l
theorem VR (n m:Nat) (l:List Int):D.lE n m (l.map cR)=l.map cR:=nj aca n m l
attribute [go_sem] ab9 alV alW ad5 ahB ahC Zh Zi Zj VN VO VP VQ VR cR
theorem ahD : ∀ n,n<1000000000→∀ v:Sm,v.size≤n→aH Tryz.prog nQ [.agg (bd v)] S0 (.int .i64 (v.iF:Int)) S0:=by
 intro n
 induction n with
 |zero=>intro _ v h;obtain⟨_,_,_,_,_,_,_,_,_,_⟩:=v;simp only[Sm.size]at h;omega
 |succ n ih=>
 intro hn v hv
 have dU:Sm.a7 v.aP≤n∧Sm.a7 v.aM≤n∧v.iF=1+Sm.gn v.aP+Sm.gn v.aM:=by
  obtain⟨_,_,_,_,_,_,_,_,_,_⟩:=v
  simp only[Sm.size]at hv;exact⟨by dsimp only;omega,by dsimp only;omega,rfl⟩
 obtain⟨h1,h2,h3⟩:=dU
 have c1:=pd v.aP
 have c2:=pd v.aM
 have l1:=Sm.dQ v.aP
 have l2:=Sm.dQ v.aM
 have hk : ∀ y,y∈v.aP∨y∈v.aM→∀ s,aH Tryz.prog nQ [.agg (bd y)] s (.int .i64 (y.iF:Int)) s:=fun y hy s=>
  (ih (by omega) y (by rcases hy with hy|hy<;>(have:=Sm.da hy;omega))).pure (by simp only[D.bM,D.ok,pz];rfl) rfl s
 rw[h3]
 unfold S0
 refine aH.go K1 rfl fun B Q hB hQ=>?_
 have⟨hD,hZ,gA,gB⟩:=bX
 repeat' (first
 |simp only[go_sem,hD,hZ,gA,gB]
 |(with_reducible refine aI hQ ?_;exact bA))
 refine fG 1 0 (bp.ind (ι:=List Sm×Nat×Nat) (fun i=>v.aP.drop i.2.1=i.1∧i.2.2+Sm.gn i.1=1+Sm.gn v.aP) (fun i=>i.1.length)
  (fun i=> [(1, .ptr 0 0),(3, .int .i64 (i.2.2:Int)),(9, .slice .shared 13 (v.aP.map bd)),(10, .int .i64 (v.aP.length:Int)),(11, .int .i64 (i.2.1:Int))]) (fun i=>⟨[bd v],[]⟩) ?_ (v.aP,0,1) ⟨rfl,rfl⟩)
 rintro⟨rest,k,c⟩ ⟨g1,g2⟩ IH
 dsimp only at g1 g2
 cases rest with
 |cons y rest=>
  obtain⟨hZ,g3,hD,g4⟩:=drop_cons g1
  have hy:=hk y (.inl (List.mem_of_getElem? hZ))
  simp only[Sm.gn]at g2
  have JT:=FP y
  have JA:=Sm.da (List.mem_of_getElem? hZ)
  have w1:IntKind.wrap .i64 ((k:Int)+1)=((k+1:Nat):Int):=by rw[eB]<;>omega
  have w2:IntKind.wrap .i64 ((c:Int)+(y.iF:Int))=((c+y.iF:Nat):Int):=by rw[eB]<;>omega
  repeat' (first
 |simp only[go_sem,hD,hZ,gA,gB,w1,w2]
 |(with_reducible refine CU (hy _) ?_)
 |(with_reducible refine aI hQ ?_;exact bA))
  refine fG 1 0 (IH (rest,k+1,c+y.iF) ⟨g3,by dsimp only;omega⟩ (Nat.lt_succ_self _))
 |nil=>
  have hD:=drop_nil g1
  simp only[Sm.gn,Nat.add_zero]at g2
  subst g2
  repeat' (first
 |simp only[go_sem,hD,hZ,gA,gB]
 | (with_reducible refine aI hQ ?_;exact bA))
  refine fG 1 0 (bp.ind (ι:=List Sm×Nat×Nat) (fun i=>v.aM.drop i.2.1=i.1∧i.2.2+Sm.gn i.1=1+Sm.gn v.aP+Sm.gn v.aM) (fun i=>i.1.length)
   (fun i=> [(1, .ptr 0 0),(3, .int .i64 (i.2.2:Int)),(21, .slice .shared 13 (v.aM.map bd)),(22, .int .i64 (v.aM.length:Int)),(23, .int .i64 (i.2.1:Int))]) (fun i=>⟨[bd v],[]⟩) ?_ (v.aM,0,1+Sm.gn v.aP) ⟨rfl,rfl⟩)
  rintro⟨rest,k,c⟩ ⟨g1,g2⟩ IH
  dsimp only at g1 g2
  cases rest with
  |cons y rest=>
   obtain⟨hZ,g3,hD,g4⟩:=drop_cons g1
   have hy:=hk y (.inr (List.mem_of_getElem? hZ))
   simp only[Sm.gn]at g2
   have JT:=FP y
   have JA:=Sm.da (List.mem_of_getElem? hZ)
   have w1:IntKind.wrap .i64 ((k:Int)+1)=((k+1:Nat):Int):=by rw[eB]<;>omega
   have w2:IntKind.wrap .i64 ((c:Int)+(y.iF:Int))=((c+y.iF:Nat):Int):=by rw[eB]<;>omega
   repeat' (first
 |simp only[go_sem,hD,hZ,gA,gB,w1,w2]
 |(with_reducible refine CU (hy _) ?_)
 | (with_reducible refine aI hQ ?_;exact bA))
   refine fG 1 0 (IH (rest,k+1,c+y.iF) ⟨g3,by dsimp only;omega⟩ (Nat.lt_succ_self _))
  |nil=>
   have hD:=drop_nil g1
   simp only[Sm.gn,Nat.add_zero]at g2
   subst g2
   repeat' (first
 |simp only[go_sem,hD,hZ,gA,gB]
 |(with_reducible refine aI hQ ?_;exact bA))
theorem ahE {v:Sm} (h:v.size<1000000000) (s:St):aH Tryz.prog nQ [.agg (bd v)] s (.int .i64 (v.iF:Int)) s:=
 (ahD v.size h v (Nat.le_refl _)).pure (by simp only[D.bM,D.ok,pz];rfl) rfl s
end Go.Abs
namespace Go.Abs
set_option maxRecDepth 8000
open Go.Proofs
abbrev jN (g ps:D) (L:List Im) (lo hi:List Int):List D:= [g,ps, .slice (.tok 0) 17 (L.map dP), .slice (.tok 1) 1 (lo.map cR), .slice (.tok 2) 1 (hi.map cR)]
abbrev Zk (proc up next loop:Int):List D:= [.int .i64 0, .int .i64 0, .slice .full 0 [], .str [], .str [], .int .i64 0, .int .i64 0, .str [], .slice .full 0 [], .bool false, .slice .full 0 [], .slice .full 0 [], .slice .full 0 [], .int .i64 proc, .int .i64 up, .int .i64 next, .int .i64 loop]
theorem aH.alX {P:Program} {f:Nat} {args:List D} {g ps:D} {L L':List Im} {lo hi JG iS:List Int} {a b c a' b' c':Option Nat}
 (h:aH P f (.ptr 0 0::args) ⟨[jN g ps L lo hi],[a,b,c]⟩ (.tuple []) ⟨[jN g ps L' JG iS],[a',b',c']⟩)
 (ha:D.bM 0 0 args=true) (hg:D.ok 0 0 g=true) (hp:D.ok 0 0 ps=true)
 {s:St} {o:Nat} (ho:s.al[o]? = some (jN g ps L lo hi)) (ht:s.aA = [a,b,c]):aH P f (.ptr o 0::args) s (.tuple []) ⟨s.al.set o (jN g ps L' JG iS),[a',b',c']⟩:=by
 have hr : ∀ (L:List Im) (lo hi:List Int),D.fa [o] [0,1,2] (jN g ps L lo hi)=jN g ps L lo hi:=fun L lo hi=>by
  simp[D.fa,D.cU,Tag.cU,sn _ _ _ hg,sn _ _ _ hp,jY _ _ _ (Lp L),jY _ _ _ (jH lo),jY _ _ _ (jH hi)]
 have hk : ∀ (L:List Im) (lo hi:List Int),D.bM 1 3 (jN g ps L lo hi)=true:=fun L lo hi=>by
  simp[D.bM,D.ok,Tag.ok,IK (Nat.zero_le 1) (Nat.zero_le 3) _ hg,IK (Nat.zero_le 1) (Nat.zero_le 3) _ hp,nN (Nat.zero_le 1) (Nat.zero_le 3) _ (Lp L),nN (Nat.zero_le 1) (Nat.zero_le 3) _ (jH lo),nN (Nat.zero_le 1) (Nat.zero_le 3) _ (jH hi)]
 refine bV.frame [o] [0,1,2] h (by simp) (by decide) (by simpa using (List.getElem?_eq_some_iff.1 ho).1) (by rw[ht];simp) rfl (fun i o' ds e1 e2=>?_) rfl (fun i t' e1=>?_)
  (by simp[D.fa,D.cU,fV _ _ _ ha])
  (by simp[D.bM,D.ok,jr (Nat.zero_le 1) (Nat.zero_le 3) _ ha]) ?_
 ·cases i with
  |zero=>simp only[List.getElem?_cons_zero,Option.some.injEq]at e1 e2;subst e1;subst e2;exact⟨by rw[hr];exact ho,hk L lo hi⟩
  |succ i=>simp at e1
 ·rw [ht]
  match i,e1 with
  | 0,e1=>simp at e1;subst e1;rfl
  | 1,e1=>simp at e1;subst e1;rfl
  | 2,e1=>simp at e1;subst e1;rfl
  |i+3,e1=>simp at e1
 ·rintro _ _ ⟨rfl,rfl⟩
  refine⟨by simp[D.back,D.cU,D.fa], ?_⟩
  have:=hr L' JG iS
  simp[St.back,lq,kE,this,ht]
abbrev acb (N:Nat):Prop:=∀ (l:List Sm) (proc up next loop:Int) (out:List Im) (g ps:D) (lo hi:List Int) (b c:Option Nat),Sm.a7 l<N→out.length+Sm.gn l<1000000000→D.ok 0 0 g=true→D.ok 0 0 ps=true→
 ∀ {s:St} {o:Nat},s.al[o]? = some (jN g ps out lo hi)→s.aA = [some out.length,b,c]→
 aH Tryz.prog kY [.ptr o 0, .slice .shared 13 (l.map bd), .agg (Zk proc up next loop)] s (.tuple []) ⟨s.al.set o (jN g ps (Im.rows proc up next loop out l) lo hi),[some (Im.rows proc up next loop out l).length,b,c]⟩
theorem alY {N:Nat} (ih:acb N) {l:List Sm} {proc up next loop:Int} {out:List Im} {g ps:D} {lo hi:List Int} {b c:Option Nat} (hs:Sm.a7 l<N+1) (hc:out.length+Sm.gn l<1000000000) (hg:D.ok 0 0 g=true) (hp:D.ok 0 0 ps=true) (hN:N<1000000000) :
 aH Tryz.prog kY [.ptr 0 0, .slice .shared 13 (l.map bd), .agg (Zk proc up next loop)] ⟨[jN g ps out lo hi],[some out.length,b,c]⟩ (.tuple []) ⟨[jN g ps (Im.rows proc up next loop out l) lo hi],[some (Im.rows proc up next loop out l).length,b,c]⟩:=by
 obtain⟨R,hR⟩ : ∃ R,R=Im.rows proc up next loop out l:=⟨_,rfl⟩
 have hlR:R.length=out.length+Sm.gn l:=by rw[hR,iN]
 rw[← hR]
 have k1 : ∀ n m,D.fg n m g=g:=fun n m=>SS n m _ hg
 have k2 : ∀ n m,D.fg n m ps=ps:=fun n m=>SS n m _ hp
 refine aH.go Dz rfl fun B Q hB hQ=>?_
 have⟨hD,hZ,gA,gB⟩:=bX
 repeat' (first
 |simp only[go_sem,hD,hZ,gA,gB,k1,k2]
 |(with_reducible first|refine bt fun hc=>?_|refine bu fun hc=>?_|refine bx (fun hc=>?_) fun hc=>?_)<;>(try simp only[hc,bs,↓reduceIte]at h)<;>try simp only[hc]
 |(with_reducible refine aI hQ ?_;simp only[bh,bj,bP,bQ,go_sem,hD,hZ,gA,gB,k1,k2];try exact cO))
 refine fi 2 3 ?_ ?_ (bp.ind (ι:=List Sm×Nat×List Im) (fun i=>l.drop i.2.1=i.1∧Im.rows proc up next loop i.2.2 i.1=R∧i.2.2.length+Sm.gn i.1=out.length+Sm.gn l) (fun i=>i.1.length)
  (fun i=> [(0, .ptr 0 0),(1, .slice .shared 13 (l.map bd)),(5, .ptr 1 0),(11, .slice .shared 13 (l.map bd)),(12, .int .i64 (l.length:Int)),(13, .int .i64 (i.2.1:Int))]) (fun i=>⟨[jN g ps i.2.2 lo hi,Zk proc up next loop],[some i.2.2.length,b,c]⟩) ?_ (l,0,out) ⟨rfl,hR.symm,rfl⟩)
 ·(simp only[go_sem,hD,hZ,gA,gB,k1,k2];try exact bY)
 ·(simp only[go_sem,hD,hZ,gA,gB,k1,k2];try exact bY)
 rintro⟨rest,k,df⟩ ⟨h1,h2,h3⟩ IH
 dsimp only at h1 h2 h3
 have hlen:l.length<1000000000:=by have:=Sm.dQ l;omega
 cases rest with
 |nil=>
  have hD:=drop_nil h1
  simp only[Im.rows]at h2
  subst h2
  repeat' (first
 |simp only[go_sem,hD,hZ,gA,gB,k1,k2]
 |(with_reducible first|refine bt fun hc=>?_|refine bu fun hc=>?_|refine bx (fun hc=>?_) fun hc=>?_)<;>(try simp only[hc,bs,↓reduceIte]at h)<;>try simp only[hc]
 |(with_reducible refine aI hQ ?_;simp only[bh,bj,bP,bQ,go_sem,hD,hZ,gA,gB,k1,k2];try exact cO))
 | cons v rest=>
  obtain⟨hZ,g2,hD,g4⟩:=drop_cons h1
  have cu:k<4611686018427387904:=by omega
  have hv:=Sm.da (List.mem_of_getElem? hZ)
  have qv:Sm.a7 v.aP<N∧Sm.a7 v.aM<N∧v.iF=1+Sm.gn v.aP+Sm.gn v.aM:=by
   obtain⟨_,_,_,_,_,_,_,_,_,_⟩:=v
   simp only[Sm.size]at hv
   exact⟨by dsimp only;omega,by dsimp only;omega,rfl⟩
  obtain⟨Ak,L3,hv3⟩:=qv
  simp only[Sm.gn]at h3
  simp only[Im.rows,Im.agX]at h2
  have gA:(df.length+1)*241≤bq:=by unfold bq;omega
  have PX:IntKind.wrap .i64 ((df.length:Int)+1)=(df.length:Int)+1:=eB (by omega) (by omega)
  have sL:IntKind.wrap .i64 ((k:Int)+1)=((k+1:Nat):Int):=by rw[eB]<;>omega
  have hw3:IntKind.wrap .i64 ((df.length:Int)+1+(v.iF:Int))=(df.length:Int)+1+(v.iF:Int):=eB (by omega) (by omega)
  have dU:=fun s=>ahE (v:=v) (by omega) s
  simp only[dM]at dU
  have C7:rest.length=l.length - (k+1):=by rw[← g2,List.length_drop]
  by_cases aBo:k+1<l.length
  ·have d1:decide (((k+1:Nat):Int)<(l.length:Int))=true:=by simp;omega
   have e1:(rest.length=0)=False:=by simp;intro h;rw[h]at C7;simp at C7;omega
   by_cases VS:v.kind=6
   ·have d2:(v.kind==6)=true:=by simp [VS]
    simp only[e1,d2,↓reduceIte,Bool.false_eq_true]at h2
    have f1:=fun {s:St} {o:Nat}=>@ih v.aP proc ((df.length:Int)+1) ((df.length:Int)+1) ((df.length:Int)+1) (df++ [⟨v,proc,up,((df.length:Int)+1+(v.iF:Int)),loop⟩]) g ps lo hi b c Ak (by simp;omega) hg hp s o
    have f2:=fun {s:St} {o:Nat}=>@ih v.aM proc ((df.length:Int)+1) ((df.length:Int)+1) ((df.length:Int)+1) _ g ps lo hi b c L3 (by rw[iN proc ((df.length:Int)+1) ((df.length:Int)+1) ((df.length:Int)+1) (df++ [⟨v,proc,up,((df.length:Int)+1+(v.iF:Int)),loop⟩]) v.aP];simp;omega) hg hp s o
    have hl:(Im.rows proc ((df.length:Int)+1) ((df.length:Int)+1) ((df.length:Int)+1) (Im.rows proc ((df.length:Int)+1) ((df.length:Int)+1) ((df.length:Int)+1) (df++ [⟨v,proc,up,((df.length:Int)+1+(v.iF:Int)),loop⟩]) v.aP) v.aM).length=df.length+v.iF:=by rw[iN,iN];simp;omega
    simp only[jN,List.map_append,List.map_cons,List.map_nil,Td,List.length_append,List.length_cons,List.length_nil]at f1
    repeat' (first
 |simp only[go_sem,hD,hZ,gA,gB,k1,k2,PX,sL,hw3,d1,d2,dM]
 |(with_reducible refine CU (dU _) ?_)
 |(with_reducible refine CU (f1 (by with_unfolding_all rfl) (by with_unfolding_all rfl)) ?_)
 |(with_reducible refine CU (f2 (by with_unfolding_all rfl) (by with_unfolding_all rfl)) ?_)
 | (with_reducible refine aI hQ ?_;exact bA))
    refine fi 2 3 ?_ ?_ (IH (rest,k+1,_) ⟨g2,h2,by dsimp only;rw[hl];omega⟩ (Nat.lt_succ_self _))
    ·(simp only[go_sem,hD,hZ,gA,gB,sL,k1,k2];try exact bY)
    ·(simp only[go_sem,hD,hZ,gA,gB,sL,k1,k2];try exact bY)
   ·have d2:(v.kind==6)=false:=by simp [VS]
    simp only[e1,d2,↓reduceIte,Bool.false_eq_true]at h2
    have f1:=fun {s:St} {o:Nat}=>@ih v.aP proc ((df.length:Int)+1) ((df.length:Int)+1+(v.iF:Int)) loop (df++ [⟨v,proc,up,((df.length:Int)+1+(v.iF:Int)),loop⟩]) g ps lo hi b c Ak (by simp;omega) hg hp s o
    have f2:=fun {s:St} {o:Nat}=>@ih v.aM proc ((df.length:Int)+1) ((df.length:Int)+1+(v.iF:Int)) loop _ g ps lo hi b c L3 (by rw[iN proc ((df.length:Int)+1) ((df.length:Int)+1+(v.iF:Int)) loop (df++ [⟨v,proc,up,((df.length:Int)+1+(v.iF:Int)),loop⟩]) v.aP];simp;omega) hg hp s o
    have hl:(Im.rows proc ((df.length:Int)+1) ((df.length:Int)+1+(v.iF:Int)) loop (Im.rows proc ((df.length:Int)+1) ((df.length:Int)+1+(v.iF:Int)) loop (df++ [⟨v,proc,up,((df.length:Int)+1+(v.iF:Int)),loop⟩]) v.aP) v.aM).length=df.length+v.iF:=by rw[iN,iN];simp;omega
    simp only[jN,List.map_append,List.map_cons,List.map_nil,Td,List.length_append,List.length_cons,List.length_nil]at f1
    repeat' (first
 |simp only[go_sem,hD,hZ,gA,gB,k1,k2,PX,sL,hw3,d1,d2,dM]
 |(with_reducible refine CU (dU _) ?_)
 |(with_reducible refine CU (f1 (by with_unfolding_all rfl) (by with_unfolding_all rfl)) ?_)
 |(with_reducible refine CU (f2 (by with_unfolding_all rfl) (by with_unfolding_all rfl)) ?_)
 | (with_reducible refine aI hQ ?_;exact bA))
    refine fi 2 3 ?_ ?_ (IH (rest,k+1,_) ⟨g2,h2,by dsimp only;rw[hl];omega⟩ (Nat.lt_succ_self _))
    ·(simp only[go_sem,hD,hZ,gA,gB,sL,k1,k2];try exact bY)
    ·(simp only[go_sem,hD,hZ,gA,gB,sL,k1,k2];try exact bY)
  ·have d1:decide (((k+1:Nat):Int)<(l.length:Int))=false:=by simp;omega
   have e1:(rest.length=0)=True:=by simp only[eq_iff_iff,iff_true];omega
   by_cases VS:v.kind=6
   ·have d2:(v.kind==6)=true:=by simp [VS]
    simp only[e1,d2,↓reduceIte,Bool.false_eq_true]at h2
    have f1:=fun {s:St} {o:Nat}=>@ih v.aP proc ((df.length:Int)+1) ((df.length:Int)+1) ((df.length:Int)+1) (df++ [⟨v,proc,up,next,loop⟩]) g ps lo hi b c Ak (by simp;omega) hg hp s o
    have f2:=fun {s:St} {o:Nat}=>@ih v.aM proc ((df.length:Int)+1) ((df.length:Int)+1) ((df.length:Int)+1) _ g ps lo hi b c L3 (by rw[iN proc ((df.length:Int)+1) ((df.length:Int)+1) ((df.length:Int)+1) (df++ [⟨v,proc,up,next,loop⟩]) v.aP];simp;omega) hg hp s o
    have hl:(Im.rows proc ((df.length:Int)+1) ((df.length:Int)+1) ((df.length:Int)+1) (Im.rows proc ((df.length:Int)+1) ((df.length:Int)+1) ((df.length:Int)+1) (df++ [⟨v,proc,up,next,loop⟩]) v.aP) v.aM).length=df.length+v.iF:=by rw[iN,iN];simp;omega
    simp only[jN,List.map_append,List.map_cons,List.map_nil,Td,List.length_append,List.length_cons,List.length_nil]at f1
    repeat' (first
 |simp only[go_sem,hD,hZ,gA,gB,k1,k2,PX,sL,hw3,d1,d2,dM]
 |(with_reducible refine CU (dU _) ?_)
 |(with_reducible refine CU (f1 (by with_unfolding_all rfl) (by with_unfolding_all rfl)) ?_)
 |(with_reducible refine CU (f2 (by with_unfolding_all rfl) (by with_unfolding_all rfl)) ?_)
 | (with_reducible refine aI hQ ?_;exact bA))
    refine fi 2 3 ?_ ?_ (IH (rest,k+1,_) ⟨g2,h2,by dsimp only;rw[hl];omega⟩ (Nat.lt_succ_self _))
    ·(simp only[go_sem,hD,hZ,gA,gB,sL,k1,k2];try exact bY)
    ·(simp only[go_sem,hD,hZ,gA,gB,sL,k1,k2];try exact bY)
   ·have d2:(v.kind==6)=false:=by simp [VS]
    simp only[e1,d2,↓reduceIte,Bool.false_eq_true]at h2
    have f1:=fun {s:St} {o:Nat}=>@ih v.aP proc ((df.length:Int)+1) next loop (df++ [⟨v,proc,up,next,loop⟩]) g ps lo hi b c Ak (by simp;omega) hg hp s o
    have f2:=fun {s:St} {o:Nat}=>@ih v.aM proc ((df.length:Int)+1) next loop _ g ps lo hi b c L3 (by rw[iN proc ((df.length:Int)+1) next loop (df++ [⟨v,proc,up,next,loop⟩]) v.aP];simp;omega) hg hp s o
    have hl:(Im.rows proc ((df.length:Int)+1) next loop (Im.rows proc ((df.length:Int)+1) next loop (df++ [⟨v,proc,up,next,loop⟩]) v.aP) v.aM).length=df.length+v.iF:=by rw[iN,iN];simp;omega
    simp only[jN,List.map_append,List.map_cons,List.map_nil,Td,List.length_append,List.length_cons,List.length_nil]at f1
    repeat' (first
 |simp only[go_sem,hD,hZ,gA,gB,k1,k2,PX,sL,hw3,d1,d2,dM]
 |(with_reducible refine CU (dU _) ?_)
 |(with_reducible refine CU (f1 (by with_unfolding_all rfl) (by with_unfolding_all rfl)) ?_)
 |(with_reducible refine CU (f2 (by with_unfolding_all rfl) (by with_unfolding_all rfl)) ?_)
 | (with_reducible refine aI hQ ?_;exact bA))
    refine fi 2 3 ?_ ?_ (IH (rest,k+1,_) ⟨g2,h2,by dsimp only;rw[hl];omega⟩ (Nat.lt_succ_self _))
    ·(simp only[go_sem,hD,hZ,gA,gB,sL,k1,k2];try exact bY)
    ·(simp only[go_sem,hD,hZ,gA,gB,sL,k1,k2];try exact bY)
theorem ad6 : ∀ N,N<1000000000→acb N:=by
 intro N
 induction N with
 |zero=>exact fun _ l proc up next loop out g ps lo hi b c h=>absurd h (Nat.not_lt_zero _)
 |succ N ih=>
  intro h l proc up next loop out g ps lo hi b c hs hc hg hp s o ho ht
  exact(alY (ih (by omega)) hs hc hg hp (by omega)).alX (by simp[D.bM,D.ok,Tag.ok,nF,D.jb]) hg hp ho ht
def gj (p:Pg):List D:= [.slice .shared 1 (p.globals.map encStr), .slice .shared 5 (p.procs.map bN), .slice .shared 17 (p.aZ.L.map dP), .slice .shared 1 (p.aZ.lo.map cR), .slice .shared 1 (p.aZ.hi.map cR)]
theorem pE (p:Pg):gj p = [.slice .shared 1 (p.globals.map encStr), .slice .shared 5 (p.procs.map bN), .slice .shared 17 (p.aZ.L.map dP), .slice .shared 1 (p.aZ.lo.map cR), .slice .shared 1 (p.aZ.hi.map cR)]:=nd rfl
theorem wi (p:Pg):D.bM 0 0 (gj p)=true:=by simp[gj,D.bM,D.ok,Tag.ok,fI,yz,Lp,jH]
theorem Hn (p:Pg):bO p = [.slice .shared 1 (p.globals.map encStr), .slice .shared 5 (p.procs.map bN)]:=nd rfl
theorem alZ {p:Pg} (hs:Pc.a7 p.procs<1000000000):aH Tryz.prog lT [.agg (bO p)] S0 (.ptr 1 0) ⟨[bO p,jN (.slice .shared 1 (p.globals.map encStr)) (.slice .shared 5 (p.procs.map bN)) p.aZ.L p.aZ.lo p.aZ.hi],[some p.aZ.L.length,some p.aZ.lo.length,some p.aZ.hi.length]⟩:=by
 have hlen:p.procs.length<1000000000:=by have:=Pc.dQ p.procs;omega
 obtain⟨R,hR⟩ : ∃ R,R=p.aZ:=⟨_,rfl⟩
 have hR':=hR
 unfold Pg.aZ at hR'
 unfold S0
 rw[Hn, ← hR]
 refine aH.goK 2 3 (Nat.zero_le _) (Nat.zero_le _) MU rfl fun B Q hB hQ=>?_
 have⟨hD,hZ,gA,gB⟩:=bX
 repeat' (first
 |simp only[go_sem,hD,hZ,gA,gB,Hn]
 |(with_reducible refine aI hQ ?_;exact bA))
 refine bp.zz 1 2 17 rfl rfl ?_
 simp only[go_sem,hD,hZ,gA,gB]
 refine bp.zz 1 3 1 rfl rfl ?_
 simp only[go_sem,hD,hZ,gA,gB]
 refine bp.zz 1 4 1 rfl rfl ?_
 simp only[go_sem,hD,hZ,gA,gB]
 refine fi 2 3 ?_ ?_ (bp.ind (ι:=List Pc×Nat×Sh×Nat×Nat) (fun i=>p.procs.drop i.2.1=i.1∧Sh.go i.2.1 i.2.2.1 i.1=R∧i.2.2.1.L.length+Pc.a7 i.1≤Pc.a7 p.procs∧i.2.2.1.lo.length=i.2.1∧i.2.2.1.hi.length=i.2.1∧i.2.2.2.1=i.2.2.1.lo.length∧i.2.2.2.2=i.2.2.1.hi.length) (fun i=>i.1.length)
  (fun i=> [(1, .ptr 0 0),(3, .ptr 1 0),(10, .slice .shared 5 (p.procs.map bN)),(11, .int .i64 (p.procs.length:Int)),(12, .int .i64 (i.2.1:Int))]) (fun i=>⟨[[.slice .shared 1 (p.globals.map encStr), .slice .shared 5 (p.procs.map bN)],jN (.slice .shared 1 (p.globals.map encStr)) (.slice .shared 5 (p.procs.map bN)) i.2.2.1.L i.2.2.1.lo i.2.2.1.hi],[some i.2.2.1.L.length,some i.2.2.2.1,some i.2.2.2.2]⟩) ?_ (p.procs,0,⟨[],[],[]⟩,0,0) ⟨rfl,hR'.symm,by simp,rfl,rfl,rfl,rfl⟩)
 ·(simp only[go_sem,hD,hZ,gA,gB,jN];try exact bY)
 ·(simp only[go_sem,hD,hZ,gA,gB,jN];try exact bY)
 rintro⟨rest,k,h,n1,n2⟩ ⟨h1,h2,h3,h4,h5,h6,h7⟩ IH
 dsimp only at h1 h2 h3 h4 h5 h6 h7
 subst h6 h7
 cases rest with
 |nil=>
  have hD:=drop_nil h1
  simp only[Sh.go]at h2
  rw[← h2]at hQ
  repeat' (first
 |simp only[go_sem,hD,hZ,gA,gB,jN]
 |(with_reducible refine aI hQ ?_;exact bA))
 |cons f rest=>
  obtain⟨hZ,g2,hD,g4⟩:=drop_cons h1
  have cu:k<4611686018427387904:=by omega
  simp only[Pc.a7,Pc.size]at h3
  simp only[Sh.go]at h2
  have c1:=pd f.body
  have gA:(h.lo.length+1)*9≤bq:=by unfold bq;omega
  have atn:(h.hi.length+1)*9≤bq:=by unfold bq;omega
  have PX:IntKind.wrap .i64 ((h.L.length:Int)+1)=(h.L.length:Int)+1:=eB (by omega) (by omega)
  have hl:(Im.rows (k:Int) 0 (-1) 0 h.L f.body).length=h.L.length+Sm.gn f.body:=iN ..
  have sL:IntKind.wrap .i64 (((Im.rows (k:Int) 0 (-1) 0 h.L f.body).length:Int)+1)=((Im.rows (k:Int) 0 (-1) 0 h.L f.body).length:Int)+1:=eB (by omega) (by omega)
  have hr:=fun {s:St} {o:Nat}=>@ad6 (Sm.a7 f.body+1) (by omega) f.body (k:Int) 0 (-1) 0 h.L (.slice .shared 1 (p.globals.map encStr)) (.slice .shared 5 (p.procs.map bN)) (h.lo++ [(h.L.length:Int)+1]) h.hi (some (h.lo.length+1)) (some h.hi.length) (Nat.lt_succ_self _) (by omega) (by simp[D.ok,Tag.ok,fI]) (by simp[D.ok,Tag.ok,yz]) s o
  simp only[jN,List.map_append,List.map_cons,List.map_nil,cR]at hr
  repeat' (first
 |simp only[go_sem,hD,hZ,gA,gB,PX,sL,atn,jN]
 |(with_reducible refine CU (hr (by with_unfolding_all rfl) (by with_unfolding_all rfl)) ?_)
 |(with_reducible refine aI hQ ?_;exact bA))
  refine fi 2 3 ?_ ?_ (IH (rest,k+1,⟨Im.rows (k:Int) 0 (-1) 0 h.L f.body,h.lo++ [(h.L.length:Int)+1],h.hi++ [((Im.rows (k:Int) 0 (-1) 0 h.L f.body).length:Int)+1]⟩,_,_) ⟨g2,h2,by dsimp only;rw[hl];omega,by simp[h4],by simp[h5],by simp,by simp⟩ (Nat.lt_succ_self _))
  ·(simp only[go_sem,hD,hZ,gA,gB,jN,aN cu,List.map_append,List.map_cons,List.map_nil,cR];try exact bY)
  ·(simp only[go_sem,hD,hZ,gA,gB,jN,aN cu,List.map_append,List.map_cons,List.map_nil,cR];try exact bY)
theorem Ev {p:Pg} (hs:Pc.a7 p.procs<1000000000) (s:St):aH Tryz.prog lT [.agg (bO p)] s (.dR (gj p) 0) s:=by
 refine aH.pure ?_ (by simp only[D.bM,D.ok,iy];rfl) (by simp only[D.ok,wi]) s
 have h:=(alZ hs).CN (n:=0) (m:=0) rfl (Nat.le_refl _) (Nat.zero_le _) (Nat.le_refl _)
 simpa[D.iD,D.fg,Tag.fg,MD,abl,ab9,VR,St.cut,gj,S0]using h
def jV (x:aK) (k:Int):List aK→Int
 | []=> -1
 |s::l=>if x==s then k else jV x (k+1) l
def fC (l:List aK) (x:aK):Bool:=decide (jV x 0 l≥0)
def lX {α:Type} (b:α→Bool) (k:Int):List α→Int
 | []=> -1
 |s::l=>if b s then k else lX b (k+1) l
theorem PY (x:aK) : ∀ (l:List aK) (k:Int),0≤k→(jV x k l≥0↔x∈l)
 | [],k,h=>by simp[jV]
 | s::l,k,h=>by
  by_cases e:x=s
  ·simp[jV,e];omega
  ·have e':(x==s)=false:=by simp [e]
   simp only[jV,e',Bool.false_eq_true,if_false,List.mem_cons,e,false_or]
   exact PY x l (k+1) (by omega)
theorem fy (l:List aK) (x:aK):fC l x=true↔x∈l:=by
 simp only[fC,decide_eq_true_eq];exact PY x l 0 (Int.le_refl 0)
theorem I7 {α:Type} (b:α→Bool) : ∀ (l:List α) (k:Int),0≤k→(lX b k l≥0↔l.any b=true)
 | [],k,h=>by simp[lX]
 | s::l,k,h=>by
  by_cases e:b s=true
  ·simp[lX,e];omega
  ·have e':b s=false:=by simpa using e
   simp only[lX,e',Bool.false_eq_true,if_false,List.any_cons,Bool.or_eq_true,false_or]
   exact I7 b l (k+1) (by omega)
theorem Ew {l:List aK} (hl:l.length<4611686018427387904) (x:aK) (s:St):aH Tryz.prog gY [.slice .shared 1 (l.map encStr), .str x] s (.int .i64 (jV x 0 l)) s:=by
 refine aH.pure ?_ (by simp[D.bM,D.ok,Tag.ok,fI]) rfl s
 generalize h:jV x 0 l=p
 unfold S0
 refine aH.go yd rfl fun B Q hB hQ=>?_
 have⟨hD,hZ,gA,gB⟩:=bX
 repeat' (first
 |simp only[go_sem,hD,hZ,gA,gB]
 |(with_reducible first|refine bt fun hc=>?_|refine bu fun hc=>?_|refine bx (fun hc=>?_) fun hc=>?_)<;>(try simp only[hc,bs,↓reduceIte]at h)<;>try simp only[hc]
 |(with_reducible refine aI hQ ?_;exact fS))
 refine fG 0 0 (bp.ind (ι:=List aK×Nat) (fun i=>l.drop i.2=i.1∧jV x (i.2:Int) i.1=p) (fun i=>i.1.length)
  (fun i=> [(0, .slice .shared 1 (l.map encStr)),(1, .str x),(7, .int .i64 (l.length:Int)),(8, .int .i64 (i.2:Int))]) (fun i=>⟨[],[]⟩) ?_ (l,0) ⟨rfl,h⟩)
 rintro⟨rest,k⟩ ⟨h1,h⟩ IH
 dsimp only at h1 h
 cases rest with
 |nil=>
  have hD:=drop_nil h1
  simp only[jV]at h
  repeat' (first
 |simp only[go_sem,hD,hZ,gA,gB]
 |(with_reducible first|refine bt fun hc=>?_|refine bu fun hc=>?_|refine bx (fun hc=>?_) fun hc=>?_)<;>(try simp only[hc,bs,↓reduceIte]at h)<;>try simp only[hc]
 |(with_reducible refine aI hQ ?_;exact fS))
 |cons a rest=>
  obtain⟨hZ,g2,hD,g4⟩:=drop_cons h1
  have cu:k<4611686018427387904:=by omega
  simp only[jV]at h
  repeat' (first
 |simp only[go_sem,hD,hZ,gA,gB]
 |(with_reducible first|refine bt fun hc=>?_|refine bu fun hc=>?_|refine bx (fun hc=>?_) fun hc=>?_)<;>(try simp only[hc,bs,↓reduceIte]at h)<;>try simp only[hc]
 |(with_reducible refine aI hQ ?_;exact fS))
  refine fi 0 0 ?_ ?_ (IH (rest,k+1) ⟨g2,h⟩ (Nat.lt_succ_self _))
  ·(simp only[go_sem,hD,hZ,gA,gB,aN cu];try exact bY)
  ·(simp only[go_sem,hD,hZ,gA,gB,aN cu];try exact bY)
theorem tB {l:List aK} (hl:l.length<4611686018427387904) (x:aK) (s:St):aH Tryz.prog cT [.slice .shared 1 (l.map encStr), .str x] s (.bool (fC l x)) s:=by
 refine aH.pure ?_ (by simp[D.bM,D.ok,Tag.ok,fI]) rfl s
 have hi:=fun s=>Ew hl x s
 unfold S0
 refine aH.go wg rfl fun B Q hB hQ=>?_
 have⟨hD,hZ,gA,gB⟩:=bX
 repeat' (first
 |simp only[go_sem,hD,hZ,gA,gB,fC]
 |(with_reducible refine CU (hi _) ?_)
 |(with_reducible first|refine bt fun hc=>?_|refine bu fun hc=>?_|refine bx (fun hc=>?_) fun hc=>?_)<;>(try simp only[hc,bs,↓reduceIte]at h)<;>try simp only[hc]
 |(with_reducible refine aI hQ ?_;simp only[bh,bj,bP,bQ,go_sem,hD,hZ,gA,gB,fC];try exact cO))
theorem aH.wk1 {P:Program} {f:Nat} {d d':D} {r:List D} {s s':St} {x:D} (h:aH P f (d'::r) s x s') (hw:Wk d d'):aH P f (d::r) s x s':=bV.qA (.cons hw (kh.refl r)) h
theorem kv {l:List aK} (hl:l.length<4611686018427387904) (x:aK) (g:Tag) (s:St):aH Tryz.prog cT [.slice g 1 (l.map encStr), .str x] s (.bool (fC l x)) s:=
 (tB hl x s).wk1 (Wk.shared _ _ _)
theorem M6 (x:aK) (z:Nat) (g:Tag) (s:St):aH Tryz.prog cT [.slice g z [], .str x] s (.bool false) s:=
 (tB (l:= []) (by simp) x s).wk1 (Wk.nil _ _ _)
theorem DE {l:List aK} (hl:l.length<4611686018427387904) {f:Nat} {row:List D} {b:aK→Bool} (wB:D.bM 0 0 row=true) (he:enters Tryz.prog f=true)
 (hb : ∀ x∈l,aH Tryz.prog f ([.str x]++ [.ptr 0 0]) ⟨[row],[]⟩ (.bool (b x)) ⟨[row],[]⟩) :
 aH Tryz.prog lU [.slice .shared 1 (l.map encStr), .ij f [.ptr 0 0]] ⟨[row],[]⟩ (.int .i64 (lX b 0 l)) ⟨[row],[]⟩:=by
 generalize h:lX b 0 l=p
 have k1 : ∀ n m,D.iD n m row=row:=fun n m=>jg n m _ wB
 refine aH.go vH rfl fun B Q hB hQ=>?_
 have⟨hD,hZ,gA,gB⟩:=bX
 repeat' (first
 |simp only[go_sem,hD,hZ,gA,gB,k1]
 |(with_reducible first|refine bt fun hc=>?_|refine bu fun hc=>?_|refine bx (fun hc=>?_) fun hc=>?_)<;>(try simp only[hc,bs,↓reduceIte]at h)<;>try simp only[hc]
 |(with_reducible refine aI hQ ?_;(try cases h);simp only[bh,bj,bP,bQ,go_sem,hD,hZ,gA,gB,k1];try exact cO))
 refine fi 1 0 ?_ ?_ (bp.ind (ι:=List aK×Nat) (fun i=>l.drop i.2=i.1∧lX b (i.2:Int) i.1=p) (fun i=>i.1.length)
  (fun i=> [(0, .slice .shared 1 (l.map encStr)),(1, .ij f [.ptr 0 0]),(7, .int .i64 (l.length:Int)),(8, .int .i64 (i.2:Int))]) (fun i=>⟨[row],[]⟩) ?_ (l,0) ⟨rfl,h⟩)
 ·(simp only[go_sem,hD,hZ,gA,gB,k1];try exact bY)
 ·(simp only[go_sem,hD,hZ,gA,gB,k1];try exact bY)
 rintro⟨rest,k⟩ ⟨h1,h⟩ IH
 dsimp only at h1 h
 cases rest with
 |nil=>
  have hD:=drop_nil h1
  simp only[lX]at h
  repeat' (first
 |simp only[go_sem,hD,hZ,gA,gB,k1]
 |(with_reducible first|refine bt fun hc=>?_|refine bu fun hc=>?_|refine bx (fun hc=>?_) fun hc=>?_)<;>(try simp only[hc,bs,↓reduceIte]at h)<;>try simp only[hc]
 |(with_reducible refine aI hQ ?_;(try cases h);simp only[bh,bj,bP,bQ,go_sem,hD,hZ,gA,gB,k1];try exact cO))
 |cons a rest=>
  obtain⟨hZ,g2,hD,g4⟩:=drop_cons h1
  have cu:k<4611686018427387904:=by omega
  have hba:=hb a (List.mem_of_getElem? hZ)
  simp only[lX]at h
  repeat' (first
 |simp only[go_sem,hD,hZ,gA,gB,k1]
 |(with_reducible refine CV.use (he) (hba) ?_)
 |(with_reducible first|refine bt fun hc=>?_|refine bu fun hc=>?_|refine bx (fun hc=>?_) fun hc=>?_)<;>(try simp only[hc,bs,↓reduceIte]at h)<;>try simp only[hc]
 |(with_reducible refine aI hQ ?_;(try cases h);simp only[bh,bj,bP,bQ,go_sem,hD,hZ,gA,gB,k1];try exact cO))
  refine fi 1 0 ?_ ?_ (IH (rest,k+1) ⟨g2,h⟩ (Nat.lt_succ_self _))
  ·(simp only[go_sem,hD,hZ,gA,gB,k1,aN cu];try exact bY)
  ·(simp only[go_sem,hD,hZ,gA,gB,k1,aN cu];try exact bY)
theorem DF {P:Program} {g f:Nat} {row:List D} {rows:List (List D)} {z:Nat} {d:D} (h:aH P g [.slice .shared z rows, .ij f [.ptr 0 0]] ⟨[row],[]⟩ d ⟨[row],[]⟩) (wB:D.bM 0 0 row=true) (hw:D.jb 0 0 rows=true) (hd:D.ok 0 0 d=true) {s:St} {o:Nat} (ho:s.al[o]? = some row) :
 aH P g [.slice .shared z rows, .ij f [.ptr o 0]] s d s:=by
 refine bV.frame [o] [] h (by simp) List.nodup_nil (by simpa using (List.getElem?_eq_some_iff.1 ho).1) (by simp) rfl (fun i o' ds e1 e2=>?_) rfl (by simp) (by simp[D.fa,D.cU,Tag.cU,jY _ _ _ hw])
  (by simp[D.bM,D.ok,Tag.ok,nN (Nat.zero_le 1) (Nat.le_refl 0) _ hw]) ?_
 ·cases i with
  |zero=>simp at e1 e2;subst e1;subst e2;exact⟨by rw[fV _ _ _ wB];exact ho,jr (Nat.zero_le 1) (Nat.le_refl 0) _ wB⟩
  |succ i=>simp at e1
 ·rintro _ _ ⟨rfl,rfl⟩
  refine⟨sn _ _ _ hd, ?_⟩
  have:s.al.set o row=s.al:=by
   apply List.ext_getElem?
   intro i
   rw[List.getElem?_set]
   split
   ·rename_i e;subst e;rw [ho];split
    ·rfl
    ·rename_i hh;exact absurd (List.getElem?_eq_some_iff.1 ho).1 hh
   ·rfl
  simp[St.back,lq,fV _ _ _ wB,this]
theorem AQ {l:List aK} (hl:l.length<4611686018427387904) {f:Nat} {row:List D} {b:aK→Bool} (wB:D.bM 0 0 row=true) (he:enters Tryz.prog f=true)
 (hb : ∀ x∈l,aH Tryz.prog f ([.str x]++ [.ptr 0 0]) ⟨[row],[]⟩ (.bool (b x)) ⟨[row],[]⟩) :
 aH Tryz.prog gZ [.slice .shared 1 (l.map encStr), .ij f [.ptr 0 0]] ⟨[row],[]⟩ (.bool (l.any b)) ⟨[row],[]⟩:=by
 have k1 : ∀ n m,D.iD n m row=row:=fun n m=>jg n m _ wB
 have hi:=DE hl wB he hb
 have e:decide (lX b 0 l≥0)=l.any b:=by
  have:=I7 b l 0 (Int.le_refl 0)
  cases hh:l.any b<;>simp_all
 refine aH.go tA rfl fun B Q hB hQ=>?_
 have⟨hD,hZ,gA,gB⟩:=bX
 repeat' (first
 |simp only[go_sem,hD,hZ,gA,gB,k1,e]
 |(with_reducible refine CU (hi) ?_)
 |(with_reducible first|refine bt fun hc=>?_|refine bu fun hc=>?_|refine bx (fun hc=>?_) fun hc=>?_)<;>(try simp only[hc,bs,↓reduceIte]at h)<;>try simp only[hc]
 |(with_reducible refine aI hQ ?_;simp only[bh,bj,bP,bQ,go_sem,hD,hZ,gA,gB,k1,e];try exact cO))
theorem AR {l:List aK} (hl:l.length<4611686018427387904) {f:Nat} {row:List D} {b:aK→Bool} (wB:D.bM 0 0 row=true) (he:enters Tryz.prog f=true)
 (hb : ∀ x∈l,aH Tryz.prog f ([.str x]++ [.ptr 0 0]) ⟨[row],[]⟩ (.bool (b x)) ⟨[row],[]⟩) {s:St} {o:Nat} (ho:s.al[o]? = some row) :
 aH Tryz.prog gZ [.slice .shared 1 (l.map encStr), .ij f [.ptr o 0]] s (.bool (l.any b)) s:=
 DF (AQ hl wB he hb) wB (fI l) rfl ho
theorem xH {l:List Pc} (hl:l.length<4611686018427387904) {f:Nat} {row:List D} {b:Pc→Bool} (wB:D.bM 0 0 row=true) (he:enters Tryz.prog f=true)
 (hb : ∀ x∈l,aH Tryz.prog f ([.agg (bN x)]++ [.ptr 0 0]) ⟨[row],[]⟩ (.bool (b x)) ⟨[row],[]⟩) :
 aH Tryz.prog iu [.slice .shared 5 (l.map bN), .ij f [.ptr 0 0]] ⟨[row],[]⟩ (.int .i64 (lX b 0 l)) ⟨[row],[]⟩:=by
 generalize h:lX b 0 l=p
 have k1 : ∀ n m,D.iD n m row=row:=fun n m=>jg n m _ wB
 refine aH.go uf rfl fun B Q hB hQ=>?_
 have⟨hD,hZ,gA,gB⟩:=bX
 repeat' (first
 |simp only[go_sem,hD,hZ,gA,gB,k1]
 |(with_reducible first|refine bt fun hc=>?_|refine bu fun hc=>?_|refine bx (fun hc=>?_) fun hc=>?_)<;>(try simp only[hc,bs,↓reduceIte]at h)<;>try simp only[hc]
 |(with_reducible refine aI hQ ?_;(try cases h);simp only[bh,bj,bP,bQ,go_sem,hD,hZ,gA,gB,k1];try exact cO))
 refine fi 1 0 ?_ ?_ (bp.ind (ι:=List Pc×Nat) (fun i=>l.drop i.2=i.1∧lX b (i.2:Int) i.1=p) (fun i=>i.1.length)
  (fun i=> [(0, .slice .shared 5 (l.map bN)),(1, .ij f [.ptr 0 0]),(7, .int .i64 (l.length:Int)),(8, .int .i64 (i.2:Int))]) (fun i=>⟨[row],[]⟩) ?_ (l,0) ⟨rfl,h⟩)
 ·(simp only[go_sem,hD,hZ,gA,gB,k1];try exact bY)
 ·(simp only[go_sem,hD,hZ,gA,gB,k1];try exact bY)
 rintro⟨rest,k⟩ ⟨h1,h⟩ IH
 dsimp only at h1 h
 cases rest with
 |nil=>
  have hD:=drop_nil h1
  simp only[lX]at h
  repeat' (first
 |simp only[go_sem,hD,hZ,gA,gB,k1]
 |(with_reducible first|refine bt fun hc=>?_|refine bu fun hc=>?_|refine bx (fun hc=>?_) fun hc=>?_)<;>(try simp only[hc,bs,↓reduceIte]at h)<;>try simp only[hc]
 |(with_reducible refine aI hQ ?_;(try cases h);simp only[bh,bj,bP,bQ,go_sem,hD,hZ,gA,gB,k1];try exact cO))
 |cons a rest=>
  obtain⟨hZ,g2,hD,g4⟩:=drop_cons h1
  have cu:k<4611686018427387904:=by omega
  have hba:=hb a (List.mem_of_getElem? hZ)
  simp only[lX]at h
  repeat' (first
 |simp only[go_sem,hD,hZ,gA,gB,k1]
 |(with_reducible refine CV.use (he) (hba) ?_)
 |(with_reducible first|refine bt fun hc=>?_|refine bu fun hc=>?_|refine bx (fun hc=>?_) fun hc=>?_)<;>(try simp only[hc,bs,↓reduceIte]at h)<;>try simp only[hc]
 |(with_reducible refine aI hQ ?_;(try cases h);simp only[bh,bj,bP,bQ,go_sem,hD,hZ,gA,gB,k1];try exact cO))
  refine fi 1 0 ?_ ?_ (IH (rest,k+1) ⟨g2,h⟩ (Nat.lt_succ_self _))
  ·(simp only[go_sem,hD,hZ,gA,gB,k1,aN cu];try exact bY)
  ·(simp only[go_sem,hD,hZ,gA,gB,k1,aN cu];try exact bY)
theorem CF {l:List Pc} (hl:l.length<4611686018427387904) {f:Nat} {row:List D} {b:Pc→Bool} (wB:D.bM 0 0 row=true) (he:enters Tryz.prog f=true)
 (hb : ∀ x∈l,aH Tryz.prog f ([.agg (bN x)]++ [.ptr 0 0]) ⟨[row],[]⟩ (.bool (b x)) ⟨[row],[]⟩) :
 aH Tryz.prog iW [.slice .shared 5 (l.map bN), .ij f [.ptr 0 0]] ⟨[row],[]⟩ (.bool (l.any b)) ⟨[row],[]⟩:=by
 have k1 : ∀ n m,D.iD n m row=row:=fun n m=>jg n m _ wB
 have hi:=xH hl wB he hb
 have e:decide (lX b 0 l≥0)=l.any b:=by
  have:=I7 b l 0 (Int.le_refl 0)
  cases hh:l.any b<;>simp_all
 refine aH.go sv rfl fun B Q hB hQ=>?_
 have⟨hD,hZ,gA,gB⟩:=bX
 repeat' (first
 |simp only[go_sem,hD,hZ,gA,gB,k1,e]
 |(with_reducible refine CU (hi) ?_)
 |(with_reducible first|refine bt fun hc=>?_|refine bu fun hc=>?_|refine bx (fun hc=>?_) fun hc=>?_)<;>(try simp only[hc,bs,↓reduceIte]at h)<;>try simp only[hc]
 |(with_reducible refine aI hQ ?_;simp only[bh,bj,bP,bQ,go_sem,hD,hZ,gA,gB,k1,e];try exact cO))
mutual
def Sm.pre:Sm→List Sm
 |⟨id,kind,labels,name,pc,x,has,args,aP,aM⟩=>⟨id,kind,labels,name,pc,x,has,args,aP,aM⟩::(Sm.cf aP++Sm.cf aM)
def Sm.cf:List Sm→List Sm
 | []=> []
 |s::l=>s.pre++Sm.cf l
end
def Pg.pre (p:Pg):List Sm:=(p.procs.map fun f=>Sm.cf f.body).flatten
theorem Sm.lz (s:Sm):s.pre=s::(Sm.cf s.aP++Sm.cf s.aM):=by cases s;simp only[Sm.pre]
mutual
theorem ad7 (proc up next loop:Int) (out:List Im) : ∀ s:Sm,∃ e:List Im,Im.one proc up next loop out s=out++e∧e.map Im.s=s.pre
 |⟨id,kind,labels,name,pc,x,has,args,aP,aM⟩=>by
  simp only[Im.one,Sm.pre]
  obtain⟨e1,h1,k1⟩:=Bv proc ((out.length:Int)+1) (if kind==6 then(out.length:Int)+1 else next) (if kind==6 then(out.length:Int)+1 else loop) (out++ [⟨⟨id,kind,labels,name,pc,x,has,args,aP,aM⟩,proc,up,next,loop⟩]) aP
  obtain⟨e2,h2,k2⟩:=Bv proc ((out.length:Int)+1) (if kind==6 then(out.length:Int)+1 else next) (if kind==6 then(out.length:Int)+1 else loop) (Im.rows proc ((out.length:Int)+1) (if kind==6 then(out.length:Int)+1 else next) (if kind==6 then(out.length:Int)+1 else loop) (out++ [⟨⟨id,kind,labels,name,pc,x,has,args,aP,aM⟩,proc,up,next,loop⟩]) aP) aM
  refine⟨⟨⟨id,kind,labels,name,pc,x,has,args,aP,aM⟩,proc,up,next,loop⟩::(e1++e2), ?_, ?_⟩
  ·rw[h2,h1];simp
  ·simp[k1,k2]
theorem Bv (proc up next loop:Int) (out:List Im) : ∀ l:List Sm,∃ e:List Im,Im.rows proc up next loop out l=out++e∧e.map Im.s=Sm.cf l
 | []=>⟨[],by simp[Im.rows],rfl⟩
 |s::l=>by
  simp only[Im.rows,Sm.cf]
  obtain⟨e1,h1,k1⟩:=ad7 proc up (if l.length=0 then next else(out.length:Int)+1+(s.iF:Int)) loop out s
  obtain⟨e2,h2,k2⟩:=Bv proc up next loop (Im.one proc up (if l.length=0 then next else(out.length:Int)+1+(s.iF:Int)) loop out s) l
  refine⟨e1++e2, ?_,by simp[k1,k2]⟩
  rw[h2,h1];simp
end
theorem VT : ∀ (l:List Pc) (n:Nat) (h:Sh),h.lo.length=n→h.hi.length=n→
 ∃ e lo hi,Sh.go n h l = ⟨h.L++e,h.lo++lo,h.hi++hi⟩∧e.map Im.s=(l.map fun f=>Sm.cf f.body).flatten∧lo.length=l.length∧hi.length=l.length∧
  ∀ (i:Nat) (f:Pc),l[i]? = some f→∃ a b e' Pz:List Im,lo[i]? = some (((h.L++a).length:Int)+1)∧hi[i]? = some (((h.L++a++b).length:Int)+1)∧b.map Im.s=Sm.cf f.body∧e=a++b++e'
 | [],n,h,hl,hh=>⟨[],[],[],by simp[Sh.go],rfl,rfl,rfl,fun i f h=>by simp at h⟩
 | f::l,n,h,hl,hh=>by
  simp only[Sh.go]
  obtain⟨e1,h1,k1⟩:=Bv (n:Int) 0 (-1) 0 h.L f.body
  obtain⟨e2,lo,hi,h2,k2,h3,h4,h5⟩:=VT l (n+1) ⟨Im.rows (n:Int) 0 (-1) 0 h.L f.body,h.lo++ [(h.L.length:Int)+1],h.hi++ [((Im.rows (n:Int) 0 (-1) 0 h.L f.body).length:Int)+1]⟩ (by simp[hl]) (by simp[hh])
  refine⟨e1++e2,((h.L.length:Int)+1)::lo,(((Im.rows (n:Int) 0 (-1) 0 h.L f.body).length:Int)+1)::hi, ?_,by simp[k1,k2],by simp[h3],by simp[h4],fun i g iS=>?_⟩
  ·rw[h2,h1];simp
  ·cases i with
   |zero=>
    simp only[List.getElem?_cons_zero,Option.some.injEq]at iS
    subst iS
    exact⟨[],e1,e2,[],by simp,by rw[h1];simp,k1,by simp⟩
   |succ i=>
    simp only[List.getElem?_cons_succ]at iS
    obtain⟨a,b,e',Pz,g1,g2,g3,g4⟩:=h5 i g iS
    refine⟨e1++a,b,e',Pz, ?_, ?_,g3,by rw[g4];simp⟩
    ·rw[List.getElem?_cons_succ,g1,h1];simp
    ·rw[List.getElem?_cons_succ,g2,h1];simp
theorem kJ (p:Pg):p.aZ.L.map Im.s=p.pre∧∀ (i:Nat) (f:Pc),p.procs[i]? = some f→∃ a b e:List Im,p.aZ.lo[i]? = some ((a.length:Int)+1)∧p.aZ.hi[i]? = some (((a++b).length:Int)+1)∧b.map Im.s=Sm.cf f.body∧p.aZ.L=a++b++e:=by
 obtain⟨e,lo,hi,h1,h2,h3,h4,h5⟩:=VT p.procs 0 ⟨[],[],[]⟩ rfl rfl
 unfold Pg.aZ
 rw[h1]
 refine⟨by simpa[Pg.pre]using h2,fun i f hf=>?_⟩
 obtain⟨a,b,e',_,g1,g2,g3,g4⟩:=h5 i f hf
 exact⟨a,b,e',by simpa using g1,by simpa using g2,g3,by simpa using g4⟩
def Pg.at (p:Pg) (name:aK):Int:=lX (fun f:Pc=>f.name==name) 0 p.procs
theorem ad8 (name:aK) (f:Pc):aH Tryz.prog mU ([.agg (bN f)]++ [.ptr 0 0]) ⟨[[.str name]],[]⟩ (.bool (f.name==name)) ⟨[[.str name]],[]⟩:=by
 show aH Tryz.prog mU [.agg (bN f), .ptr 0 0] _ _ _
 refine aH.go Ay rfl fun B Q hB hQ=>?_
 have⟨hD,hZ,gA,gB⟩:=bX
 repeat' (first
 |simp only[go_sem,hD,hZ,gA,gB]
 |(with_reducible refine aI hQ ?_;exact bA))
theorem Ho {p:Pg} (hs:p.procs.length<4611686018427387904) (name:aK) (s:St):aH Tryz.prog jt [.dR (gj p) 0, .str name] s (.int .i64 (p.at name)) s:=by
 refine aH.pure ?_ (by simp[D.bM,D.ok,wi]) rfl s
 have hi:=fun {s:St} {o:Nat} (ho:s.al[o]? = some [.str name])=>DF (xH (l:=p.procs) (f:=mU) (row:= [.str name]) (b:=fun f:Pc=>f.name==name) hs rfl (by with_unfolding_all rfl) (fun x _=>ad8 name x)) rfl (yz _) rfl ho
 have iS:=fun {s:St} {o:Nat} (ho:s.al[o]? = some [.str name])=>(show aH Tryz.prog iu [.slice .shared 5 (p.procs.map bN), .ij 76 [.ptr o 0]] s (.int .i64 (p.at name)) s from hi ho)
 unfold S0
 rw[pE]
 refine aH.go CC rfl fun B Q hB hQ=>?_
 have⟨hD,hZ,gA,gB⟩:=bX
 repeat' (first
 |simp only[go_sem,hD,hZ,gA,gB]
 |(with_reducible refine CU (iS (by with_unfolding_all rfl)) ?_)
 |(with_reducible refine aI hQ ?_;exact bA))
theorem VU : ∀ (l:List Pc) (n:Nat) (h:Sh),(Sh.go n h l).L.length≤h.L.length+Pc.a7 l
 | [],n,h=>by simp[Sh.go]
 |f::l,n,h=>by
  simp only[Sh.go]
  refine Nat.le_trans (VU l _ _) ?_
  have:=iN (n:Int) 0 (-1) 0 h.L f.body
  have:=pd f.body
  simp only[Pc.a7,Pc.size];omega
theorem qJ (p:Pg):p.aZ.L.length≤Pc.a7 p.procs:=by have:=VU p.procs 0 ⟨[],[],[]⟩;simpa[Pg.aZ]using this
theorem ahG {p:Pg} {i:Nat} (hs:Pc.a7 p.procs<1000000000) {a b e:List Im} (h1:p.aZ.lo[i]? = some ((a.length:Int)+1)) (h2:p.aZ.hi[i]? = some (((a++b).length:Int)+1)) (h4:p.aZ.L=a++b++e) (s:St) :
 aH Tryz.prog iV [.dR (gj p) 0, .int .i64 (i:Int)] s (.slice .shared 17 (b.map dP)) s:=by
 refine aH.pure ?_ (by simp[D.bM,D.ok,wi]) (by simp[D.ok,Tag.ok,Lp]) s
 have hL:p.aZ.L.length<1000000000:=Nat.lt_of_le_of_lt (qJ p) hs
 have l1:(i:Int)<(p.aZ.lo.length:Int):=by have:=(List.getElem?_eq_some_iff.1 h1).1;omega
 have l2:(i:Int)<(p.aZ.hi.length:Int):=by have:=(List.getElem?_eq_some_iff.1 h2).1;omega
 have hab:a.length+b.length≤p.aZ.L.length:=by rw[h4];simp
 have w1:IntKind.wrap .i64 ((a.length:Int)+1 - 1)=(a.length:Int):=by rw[show(a.length:Int)+1 - 1=(a.length:Int) by omega];exact eB (by omega) (by omega)
 have w2:IntKind.wrap .i64 (((a.length+b.length:Nat):Int)+1 - 1)=((a.length+b.length:Nat):Int):=by rw[show((a.length+b.length:Nat):Int)+1 - 1=((a.length+b.length:Nat):Int) by omega];exact eB (by omega) (by omega)
 have c1:((a.length:Int)≤((a.length+b.length:Nat):Int))=True:=by simp only[eq_iff_iff,iff_true];omega
 have c2:(((a.length+b.length:Nat):Int)≤(p.aZ.L.length:Int))=True:=by simp only[eq_iff_iff,iff_true];omega
 have hb:List.drop a.length (List.take (a.length+b.length) (List.map dP p.aZ.L))=List.map dP b:=by rw[h4];simp[List.map_append,List.take_append,List.drop_append]
 unfold S0
 rw[pE]
 refine aH.go EY rfl fun B Q hB hQ=>?_
 have⟨hD,hZ,gA,gB⟩:=bX
 repeat' (first
 |simp only[go_sem,hD,hZ,gA,gB,h1,h2,List.length_append,w1,w2,c1,c2,or_true,true_and,and_self,ite_self,Int.toNat_natCast,hb]
 |(with_reducible first|refine bt fun hc=>?_|refine bu fun hc=>?_|refine bx (fun hc=>?_) fun hc=>?_)<;>(try simp only[hc,bs,↓reduceIte]at h)<;>try simp only[hc]
 |(with_reducible refine aI hQ ?_;(try cases h);simp only[bh,bj,bP,bQ,go_sem,hD,hZ,gA,gB,h1,h2,List.length_append,w1,w2,c1,c2,or_true,true_and,and_self,ite_self,Int.toNat_natCast,hb];try exact cO)
 |(cases h;done))
theorem Zl {p:Pg} {i:Nat} {f:Pc} (hf:p.procs[i]? = some f) (hs:Pc.a7 p.procs<1000000000) : ∃ it:List Im,it.map Im.s=Sm.cf f.body∧∀ s,aH Tryz.prog iV [.dR (gj p) 0, .int .i64 (i:Int)] s (.slice .shared 17 (it.map dP)) s:=by
 obtain⟨a,b,e,h1,h2,h3,h4⟩:=(kJ p).2 i f hf
 exact⟨b,h3,ahG hs h1 h2 h4⟩
theorem JU {r:aK} : Eu r=true↔qI r=r.length:=by
 induction r with
 |nil=>simp[Eu,qI]
 |cons c r ih=>
  simp only[Eu,qI]
  cases h1:DB c<;>cases h2:Hk c<;>simp[ih]
theorem DG (t:aK) (hl:t.length<4611686018427387904) (s:St):aH Tryz.prog pA [.str t] s (.bool (isName t)) s:=by
 refine aH.pure ?_ rfl rfl s
 have hr:=fun s=>alS (pos:=0) hl s
 simp only[List.drop_zero,Nat.zero_add]at hr
 unfold S0
 cases t with
 |nil=>
  have z:decide (((0:Nat):Int)<1)=true:=rfl
  have z':decide ((0:Int)<1)=true:=rfl
  have e:isName [] = false:=rfl
  rw[e]
  refine aH.go oG rfl fun B Q hB hQ=>?_
  have⟨hD,hZ,gA,gB⟩:=bX
  repeat' (first
 |simp only[go_sem,hD,hZ,gA,gB,z,z']
 |(with_reducible refine aI hQ ?_;exact bA))
 | cons c r=>
  have l1:decide (((r.length+1:Nat):Int)<1)=false:=by simp;omega
  generalize h:isName (c::r)=p
  simp only[isName]at h
  cases hL:DB c
  ·simp only [hL,Bool.not_false,Bool.or_true, ↓reduceIte]at h
   subst h
   by_cases c8:decide (((r.length+1:Nat):Int) > 8)=true
   ·refine aH.go oG rfl fun B Q hB hQ=> ?_
    have⟨hD,hZ,gA,gB⟩:=bX
    repeat' (first
 |simp only[go_sem,hD,hZ,gA,gB,l1,c8]
 | (with_reducible refine aI hQ ?_;exact bA))
   ·have c8:decide (((r.length+1:Nat):Int) > 8)=false:=by simpa using c8
    refine aH.go oG rfl fun B Q hB hQ=>?_
    have⟨hD,hZ,gA,gB⟩:=bX
    repeat' (first
 |simp only[go_sem,hD,hZ,gA,gB,l1,c8,hL]
 |(with_reducible refine CU (uJ _ _) ?_)
 | (with_reducible refine aI hQ ?_;exact bA))
  ·simp only [hL,Bool.not_true,Bool.or_false]at h
   by_cases c8:decide (((r.length+1:Nat):Int) > 8)=true
   ·simp only [c8, ↓reduceIte]at h
    subst h
    refine aH.go oG rfl fun B Q hB hQ=>?_
    have⟨hD,hZ,gA,gB⟩:=bX
    repeat' (first
 |simp only[go_sem,hD,hZ,gA,gB,l1,c8]
 | (with_reducible refine aI hQ ?_;exact bA))
   ·have c8:decide (((r.length+1:Nat):Int) > 8)=false:=by simpa using c8
    simp only[c8,Bool.false_eq_true,↓reduceIte]at h
    have ep:qI (c::r)=qI r+1:=by simp[qI,hL]
    cases hn:Eu r
    ·simp only [hn,Bool.false_eq_true, ↓reduceIte]at h
     have:qI r≠r.length:=fun e=>by rw[JU.2 e]at hn;cases hn
     have e:(((qI (c::r):Nat):Int)==((r.length+1:Nat):Int))=false:=by rw[ep];simp;omega
     subst h
     refine aH.go oG rfl fun B Q hB hQ=>?_
     have⟨hD,hZ,gA,gB⟩:=bX
     repeat' (first
 |simp only[go_sem,hD,hZ,gA,gB,l1,c8,hL,e]
 |(with_reducible refine CU (uJ _ _) ?_)
 |(with_reducible refine CU (hr _) ?_)
 | (with_reducible refine aI hQ ?_;exact bA))
    ·simp only [hn, ↓reduceIte]at h
     have:=JU.1 hn
     have e:(((qI (c::r):Nat):Int)==((r.length+1:Nat):Int))=true:=by rw[ep];simp;omega
     subst h
     refine aH.go oG rfl fun B Q hB hQ=>?_
     have⟨hD,hZ,gA,gB⟩:=bX
     repeat' (first
 |simp only[go_sem,hD,hZ,gA,gB,l1,c8,hL,e]
 |(with_reducible refine CU (uJ _ _) ?_)
 |(with_reducible refine CU (hr _) ?_)
 |(with_reducible refine CU (ahz _ _) ?_)
 |(with_reducible refine aI hQ ?_;exact bA))
theorem PZ (op:Int) (s:St):aH Tryz.prog zK [.int .i64 op] s (.int .i64 (pR op)) s:=by
 refine aH.pure ?_ rfl rfl s
 unfold S0
 generalize h:pR op=p
 unfold pR at h
 refine aH.go KY rfl fun B Q hB hQ=>?_
 have⟨hD,hZ,gA,gB⟩:=bX
 repeat' (first
 |simp only[go_sem,hD,hZ,gA,gB]
 |(with_reducible first|refine bt fun hc=>?_|refine bu fun hc=>?_|refine bx (fun hc=>?_) fun hc=>?_)<;>(try simp only[hc,bs,↓reduceIte]at h)<;>try simp only[hc]
 |(with_reducible refine aI hQ ?_;exact fS))
theorem Bw {l:List aK} (hl:l.length<4611686018427387904) (hs : ∀ t∈l,t.length<4611686018427387904) (s:St):aH Tryz.prog oA [.slice .shared 1 (l.map encStr)] s (.bool (ew l)) s:=by
 refine aH.pure ?_ (by simp[D.bM,D.ok,fI,Tag.ok]) rfl s
 unfold S0
 generalize h:ew l=p
 refine aH.go IY rfl fun B Q hB hQ=>?_
 have⟨hD,hZ,gA,gB⟩:=bX
 repeat' (first
 |simp only[go_sem,hD,hZ,gA,gB]
 |(with_reducible first|refine bt fun hc=>?_|refine bu fun hc=>?_|refine bx (fun hc=>?_) fun hc=>?_)<;>(try simp only[hc,bs,↓reduceIte]at h)<;>try simp only[hc]
 |(with_reducible refine aI hQ ?_;exact fS))
 refine fG 0 0 (bp.ind (ι:=List aK×Nat) (fun i=>l.drop i.2=i.1∧ew i.1=p) (fun i=>i.1.length)
  (fun i=> [(5, .slice .shared 1 (l.map encStr)),(6, .int .i64 (l.length:Int)),(7, .int .i64 (i.2:Int))]) (fun i=>⟨[],[]⟩) ?_ (l,0) ⟨rfl,h⟩)
 rintro⟨rest,k⟩ ⟨h1,h⟩ IH
 dsimp only at h1 h
 cases rest with
 |nil=>
  have hD:=drop_nil h1
  simp only[ew]at h
  repeat' (first
 |simp only[go_sem,hD,hZ,gA,gB]
 |(with_reducible first|refine bt fun hc=>?_|refine bu fun hc=>?_|refine bx (fun hc=>?_) fun hc=>?_)<;>(try simp only[hc,bs,↓reduceIte]at h)<;>try simp only[hc]
 |(with_reducible refine aI hQ ?_;exact fS))
 |cons t rest=>
  obtain⟨hZ,g2,hD,g4⟩:=drop_cons h1
  have gA:k<4611686018427387904:=by omega
  have hn:=DG t (hs t (List.mem_of_getElem? hZ))
  simp only[ew]at h
  repeat' (first
 |simp only[go_sem,hD,hZ,gA,gB]
 |(with_reducible refine CU (hn _) ?_)
 |(with_reducible first|refine bt fun hc=>?_|refine bu fun hc=>?_|refine bx (fun hc=>?_) fun hc=>?_)<;>(try simp only[hc,bs,↓reduceIte]at h)<;>try simp only[hc]
 |(with_reducible refine aI hQ ?_;exact fS))
  refine fG 0 0 (IH (rest,k+1) ⟨g2,h⟩ (Nat.lt_succ_self _))
mutual
def Ex.dp (left:Int):Ex→Bool
 |⟨op,n,name,kids⟩=>
  if decide (left<1) ||(kids.length:Int) != pR op then false
  else if op==1 then decide (n≥0) && name == []
  else if op==2 then n==0 && isName name
  else if n != 0 || !(name == [])then false
  else Ex.DH (left - 1) kids
def Ex.DH (left:Int):List Ex→Bool
 | []=>true
 |x::l=>if !(Ex.dp left x)then false else Ex.DH left l
end
theorem ad9 : ∀ (m:Nat) (x:Ex),x.size≤m→x.size<4611686018427387904→x.texts→∀ left:Int,0≤left→left≤100→∀ s:St,aH Tryz.prog rO [.agg (cb x), .int .i64 left] s (.bool (x.dp left)) s:=by
 intro m
 induction m with
 |zero=>rintro⟨op,v,name,kids⟩ h;simp only[Ex.size]at h;omega
 | succ m ih=>
  rintro⟨op,v,name,kids⟩ h hx ht left h0 Zm s
  refine aH.pure ?_ (by simp[D.bM,D.ok,lx]) rfl s
  have hlen:kids.length<4611686018427387904:=by simp only[Ex.size]at hx;have:=Ex.dQ kids;omega
  have hn:=DG name ht.1
  generalize hp:Ex.dp left ⟨op,v,name,kids⟩=p
  simp only[Ex.dp]at hp
  unfold S0
  by_cases tC:left<1
  ·have d1:decide (left<1)=true:=by simpa using tC
   simp only[d1,Bool.true_or,↓reduceIte]at hp
   subst hp
   refine aH.go Cp rfl fun B Q hB hQ=>?_
   have⟨hD,hZ,gA,gB⟩:=bX
   repeat' (first
 |simp only[go_sem,hD,hZ,gA,gB,d1]
 |(with_reducible refine CU (PZ _ _) ?_)
 |(with_reducible refine CU (hn _) ?_)
 | (with_reducible refine aI hQ ?_;exact bA))
  ·have d1:decide (left<1)=false:=by simpa using tC
   have w1:IntKind.wrap .i64 (left - 1)=left - 1:=eB (by omega) (by omega)
   have hk : ∀ y∈kids,∀ s,aH Tryz.prog rO [.agg (cb y), .int .i64 (left - 1)] s (.bool (y.dp (left - 1))) s:=fun y hy s=>
    ih y (by simp only[Ex.size]at h;have:=Ex.da hy;omega) (by simp only[Ex.size]at hx;have:=Ex.da hy;omega) (Ex.VM ht hy) (left - 1) (by omega) (by omega) s
   simp only[d1,Bool.false_or]at hp
   have h:=hp
   clear hp
   refine aH.go Cp rfl fun B Q hB hQ=>?_
   have⟨hD,hZ,gA,gB⟩:=bX
   repeat' (first
 |simp only[go_sem,hD,hZ,gA,gB,d1]
 |(with_reducible refine CU (PZ _ _) ?_)
 |(with_reducible refine CU (hn _) ?_)
 |(with_reducible first|refine bt fun hc=>?_|refine bu fun hc=>?_|refine bx (fun hc=>?_) fun hc=>?_)<;>(try simp only[hc,bs,↓reduceIte]at h)<;>try simp only[hc]
 | (with_reducible refine aI hQ ?_;(try cases h);simp only [bh,bj,bP,bQ,go_sem,hD,hZ,gA,gB,d1];repeat' (first | exact Ok.out | with_reducible refine jG ?_ ?_ | (simp;done))))
   all_goals
    refine fG 1 0 (bp.ind (ι:=List Ex×Nat) (fun i=>kids.drop i.2=i.1∧Ex.DH (left - 1) i.1=p) (fun i=>i.1.length)
     (fun i=> [(1, .int .i64 left),(49, .slice .shared 4 (kids.map cb)),(50, .int .i64 (kids.length:Int)),(51, .int .i64 (i.2:Int))]) (fun i=>⟨[cb ⟨op,v,name,kids⟩],[]⟩) ?_ (kids,0) ⟨rfl,h⟩)
    rintro⟨rest,k⟩ ⟨h1,h⟩ IH
    dsimp only at h1 h
    cases rest with
    |nil=>
     have hD:=drop_nil h1
     simp only[Ex.DH]at h
     repeat' (first
 |simp only[go_sem,hD,hZ,gA,gB]
 |(with_reducible first|refine bt fun hc=>?_|refine bu fun hc=>?_|refine bx (fun hc=>?_) fun hc=>?_)<;>(try simp only[hc,bs,↓reduceIte]at h)<;>try simp only[hc]
 |(with_reducible refine aI hQ ?_;exact fS)
 | (cases h;done))
    |cons y rest=>
     obtain⟨hZ,g2,hD,g4⟩:=drop_cons h1
     have hy:=hk y (List.mem_of_getElem? hZ)
     have gA:k<4611686018427387904:=by omega
     simp only[Ex.DH]at h
     repeat' (first
 |simp only[go_sem,hD,hZ,gA,gB,w1]
 |(with_reducible refine CU (hy _) ?_)
 |(with_reducible first|refine bt fun hc=>?_|refine bu fun hc=>?_|refine bx (fun hc=>?_) fun hc=>?_)<;>(try simp only[hc,bs,↓reduceIte]at h)<;>try simp only[hc]
 |(with_reducible refine aI hQ ?_;(try cases h);simp only[bh,bj,bP,bQ,go_sem,hD,hZ,gA,gB,w1];try exact cO))
     refine fG 1 0 (IH (rest,k+1) ⟨g2,h⟩ (Nat.lt_succ_self _))
theorem Bx {x:Ex} (hx:x.size<4611686018427387904) (ht:x.texts) (s:St):aH Tryz.prog oz [.agg (cb x)] s (.bool (x.dp 20)) s:=by
 refine aH.pure ?_ (by simp[D.bM,D.ok,lx]) rfl s
 have hd:=fun s=>ad9 _ x (Nat.le_refl _) hx ht 20 (by omega) (by omega) s
 unfold S0
 refine aH.go FX rfl fun B Q hB hQ=>?_
 have⟨hD,hZ,gA,gB⟩:=bX
 repeat' (first
 |simp only[go_sem,hD,hZ,gA,gB]
 |(with_reducible refine CU (hd _) ?_)
 |(with_reducible refine aI hQ ?_;exact bA))
theorem aea (x:Ex) (s:St):aH Tryz.prog zN [.agg (cb x)] s (.bool x.none) s:=by
 refine aH.pure ?_ (by simp[D.bM,D.ok,lx]) rfl s
 unfold S0
 generalize h:Ex.none x=p
 unfold Ex.none at h
 refine aH.go K0 rfl fun B Q hB hQ=>?_
 have⟨hD,hZ,gA,gB⟩:=bX
 repeat' (first
 |simp only[go_sem,hD,hZ,gA,gB]
 |(with_reducible first|refine bt fun hc=>?_|refine bu fun hc=>?_|refine bx (fun hc=>?_) fun hc=>?_)<;>(try simp only[hc,bs,↓reduceIte]at h)<;>try simp only[hc]
 |(with_reducible refine aI hQ ?_;exact fS))
def vI (t:aK) (is:Bool):Bool:=(is && isName t) ||(!is && t == [])
theorem F1 (t:aK) (is:Bool) (hl:t.length<4611686018427387904) (s:St):aH Tryz.prog qE [.str t, .bool is] s (.bool (vI t is)) s:=by
 refine aH.pure ?_ rfl rfl s
 have hn:=DG t hl
 unfold S0
 generalize h:vI t is=p
 unfold vI at h
 refine aH.go I4 rfl fun B Q hB hQ=>?_
 have⟨hD,hZ,gA,gB⟩:=bX
 repeat' (first
 |simp only[go_sem,hD,hZ,gA,gB]
 |(with_reducible refine CU (hn _) ?_)
 |(with_reducible first|refine bt fun hc=>?_|refine bu fun hc=>?_|refine bx (fun hc=>?_) fun hc=>?_)<;>(try simp only[hc,bs,↓reduceIte]at h)<;>try simp only[hc]
 |(with_reducible refine aI hQ ?_;exact fS))
def xI (x:Ex) (is:Bool):Bool:=(is && x.dp 20) ||(!is && x.none)
theorem P0 {x:Ex} (is:Bool) (hx:x.size<4611686018427387904) (ht:x.texts) (s:St):aH Tryz.prog tn [.agg (cb x), .bool is] s (.bool (xI x is)) s:=by
 refine aH.pure ?_ (by simp[D.bM,D.ok,lx]) rfl s
 have hm:=Bx hx ht
 unfold S0
 generalize h:xI x is=p
 unfold xI at h
 refine aH.go I5 rfl fun B Q hB hQ=>?_
 have⟨hD,hZ,gA,gB⟩:=bX
 repeat' (first
 |simp only[go_sem,hD,hZ,gA,gB]
 |(with_reducible refine CU (hm _) ?_)
 |(with_reducible refine CU (aea _ _) ?_)
 |(with_reducible first|refine bt fun hc=>?_|refine bu fun hc=>?_|refine bx (fun hc=>?_) fun hc=>?_)<;>(try simp only[hc,bs,↓reduceIte]at h)<;>try simp only[hc]
 |(with_reducible refine aI hQ ?_;exact fS))
def qY:List Ar→Bool
 | []=>true
 |a::l=>if !(vI a.name a.ref) || !(xI a.x !a.ref)then false else qY l
theorem Zn {l:List Ar} (hl:l.length<4611686018427387904) (hs : ∀ a∈l,a.x.size<4611686018427387904∧a.x.texts∧a.name.length<4611686018427387904) (s:St) :
 aH Tryz.prog wa [.slice .shared 6 (l.map fc)] s (.bool (qY l)) s:=by
 refine aH.pure ?_ (by simp[D.bM,D.ok,Ln,Tag.ok]) rfl s
 unfold S0
 generalize h:qY l=p
 refine aH.go Hj rfl fun B Q hB hQ=>?_
 have⟨hD,hZ,gA,gB⟩:=bX
 repeat' (first
 |simp only[go_sem,hD,hZ,gA,gB]
 |(with_reducible first|refine bt fun hc=>?_|refine bu fun hc=>?_|refine bx (fun hc=>?_) fun hc=>?_)<;>(try simp only[hc,bs,↓reduceIte]at h)<;>try simp only[hc]
 |(with_reducible refine aI hQ ?_;exact fS))
 refine fG 0 0 (bp.ind (ι:=List Ar×Nat) (fun i=>l.drop i.2=i.1∧qY i.1=p) (fun i=>i.1.length)
  (fun i=> [(5, .slice .shared 6 (l.map fc)),(6, .int .i64 (l.length:Int)),(7, .int .i64 (i.2:Int))]) (fun i=>⟨[],[]⟩) ?_ (l,0) ⟨rfl,h⟩)
 rintro⟨rest,k⟩ ⟨h1,h⟩ IH
 dsimp only at h1 h
 cases rest with
 |nil=>
  have hD:=drop_nil h1
  simp only[qY]at h
  repeat' (first
 |simp only[go_sem,hD,hZ,gA,gB]
 |(with_reducible first|refine bt fun hc=>?_|refine bu fun hc=>?_|refine bx (fun hc=>?_) fun hc=>?_)<;>(try simp only[hc,bs,↓reduceIte]at h)<;>try simp only[hc]
 |(with_reducible refine aI hQ ?_;exact fS))
 |cons a rest=>
  obtain⟨hZ,g2,hD,g4⟩:=drop_cons h1
  have gA:k<4611686018427387904:=by omega
  obtain⟨a1,a2,a3⟩:=hs a (List.mem_of_getElem? hZ)
  have hn:=fun b s=>F1 a.name b a3 s
  have hw:=fun b s=>P0 b a1 a2 s
  simp only[qY]at h
  repeat' (first
 |simp only[go_sem,hD,hZ,gA,gB]
 |(with_reducible refine CU (hn _ _) ?_)
 |(with_reducible refine CU (hw _ _) ?_)
 |(with_reducible first|refine bt fun hc=>?_|refine bu fun hc=>?_|refine bx (fun hc=>?_) fun hc=>?_)<;>(try simp only[hc,bs,↓reduceIte]at h)<;>try simp only[hc]
 |(with_reducible refine aI hQ ?_;exact fS))
  refine fG 0 0 (IH (rest,k+1) ⟨g2,h⟩ (Nat.lt_succ_self _))
def Sm.flags (s:Sm):Option (Bool×Bool×Bool×Bool×Bool×Bool):=
 if s.kind==1 then some (true,false,true,s.has,false,false)
 else if s.kind==2 ||s.kind==10 then some (true,false,false,s.has,false,false)
 else if s.kind==3 then some (false,false,true,s.has,false,false)
 else if s.kind==4 then some (!(s.name == []),true,false,s.has,false,false)
 else if s.kind==5 then some (false,false,true,s.has,true,true)
 else if s.kind==6 then some (false,false,true,s.has,true,false)
 else if s.kind==9 then some (false,false,s.has,false,false,false)
 else if s.kind==7 ||s.kind==8 then some (false,false,false,s.has,false,false)
 else none
def Sm.Lq (s:Sm) (nm pr x:Bool):Bool:=if !(vI s.name nm) || !(vI s.proc pr) || !(xI s.x x)then false else qY s.args
def Sm.Lr (s:Sm) (f:Bool×Bool×Bool×Bool×Bool×Bool):Bool:=
 if f.2.2.2.1 ||(!f.2.2.2.2.1 && decide ((s.aP.length:Int) > 0)) ||(!f.2.2.2.2.2 && decide ((s.aM.length:Int) > 0)) ||(!(s.kind==4) && decide ((s.args.length:Int) > 0))then false
 else s.Lq f.1 f.2.1 f.2.2.1
def Sm.fields (s:Sm):Bool:=match s.flags with
 |none=>false
 |some f=>s.Lr f
section
variable {v:Sm} {B:gW} {Q:Exit→Tm→St→Prop} {p:Bool}
theorem Zo {nm pr x:Bool} (hf:v.wh) (hB:B.s = ⟨[],[]⟩) (hQ:rB 0 0 [(2,none)] (.bool p) ⟨[],[]⟩=Q) (h:v.Lq nm pr x=p) :
 Sem Tryz.prog B 93 aht Q [(1, .ptr 0 0),(3, .bool nm),(4, .bool pr),(5, .bool x)] ⟨[bd v],[]⟩:=by
 have h1:=fun b s=>F1 v.name b hf.name s
 have h2:=fun b s=>F1 v.proc b hf.proc s
 have h3:=fun b s=>P0 b hf.x hf.xt s
 have h4:=fun s=>Zn hf.atm hf.arg s
 unfold Sm.Lq at h
 have⟨hD,hZ,gA,gB⟩:=bX
 refine jz ?_
 repeat' (first
 |simp only[go_sem,hD,hZ,gA,gB]
 |(with_reducible refine CU (h1 _ _) ?_)
 |(with_reducible refine CU (h2 _ _) ?_)
 |(with_reducible refine CU (h3 _ _) ?_)
 |(with_reducible refine CU (h4 _) ?_)
 |(with_reducible first|refine bt fun hc=>?_|refine bu fun hc=>?_|refine bx (fun hc=>?_) fun hc=>?_)<;>(try simp only[hc,bs,↓reduceIte]at h)<;>try simp only[hc]
 |(with_reducible refine aI hQ ?_;exact fS))
theorem Zp {nm pr x has th ot ar:Bool} (hf:v.wh) (hB:B.s = ⟨[],[]⟩) (hQ:rB 0 0 [(2,none)] (.bool p) ⟨[],[]⟩=Q) (e:(v.kind==4)=ar) (h:v.Lr (nm,pr,x,has,th,ot)=p) :
 Sem Tryz.prog B 93 ahu Q [(1, .ptr 0 0),(3, .bool nm),(4, .bool pr),(5, .bool x),(6, .bool has),(7, .bool th),(8, .bool ot),(9, .bool ar)] ⟨[bd v],[]⟩:=by
 simp only[Sm.Lr,e]at h
 have⟨hD,hZ,gA,gB⟩:=bX
 refine Sem.ox ?_
 repeat' (first
 |simp only[go_sem,hD,hZ,gA,gB]
 |(with_reducible first|refine bt fun hc=>?_|refine bu fun hc=>?_|refine bx (fun hc=>?_) fun hc=>?_)<;>(try simp only[hc,bs,↓reduceIte]at h)<;>try simp only[hc]
 |(with_reducible refine aI hQ ?_;(try cases h);simp only[bh,bj,bP,bQ,go_sem,hD,hZ,gA,gB];repeat' (first|exact Ok.out|with_reducible refine jG ?_ ?_|(simp;done))))
 all_goals
  refine Sem.re _ _ 1 0 (by rw[hB];exact Fg rfl) (by rw[hB];exact Fg rfl) ?_ ?_ (Zo hf hB hQ h)
  ·(simp only[go_sem,hD,hZ,gA,gB];repeat' (first|exact Ok.out|with_reducible refine jG ?_ ?_))
  ·(simp only[go_sem,hD,hZ,gA,gB];repeat' (first|exact Ok.out|with_reducible refine jG ?_ ?_))
theorem Zq {ar:Bool} (hf:v.wh) (hB:B.s = ⟨[],[]⟩) (hQ:rB 0 0 [(2,none)] (.bool p) ⟨[],[]⟩=Q) (e:(v.kind==4)=ar) (h:v.fields=p) :
 Sem Tryz.prog B 93 Zg Q [(1, .ptr 0 0),(3, .bool false),(4, .bool false),(5, .bool false),(6, .bool v.has),(7, .bool false),(8, .bool false),(9, .bool ar)] ⟨[bd v],[]⟩:=by
 simp only[Sm.fields,Sm.flags]at h
 have⟨hD,hZ,gA,gB⟩:=bX
 refine Sem.ox ?_
 repeat' (first
 |simp only[go_sem,hD,hZ,gA,gB]
 |(with_reducible first|refine bt fun hc=>?_|refine bu fun hc=>?_|refine bx (fun hc=>?_) fun hc=>?_)<;>(try simp only[hc,bs,↓reduceIte]at h)<;>try simp only[hc]
 |(with_reducible refine aI hQ ?_;(try cases h);simp only[bh,bj,bP,bQ,go_sem,hD,hZ,gA,gB];repeat' (first|exact Ok.out|with_reducible refine jG ?_ ?_|(simp;done))))
 all_goals
  refine Sem.re _ _ 1 0 (by rw[hB];exact Fg rfl) (by rw[hB];exact Fg rfl) ?_ ?_ (Zp hf hB hQ e h)
  ·(simp only[go_sem,hD,hZ,gA,gB];repeat' (first|exact Ok.out|with_reducible refine jG ?_ ?_))
  ·(simp only[go_sem,hD,hZ,gA,gB];repeat' (first|exact Ok.out|with_reducible refine jG ?_ ?_))
end
theorem Zr {v:Sm} (hf:v.wh) (s:St):aH Tryz.prog v8 [.agg (bd v)] s (.bool v.fields) s:=by
 refine aH.pure ?_ (by simp[D.bM,D.ok,pz]) rfl s
 unfold S0
 refine aH.goS Hg rfl fun B Q hB hQ=>?_
 have⟨hD,hZ,gA,gB⟩:=bX
 refine Sem.seq (b:=ahw) (jz ?_)
 repeat' (first
 |simp only[go_sem,hD,hZ,gA,gB]
 |(with_reducible refine aI hQ ?_;exact bA))
 refine Sem.seq (b:=ahv) (jz ?_)
 repeat' (first
 |simp only[go_sem,hD,hZ,gA,gB]
 |(with_reducible refine aI hQ ?_;exact bA))
 refine Sem.seq (b:=Zg) (jz ?_)
 repeat' (first
 |simp only[go_sem,hD,hZ,gA,gB]
 |(with_reducible refine aI hQ ?_;exact bA))
 refine Sem.re _ _ 1 0 (by rw[hB];exact Fg rfl) (by rw[hB];exact Fg rfl) ?_ ?_ (Zq hf hB hQ rfl rfl)
 ·(simp only[go_sem,hD,hZ,gA,gB];repeat' (first|exact Ok.out|with_reducible refine jG ?_ ?_))
 ·(simp only[go_sem,hD,hZ,gA,gB];repeat' (first|exact Ok.out|with_reducible refine jG ?_ ?_))
end Go.Abs
namespace Go.Abs
set_option maxRecDepth 8000
open Go.Proofs
def gH (i:It):List D:= [.int .i64 i.s.id, .int .i64 i.s.kind, .slice .shared 1 (i.s.labels.map encStr), .str i.s.name, .str i.s.proc,
 .int .i64 i.s.x.op, .int .i64 i.s.x.n, .str i.s.x.name, .slice .shared 4 (i.s.x.kids.map cb), .bool i.s.has, .slice .shared 6 (i.s.args.map fc), .slice .shared 13 (i.s.aP.map bd), .slice .shared 13 (i.s.aM.map bd), .int .i64 i.deep, .int .i64 i.bW, .bool i.aM]
theorem Zs (i:It):D.bM 0 0 (gH i)=true:=by simp[gH,D.bM,D.ok,Tag.ok,fI,abk,Ln,nF]
theorem Hq (l:List It):D.jb 0 0 (l.map gH)=true:=jc Zs l
theorem al0 (n m:Nat) (l:List It):D.lE n m (l.map gH)=l.map gH:=nj Zs n m l
theorem al1 (n m:Nat) (i:It):D.iD n m (gH i)=gH i:=jg n m _ (Zs i)
theorem al2 (x:It):(gH x).length=16:=nd rfl
theorem ahH (x:It):List.take 13 (gH x)=bd x.s:=by simp only[gH,dM];rfl
theorem Zt (x:It):(gH x)[0]? = some (.int .i64 x.s.id):=nd rfl
theorem VV (x:It):(gH x)[13]? = some (.int .i64 x.deep):=nd rfl
theorem I8 (s:Sm) (d n:Int) (e:Bool):gH ⟨s,d,n,e⟩ = [.int .i64 s.id, .int .i64 s.kind, .slice .shared 1 (s.labels.map encStr), .str s.name, .str s.proc,
 .int .i64 s.x.op, .int .i64 s.x.n, .str s.x.name, .slice .shared 4 (s.x.kids.map cb), .bool s.has, .slice .shared 6 (s.args.map fc), .slice .shared 13 (s.aP.map bd), .slice .shared 13 (s.aM.map bd), .int .i64 d, .int .i64 n, .bool e]:=nd rfl
attribute [go_sem] al0 al1 al2 ahH Zt VV
theorem M7 (deep bW:Int) (aM:Bool) (out:List It) (s:Sm) :
 gL deep bW aM out s=if decide (deep≤12)then dO (deep+1) s.id true (dO (deep+1) s.id false (out++ [⟨s,deep,bW,aM⟩]) s.aP) s.aM else out++ [⟨s,deep,bW,aM⟩]:=by
 cases s;simp only[gL]
mutual
theorem VW (deep bW:Int) (aM:Bool) (out:List It) (h:out.length≤200) : ∀ s:Sm,(gL deep bW aM out s).length≤201
 |⟨id,kind,labels,name,proc,x,has,args,aP,e⟩=>by
  simp only[gL]
  have h1:(out++ [(⟨⟨id,kind,labels,name,proc,x,has,args,aP,e⟩,deep,bW,aM⟩:It)]).length≤201:=by simp;omega
  split
  ·exact l9 _ _ _ _ (l9 _ _ _ _ h1 aP) e
  ·exact h1
theorem l9 (deep bW:Int) (aM:Bool) (out:List It) (h:out.length≤201) : ∀ l:List Sm,(dO deep bW aM out l).length≤201
 | []=>by simpa only[dO]using h
 | s::l=>by
  simp only[dO]
  split
  ·rename_i hc
   simp only[decide_eq_true_eq]at hc
   exact l9 deep bW aM _ (VW _ _ _ _ (by omega) s) l
  ·exact h
end
abbrev VX (N:Nat):Prop:=∀ (l:List Sm) (deep bW:Int) (aM:Bool) (out:List It),Sm.a7 l<N→0≤deep→deep≤13→out.length≤201→∀ {s:St} {t:Nat},s.aA[t]? = some (some out.length)→
 aH Tryz.prog nR [.slice .shared 13 (l.map bd), .int .i64 deep, .int .i64 bW, .bool aM, .slice (.tok t) 16 (out.map gH)] s (.slice (.tok t) 16 ((dO deep bW aM out l).map gH)) ⟨s.al,s.aA.set t (some (dO deep bW aM out l).length)⟩
theorem ahI {N:Nat} (hN:N<4611686018427387904) (ih:VX N) {l:List Sm} {deep bW:Int} {aM:Bool} {out:List It} (hs:Sm.a7 l<N+1) (yH:0≤deep) (hd:deep≤13) (ho:out.length≤201) :
 aH Tryz.prog nR [.slice .shared 13 (l.map bd), .int .i64 deep, .int .i64 bW, .bool aM, .slice (.tok 0) 16 (out.map gH)] ⟨[],[some out.length]⟩ (.slice (.tok 0) 16 ((dO deep bW aM out l).map gH)) ⟨[],[some (dO deep bW aM out l).length]⟩:=by
 generalize hR:dO deep bW aM out l=R
 refine aH.go Cs rfl fun B Q hB hQ=>?_
 have⟨hD,hZ,gA,gB⟩:=bX
 repeat' (first
 |simp only[go_sem,hD,hZ,gA,gB]
 |(with_reducible refine aI hQ ?_;exact bA))
 refine fG 0 1 (bp.ind (ι:=List Sm×Nat×List It×Nat) (fun i=>l.drop i.2.1=i.1∧dO deep bW aM i.2.2.1 i.1=R∧i.2.2.1.length≤201∧i.2.2.2=i.2.2.1.length) (fun i=>i.1.length)
  (fun i=> [(0, .slice .shared 13 (l.map bd)),(1, .int .i64 deep),(2, .int .i64 bW),(3, .bool aM),(4, .slice (.tok 0) 16 (i.2.2.1.map gH)),(11, .int .i64 (i.2.1:Int))]) (fun i=>⟨[],[some i.2.2.2]⟩) ?_ (l,0,out,out.length) ⟨rfl,hR,ho,rfl⟩)
 rintro⟨rest,k,out,n⟩ ⟨h1,h2,h3,h4⟩ IH
 dsimp only at h1 h2 h3 h4
 subst h4
 have hlen:l.length<4611686018427387904:=by have:=Sm.dQ l;omega
 cases rest with
 |nil=>
  have hD:=drop_nil h1
  simp only[dO]at h2
  subst h2
  repeat' (first
 |simp only[go_sem,hD,hZ,gA,gB]
 |(with_reducible refine aI hQ ?_;exact bA))
 | cons v rest=>
  obtain⟨hZ,g2,hD,g4⟩:=drop_cons h1
  have cu:k<4611686018427387904:=by omega
  have hv:=Sm.da (List.mem_of_getElem? hZ)
  have qv:Sm.a7 v.aP<N∧Sm.a7 v.aM<N:=by
   obtain⟨_,_,_,_,_,_,_,_,_,_⟩:=v
   simp only[Sm.size]at hv ⊢;omega
  simp only[dO]at h2
  by_cases hc:out.length≤200
  ·have c1:decide ((out.length:Int)≤200)=true:=by simp;omega
   simp only[c1,↓reduceIte,M7]at h2
   have gA:(out.length+1)*233≤bq:=by unfold bq;omega
   have je:(out++ [(⟨v,deep,bW,aM⟩:It)]).length≤201:=by simp;omega
   have hw:IntKind.wrap .i64 (deep+1)=deep+1:=eB (by omega) (by omega)
   by_cases ato:deep≤12
   ·have c2:decide (deep≤12)=true:=by simp;omega
    simp only[c2,↓reduceIte]at h2
    have f1:=fun {s:St} {t:Nat} (ht:s.aA[t]? = some (some (out++ [(⟨v,deep,bW,aM⟩:It)]).length))=>ih v.aP (deep+1) v.id false _ qv.1 (by omega) (by omega) je ht
    have f2:=fun {s:St} {t:Nat} (ht:s.aA[t]? = some (some (dO (deep+1) v.id false (out++ [(⟨v,deep,bW,aM⟩:It)]) v.aP).length))=>ih v.aM (deep+1) v.id true _ qv.2 (by omega) (by omega) (l9 _ _ _ _ je _) ht
    simp only[List.map_append,List.map_cons,List.map_nil,I8,List.length_append,List.length_cons,List.length_nil]at f1
    repeat' (first
 |simp only[go_sem,hD,hZ,gA,gB,c1,c2,hw,dM]
 |(with_reducible refine CU (f1 (by with_unfolding_all rfl)) ?_)
 |(with_reducible refine CU (f2 (by with_unfolding_all rfl)) ?_)
 | (with_reducible refine aI hQ ?_;exact bA))
    refine fi 0 1 ?_ ?_ (IH (rest,k+1,_,_) ⟨g2,h2,l9 _ _ _ _ (l9 _ _ _ _ je _) _,rfl⟩ (Nat.lt_succ_self _))
    ·(simp only[go_sem,hD,hZ,gA,gB,aN cu];try exact bY)
    ·(simp only[go_sem,hD,hZ,gA,gB,aN cu];try exact bY)
   ·have c2:decide (deep≤12)=false:=by simp;omega
    simp only[c2,Bool.false_eq_true,↓reduceIte]at h2
    repeat' (first
 |simp only[go_sem,hD,hZ,gA,gB,c1,c2,dM]
 | (with_reducible refine aI hQ ?_;exact bA))
    refine fi 0 1 ?_ ?_ (IH (rest,k+1,out++ [⟨v,deep,bW,aM⟩],out.length+1) ⟨g2,h2,je,by simp⟩ (Nat.lt_succ_self _))
    ·(simp only[go_sem,hD,hZ,gA,gB,aN cu,I8,List.map_append,List.map_cons,List.map_nil];try exact bY)
    ·(simp only[go_sem,hD,hZ,gA,gB,aN cu,I8,List.map_append,List.map_cons,List.map_nil];try exact bY)
  ·have c1:decide ((out.length:Int)≤200)=false:=by simp;omega
   simp only[c1,Bool.false_eq_true,↓reduceIte]at h2
   subst h2
   repeat' (first
 |simp only[go_sem,hD,hZ,gA,gB,c1]
 |(with_reducible refine aI hQ ?_;exact bA))
theorem Zu : ∀ N,N<4611686018427387904→VX N:=by
 intro N
 induction N with
 |zero=>exact fun _ l deep bW aM out h=>absurd h (Nat.not_lt_zero _)
 |succ N ih=>
  intro h l deep bW aM out hs yH hd ho s t ht
  exact(ahI (by omega) (ih (by omega)) hs yH hd ho).afW (pre:= [_,_,_,_]) (post:= []) (by simp[D.bM,D.ok,Tag.ok,nF]) rfl (Hq out) (Hq _) ht
theorem Zv {l:List Sm} (hs:Sm.a7 l<4611686018427387000) (s:St) :
 aH Tryz.prog nR [.slice .shared 13 (l.map bd), .int .i64 1, .int .i64 0, .bool false, .slice .full 0 []] s (.slice .shared 16 ((dO 1 0 false [] l).map gH)) s:=by
 refine aH.pure ?_ (by simp[D.bM,D.ok,Tag.ok,nF,D.jb]) (by simp[D.ok,Tag.ok,Hq]) s
 obtain⟨N,hN⟩ : ∃ N,N=Sm.a7 l:=⟨_,rfl⟩
 have ih:=Zu N (by omega)
 replace hs:Sm.a7 l<N+1∧N<4611686018427387000:=by omega
 obtain⟨hs,hN⟩:=hs
 generalize hR:dO 1 0 false [] l=R
 obtain⟨deep,Tf⟩ : ∃ d:Int,d=1:=⟨_,rfl⟩
 obtain⟨bW,Zw⟩ : ∃ d:Int,d=0:=⟨_,rfl⟩
 obtain⟨aM,M8⟩ : ∃ d:Bool,d=false:=⟨_,rfl⟩
 rw[← Tf, ← Zw, ← M8]at hR
 rw[← Tf, ← Zw, ← M8]
 have yH:0≤deep:=by omega
 have hd:deep≤13:=by omega
 clear Tf Zw M8
 have ho:([] : List It).length≤201:=Nat.zero_le _
 unfold S0
 refine aH.go Cs rfl fun B Q hB hQ=>?_
 have⟨hD,hZ,gA,gB⟩:=bX
 repeat' (first
 |simp only[go_sem,hD,hZ,gA,gB]
 |(with_reducible refine aI hQ ?_;exact bA))
 refine bp.sq 4 16 rfl ?_
 simp only[go_sem,hD,hZ,gA,gB]
 refine fG 0 1 (bp.ind (ι:=List Sm×Nat×List It×Nat) (fun i=>l.drop i.2.1=i.1∧dO deep bW aM i.2.2.1 i.1=R∧i.2.2.1.length≤201∧i.2.2.2=i.2.2.1.length) (fun i=>i.1.length)
  (fun i=> [(0, .slice .shared 13 (l.map bd)),(1, .int .i64 deep),(2, .int .i64 bW),(3, .bool aM),(4, .slice (.tok 0) 16 (i.2.2.1.map gH)),(11, .int .i64 (i.2.1:Int))]) (fun i=>⟨[],[some i.2.2.2]⟩) ?_ (l,0,[],0) ⟨rfl,hR,ho,rfl⟩)
 rintro⟨rest,k,out,n⟩ ⟨h1,h2,h3,h4⟩ IH
 dsimp only at h1 h2 h3 h4
 subst h4
 have hlen:l.length<4611686018427387904:=by have:=Sm.dQ l;omega
 cases rest with
 |nil=>
  have hD:=drop_nil h1
  simp only[dO]at h2
  subst h2
  repeat' (first
 |simp only[go_sem,hD,hZ,gA,gB]
 |(with_reducible refine aI hQ ?_;exact bA))
 | cons v rest=>
  obtain⟨hZ,g2,hD,g4⟩:=drop_cons h1
  have cu:k<4611686018427387904:=by omega
  have hv:=Sm.da (List.mem_of_getElem? hZ)
  have qv:Sm.a7 v.aP<N∧Sm.a7 v.aM<N:=by
   obtain⟨_,_,_,_,_,_,_,_,_,_⟩:=v
   simp only[Sm.size]at hv ⊢;omega
  simp only[dO]at h2
  by_cases hc:out.length≤200
  ·have c1:decide ((out.length:Int)≤200)=true:=by simp;omega
   simp only[c1,↓reduceIte,M7]at h2
   have gA:(out.length+1)*233≤bq:=by unfold bq;omega
   have je:(out++ [(⟨v,deep,bW,aM⟩:It)]).length≤201:=by simp;omega
   have hw:IntKind.wrap .i64 (deep+1)=deep+1:=eB (by omega) (by omega)
   by_cases ato:deep≤12
   ·have c2:decide (deep≤12)=true:=by simp;omega
    simp only[c2,↓reduceIte]at h2
    have f1:=fun {s:St} {t:Nat} (ht:s.aA[t]? = some (some (out++ [(⟨v,deep,bW,aM⟩:It)]).length))=>ih v.aP (deep+1) v.id false _ qv.1 (by omega) (by omega) je ht
    have f2:=fun {s:St} {t:Nat} (ht:s.aA[t]? = some (some (dO (deep+1) v.id false (out++ [(⟨v,deep,bW,aM⟩:It)]) v.aP).length))=>ih v.aM (deep+1) v.id true _ qv.2 (by omega) (by omega) (l9 _ _ _ _ je _) ht
    simp only[List.map_append,List.map_cons,List.map_nil,I8,List.length_append,List.length_cons,List.length_nil]at f1
    repeat' (first
 |simp only[go_sem,hD,hZ,gA,gB,c1,c2,hw,dM]
 |(with_reducible refine CU (f1 (by with_unfolding_all rfl)) ?_)
 |(with_reducible refine CU (f2 (by with_unfolding_all rfl)) ?_)
 | (with_reducible refine aI hQ ?_;exact bA))
    refine fi 0 1 ?_ ?_ (IH (rest,k+1,_,_) ⟨g2,h2,l9 _ _ _ _ (l9 _ _ _ _ je _) _,rfl⟩ (Nat.lt_succ_self _))
    ·(simp only[go_sem,hD,hZ,gA,gB,aN cu];try exact bY)
    ·(simp only[go_sem,hD,hZ,gA,gB,aN cu];try exact bY)
   ·have c2:decide (deep≤12)=false:=by simp;omega
    simp only[c2,Bool.false_eq_true,↓reduceIte]at h2
    repeat' (first
 |simp only[go_sem,hD,hZ,gA,gB,c1,c2,dM]
 | (with_reducible refine aI hQ ?_;exact bA))
    refine fi 0 1 ?_ ?_ (IH (rest,k+1,out++ [⟨v,deep,bW,aM⟩],out.length+1) ⟨g2,h2,je,by simp⟩ (Nat.lt_succ_self _))
    ·(simp only[go_sem,hD,hZ,gA,gB,aN cu,I8,List.map_append,List.map_cons,List.map_nil];try exact bY)
    ·(simp only[go_sem,hD,hZ,gA,gB,aN cu,I8,List.map_append,List.map_cons,List.map_nil];try exact bY)
  ·have c1:decide ((out.length:Int)≤200)=false:=by simp;omega
   simp only[c1,Bool.false_eq_true,↓reduceIte]at h2
   subst h2
   repeat' (first
 |simp only[go_sem,hD,hZ,gA,gB,c1]
 |(with_reducible refine aI hQ ?_;exact bA))
theorem ahJ {f:Pc} (hs:Sm.a7 f.body<4611686018427387000) (s:St):aH Tryz.prog zJ [.agg (bN f)] s (.slice .shared 16 (f.flat.map gH)) s:=by
 refine aH.pure ?_ (by simp only[D.bM,D.ok,zA];rfl) (by simp[D.ok,Tag.ok,Hq]) s
 have h:=fun s=>Zv hs s
 unfold S0
 refine aH.go KX rfl fun B Q hB hQ=>?_
 have⟨hD,hZ,gA,gB⟩:=bX
 repeat' (first
 |simp only[go_sem,hD,hZ,gA,gB,Pc.flat]
 |(with_reducible refine CU (h _) ?_)
 |(with_reducible first|refine bt fun hc=>?_|refine bu fun hc=>?_|refine bx (fun hc=>?_) fun hc=>?_)<;>(try simp only[hc,bs,↓reduceIte]at h)<;>try simp only[hc]
 |(with_reducible refine aI hQ ?_;simp only[bh,bj,bP,bQ,go_sem,hD,hZ,gA,gB,Pc.flat];try exact cO))
end Go.Abs
namespace Go.Abs
set_option maxRecDepth 8000
open Go.Proofs
theorem Pc.Zx (f:Pc):f.flat.length≤201:=l9 _ _ _ _ (Nat.zero_le _) _
theorem al3 {p:Pg} (hs:Pc.a7 p.procs<4611686018427387000) (s:St):aH Tryz.prog Bk [.agg (bO p)] s (.slice .shared 16 (p.all.map gH)) s:=by
 refine aH.pure ?_ (by simp only[D.bM,D.ok,iy];rfl) (by simp[D.ok,Tag.ok,Hq]) s
 have hlen:p.procs.length<4611686018427387904:=by have:=Pc.dQ p.procs;omega
 generalize hR:p.all=R
 unfold Pg.all at hR
 unfold S0
 refine aH.go MV rfl fun B Q hB hQ=>?_
 have⟨hD,hZ,gA,gB⟩:=bX
 repeat' (first
 |simp only[go_sem,hD,hZ,gA,gB]
 |(with_reducible refine aI hQ ?_;exact bA))
 refine bp.sq 3 16 rfl ?_
 simp only[go_sem,hD,hZ,gA,gB]
 refine fG 1 1 (bp.ind (ι:=List Pc×Nat×List It×Nat) (fun i=>p.procs.drop i.2.1=i.1∧allM i.2.2.1 i.1=R∧i.2.2.1.length≤200∧i.2.2.2=i.2.2.1.length) (fun i=>i.1.length)
  (fun i=> [(1, .ptr 0 0),(3, .slice (.tok 0) 16 (i.2.2.1.map gH)),(7, .slice .shared 5 (p.procs.map bN)),(8, .int .i64 (p.procs.length:Int)),(9, .int .i64 (i.2.1:Int))]) (fun i=>⟨[bO p],[some i.2.2.2]⟩) ?_ (p.procs,0,[],0) ⟨rfl,hR,Nat.zero_le _,rfl⟩)
 rintro⟨rest,k,out,n⟩ ⟨h1,h,h3,h4⟩ IH
 dsimp only at h1 h h3 h4
 subst h4
 cases rest with
 |nil=>
  have hD:=drop_nil h1
  simp only[allM]at h
  subst h
  repeat' (first
 |simp only[go_sem,hD,hZ,gA,gB]
 |(with_reducible refine aI hQ ?_;exact bA))
 |cons f rest=>
  obtain⟨hZ,g2,hD,g4⟩:=drop_cons h1
  have cu:k<4611686018427387904:=by omega
  have hf:=Pc.da (List.mem_of_getElem? hZ)
  have hb:Sm.a7 f.body<4611686018427387000:=by simp only[Pc.size]at hf;omega
  have iL:=fun s=>ahJ hb s
  have aBB:=f.Zx
  have gA:(out.length+f.flat.length)*233≤bq:=by unfold bq;omega
  simp only[allM,List.length_append]at h
  have fl:=fun(o:List (List D))=>nP (size:=16) (bytes:=232) (t:=0) (rows:=out.map gH) (new:=f.flat.map gH) (g:= .shared) (s:=⟨o,[some out.length]⟩) (by simpa using gA) (by simp)
  repeat' (first
 |simp only[go_sem,hD,hZ,gA,gB,fl]
 |(with_reducible refine CU (iL _) ?_)
 |(with_reducible first|refine bt fun hc=>?_|refine bu fun hc=>?_|refine bx (fun hc=>?_) fun hc=>?_)<;>(try simp only[hc,bs,↓reduceIte]at h)<;>try simp only[hc]
 |(with_reducible refine aI hQ ?_;(try cases h);simp only[bh,bj,bP,bQ,go_sem,hD,hZ,gA,gB,fl];try exact cO))
  refine fi 1 1 ?_ ?_ (IH (rest,k+1,out++f.flat,out.length+f.flat.length) ⟨g2,h,by rename_i hc;simp only[decide_eq_false_iff_not]at hc;simp only[List.length_append];omega,by simp⟩ (Nat.lt_succ_self _))
  ·(simp only[go_sem,hD,hZ,gA,gB,aN cu];try exact bY)
  ·(simp only[go_sem,hD,hZ,gA,gB,aN cu];try exact bY)
structure Pg.wh (p:Pg):Prop where
 sz:p.size<4611686018427387000
 rF : ∀ t∈p.globals,t.length<4611686018427387904
 gQ : ∀ f∈p.procs,f.name.length<4611686018427387904∧(∀ t∈f.vars,t.length<4611686018427387904)∧(∀ t∈f.fin,t.length<4611686018427387904)∧∀ a∈f.params,a.name.length<4611686018427387904
 items : ∀ i∈p.all,i.s.wh
def gate (nest:Int) (len n:Nat) (r:Bool×Nat):Bool×Nat:=if decide (nest > 12) && decide ((len:Int) > 0)then(false,n)else r
mutual
def Sm.rG (nest:Int) (n:Nat):Sm→Bool×Nat
 |⟨id,kind,labels,name,proc,x,has,args,aP,aM⟩=>
  if decide (((n+1:Nat):Int) > 200) ||id != ((n+1:Nat):Int) || !(ew labels) || !(Sm.fields ⟨id,kind,labels,name,proc,x,has,args,aP,aM⟩)then(false,n+1)
  else if !(gate (nest+1) aP.length (n+1) (Sm.fU (nest+1) (n+1) aP)).1 then(false,(gate (nest+1) aP.length (n+1) (Sm.fU (nest+1) (n+1) aP)).2)
  else gate (nest+1) aM.length (gate (nest+1) aP.length (n+1) (Sm.fU (nest+1) (n+1) aP)).2 (Sm.fU (nest+1) (gate (nest+1) aP.length (n+1) (Sm.fU (nest+1) (n+1) aP)).2 aM)
def Sm.fU (nest:Int) (n:Nat):List Sm→Bool×Nat
 | []=>(true,n)
 |s::l=>if !(Sm.rG nest n s).1 then(false,(Sm.rG nest n s).2)else Sm.fU nest (Sm.rG nest n s).2 l
end
def Sm.iI (nest:Int) (n:Nat) (l:List Sm):Bool×Nat:=gate nest l.length n (Sm.fU nest n l)
theorem I9 (nest:Int) (n:Nat) (s:Sm):Sm.rG nest n s =
 if decide (((n+1:Nat):Int) > 200) ||s.id != ((n+1:Nat):Int) || !(ew s.labels) || !(s.fields)then(false,n+1)
 else if !(Sm.iI (nest+1) (n+1) s.aP).1 then(false,(Sm.iI (nest+1) (n+1) s.aP).2)
 else Sm.iI (nest+1) (Sm.iI (nest+1) (n+1) s.aP).2 s.aM:=by
 cases s;simp only[Sm.rG,Sm.iI];rfl
mutual
def Sm.yI:Sm→Prop
 |⟨id,kind,labels,name,proc,x,has,args,aP,aM⟩=>Sm.wh ⟨id,kind,labels,name,proc,x,has,args,aP,aM⟩∧Sm.lA aP∧Sm.lA aM
def Sm.lA:List Sm→Prop
 | []=>True
 |s::l=>s.yI∧Sm.lA l
end
theorem F2 (s:Sm):s.yI↔s.wh∧Sm.lA s.aP∧Sm.lA s.aM:=by cases s;simp only[Sm.yI]
theorem Hr {s:Sm} : ∀ {l:List Sm},Sm.lA l→s∈l→s.yI
 |y::l,h,m=>by
  simp only[Sm.lA]at h
  rcases List.mem_cons.1 m with rfl|m
  ·exact h.1
  ·exact Hr h.2 m
mutual
theorem aeb (nest:Int) (n:Nat) : ∀ s:Sm,n≤201→(Sm.rG nest n s).2≤202∧((Sm.rG nest n s).1=true→(Sm.rG nest n s).2≤200)
 | ⟨id,kind,labels,name,proc,x,has,args,aP,aM⟩,hn=>by
  simp only[Sm.rG]
  split
  ·exact⟨by dsimp only;omega,fun h=>by cases h⟩
  rename_i hc
  simp only[Bool.or_eq_true,decide_eq_true_eq,not_or]at hc
  have Ct:n+1≤200:=by omega
  have g1 : ∀ (nest:Int) (l:List Sm) (m:Nat),m≤200→(Sm.fU nest m l).2≤202∧((Sm.fU nest m l).1=true→(Sm.fU nest m l).2≤200)→
   (gate nest l.length m (Sm.fU nest m l)).2≤202∧((gate nest l.length m (Sm.fU nest m l)).1=true→(gate nest l.length m (Sm.fU nest m l)).2≤200):=by
   intro nest l m hm h
   unfold gate
   split
   ·exact⟨by dsimp only;omega,fun h=>by cases h⟩
   ·exact h
  have h1:=g1 (nest+1) aP (n+1) Ct (Ey (nest+1) (n+1) aP Ct)
  split
  ·exact⟨h1.1,fun h=>by cases h⟩
  rename_i LM
  have h2:=h1.2 (by simpa using LM)
  exact g1 (nest+1) aM _ h2 (Ey (nest+1) _ aM h2)
theorem Ey (nest:Int) (n:Nat) : ∀ l:List Sm,n≤200→(Sm.fU nest n l).2≤202∧((Sm.fU nest n l).1=true→(Sm.fU nest n l).2≤200)
 | [],hn=>by simp only[Sm.fU];exact⟨by omega,fun _=>hn⟩
 |s::l,hn=>by
  simp only[Sm.fU]
  have h1:=aeb nest n s (by omega)
  split
  ·exact⟨h1.1,fun h=>by cases h⟩
  rename_i hc
  exact Ey nest _ l (h1.2 (by simpa using hc))
end
theorem Ja {nest:Int} {n:Nat} {l:List Sm} (hn:n≤200):(Sm.iI nest n l).2≤202∧((Sm.iI nest n l).1=true→(Sm.iI nest n l).2≤200):=by
 unfold Sm.iI gate
 split
 ·exact⟨by dsimp only;omega,fun h=>by cases h⟩
 ·exact Ey nest n l hn
theorem aec : ∀ (m:Nat) (l:List Sm),Sm.a7 l≤m→Sm.a7 l<4611686018427387000→Sm.lA l→∀ (nest:Int) (n:Nat),0≤nest→nest≤13→n≤200→
 aH Tryz.prog ly [.ptr 0 0, .slice .shared 13 (l.map bd), .int .i64 nest] ⟨[[.int .i64 n]],[]⟩ (.bool (Sm.iI nest n l).1) ⟨[[.int .i64 (Sm.iI nest n l).2]],[]⟩:=by
 intro m
 induction m with
 | zero=>
  intro l h hs hf nest n h0 h13 hn
  cases l with
  |nil=>
   have d1:decide ((0:Int) > 0)=false:=rfl
   have e:Sm.iI nest n [] = (true,n):=by simp[Sm.iI,gate,Sm.fU]
   have z:decide ((0:Int)<0)=false:=rfl
   rw[e]
   refine aH.go tx rfl fun B Q hB hQ=>?_
   have⟨hD,hZ,gA,gB⟩:=bX
   repeat' (first
 |simp only[go_sem,hD,hZ,gA,gB,d1,z]
 |(with_reducible refine bp.kO ?_)
 |(with_reducible first|refine bt fun hc=>?_|refine bu fun hc=>?_|refine bx (fun hc=>?_) fun hc=>?_)<;>(try simp only[hc,bs,↓reduceIte]at h)<;>try simp only[hc]
 |(with_reducible refine aI hQ ?_;exact bA))
  |cons s l=>simp only[Sm.a7]at h;omega
 |succ m ih=>
  intro l h hs hf nest n h0 h13 hn
  generalize hR:Sm.iI nest n l=R
  have hlen:=Sm.dQ l
  unfold Sm.iI gate at hR
  have h:=hR
  refine aH.go tx rfl fun B Q hB hQ=>?_
  have⟨hD,hZ,gA,gB⟩:=bX
  repeat' (first
 |simp only[go_sem,hD,hZ,gA,gB]
 |(with_reducible first|refine bt fun hc=>?_|refine bu fun hc=>?_|refine bx (fun hc=>?_) fun hc=>?_)<;>(try simp only[hc,bs,↓reduceIte]at h)<;>try simp only[hc]
 | (with_reducible refine aI hQ ?_;(try cases h);simp only [bh,bj,bP,bQ,go_sem,hD,hZ,gA,gB];repeat' (first | exact Ok.out | with_reducible refine jG ?_ ?_ | (simp;done))))
  all_goals
   have al4:l≠ []→nest≤12:=by
    intro fk
    have:l.length≠0:=by simpa using fk
    simp_all<;>omega
   refine fG 1 0 (bp.ind (ι:=List Sm×Nat×Nat) (fun i=>l.drop i.2.1=i.1∧Sm.fU nest i.2.2 i.1=R∧i.2.2≤200) (fun i=>i.1.length)
    (fun i=> [(0, .ptr 0 0),(2, .int .i64 nest),(16, .slice .shared 13 (l.map bd)),(17, .int .i64 (l.length:Int)),(18, .int .i64 (i.2.1:Int))]) (fun i=>⟨[[.int .i64 (i.2.2:Int)]],[]⟩) ?_ (l,0,n) ⟨rfl,h,hn⟩)
   rintro⟨rest,k,j⟩ ⟨h1,h,hj⟩ IH
   dsimp only at h1 h hj
   cases rest with
   |nil=>
    have hD:=drop_nil h1
    simp only[Sm.fU]at h
    repeat' (first
 |simp only[go_sem,hD,hZ,gA,gB]
 |(with_reducible first|refine bt fun hc=>?_|refine bu fun hc=>?_|refine bx (fun hc=>?_) fun hc=>?_)<;>(try simp only[hc,bs,↓reduceIte]at h)<;>try simp only[hc]
 | (with_reducible refine aI hQ ?_;exact fS))
   | cons s rest=>
    obtain⟨hZ,g2,hD,g4⟩:=drop_cons h1
    have gA:k<4611686018427387904:=by omega
    have iM:=List.mem_of_getElem? hZ
    have dU:=Sm.da iM
    have aBC:=al4 (by rintro rfl;simp at iM)
    obtain⟨GO,hft,hfe⟩:=(F2 s).1 (Hr hf iM)
    have XN:Sm.a7 s.aP<s.size∧Sm.a7 s.aM<s.size:=by cases s;simp only[Sm.size];omega
    have w1:IntKind.wrap .i64 ((j:Int)+1)=((j+1:Nat):Int):=by rw[eB]<;>omega
    have w2:IntKind.wrap .i64 (nest+1)=nest+1:=eB (by omega) (by omega)
    have c1:=fun s=>Bw GO.atl GO.mR s
    have c2:=fun s=>Zr GO s
    simp only[Sm.fU,I9]at h
    by_cases VY:j+1≤200
    ·have r1:=Ja (nest:=nest+1) (l:=s.aP) VY
     have c3:=fun s' ho=>(ih s.aP (by omega) (by omega) hft (nest+1) (j+1) (by omega) (by omega) VY).XT (s:=s') (o:=0) (by simp[D.bM,D.ok,nF,Tag.ok]) rfl rfl rfl ho
     by_cases vG:(Sm.iI (nest+1) (j+1) s.aP).1=true
     ·have c4:=fun s' ho=>(ih s.aM (by omega) (by omega) hfe (nest+1) _ (by omega) (by omega) (r1.2 vG)).XT (s:=s') (o:=0) (by simp [D.bM,D.ok,nF,Tag.ok]) rfl rfl rfl ho
      have r2:=Ja (nest:=nest+1) (l:=s.aM) (r1.2 vG)
      simp only[vG]at c3
      simp only[vG,Bool.not_true,Bool.false_eq_true,↓reduceIte]at h
      repeat' (first
 |simp only[go_sem,hD,hZ,gA,gB,w1,w2,vG]
 |(with_reducible refine CU (c1 _) ?_)
 |(with_reducible refine CU (c2 _) ?_)
 |(with_reducible refine CU (c3 _ rfl) ?_)
 |(with_reducible refine CU (c4 _ rfl) ?_)
 |(with_reducible first|refine bt fun hc=>?_|refine bu fun hc=>?_|refine bx (fun hc=>?_) fun hc=>?_)<;>(try simp only[hc,bs,↓reduceIte]at h)<;>try simp only[hc]
 |(with_reducible refine aI hQ ?_;(try cases h);simp only[bh,bj,bP,bQ,go_sem,hD,hZ,gA,gB,w1,w2,vG];try exact cO))
      refine fG 1 0 (IH (rest,k+1,(Sm.iI (nest+1) (Sm.iI (nest+1) (j+1) s.aP).2 s.aM).2) ⟨g2,h,r2.2 (by assumption)⟩ (Nat.lt_succ_self _))
     ·have vG:(Sm.iI (nest+1) (j+1) s.aP).1=false:=by simpa using vG
      simp only[vG]at c3
      simp only[vG,Bool.not_false,↓reduceIte]at h
      repeat' (first
 |simp only[go_sem,hD,hZ,gA,gB,w1,w2,vG]
 |(with_reducible refine CU (c1 _) ?_)
 |(with_reducible refine CU (c2 _) ?_)
 |(with_reducible refine CU (c3 _ rfl) ?_)
 |(with_reducible first|refine bt fun hc=>?_|refine bu fun hc=>?_|refine bx (fun hc=>?_) fun hc=>?_)<;>(try simp only[hc,bs,↓reduceIte]at h)<;>try simp only[hc]
 | (with_reducible refine aI hQ ?_;(try cases h);simp only [bh,bj,bP,bQ,go_sem,hD,hZ,gA,gB,w1,w2,vG];try exact cO))
    ·have d1:decide (((j+1:Nat):Int) > 200)=true:=by simp;omega
     simp only[d1,Bool.true_or,Bool.not_false,↓reduceIte]at h
     repeat' (first
 |simp only[go_sem,hD,hZ,gA,gB,w1,w2,d1]
 |(with_reducible refine CU (c1 _) ?_)
 |(with_reducible refine CU (c2 _) ?_)
 |(with_reducible first|refine bt fun hc=>?_|refine bu fun hc=>?_|refine bx (fun hc=>?_) fun hc=>?_)<;>(try simp only[hc,bs,↓reduceIte]at h)<;>try simp only[hc]
 |(with_reducible refine aI hQ ?_;(try cases h);simp only[bh,bj,bP,bQ,go_sem,hD,hZ,gA,gB,w1,w2,d1];try exact cO))
def Pc.fU (n:Nat):List Pc→Bool
 | []=>true
 |f::l=>
  if decide ((f.params.length:Int) > 8) ||decide ((f.vars.length:Int) > 16) || !(isName f.name) || !(ew f.vars) || !(ew f.fin)then false
  else if !(Pm.fP f.params)then false
  else if !(Sm.iI 1 n f.body).1 then false
  else Pc.fU (Sm.iI 1 n f.body).2 l
def Pg.Jb (p:Pg):Bool:=
 if decide ((p.globals.length:Int) > 16) ||decide ((p.procs.length:Int) > 16) || !(ew p.globals)then false
 else Pc.fU 0 p.procs
structure Pg.Ls (p:Pg):Prop where
 sz:p.size<4611686018427387000
 rF : ∀ t∈p.globals,t.length<4611686018427387904
 gQ : ∀ f∈p.procs,f.name.length<4611686018427387904∧(∀ t∈f.vars,t.length<4611686018427387904)∧(∀ t∈f.fin,t.length<4611686018427387904)∧∀ a∈f.params,a.name.length<4611686018427387904
 body : ∀ f∈p.procs,Sm.lA f.body
theorem M9 {p:Pg} (hf:p.Ls) (s:St):aH Tryz.prog tc [.agg (bO p)] s (.bool p.Jb) s:=by
 refine aH.pure ?_ (by simp only[D.bM,D.ok,iy];rfl) rfl s
 obtain⟨dU,tD,ahK,Em⟩:=hf
 have rn:Pc.a7 p.procs<4611686018427387000:=by simp only[Pg.size]at dU;omega
 have al5:p.globals.length<4611686018427387904:=by simp only[Pg.size]at dU;omega
 have aBp:p.procs.length<4611686018427387904:=by have:=Pc.dQ p.procs;omega
 have hg:=fun s=>Bw al5 tD s
 unfold S0
 generalize h:p.Jb=R
 unfold Pg.Jb at h
 refine aH.go MT rfl fun B Q hB hQ=>?_
 have⟨hD,hZ,gA,gB⟩:=bX
 repeat' (first
 |simp only[go_sem,hD,hZ,gA,gB]
 |(with_reducible refine CU (hg _) ?_)
 |(with_reducible first|refine bt fun hc=>?_|refine bu fun hc=>?_|refine bx (fun hc=>?_) fun hc=>?_)<;>(try simp only[hc,bs,↓reduceIte]at h)<;>try simp only[hc]
 |(with_reducible refine aI hQ ?_;exact fS))
 refine fG 2 0 (bp.ind (ι:=List Pc×Nat×Nat) (fun i=>p.procs.drop i.2.1=i.1∧Pc.fU i.2.2 i.1=R∧i.2.2≤200) (fun i=>i.1.length)
  (fun i=> [(1, .ptr 0 0),(3, .ptr 1 0),(27, .slice .shared 5 (p.procs.map bN)),(28, .int .i64 (p.procs.length:Int)),(29, .int .i64 (i.2.1:Int))]) (fun i=>⟨[bO p,[.int .i64 (i.2.2:Int)]],[]⟩) ?_ (p.procs,0,0) ⟨rfl,h,Nat.zero_le _⟩)
 rintro⟨rest,k,n⟩ ⟨h1,h,hn⟩ IH
 dsimp only at h1 h hn
 cases rest with
 |nil=>
  have hD:=drop_nil h1
  simp only[Pc.fU]at h
  repeat' (first
 |simp only[go_sem,hD,hZ,gA,gB]
 |(with_reducible first|refine bt fun hc=>?_|refine bu fun hc=>?_|refine bx (fun hc=>?_) fun hc=>?_)<;>(try simp only[hc,bs,↓reduceIte]at h)<;>try simp only[hc]
 |(with_reducible refine aI hQ ?_;exact fS))
 |cons f rest=>
  obtain⟨hZ,g2,hD,g4⟩:=drop_cons h1
  have cu:k<4611686018427387904:=by omega
  have iM:=List.mem_of_getElem? hZ
  have Cu:=Pc.da iM
  simp only[Pc.size]at Cu
  obtain⟨Cv,hfv,hff,VZ⟩:=ahK f iM
  have hnm:=DG f.name Cv
  have hv:=fun s=>Bw (by omega) hfv s
  have he:=fun s=>Bw (by omega) hff s
  have hb:=fun s' o ho=>(aec _ f.body (Nat.le_refl _) (by omega) (Em f iM) 1 n (by omega) (by omega) hn).XT (s:=s') (o:=o) (by simp[D.bM,D.ok,nF,Tag.ok]) rfl rfl rfl ho
  have hle:=Ja (nest:=1) (l:=f.body) hn
  simp only[Pc.fU]at h
  repeat' (first
 |simp only[go_sem,hD,hZ,gA,gB]
 |(with_reducible refine CU (hnm _) ?_)
 |(with_reducible refine CU (hv _) ?_)
 |(with_reducible refine CU (he _) ?_)
 |(with_reducible first|refine bt fun hc=>?_|refine bu fun hc=>?_|refine bx (fun hc=>?_) fun hc=>?_)<;>(try simp only[hc,bs,↓reduceIte]at h)<;>try simp only[hc]
 |(with_reducible refine aI hQ ?_;exact fS)
 | (cases h;done))
  refine fG 3 0 (bp.ind (ι:=List Pm×Nat) (fun i=>f.params.drop i.2=i.1∧(if !(Pm.fP i.1)then false else if !(Sm.iI 1 n f.body).1 then false else Pc.fU (Sm.iI 1 n f.body).2 rest)=R) (fun i=>i.1.length)
   (fun i=> [(1, .ptr 0 0),(3, .ptr 1 0),(5, .ptr 2 0),(27, .slice .shared 5 (p.procs.map bN)),(28, .int .i64 (p.procs.length:Int)),(29, .int .i64 (k:Int)),(62, .slice .shared 2 (f.params.map iJ)),(63, .int .i64 (f.params.length:Int)),(64, .int .i64 (i.2:Int))]) (fun i=>⟨[bO p,[.int .i64 (n:Int)],bN f],[]⟩) ?_ (f.params,0) ⟨rfl,h⟩)
  rintro⟨Tg,j⟩ ⟨j1,h⟩ Hs
  dsimp only at j1 h
  cases Tg with
  |nil=>
   have hD:=drop_nil j1
   simp only[Pm.fP,Bool.not_true,Bool.false_eq_true,↓reduceIte]at h
   repeat' (first
 |simp only[go_sem,hD,hZ,gA,gB]
 |(with_reducible refine CU (hb _ _ rfl) ?_)
 |(with_reducible first|refine bt fun hc=>?_|refine bu fun hc=>?_|refine bx (fun hc=>?_) fun hc=>?_)<;>(try simp only[hc,bs,↓reduceIte]at h)<;>try simp only[hc]
 |(with_reducible refine aI hQ ?_;exact fS)
 | (cases h;done))
   refine fi 2 0 ?_ ?_ (IH (rest,k+1,(Sm.iI 1 n f.body).2) ⟨g2,h,hle.2 (by assumption)⟩ (Nat.lt_succ_self _))
   ·(simp only[go_sem,hD,hZ,gA,gB,aN cu];try exact bY)
   ·(simp only[go_sem,hD,hZ,gA,gB,aN cu];try exact bY)
  |cons a Tg=>
   obtain⟨hZ,b2,hD,b4⟩:=drop_cons j1
   have VY:j<4611686018427387904:=by omega
   have ha:=DG a.name (VZ a (List.mem_of_getElem? hZ))
   simp only[Pm.fP]at h
   repeat' (first
 |simp only[go_sem,hD,hZ,gA,gB]
 |(with_reducible refine CU (ha _) ?_)
 |(with_reducible first|refine bt fun hc=>?_|refine bu fun hc=>?_|refine bx (fun hc=>?_) fun hc=>?_)<;>(try simp only[hc,bs,↓reduceIte]at h)<;>try simp only[hc]
 |(with_reducible refine aI hQ ?_;exact fS)
 | (cases h;done))
   refine fi 3 0 ?_ ?_ (Hs (Tg,j+1) ⟨b2,h⟩ (Nat.lt_succ_self _))
   ·(simp only[go_sem,hD,hZ,gA,gB,aN VY];try exact bY)
   ·(simp only[go_sem,hD,hZ,gA,gB,aN VY];try exact bY)
theorem By {s:aK} (h:isName s=true):s.length≤8:=by
 cases s with
 |nil=>simp
 | cons c r=>
  simp only[isName]at h
  split at h
  ·cases h
  ·rename_i hc
   simp only[Bool.or_eq_true,decide_eq_true_eq,not_or]at hc
   simp only[List.length_cons];omega
theorem qK {t:aK} : ∀ {l:List aK},ew l=true→t∈l→isName t=true
 | s::l,h,m=>by
  simp only[ew]at h
  cases hs:isName s
  ·simp[hs]at h
  ·simp [hs]at h
   rcases List.mem_cons.1 m with rfl|m
   ·exact hs
   ·exact qK h m
theorem Na {a:Ar} : ∀ {l:List Ar},Ar.fP l=true→a∈l→a.may=true
 | s::l,h,m=>by
  simp only[Ar.fP]at h
  cases hs:s.may
  ·simp[hs]at h
  ·simp [hs]at h
   rcases List.mem_cons.1 m with rfl|m
   ·exact hs
   ·exact Na h m
theorem JV {a:Pm} : ∀ {l:List Pm},Pm.fP l=true→a∈l→isName a.name=true
 | s::l,h,m=>by
  simp only[Pm.fP]at h
  cases hs:isName s.name
  ·simp[hs]at h
  ·simp [hs]at h
   rcases List.mem_cons.1 m with rfl|m
   ·exact hs
   ·exact JV h m
mutual
theorem Ht : ∀ x:Ex,x.form=true→x.texts
 | ⟨op,n,name,kids⟩,h=>by
  simp only[Ex.form]at h
  split at h
  ·cases h
  ·rename_i hc
   refine⟨?_,Fi kids h⟩
   simp only[Bool.or_eq_true,Bool.and_eq_true,Bool.not_eq_true',not_or,not_and,Bool.not_eq_false]at hc
   cases hn:(name == [])
   ·have:=By (hc.2 hn);omega
   ·simp at hn;subst hn;simp
theorem Fi : ∀ l:List Ex,Ex.vg l=true→Ex.xF l
 | [],_=>trivial
 | x::l,h=>by
  simp only[Ex.vg]at h
  cases hx:x.form
  ·simp[hx]at h
  ·simp [hx]at h
   exact⟨Ht x hx,Fi l h⟩
end
theorem JW {x:Ex} (h:x.may=true):x.texts:=by
 unfold Ex.may at h
 simp only[Bool.and_eq_true]at h
 exact Ht x h.2
theorem Hu {x:Ex} (h:x.none=true):x.texts:=by
 obtain⟨op,n,name,kids⟩:=x
 simp[Ex.none]at h
 obtain⟨⟨_,h1⟩,h2⟩:=h
 subst h1 h2
 exact⟨by simp,trivial⟩
mutual
theorem V0 {deep bW:Int} {aM:Bool} {out:List It} {i:It} : ∀ s:Sm,i∈gL deep bW aM out s→i∈out∨i.s.size≤s.size
 | ⟨id,kind,labels,name,proc,x,has,args,aP,e⟩,h=>by
  simp only[gL]at h
  have key:i∈out++ [(⟨⟨id,kind,labels,name,proc,x,has,args,aP,e⟩,deep,bW,aM⟩:It)]→i∈out∨i.s.size≤(⟨id,kind,labels,name,proc,x,has,args,aP,e⟩:Sm).size:=by
   intro h
   rcases List.mem_append.1 h with h|h
   ·exact .inl h
   ·simp at h;subst h;exact .inr (Nat.le_refl _)
  split at h
  ·rcases yJ e h with h | h
   ·rcases yJ aP h with h | h
    ·exact key h
    ·right;simp only[Sm.size];omega
   ·right;simp only[Sm.size];omega
  ·exact key h
theorem yJ {deep bW:Int} {aM:Bool} {out:List It} {i:It} : ∀ l:List Sm,i∈dO deep bW aM out l→i∈out∨i.s.size<Sm.a7 l
 | [],h=>by simp only[dO]at h;exact .inl h
 | s::l,h=>by
  simp only[dO]at h
  split at h
  ·rcases yJ l h with h | h
   ·rcases V0 s h with h | h
    ·exact .inl h
    ·right;simp only[Sm.a7];omega
   ·right;simp only[Sm.a7];omega
  ·exact .inl h
end
theorem Nb {i:It} : ∀ (l:List Pc) (out:List It),i∈allM out l→i∈out∨i.s.size<Pc.a7 l
 | [],out,h=>by simp only[allM]at h;exact .inl h
 | f::l,out,h=>by
  have key:i∈out++f.flat→i∈out∨i.s.size<Pc.a7 (f::l):=by
   intro h
   rcases List.mem_append.1 h with h|h
   ·exact .inl h
   ·rcases yJ _ h with h | h
    ·simp at h
    ·right;simp only[Pc.a7,Pc.size];omega
  simp only[allM]at h
  split at h
  ·exact key h
  ·rcases Nb l _ h with h | h
   ·exact key h
   ·right;simp only[Pc.a7];omega
theorem Hv {i:It} : ∀ (l:List It) (n:Nat),It.fP n l=true→i∈l→i.s.one=true
 | s::l,n,h,m=>by
  simp only[It.fP]at h
  split at h
  ·cases h
  ·rename_i hc
   simp only[Bool.or_eq_true,Bool.not_eq_true',not_or,Bool.not_eq_false]at hc
   rcases List.mem_cons.1 m with rfl|m
   ·exact hc.2
   ·exact Hv l (n+1) h m
theorem Nc {s:Sm} (h:s.one=true) (hs:s.size<4611686018427387000):s.wh:=by
 unfold Sm.one at h
 split at h
 ·cases h
 split at h
 ·cases h
 split at h
 ·cases h
 split at h
 ·cases h
 rename_i c1 c2 c3 c4
 simp only[Bool.or_eq_true,Bool.and_eq_true,Bool.not_eq_true',not_or,not_and,Bool.not_eq_false,decide_eq_true_eq]at c1 c2 c3 c4
 obtain⟨⟨⟨⟨⟨_,_⟩,atp⟩,cx⟩,cn⟩,_⟩:=c1
 obtain⟨c21,c22⟩:=c2
 obtain⟨⟨c31,c32⟩,c33⟩:=c3
 have nm : ∀ {t:aK},isName t=true→t.length<4611686018427387904:=fun h=>by have:=By h;omega
 have dU:1+s.labels.length+s.x.size+Ar.a7 s.args≤s.size:=by cases s;simp only[Sm.size];omega
 have sJ:=Ar.dQ s.args
 refine⟨fun t ht=>nm (qK atp ht),by omega, ?_, ?_,by omega, ?_,by omega,fun a ha=>?_⟩
 ·cases hn:s.hasName
  ·cases he:(s.name == [])
   ·exact nm (c22 ⟨hn,he⟩).2
   ·simp at he;rw[he];simp
  ·exact nm (c21 hn)
 ·cases ou:s.xG
  ·rw [ou]at c31
   have:s.proc = []:=by simpa using c31
   rw[this];simp
  ·exact nm (c32 ou)
 ·cases hx:s.DC
  ·exact Hu (cn hx)
  ·exact JW (cx hx)
 ·have hm:=Na c4 ha
  have hsa:=Ar.da ha
  unfold Ar.may at hm
  split at hm
  ·simp only [Bool.and_eq_true]at hm
   exact⟨by omega,Hu hm.2,nm hm.1⟩
  ·simp only [Bool.and_eq_true,beq_iff_eq]at hm
   exact⟨by omega,JW hm.2,by rw[hm.1];simp⟩
theorem JX {f:Pc} : ∀ {l:List Pc},Pc.gQ l=true→f∈l→isName f.name=true∧ew f.vars=true∧ew f.fin=true∧Pm.fP f.params=true
 |s::l,h,m=>by
  simp only[Pc.gQ]at h
  split at h
  ·cases h
  split at h
  ·cases h
  rename_i c1 c2
  simp only[Bool.or_eq_true,Bool.not_eq_true',not_or,Bool.not_eq_false]at c1 c2
  rcases List.mem_cons.1 m with rfl|m
  ·exact⟨c1.1.1.1.1,c1.1.2,c1.2,c2⟩
  ·exact JX h m
theorem Zy {p:Pg} (h:p.may=true) (hs:p.size<4611686018427387000):p.wh:=by
 unfold Pg.may at h
 split at h
 ·cases h
 split at h
 ·cases h
 split at h
 ·cases h
 rename_i c1 c2 c3
 simp only[Bool.or_eq_true,Bool.not_eq_true',not_or,Bool.not_eq_false]at c1 c2
 have nm : ∀ {t:aK},isName t=true→t.length<4611686018427387904:=fun h=>by have:=By h;omega
 refine⟨hs,fun t ht=>nm (qK c1.2 ht),fun f hf=>?_,fun i hi=>?_⟩
 ·obtain⟨a,b,c,d⟩:=JX c2 hf
  exact⟨nm a,fun t ht=>nm (qK b ht),fun t ht=>nm (qK c ht),fun t ht=>nm (JV d ht)⟩
 ·refine Nc (Hv _ _ h hi) ?_
  rcases Nb _ _ hi with h1|h1
  ·simp at h1
  ·simp only[Pg.size]at hs;omega
theorem V1 {t:aK} (h:isName t=true):t≠ []:=by rintro rfl;cases h
theorem Zz (op n:Int) (name:aK) (kids:List Ex):Ex.form ⟨op,n,name,kids⟩=true↔
 pR op=(kids.length:Int)∧(op=1∨n=0)∧0≤n∧(op=2↔name≠ [])∧(name = []∨isName name=true)∧Ex.vg kids=true:=by
 simp only[Ex.form]
 split
 ·rename_i h
  simp only[Bool.or_eq_true,Bool.and_eq_true,bne_iff_ne,ne_eq,decide_eq_true_eq,Bool.not_eq_true']at h
  refine⟨fun h=>(Bool.false_ne_true h).elim,fun⟨h1,h2,h3,h4,h5,_⟩=>?_⟩
  exfalso
  rcases h with (((h|h)|h)|h)|h
  ·exact h h1
  ·rcases h2 with h2 | h2
   ·exact h.1 h2
   ·exact h.2 h2
  ·omega
  ·by_cases h2:op=2<;>cases name<;>simp_all
  ·rcases h5 with h5 | h5
   ·subst h5;simp at h
   ·rw[h5]at h;simp at h
 ·rename_i h
  simp only[Bool.or_eq_true,Bool.and_eq_true,bne_iff_ne,ne_eq,decide_eq_true_eq,Bool.not_eq_true',not_or,not_and,Decidable.not_not,Bool.not_eq_false]at h
  obtain⟨⟨⟨⟨h1,h2⟩,h3⟩,h4⟩,h5⟩:=h
  refine⟨fun h=>⟨h1, ?_,by omega, ?_, ?_,h⟩,fun h=>h.2.2.2.2.2⟩
  ·by_cases h:op=1
   ·exact .inl h
   ·exact .inr (h2 h)
  ·by_cases h2:op=2<;>cases name<;>simp_all
  ·cases name with
   |nil=>exact .inl rfl
   |cons c r=>exact .inr (h5 rfl)
theorem Nd (op n:Int) (name:aK) (kids:List Ex) (k:Int):Ex.dp k ⟨op,n,name,kids⟩=true↔
 1≤k∧(kids.length:Int)=pR op∧(if op=1 then 0≤n∧name = []else if op=2 then n=0∧isName name=true else n=0∧name = []∧Ex.DH (k - 1) kids=true):=by
 simp only[Ex.dp]
 split
 ·rename_i h
  simp only[Bool.or_eq_true,decide_eq_true_eq,bne_iff_ne,ne_eq]at h
  refine⟨fun h=>(Bool.false_ne_true h).elim,fun⟨h1,h2,_⟩=>?_⟩
  rcases h with h|h
  ·omega
  ·exact(h h2).elim
 rename_i h
 simp only[Bool.or_eq_true,decide_eq_true_eq,bne_iff_ne,ne_eq,not_or,Decidable.not_not]at h
 have h1:1≤k:=by omega
 simp only[h1,h.2,true_and]
 by_cases o1:op=1
 ·subst o1
  cases name<;>simp
 ·have o1' : ¬ (op==1)=true:=by simpa using o1
  rw[if_neg o1',if_neg o1]
  by_cases o2:op=2
  ·subst o2;simp
  ·have o2' : ¬ (op==2)=true:=by simpa using o2
   rw[if_neg o2',if_neg o2]
   by_cases hn:n=0
   ·subst hn
    cases name<;>simp
   ·simp[hn]
mutual
theorem aci : ∀ (x:Ex) (k:Int),0≤k→(x.dp k=true↔(x.depth:Int)≤k∧x.form=true)
 | ⟨op,n,name,kids⟩,k,hk=>by
  rw[Nd,Zz]
  have hd:Ex.depth ⟨op,n,name,kids⟩=Ex.rN kids+1:=by simp only[Ex.depth]
  rw[hd]
  by_cases h1:1≤k
  ·have ih:=V2 kids (k - 1) (by omega)
   by_cases o1:op=1
   ·subst o1
    have ha:pR 1=0:=rfl
    rw[ha,if_pos rfl]
    constructor
    ·rintro⟨_,h2,h3,h4⟩
     have:kids = []:=List.eq_nil_of_length_eq_zero (by omega)
     subst this;subst h4
     simp[Ex.rN,Ex.vg,h3];omega
    ·rintro⟨h2,h3,_,h4,h5,_⟩
     refine⟨h1,h3.symm,h4, ?_⟩
     cases name
     ·rfl
     ·simp at h5
   ·rw [if_neg o1]
    by_cases o2:op=2
    ·subst o2
     have ha:pR 2=0:=rfl
     rw[ha,if_pos rfl]
     constructor
     ·rintro⟨_,h2,h3,h4⟩
      have:kids = []:=List.eq_nil_of_length_eq_zero (by omega)
      subst this;subst h3
      have:=V1 h4
      simp[Ex.rN,Ex.vg,h4,this];omega
     ·rintro⟨h2,h3,h4,_,h5,h6,_⟩
      refine⟨h1,h3.symm,h4.resolve_left o1, ?_⟩
      exact h6.resolve_left (h5.1 rfl)
    ·rw [if_neg o2,ih]
     constructor
     ·rintro⟨_,h2,h3,h4,h5,h6⟩
      subst h3;subst h4
      exact⟨by omega,h2.symm, .inr rfl,Int.le_refl _,by simp[o2], .inl rfl,h6⟩
     ·rintro⟨h2,h3,h4,_,h5,h6,h7⟩
      refine⟨h1,h3.symm,h4.resolve_left o1, ?_,by omega,h7⟩
      exact Decidable.byContradiction fun h=>o2 (h5.2 h)
  ·constructor
   ·rintro⟨h,_⟩;exact(h1 h).elim
   ·rintro⟨h,_⟩;omega
theorem V2 : ∀ (l:List Ex) (k:Int),0≤k→(Ex.DH k l=true↔(Ex.rN l:Int)≤k∧Ex.vg l=true)
 | [],k,hk=>by simp[Ex.DH,Ex.rN,Ex.vg,hk]
 | x::l,k,hk=>by
  have h1:=aci x k hk
  have h2:=V2 l k hk
  have hd:Ex.rN (x::l)=max x.depth (Ex.rN l):=by simp only[Ex.rN]
  rw[hd]
  simp only[Ex.DH,Ex.vg]
  cases hx:Ex.dp k x
  ·simp only [Bool.not_false, ↓reduceIte,Bool.false_eq_true,false_iff,not_and]
   intro h3
   have : ¬ ((x.depth:Int)≤k∧x.form=true):=by rw[← h1,hx];simp
   have hf:x.form=false:=by
    cases hf:x.form
    ·rfl
    ·exact(this ⟨by omega,hf⟩).elim
   simp[hf]
  ·have:=h1.1 hx
   simp only[Bool.not_true,Bool.false_eq_true,↓reduceIte,this.2,h2]
   have h3:=this.1
   refine and_congr_left fun _=>?_
   omega
end
theorem Hw (x:Ex):x.dp 20=x.may:=by
 rw[Bool.eq_iff_iff,aci x 20 (by omega)]
 unfold Ex.may
 simp only[Bool.and_eq_true,decide_eq_true_eq]
 refine and_congr_left fun _=>?_
 omega
theorem JY (x:Ex) (b:Bool):xI x b=if b then x.may else x.none:=by
 unfold xI
 rw[Hw]
 cases b<;>simp
theorem JZ (t:aK) (b:Bool):vI t b=if b then isName t else t == []:=by
 unfold vI
 cases b<;>simp
theorem Fj : ∀ l:List Ar,qY l=Ar.fP l
 | []=>rfl
 |a::l=>by
  simp only[qY,Ar.fP,Ar.may,JY,JZ,Fj l]
  grind
theorem Rp {α:Type} (l:List α):((l.length:Int)==0) = !(decide ((l.length:Int) > 0)):=by
 cases l with
 |nil=>rfl
 |cons a l=>
  have h1:(((a::l).length:Int)==0)=false:=by simp only[List.length_cons,beq_eq_false_iff_ne];omega
  have h2:decide (((a::l).length:Int) > 0)=true:=by simp only[List.length_cons,decide_eq_true_eq];omega
  rw[h1,h2];rfl
theorem Hx (s:Sm):s.one=(ew s.labels && s.fields):=by
 have hk:s.kind=1∨s.kind=2∨s.kind=3∨s.kind=4∨s.kind=5∨s.kind=6∨s.kind=7∨s.kind=8∨s.kind=9∨s.kind=10∨s.kind<1∨s.kind > 10:=by omega
 unfold Sm.one Sm.fields Sm.flags Sm.DC Sm.hasName Sm.xG
 have p1:isName [] = false:=rfl
 rcases hk with h|h|h|h|h|h|h|h|h|h|h|h
 all_goals
  simp only[h,Rp,Fj,JY,JZ,Sm.Lr,Sm.Lq]
  grind
mutual
def Ex.nU (out:List aK):Ex→List aK
 |⟨op,_,name,kids⟩=>Ex.mV (if op==2 && !(fC out name)then out++ [name]else out) kids
def Ex.mV (out:List aK):List Ex→List aK
 | []=>out
 |x::l=>Ex.mV (Ex.nU out x) l
end
def Ex.names (x:Ex):List aK:=if x.may then x.nU []else []
mutual
theorem uL (out:List aK) : ∀ x:Ex,(Ex.nU out x).length≤out.length+x.size
 |⟨op,n,name,kids⟩=>by
  simp only[Ex.nU,Ex.size]
  have h:=J0 (if op==2 && !(fC out name)then out++ [name]else out) kids
  refine Nat.le_trans h ?_
  split<;>simp<;>omega
theorem J0 (out:List aK) : ∀ l:List Ex,(Ex.mV out l).length≤out.length+Ex.a7 l
 | []=>by simp[Ex.mV,Ex.a7]
 |x::l=>by
  simp only[Ex.mV,Ex.a7]
  have h1:=uL out x
  have h2:=J0 (Ex.nU out x) l
  omega
end
def vh (out:List aK) (x:aK):List aK:=if fC out x then out else out++ [x]
def al6 (x:aK):List aK→Bool
 | []=>false
 |s::l=>if s==x then true else al6 x l
abbrev V3 (N:Nat):Prop:=∀ (x:Ex),x.size≤N→∀ out:List aK,out.length+x.size≤1000000000→∀ {s:St} {t:Nat},s.aA[t]? = some (some out.length)→
 aH Tryz.prog jM [.agg (cb x), .slice (.tok t) 1 (out.map encStr)] s (.slice (.tok t) 1 ((x.nU out).map encStr)) ⟨s.al,s.aA.set t (some (x.nU out).length)⟩
theorem ahN {N:Nat} (ih:V3 N) {op m:Int} {name:aK} {kids:List Ex} (h:Ex.size ⟨op,m,name,kids⟩≤N+1) {out:List aK} (ho:out.length+Ex.size ⟨op,m,name,kids⟩≤1000000000) :
 aH Tryz.prog jM [.agg (cb ⟨op,m,name,kids⟩), .slice (.tok 0) 1 (out.map encStr)] ⟨[],[some out.length]⟩ (.slice (.tok 0) 1 ((Ex.nU out ⟨op,m,name,kids⟩).map encStr)) ⟨[],[some (Ex.nU out ⟨op,m,name,kids⟩).length]⟩:=by
 obtain⟨R,hG⟩ : ∃ R,Ex.nU out ⟨op,m,name,kids⟩=R:=⟨_,rfl⟩
 rw[hG]
 simp only[Ex.nU]at hG
 simp only[Ex.size]at h ho
 have hlen:kids.length<1000000000:=by have:=Ex.dQ kids;omega
 have hk : ∀ y∈kids,∀ out:List aK,out.length+y.size≤1000000000→∀ {s:St} {t:Nat},s.aA[t]? = some (some out.length)→
  aH Tryz.prog jM [.agg (cb y), .slice (.tok t) 1 (out.map encStr)] s (.slice (.tok t) 1 ((y.nU out).map encStr)) ⟨s.al,s.aA.set t (some (y.nU out).length)⟩:=fun y hy out ho=>
  ih y (by have:=Ex.da hy;omega) out ho
 refine aH.go tz rfl fun B Q hB hQ=>?_
 have⟨hD,hZ,gA,gB⟩:=bX
 have gA:(out.length+1)*17≤bq:=by unfold bq;omega
 rcases Bool.eq_false_or_eq_true (op==2)with b1|b1
 ·rcases Bool.eq_false_or_eq_true (fC out name)with b2 | b2
  ·simp only [b1,b2,Bool.not_true,Bool.and_false,Bool.false_eq_true,if_false]at hG
   repeat' (first
 |simp only[go_sem,hD,hZ,gA,gB,b1,b2]
 |(with_reducible refine CU (kv (l:=out) (by omega) name _ _) ?_)
 | (with_reducible refine aI hQ ?_;exact bA))
   refine fG 1 1 (bp.ind (ι:=List Ex×Nat×List aK×Nat) (fun i=>kids.drop i.2.1=i.1∧Ex.mV i.2.2.1 i.1=R∧i.2.2.1.length+Ex.a7 i.1≤1000000000∧i.2.2.2=i.2.2.1.length) (fun i=>i.1.length)
    (fun i=> [(1, .slice (.tok 0) 1 (i.2.2.1.map encStr)),(2, .ptr 0 0),(23, .slice .shared 4 (kids.map cb)),(24, .int .i64 (kids.length:Int)),(25, .int .i64 (i.2.1:Int))]) (fun i=>⟨[cb ⟨op,m,name,kids⟩],[some i.2.2.2]⟩) ?_ (kids,0,out,out.length) ⟨rfl,hG,by simp;omega,by simp⟩)
   rintro⟨rest,k,df,n'⟩ ⟨h1,h2,h3,h4⟩ IH
   dsimp only at h1 h2 h3 h4
   subst h4
   cases rest with
   |nil=>
    have hD:=drop_nil h1
    simp only[Ex.mV]at h2
    subst h2
    repeat' (first
 |simp only[go_sem,hD,hZ,gA,gB]
 | (with_reducible refine aI hQ ?_;exact bA))
   |cons y rest=>
    obtain⟨hZ,g2,hD,g4⟩:=drop_cons h1
    have cu:k<4611686018427387904:=by omega
    simp only[Ex.mV]at h2
    simp only[Ex.a7]at h3
    have hy:=fun {s:St} {t:Nat} (ht:s.aA[t]? = some (some df.length))=>hk y (List.mem_of_getElem? hZ) df (by omega) ht
    have hl:=uL df y
    repeat' (first
 |simp only[go_sem,hD,hZ,gA,gB]
 |(with_reducible refine CU (hy (by with_unfolding_all rfl)) ?_)
 | (with_reducible refine aI hQ ?_;exact bA))
    refine fi 1 1 ?_ ?_ (IH (rest,k+1,_,_) ⟨g2,h2,by dsimp only;omega,rfl⟩ (Nat.lt_succ_self _))
    ·(simp only[go_sem,hD,hZ,gA,gB,aN cu];try exact bY)
    ·(simp only[go_sem,hD,hZ,gA,gB,aN cu];try exact bY)
  ·simp only [b1,b2,Bool.not_false,Bool.and_true,if_true]at hG
   repeat' (first
 |simp only[go_sem,hD,hZ,gA,gB,b1,b2]
 |(with_reducible refine CU (kv (l:=out) (by omega) name _ _) ?_)
 | (with_reducible refine aI hQ ?_;exact bA))
   refine fi 1 1 ?_ ?_ (bp.ind (ι:=List Ex×Nat×List aK×Nat) (fun i=>kids.drop i.2.1=i.1∧Ex.mV i.2.2.1 i.1=R∧i.2.2.1.length+Ex.a7 i.1≤1000000000∧i.2.2.2=i.2.2.1.length) (fun i=>i.1.length)
    (fun i=> [(1, .slice (.tok 0) 1 (i.2.2.1.map encStr)),(2, .ptr 0 0),(23, .slice .shared 4 (kids.map cb)),(24, .int .i64 (kids.length:Int)),(25, .int .i64 (i.2.1:Int))]) (fun i=>⟨[cb ⟨op,m,name,kids⟩],[some i.2.2.2]⟩) ?_ (kids,0,(out++ [name]),(out.length+1)) ⟨rfl,hG,by simp;omega,by simp⟩)
   ·(simp only[go_sem,hD,hZ,gA,gB,List.map_append,List.map_cons,List.map_nil,List.length_append,List.length_cons,List.length_nil,encStr];try exact bY)
   ·(simp only[go_sem,hD,hZ,gA,gB,List.map_append,List.map_cons,List.map_nil,List.length_append,List.length_cons,List.length_nil,encStr];try exact bY)
   rintro⟨rest,k,df,n'⟩ ⟨h1,h2,h3,h4⟩ IH
   dsimp only at h1 h2 h3 h4
   subst h4
   cases rest with
   |nil=>
    have hD:=drop_nil h1
    simp only[Ex.mV]at h2
    subst h2
    repeat' (first
 |simp only[go_sem,hD,hZ,gA,gB]
 | (with_reducible refine aI hQ ?_;exact bA))
   |cons y rest=>
    obtain⟨hZ,g2,hD,g4⟩:=drop_cons h1
    have cu:k<4611686018427387904:=by omega
    simp only[Ex.mV]at h2
    simp only[Ex.a7]at h3
    have hy:=fun {s:St} {t:Nat} (ht:s.aA[t]? = some (some df.length))=>hk y (List.mem_of_getElem? hZ) df (by omega) ht
    have hl:=uL df y
    repeat' (first
 |simp only[go_sem,hD,hZ,gA,gB]
 |(with_reducible refine CU (hy (by with_unfolding_all rfl)) ?_)
 | (with_reducible refine aI hQ ?_;exact bA))
    refine fi 1 1 ?_ ?_ (IH (rest,k+1,_,_) ⟨g2,h2,by dsimp only;omega,rfl⟩ (Nat.lt_succ_self _))
    ·(simp only[go_sem,hD,hZ,gA,gB,aN cu];try exact bY)
    ·(simp only[go_sem,hD,hZ,gA,gB,aN cu];try exact bY)
 ·simp only [b1,Bool.false_and,Bool.false_eq_true,if_false]at hG
  repeat' (first
 |simp only[go_sem,hD,hZ,gA,gB,b1]
 | (with_reducible refine aI hQ ?_;exact bA))
  refine fG 1 1 (bp.ind (ι:=List Ex×Nat×List aK×Nat) (fun i=>kids.drop i.2.1=i.1∧Ex.mV i.2.2.1 i.1=R∧i.2.2.1.length+Ex.a7 i.1≤1000000000∧i.2.2.2=i.2.2.1.length) (fun i=>i.1.length)
   (fun i=> [(1, .slice (.tok 0) 1 (i.2.2.1.map encStr)),(2, .ptr 0 0),(23, .slice .shared 4 (kids.map cb)),(24, .int .i64 (kids.length:Int)),(25, .int .i64 (i.2.1:Int))]) (fun i=>⟨[cb ⟨op,m,name,kids⟩],[some i.2.2.2]⟩) ?_ (kids,0,out,out.length) ⟨rfl,hG,by simp;omega,by simp⟩)
  rintro⟨rest,k,df,n'⟩ ⟨h1,h2,h3,h4⟩ IH
  dsimp only at h1 h2 h3 h4
  subst h4
  cases rest with
  |nil=>
   have hD:=drop_nil h1
   simp only[Ex.mV]at h2
   subst h2
   repeat' (first
 |simp only[go_sem,hD,hZ,gA,gB]
 | (with_reducible refine aI hQ ?_;exact bA))
  |cons y rest=>
   obtain⟨hZ,g2,hD,g4⟩:=drop_cons h1
   have cu:k<4611686018427387904:=by omega
   simp only[Ex.mV]at h2
   simp only[Ex.a7]at h3
   have hy:=fun {s:St} {t:Nat} (ht:s.aA[t]? = some (some df.length))=>hk y (List.mem_of_getElem? hZ) df (by omega) ht
   have hl:=uL df y
   repeat' (first
 |simp only[go_sem,hD,hZ,gA,gB]
 |(with_reducible refine CU (hy (by with_unfolding_all rfl)) ?_)
 | (with_reducible refine aI hQ ?_;exact bA))
   refine fi 1 1 ?_ ?_ (IH (rest,k+1,_,_) ⟨g2,h2,by dsimp only;omega,rfl⟩ (Nat.lt_succ_self _))
   ·(simp only[go_sem,hD,hZ,gA,gB,aN cu];try exact bY)
   ·(simp only[go_sem,hD,hZ,gA,gB,aN cu];try exact bY)
theorem ZA : ∀ N,V3 N:=by
 intro N
 induction N with
 |zero=>rintro⟨op,m,name,kids⟩ h;simp only[Ex.size]at h;omega
 |succ N ih=>
  rintro⟨op,m,name,kids⟩ h out ho s t ht
  exact(ahN ih h ho).afW (pre:= [_]) (post:= []) (by simp only[D.bM,D.ok,lx];rfl) rfl (fI out) (fI _) ht
abbrev aui (N:Nat):Prop:=∀ (x:Ex),x.size≤N→∀ out:List aK,out.length+x.size≤1000000000→∀ {s:St} {t:Nat},s.aA[t]? = some (some out.length)→
 aH Tryz.prog Pf [.agg (cb x), .slice (.tok t) 1 (out.map encStr)] s (.slice (.tok t) 1 ((x.nU out).map encStr)) ⟨s.al,s.aA.set t (some (x.nU out).length)⟩
theorem V4 {op m:Int} {name:aK} {kids:List Ex} (h:Ex.form ⟨op,m,name,kids⟩=true) (h2:(op==2)=true):kids = []:=by
 have e:op=2:=by simpa using h2
 subst e
 simp only[Ex.form]at h
 split at h
 ·cases h
 ·rename_i hh
  simp only[Bool.or_eq_true,not_or,bne_iff_ne,ne_eq,Decidable.not_not]at hh
  have:=hh.1.1.1.1
  have e:pR 2=0:=rfl
  rw[e]at this
  exact List.length_eq_zero_iff.1 (by omega)
theorem ZB {op m:Int} {name:aK} {kids:List Ex} (hf:(op==2)=true→kids = []) (ho:Ex.size ⟨op,m,name,kids⟩≤1000000000) (s:St) :
 aH Tryz.prog jM [.agg (cb ⟨op,m,name,kids⟩), .slice .full 0 []] s (.slice .shared 1 ((Ex.nU [] ⟨op,m,name,kids⟩).map encStr)) s:=by
 refine aH.pure ?_ (by simp only[D.bM,D.ok,lx];rfl) (by simp only[D.ok,Tag.ok,fI];rfl) s
 obtain⟨R,hG⟩ : ∃ R,Ex.nU [] ⟨op,m,name,kids⟩=R:=⟨_,rfl⟩
 rw[hG]
 simp only[Ex.nU]at hG
 simp only[Ex.size]at ho
 have hlen:kids.length<1000000000:=by have:=Ex.dQ kids;omega
 have hk : ∀ y∈kids,∀ out:List aK,out.length+y.size≤1000000000→∀ {s:St} {t:Nat},s.aA[t]? = some (some out.length)→
  aH Tryz.prog jM [.agg (cb y), .slice (.tok t) 1 (out.map encStr)] s (.slice (.tok t) 1 ((y.nU out).map encStr)) ⟨s.al,s.aA.set t (some (y.nU out).length)⟩:=fun y hy out ho=>
  ZA y.size y (Nat.le_refl _) out ho
 unfold S0
 rcases Bool.eq_false_or_eq_true (op==2)with b1|b1
 ·have hk0:=hf b1
  subst hk0
  have e:fC [] name=false:=rfl
  simp only[b1,e,Bool.not_false,Bool.and_true,if_true,Ex.mV,List.nil_append]at hG
  subst hG
  refine aH.go tz rfl fun B Q hB hQ=>?_
  have⟨hD,hZ,gA,gB⟩:=bX
  have gA:17≤bq:=by unfold bq;omega
  repeat' (first
 |simp only[go_sem,hD,hZ,gA,gB,b1,List.map_nil,List.map_cons,List.length_nil,encStr,Int.natCast_zero,Int.lt_irrefl,decide_false]
 |(with_reducible refine CU (M6 name _ _ _) ?_)
 |(with_reducible refine bp.kO ?_)
 |(with_reducible refine aI hQ ?_;exact bA))
 ·simp only [b1,Bool.false_and,Bool.false_eq_true,if_false]at hG
  refine aH.go tz rfl fun B Q hB hQ=>?_
  have⟨hD,hZ,gA,gB⟩:=bX
  repeat' (first
 |simp only[go_sem,hD,hZ,gA,gB,b1]
 | (with_reducible refine aI hQ ?_;exact bA))
  refine bp.sq 1 1 rfl ?_
  simp only[go_sem,hD,hZ,gA,gB]
  refine fG 1 1 (bp.ind (ι:=List Ex×Nat×List aK×Nat) (fun i=>kids.drop i.2.1=i.1∧Ex.mV i.2.2.1 i.1=R∧i.2.2.1.length+Ex.a7 i.1≤1000000000∧i.2.2.2=i.2.2.1.length) (fun i=>i.1.length)
   (fun i=> [(1, .slice (.tok 0) 1 (i.2.2.1.map encStr)),(2, .ptr 0 0),(23, .slice .shared 4 (kids.map cb)),(24, .int .i64 (kids.length:Int)),(25, .int .i64 (i.2.1:Int))]) (fun i=>⟨[cb ⟨op,m,name,kids⟩],[some i.2.2.2]⟩) ?_ (kids,0,[],0) ⟨rfl,hG,by simp;omega,by simp⟩)
  rintro⟨rest,k,df,n'⟩ ⟨h1,h2,h3,h4⟩ IH
  dsimp only at h1 h2 h3 h4
  subst h4
  cases rest with
  |nil=>
   have hD:=drop_nil h1
   simp only[Ex.mV]at h2
   subst h2
   repeat' (first
 |simp only[go_sem,hD,hZ,gA,gB]
 | (with_reducible refine aI hQ ?_;exact bA))
  |cons y rest=>
   obtain⟨hZ,g2,hD,g4⟩:=drop_cons h1
   have cu:k<4611686018427387904:=by omega
   simp only[Ex.mV]at h2
   simp only[Ex.a7]at h3
   have hy:=fun {s:St} {t:Nat} (ht:s.aA[t]? = some (some df.length))=>hk y (List.mem_of_getElem? hZ) df (by omega) ht
   have hl:=uL df y
   repeat' (first
 |simp only[go_sem,hD,hZ,gA,gB]
 |(with_reducible refine CU (hy (by with_unfolding_all rfl)) ?_)
 | (with_reducible refine aI hQ ?_;exact bA))
   refine fi 1 1 ?_ ?_ (IH (rest,k+1,_,_) ⟨g2,h2,by dsimp only;omega,rfl⟩ (Nat.lt_succ_self _))
   ·(simp only[go_sem,hD,hZ,gA,gB,aN cu];try exact bY)
   ·(simp only[go_sem,hD,hZ,gA,gB,aN cu];try exact bY)
theorem oH {x:Ex} (hx:x.size≤1000000000) (ht:x.texts) (s:St):aH Tryz.prog tt [.agg (cb x)] s (.slice .shared 1 (x.names.map encStr)) s:=by
 refine aH.pure ?_ (by simp only[D.bM,D.ok,lx];rfl) (by simp only[D.ok,Tag.ok,fI];rfl) s
 have hm:=fun s=>Bx (x:=x) (by omega) ht s
 simp only[Hw]at hm
 unfold Ex.names
 unfold S0
 cases hb:x.may
 ·simp only [hb]at hm
  simp only[Bool.false_eq_true,if_false,List.map_nil]
  refine aH.go AH rfl fun B Q hB hQ=>?_
  have⟨hD,hZ,gA,gB⟩:=bX
  repeat' (first
 |simp only[go_sem,hD,hZ,gA,gB]
 |(with_reducible refine CU (hm _) ?_)
 |(with_reducible refine aI hQ ?_;exact bA))
 ·simp only [hb]at hm
  simp only[if_true]
  have hg : ∀ s,aH Tryz.prog jM [.agg (cb x), .slice .full 0 []] s (.slice .shared 1 ((x.nU []).map encStr)) s:=by
   intro s
   obtain⟨op,m,name,kids⟩:=x
   exact ZB (fun h2=>V4 (by simp only[Ex.may,Bool.and_eq_true]at hb;exact hb.2) h2) hx s
  refine aH.go AH rfl fun B Q hB hQ=>?_
  have⟨hD,hZ,gA,gB⟩:=bX
  repeat' (first
 |simp only[go_sem,hD,hZ,gA,gB]
 |(with_reducible refine CU (hm _) ?_)
 |(with_reducible refine CU (hg _) ?_)
 |(with_reducible refine aI hQ ?_;exact bA))
def Ar.said (out:List aK):List Ar→List aK
 | []=>out
 |a::l=>Ar.said ((if a.ref then out++ [a.name]else out)++a.x.names) l
def Sm.vi (v:Sm):List aK:=if v.kind != 10 && v.name != []then [v.name]else []
def Sm.said (v:Sm):List aK:=Ar.said (v.vi++v.x.names) v.args
theorem mh (x:Ex):x.names.length≤x.size:=by
 unfold Ex.names
 split
 ·simpa using uL [] x
 ·exact Nat.zero_le _
def Ar.xF:List Ar→Prop
 | []=>True
 |a::l=>a.x.texts∧Ar.xF l
def Sm.oI (v:Sm):Prop:=v.x.texts∧(∀ a∈v.args,a.x.texts)∧v.x.size+Ar.a7 v.args<1000000
theorem lJ {l nx:List aK} {n:Nat} (hn:n=l.length) (h:l.length+nx.length≤1000000000) {g:Tag} (o:List (List D)) :
 jo 1 16 (.slice (.tok 0) 1 (l.map encStr)) (.slice g 1 (nx.map encStr)) ⟨o,[some n]⟩=some (.slice (.tok 0) 1 ((l++nx).map encStr),⟨o,[some (l++nx).length]⟩):=by
 subst hn
 have:=nP (size:=1) (bytes:=16) (t:=0) (rows:=l.map encStr) (new:=nx.map encStr) (g:=g) (s:=⟨o,[some l.length]⟩) (by simp only[List.length_map];unfold bq;omega) (by simp)
 rw[this]
 simp
theorem DI {v:Sm} (hv:v.oI) (s:St):aH Tryz.prog tq [.agg (bd v)] s (.slice .shared 1 (v.said.map encStr)) s:=by
 refine aH.pure ?_ (by simp only[D.bM,D.ok,pz];rfl) (by simp only[D.ok,Tag.ok,fI];rfl) s
 obtain⟨yK,vJ,dU⟩:=hv
 obtain⟨R,hG⟩ : ∃ R,v.said=R:=⟨_,rfl⟩
 rw[hG]
 simp only[Sm.said]at hG
 have hlen:v.args.length<1000000000:=by have:=Ar.dQ v.args;omega
 have hx:=fun s=>oH (x:=v.x) (by omega) yK s
 have P2:=mh v.x
 unfold S0
 refine aH.go I0 rfl fun B Q hB hQ=>?_
 have⟨hD,hZ,gA,gB⟩:=bX
 have gA:17≤bq:=by unfold bq;omega
 by_cases hb:(v.kind != 10 && v.name != [])=true
 ·simp only [Sm.vi,hb,if_true]at hG
  rw[Bool.and_eq_true]at hb
  obtain⟨b1,b2⟩:=hb
  have fl:=lJ (l:= [v.name]) (nx:=v.x.names) (n:=1) rfl (by simp;omega) (g:= .shared)
  simp only[List.map_append,List.map_cons,List.map_nil,encStr]at fl
  have b3:(v.name == [])=false:=by simpa using b2
  repeat' (first
 |simp only[go_sem,hD,hZ,gA,gB,b1,b2,b3,fl]
 |(with_reducible refine CU (hx _) ?_)
 | (with_reducible refine aI hQ ?_;exact bA))
  refine fi 1 1 ?_ ?_ (bp.ind (ι:=List Ar×Nat×List aK×Nat) (fun i=>v.args.drop i.2.1=i.1∧Ar.said i.2.2.1 i.1=R∧i.2.2.1.length+Ar.a7 i.1≤2000000∧i.2.2.2=i.2.2.1.length) (fun i=>i.1.length)
   (fun i=> [(3, .slice (.tok 0) 1 (i.2.2.1.map encStr)),(1, .ptr 0 0),(25, .slice .shared 6 (v.args.map fc)),(26, .int .i64 (v.args.length:Int)),(27, .int .i64 (i.2.1:Int))]) (fun i=>⟨[bd v],[some i.2.2.2]⟩) ?_ (v.args,0,([v.name]++v.x.names),(v.x.names.length+1)) ⟨rfl,hG,by simp at P2 ⊢;omega,by simp⟩)
  ·(simp only[go_sem,hD,hZ,gA,gB,List.map_append,List.map_cons,List.map_nil,encStr];try exact bY)
  ·(simp only[go_sem,hD,hZ,gA,gB,List.map_append,List.map_cons,List.map_nil,encStr];try exact bY)
  rintro⟨rest,k,out,n'⟩ ⟨h1,h2,h3,h4⟩ IH
  dsimp only at h1 h2 h3 h4
  subst h4
  cases rest with
  |nil=>
   have hD:=drop_nil h1
   simp only[Ar.said]at h2
   subst h2
   repeat' (first
 |simp only[go_sem,hD,hZ,gA,gB]
 | (with_reducible refine aI hQ ?_;exact bA))
  | cons a rest=>
   obtain⟨hZ,g2,hD,g4⟩:=drop_cons h1
   have cu:k<4611686018427387904:=by omega
   simp only[Ar.said]at h2
   simp only[Ar.a7]at h3
   have yL:=fun s=>oH (x:=a.x) (by have:=Ar.da (List.mem_of_getElem? hZ);omega) (vJ a (List.mem_of_getElem? hZ)) s
   have hl:=mh a.x
   have gA:(out.length+1)*17≤bq:=by unfold bq;omega
   rcases Bool.eq_false_or_eq_true a.ref with b1|b1
   ·simp only [b1,if_true]at h2
    have fl:=lJ (l:=out++ [a.name]) (nx:=a.x.names) (n:=out.length+1) (by simp) (by simp;omega) (g:= .shared)
    simp only[List.map_append,List.map_cons,List.map_nil,encStr]at fl
    repeat' (first
 |simp only[go_sem,hD,hZ,gA,gB,b1,fl]
 |(with_reducible refine CU (yL _) ?_)
 | (with_reducible refine aI hQ ?_;exact bA))
    refine fi 1 1 ?_ ?_ (IH (rest,k+1,out++ [a.name]++a.x.names,_) ⟨g2,h2,by simp;omega,by simp<;>omega⟩ (Nat.lt_succ_self _))
    ·(simp only[go_sem,hD,hZ,gA,gB,aN cu,List.map_append,List.map_cons,List.map_nil,encStr];try exact bY)
    ·(simp only[go_sem,hD,hZ,gA,gB,aN cu,List.map_append,List.map_cons,List.map_nil,encStr];try exact bY)
   ·simp only [b1,Bool.false_eq_true,if_false]at h2
    have fl:=lJ (l:=out) (nx:=a.x.names) rfl (by omega) (g:= .shared)
    repeat' (first
 |simp only[go_sem,hD,hZ,gA,gB,b1,fl]
 |(with_reducible refine CU (yL _) ?_)
 | (with_reducible refine aI hQ ?_;exact bA))
    refine fi 1 1 ?_ ?_ (IH (rest,k+1,out++a.x.names,_) ⟨g2,h2,by simp;omega,by simp<;>omega⟩ (Nat.lt_succ_self _))
    ·(simp only[go_sem,hD,hZ,gA,gB,aN cu];try exact bY)
    ·(simp only[go_sem,hD,hZ,gA,gB,aN cu];try exact bY)
 ·simp only [Sm.vi,hb,Bool.false_eq_true,if_false,List.nil_append]at hG
  have uj:(v.kind != 10 && v.name != [])=false:=by simpa using hb
  obtain⟨nx,hnx⟩ : ∃ nx,nx=v.x.names:=⟨_,rfl⟩
  rw[← hnx]at hG P2
  simp only[← hnx]at hx
  by_cases L0:nx = []
  ·subst L0
   simp only[List.map_nil]at hx
   have fl : ∀ o:List (List D),jo 1 16 (.slice .full 0 []) (.slice .shared 1 []) ⟨o,[]⟩=some (.slice .full 0 [],⟨o,[]⟩):=fun o=>by simp[jo,bq]
   have HB:(v.kind != 10)=false∨(v.kind != 10)=true∧(v.name != [])=false:=by
    cases h1:(v.kind != 10)
    ·exact .inl rfl
    ·rw[h1]at uj;exact .inr ⟨rfl,by simpa using uj⟩
   rcases HB with b1|⟨b1,b2⟩
   ·rcases Bool.eq_false_or_eq_true (v.name != [])with b2 | b2
    all_goals
     have b3:(v.name == []) = !(v.name != []):=by simp only[bne,Bool.not_not]
     rw[b2]at b3
     repeat' (first
 |simp only[go_sem,hD,hZ,gA,gB,b1,b2,b3,Bool.not_true,Bool.not_false,fl]
 |(with_reducible refine CU (hx _) ?_)
 | (with_reducible refine aI hQ ?_;simp only [bh,bj,bP,bQ,go_sem,hD,hZ,gA,gB];repeat' (first | exact Ok.out | with_reducible refine jG ?_ ?_ | (simp;done))))
    all_goals
     refine bp.sq 3 1 rfl ?_
     simp only[go_sem,hD,hZ,gA,gB]
     refine fG 1 1 (bp.ind (ι:=List Ar×Nat×List aK×Nat) (fun i=>v.args.drop i.2.1=i.1∧Ar.said i.2.2.1 i.1=R∧i.2.2.1.length+Ar.a7 i.1≤2000000∧i.2.2.2=i.2.2.1.length) (fun i=>i.1.length)
      (fun i=> [(3, .slice (.tok 0) 1 (i.2.2.1.map encStr)),(1, .ptr 0 0),(25, .slice .shared 6 (v.args.map fc)),(26, .int .i64 (v.args.length:Int)),(27, .int .i64 (i.2.1:Int))]) (fun i=>⟨[bd v],[some i.2.2.2]⟩) ?_ (v.args,0,[],0) ⟨rfl,hG,by simp at P2 ⊢;omega,by simp⟩)
     rintro⟨rest,k,out,n'⟩ ⟨h1,h2,h3,h4⟩ IH
     dsimp only at h1 h2 h3 h4
     subst h4
     cases rest with
     |nil=>
      have hD:=drop_nil h1
      simp only[Ar.said]at h2
      subst h2
      repeat' (first
 |simp only[go_sem,hD,hZ,gA,gB]
 |(with_reducible refine aI hQ ?_;exact bA))
     | cons a rest=>
      obtain⟨hZ,g2,hD,g4⟩:=drop_cons h1
      have cu:k<4611686018427387904:=by omega
      simp only[Ar.said]at h2
      simp only[Ar.a7]at h3
      have yL:=fun s=>oH (x:=a.x) (by have:=Ar.da (List.mem_of_getElem? hZ);omega) (vJ a (List.mem_of_getElem? hZ)) s
      have hl:=mh a.x
      have gA:(out.length+1)*17≤bq:=by unfold bq;omega
      rcases Bool.eq_false_or_eq_true a.ref with b1|b1
      ·simp only [b1,if_true]at h2
       have fl:=lJ (l:=out++ [a.name]) (nx:=a.x.names) (n:=out.length+1) (by simp) (by simp;omega) (g:= .shared)
       simp only[List.map_append,List.map_cons,List.map_nil,encStr]at fl
       repeat' (first
 |simp only[go_sem,hD,hZ,gA,gB,b1,fl]
 |(with_reducible refine CU (yL _) ?_)
 |(with_reducible refine aI hQ ?_;exact bA))
       refine fi 1 1 ?_ ?_ (IH (rest,k+1,out++ [a.name]++a.x.names,_) ⟨g2,h2,by simp;omega,by simp<;>omega⟩ (Nat.lt_succ_self _))
       ·(simp only[go_sem,hD,hZ,gA,gB,aN cu,List.map_append,List.map_cons,List.map_nil,encStr];try exact bY)
       ·(simp only[go_sem,hD,hZ,gA,gB,aN cu,List.map_append,List.map_cons,List.map_nil,encStr];try exact bY)
      ·simp only [b1,Bool.false_eq_true,if_false]at h2
       have fl:=lJ (l:=out) (nx:=a.x.names) rfl (by omega) (g:= .shared)
       repeat' (first
 |simp only[go_sem,hD,hZ,gA,gB,b1,fl]
 |(with_reducible refine CU (yL _) ?_)
 | (with_reducible refine aI hQ ?_;exact bA))
       refine fi 1 1 ?_ ?_ (IH (rest,k+1,out++a.x.names,_) ⟨g2,h2,by simp;omega,by simp<;>omega⟩ (Nat.lt_succ_self _))
       ·(simp only[go_sem,hD,hZ,gA,gB,aN cu];try exact bY)
       ·(simp only[go_sem,hD,hZ,gA,gB,aN cu];try exact bY)
   ·have b3:(v.name == [])=true:=by simpa using b2
    repeat' (first
 |simp only[go_sem,hD,hZ,gA,gB,b1,b2,b3,fl]
 |(with_reducible refine CU (hx _) ?_)
 | (with_reducible refine aI hQ ?_;exact bA))
    refine bp.sq 3 1 rfl ?_
    simp only[go_sem,hD,hZ,gA,gB]
    refine fG 1 1 (bp.ind (ι:=List Ar×Nat×List aK×Nat) (fun i=>v.args.drop i.2.1=i.1∧Ar.said i.2.2.1 i.1=R∧i.2.2.1.length+Ar.a7 i.1≤2000000∧i.2.2.2=i.2.2.1.length) (fun i=>i.1.length)
     (fun i=> [(3, .slice (.tok 0) 1 (i.2.2.1.map encStr)),(1, .ptr 0 0),(25, .slice .shared 6 (v.args.map fc)),(26, .int .i64 (v.args.length:Int)),(27, .int .i64 (i.2.1:Int))]) (fun i=>⟨[bd v],[some i.2.2.2]⟩) ?_ (v.args,0,[],0) ⟨rfl,hG,by simp at P2 ⊢;omega,by simp⟩)
    rintro⟨rest,k,out,n'⟩ ⟨h1,h2,h3,h4⟩ IH
    dsimp only at h1 h2 h3 h4
    subst h4
    cases rest with
    |nil=>
     have hD:=drop_nil h1
     simp only[Ar.said]at h2
     subst h2
     repeat' (first
 |simp only[go_sem,hD,hZ,gA,gB]
 | (with_reducible refine aI hQ ?_;exact bA))
    | cons a rest=>
     obtain⟨hZ,g2,hD,g4⟩:=drop_cons h1
     have cu:k<4611686018427387904:=by omega
     simp only[Ar.said]at h2
     simp only[Ar.a7]at h3
     have yL:=fun s=>oH (x:=a.x) (by have:=Ar.da (List.mem_of_getElem? hZ);omega) (vJ a (List.mem_of_getElem? hZ)) s
     have hl:=mh a.x
     have gA:(out.length+1)*17≤bq:=by unfold bq;omega
     rcases Bool.eq_false_or_eq_true a.ref with b1|b1
     ·simp only [b1,if_true]at h2
      have fl:=lJ (l:=out++ [a.name]) (nx:=a.x.names) (n:=out.length+1) (by simp) (by simp;omega) (g:= .shared)
      simp only[List.map_append,List.map_cons,List.map_nil,encStr]at fl
      repeat' (first
 |simp only[go_sem,hD,hZ,gA,gB,b1,fl]
 |(with_reducible refine CU (yL _) ?_)
 |(with_reducible refine aI hQ ?_;exact bA))
      refine fi 1 1 ?_ ?_ (IH (rest,k+1,out++ [a.name]++a.x.names,_) ⟨g2,h2,by simp;omega,by simp<;>omega⟩ (Nat.lt_succ_self _))
      ·(simp only[go_sem,hD,hZ,gA,gB,aN cu,List.map_append,List.map_cons,List.map_nil,encStr];try exact bY)
      ·(simp only[go_sem,hD,hZ,gA,gB,aN cu,List.map_append,List.map_cons,List.map_nil,encStr];try exact bY)
     ·simp only [b1,Bool.false_eq_true,if_false]at h2
      have fl:=lJ (l:=out) (nx:=a.x.names) rfl (by omega) (g:= .shared)
      repeat' (first
 |simp only[go_sem,hD,hZ,gA,gB,b1,fl]
 |(with_reducible refine CU (yL _) ?_)
 | (with_reducible refine aI hQ ?_;exact bA))
      refine fi 1 1 ?_ ?_ (IH (rest,k+1,out++a.x.names,_) ⟨g2,h2,by simp;omega,by simp<;>omega⟩ (Nat.lt_succ_self _))
      ·(simp only[go_sem,hD,hZ,gA,gB,aN cu];try exact bY)
      ·(simp only[go_sem,hD,hZ,gA,gB,aN cu];try exact bY)
  ·have fl : ∀ o:List (List D),jo 1 16 (.slice .full 0 []) (.slice .shared 1 (nx.map encStr)) ⟨o,[]⟩=some (.slice (.tok 0) 1 (nx.map encStr),⟨o,[some nx.length]⟩):=fun o=>by
    have:nx.length*17≤bq:=by unfold bq;omega
    cases nx with
    |nil=>exact absurd rfl L0
    |cons a r=>simp only[List.length_cons]at this;simp[jo,this]
   have HB:(v.kind != 10)=false∨(v.kind != 10)=true∧(v.name != [])=false:=by
    cases h1:(v.kind != 10)
    ·exact .inl rfl
    ·rw[h1]at uj;exact .inr ⟨rfl,by simpa using uj⟩
   rcases HB with b1|⟨b1,b2⟩
   ·rcases Bool.eq_false_or_eq_true (v.name != [])with b2 | b2
    all_goals
     have b3:(v.name == []) = !(v.name != []):=by simp only[bne,Bool.not_not]
     rw[b2]at b3
     repeat' (first
 |simp only[go_sem,hD,hZ,gA,gB,b1,b2,b3,Bool.not_true,Bool.not_false,fl]
 |(with_reducible refine CU (hx _) ?_)
 | (with_reducible refine aI hQ ?_;simp only [bh,bj,bP,bQ,go_sem,hD,hZ,gA,gB];repeat' (first | exact Ok.out | with_reducible refine jG ?_ ?_ | (simp;done))))
    all_goals
     refine fG 1 1 (bp.ind (ι:=List Ar×Nat×List aK×Nat) (fun i=>v.args.drop i.2.1=i.1∧Ar.said i.2.2.1 i.1=R∧i.2.2.1.length+Ar.a7 i.1≤2000000∧i.2.2.2=i.2.2.1.length) (fun i=>i.1.length)
      (fun i=> [(3, .slice (.tok 0) 1 (i.2.2.1.map encStr)),(1, .ptr 0 0),(25, .slice .shared 6 (v.args.map fc)),(26, .int .i64 (v.args.length:Int)),(27, .int .i64 (i.2.1:Int))]) (fun i=>⟨[bd v],[some i.2.2.2]⟩) ?_ (v.args,0,nx,_) ⟨rfl,hG,by simp at P2 ⊢;omega,by simp⟩)
     rintro⟨rest,k,out,n'⟩ ⟨h1,h2,h3,h4⟩ IH
     dsimp only at h1 h2 h3 h4
     subst h4
     cases rest with
     |nil=>
      have hD:=drop_nil h1
      simp only[Ar.said]at h2
      subst h2
      repeat' (first
 |simp only[go_sem,hD,hZ,gA,gB]
 |(with_reducible refine aI hQ ?_;exact bA))
     | cons a rest=>
      obtain⟨hZ,g2,hD,g4⟩:=drop_cons h1
      have cu:k<4611686018427387904:=by omega
      simp only[Ar.said]at h2
      simp only[Ar.a7]at h3
      have yL:=fun s=>oH (x:=a.x) (by have:=Ar.da (List.mem_of_getElem? hZ);omega) (vJ a (List.mem_of_getElem? hZ)) s
      have hl:=mh a.x
      have gA:(out.length+1)*17≤bq:=by unfold bq;omega
      rcases Bool.eq_false_or_eq_true a.ref with b1|b1
      ·simp only [b1,if_true]at h2
       have fl:=lJ (l:=out++ [a.name]) (nx:=a.x.names) (n:=out.length+1) (by simp) (by simp;omega) (g:= .shared)
       simp only[List.map_append,List.map_cons,List.map_nil,encStr]at fl
       repeat' (first
 |simp only[go_sem,hD,hZ,gA,gB,b1,fl]
 |(with_reducible refine CU (yL _) ?_)
 |(with_reducible refine aI hQ ?_;exact bA))
       refine fi 1 1 ?_ ?_ (IH (rest,k+1,out++ [a.name]++a.x.names,_) ⟨g2,h2,by simp;omega,by simp<;>omega⟩ (Nat.lt_succ_self _))
       ·(simp only[go_sem,hD,hZ,gA,gB,aN cu,List.map_append,List.map_cons,List.map_nil,encStr];try exact bY)
       ·(simp only[go_sem,hD,hZ,gA,gB,aN cu,List.map_append,List.map_cons,List.map_nil,encStr];try exact bY)
      ·simp only [b1,Bool.false_eq_true,if_false]at h2
       have fl:=lJ (l:=out) (nx:=a.x.names) rfl (by omega) (g:= .shared)
       repeat' (first
 |simp only[go_sem,hD,hZ,gA,gB,b1,fl]
 |(with_reducible refine CU (yL _) ?_)
 | (with_reducible refine aI hQ ?_;exact bA))
       refine fi 1 1 ?_ ?_ (IH (rest,k+1,out++a.x.names,_) ⟨g2,h2,by simp;omega,by simp<;>omega⟩ (Nat.lt_succ_self _))
       ·(simp only[go_sem,hD,hZ,gA,gB,aN cu];try exact bY)
       ·(simp only[go_sem,hD,hZ,gA,gB,aN cu];try exact bY)
   ·have b3:(v.name == [])=true:=by simpa using b2
    repeat' (first
 |simp only[go_sem,hD,hZ,gA,gB,b1,b2,b3,fl]
 |(with_reducible refine CU (hx _) ?_)
 | (with_reducible refine aI hQ ?_;exact bA))
    refine fG 1 1 (bp.ind (ι:=List Ar×Nat×List aK×Nat) (fun i=>v.args.drop i.2.1=i.1∧Ar.said i.2.2.1 i.1=R∧i.2.2.1.length+Ar.a7 i.1≤2000000∧i.2.2.2=i.2.2.1.length) (fun i=>i.1.length)
     (fun i=> [(3, .slice (.tok 0) 1 (i.2.2.1.map encStr)),(1, .ptr 0 0),(25, .slice .shared 6 (v.args.map fc)),(26, .int .i64 (v.args.length:Int)),(27, .int .i64 (i.2.1:Int))]) (fun i=>⟨[bd v],[some i.2.2.2]⟩) ?_ (v.args,0,nx,_) ⟨rfl,hG,by simp at P2 ⊢;omega,by simp⟩)
    rintro⟨rest,k,out,n'⟩ ⟨h1,h2,h3,h4⟩ IH
    dsimp only at h1 h2 h3 h4
    subst h4
    cases rest with
    |nil=>
     have hD:=drop_nil h1
     simp only[Ar.said]at h2
     subst h2
     repeat' (first
 |simp only[go_sem,hD,hZ,gA,gB]
 | (with_reducible refine aI hQ ?_;exact bA))
    | cons a rest=>
     obtain⟨hZ,g2,hD,g4⟩:=drop_cons h1
     have cu:k<4611686018427387904:=by omega
     simp only[Ar.said]at h2
     simp only[Ar.a7]at h3
     have yL:=fun s=>oH (x:=a.x) (by have:=Ar.da (List.mem_of_getElem? hZ);omega) (vJ a (List.mem_of_getElem? hZ)) s
     have hl:=mh a.x
     have gA:(out.length+1)*17≤bq:=by unfold bq;omega
     rcases Bool.eq_false_or_eq_true a.ref with b1|b1
     ·simp only [b1,if_true]at h2
      have fl:=lJ (l:=out++ [a.name]) (nx:=a.x.names) (n:=out.length+1) (by simp) (by simp;omega) (g:= .shared)
      simp only[List.map_append,List.map_cons,List.map_nil,encStr]at fl
      repeat' (first
 |simp only[go_sem,hD,hZ,gA,gB,b1,fl]
 |(with_reducible refine CU (yL _) ?_)
 |(with_reducible refine aI hQ ?_;exact bA))
      refine fi 1 1 ?_ ?_ (IH (rest,k+1,out++ [a.name]++a.x.names,_) ⟨g2,h2,by simp;omega,by simp<;>omega⟩ (Nat.lt_succ_self _))
      ·(simp only[go_sem,hD,hZ,gA,gB,aN cu,List.map_append,List.map_cons,List.map_nil,encStr];try exact bY)
      ·(simp only[go_sem,hD,hZ,gA,gB,aN cu,List.map_append,List.map_cons,List.map_nil,encStr];try exact bY)
     ·simp only [b1,Bool.false_eq_true,if_false]at h2
      have fl:=lJ (l:=out) (nx:=a.x.names) rfl (by omega) (g:= .shared)
      repeat' (first
 |simp only[go_sem,hD,hZ,gA,gB,b1,fl]
 |(with_reducible refine CU (yL _) ?_)
 |(with_reducible refine aI hQ ?_;exact bA))
      refine fi 1 1 ?_ ?_ (IH (rest,k+1,out++a.x.names,_) ⟨g2,h2,by simp;omega,by simp<;>omega⟩ (Nat.lt_succ_self _))
      ·(simp only[go_sem,hD,hZ,gA,gB,aN cu];try exact bY)
      ·(simp only[go_sem,hD,hZ,gA,gB,aN cu];try exact bY)
end Go.Abs
