/-
  What is proved here: part 2 of the road to the claim (Codes1, Have1, Codes2, Have2, Codes3, Codes4, Have4, Codes5, Have5, Have3, Prs, Lex1, Lex2, RefLex1, Prs2, Ref1, Ref2, Ref3, RefMay1, TMay1, RefMay2, TMay2, RefMay3, RefMay4, TMay3, TMay4, MayFine).
  No conditions.
-/
import Derived.Test.YtiopamakecmpkaaGreatCkM1
import Derived.Test.YtiopamakecmpkaaGreatProg
import Derived.KernelRfl

set_option linter.unusedSimpArgs false
set_option linter.unusedVariables false

/-! Codes1 -/

namespace Go.Abs
abbrev QDG:AC:= .par [.o 18 (.cL [(.str []),(.slice .full 0 []),(.slice .full 0 []),(.slice .full 0 []),(.slice .full 0 [])] 5 0 []), .o 19 (.av bj 1), .o 20 (.load da false 1), .m 21 bc, .o 22 (.Cw 5 dm (some dt) none), .o 23 (.app 5 112 cG dv), .o 24 (.av bj 1), .o 25 (.load de false 1), .m 26 bc, .o 27 (.Cw 5 df none (some dY)), .o 28 (.app 5 112 dB dT), .o 29 (.av bj 1), .op none none (.store eU eR 1)] [(0,0),(1,0),(2,0),(3,0),(4,0),(5,0),(6,0),(7,1),(8,0),(9,0),(10,0),(11,0),(12,0)]
abbrev QDL:AC:= .seq (.seq (.run [.o 8 (.av bj 1), .o 9 (.load bU false 1), .o 10 (.len cq), .o 11 (.bin .eql bQ (.k (.int .i64 0)))]) (.cond bS (.seq (.run [.o 12 (.load bj true 2), .op none none (.store cZ b6 2)]) .ret) .skip)) (.seq (.run [.m 13 bc, .o 14 (.av bj 1), .o 15 (.load bN false 1), .o 16 (.len cj), .c 17 yh [bW,b7], .m 1 cJ]) (.seq QDG (.seq (.run [.o 30 (.load bj true 2), .c 31 pL [fb], .op none none (.store cZ fc 2)]) .ret)))
abbrev QDN:AC:= .seq (.run [.o 2 (.box aT), .o 4 (.alloc [(.slice .full 0 []),(.slice .full 0 [])])]) (.seq (.run [.o 6 (.load dr true 2), .c 7 nJ [bP], .o 5 (.alloc [(.slice .full 0 []),(.slice .full 0 [])]), .op none none (.store bj bJ 2)]) QDL)
abbrev QDP:AC:= .run [.o 0 (.mv (.k (.str [103,108,111,98,97,108,32,103,59,10,112,114,111,99,32,109,97,105,110,40,41,32,123,10,32,118,97,114,32,118,59,10,32,118,32,61,32,50,59,10,32,103,32,61,32,112,40,51,44,32,114,101,102,32,118,41,59,10,32,112,114,105,110,116,32,118,59,10,32,112,114,105,110,116,32,103,59,10,125,10,112,114,111,99,32,112,40,120,44,32,114,101,102,32,121,41,32,123,10,32,121,32,61,32,121,32,43,32,120,59,10,32,105,102,32,40,121,32,62,32,57,41,32,123,10,32,32,103,111,116,111,32,101,59,10,32,125,10,32,114,101,116,117,114,110,32,121,59,10,101,58,32,125,10])))]
abbrev QDR:AC:= .seq (.run [.o 0 (.mv (.k (.str [])))]) (.seq QDP .ret)
abbrev QDT:AC:= .run [(.o 3 (.cL [(.str [])] 1 1 [(0,(.k (.str [118])))])), .c 4 qK [(.k (.int .i64 2))],(.o 5 (.build [(.int .i64 0),(.int .i64 0),(.slice .full 0 []),(.str []),(.str []),(.int .i64 0),(.int .i64 0),(.str []),(.slice .full 0 []),(.bool false),(.slice .full 0 []),(.slice .full 0 []),(.slice .full 0 [])] [(0,(1,(.k (.int .i64 1)))),(1,(1,(.k (.int .i64 1)))),(3,(1,(.k (.str [118])))),(5,(4,cZ))])), .c 6 qK [(.k (.int .i64 3))], .o 7 (.build [(.bool false),(.str []),(.int .i64 0),(.int .i64 0),(.str []),(.slice .full 0 [])] [(2,(4,bP))]),(.o 8 (.build [(.bool false),(.str []),(.int .i64 0),(.int .i64 0),(.str []),(.slice .full 0 [])] [(0,(1,(.k (.bool true)))),(1,(1,(.k (.str [118]))))])), .o 9 (.cL [(.bool false),(.str []),(.int .i64 0),(.int .i64 0),(.str []),(.slice .full 0 [])] 6 2 [(0,bJ),(1,bU)]),(.o 10 (.build [(.int .i64 0),(.int .i64 0),(.slice .full 0 []),(.str []),(.str []),(.int .i64 0),(.int .i64 0),(.str []),(.slice .full 0 []),(.bool false),(.slice .full 0 []),(.slice .full 0 []),(.slice .full 0 [])] [(0,(1,(.k (.int .i64 2)))),(1,(1,(.k (.int .i64 4)))),(3,(1,(.k (.str [103])))),(4,(1,(.k (.str [112])))),(10,(1,cq))])),(.c 11 kA [(.k (.str [118]))]),(.o 12 (.build [(.int .i64 0),(.int .i64 0),(.slice .full 0 []),(.str []),(.str []),(.int .i64 0),(.int .i64 0),(.str []),(.slice .full 0 []),(.bool false),(.slice .full 0 []),(.slice .full 0 []),(.slice .full 0 [])] [(0,(1,(.k (.int .i64 3)))),(1,(1,(.k (.int .i64 3)))),(5,(4,bS))])),(.c 13 kA [(.k (.str [103]))]),(.o 14 (.build [(.int .i64 0),(.int .i64 0),(.slice .full 0 []),(.str []),(.str []),(.int .i64 0),(.int .i64 0),(.str []),(.slice .full 0 []),(.bool false),(.slice .full 0 []),(.slice .full 0 []),(.slice .full 0 [])] [(0,(1,(.k (.int .i64 4)))),(1,(1,(.k (.int .i64 3)))),(5,(4,bW))])), .o 15 (.cL [(.int .i64 0),(.int .i64 0),(.slice .full 0 []),(.str []),(.str []),(.int .i64 0),(.int .i64 0),(.str []),(.slice .full 0 []),(.bool false),(.slice .full 0 []),(.slice .full 0 []),(.slice .full 0 [])] 13 4 [(0,bj),(1,bQ),(2,b6),(3,bN)]),(.o 16 (.build [(.str []),(.slice .full 0 []),(.slice .full 0 []),(.slice .full 0 []),(.slice .full 0 [])] [(0,(1,(.k (.str [109,97,105,110])))),(2,(1,bL)),(3,(1,cj))])), .o 1 (.alloc [(.str []),(.slice .full 0 []),(.slice .full 0 []),(.slice .full 0 []),(.slice .full 0 [])]), .op none none (.store bc b7 5)]
abbrev QDU:AC:= .run [(.o 17 (.build [(.str []),(.bool false)] [(0,(1,(.k (.str [120]))))])),(.o 18 (.build [(.str []),(.bool false)] [(0,(1,(.k (.str [121])))),(1,(1,(.k (.bool true))))])), .o 19 (.cL [(.str []),(.bool false)] 2 2 [(0,cJ),(1,cG)]),(.o 20 (.cL [(.str [])] 1 1 [(0,(.k (.str [101])))])),(.c 21 kA [(.k (.str [121]))]),(.c 22 kA [(.k (.str [120]))]), .c 23 tQ [(.k (.int .i64 8)),dt,dv],(.o 24 (.build [(.int .i64 0),(.int .i64 0),(.slice .full 0 []),(.str []),(.str []),(.int .i64 0),(.int .i64 0),(.str []),(.slice .full 0 []),(.bool false),(.slice .full 0 []),(.slice .full 0 []),(.slice .full 0 [])] [(0,(1,(.k (.int .i64 5)))),(1,(1,(.k (.int .i64 1)))),(3,(1,(.k (.str [121])))),(5,(4,dB))])),(.c 25 kA [(.k (.str [121]))]), .c 26 qK [(.k (.int .i64 9))], .c 27 tQ [(.k (.int .i64 12)),df,dY],(.o 28 (.build [(.int .i64 0),(.int .i64 0),(.slice .full 0 []),(.str []),(.str []),(.int .i64 0),(.int .i64 0),(.str []),(.slice .full 0 []),(.bool false),(.slice .full 0 []),(.slice .full 0 []),(.slice .full 0 [])] [(0,(1,(.k (.int .i64 7)))),(1,(1,(.k (.int .i64 10)))),(3,(1,(.k (.str [101]))))])), .o 29 (.cL [(.int .i64 0),(.int .i64 0),(.slice .full 0 []),(.str []),(.str []),(.int .i64 0),(.int .i64 0),(.str []),(.slice .full 0 []),(.bool false),(.slice .full 0 []),(.slice .full 0 []),(.slice .full 0 [])] 13 1 [(0,eR)]),(.o 30 (.build [(.int .i64 0),(.int .i64 0),(.slice .full 0 []),(.str []),(.str []),(.int .i64 0),(.int .i64 0),(.str []),(.slice .full 0 []),(.bool false),(.slice .full 0 []),(.slice .full 0 []),(.slice .full 0 [])] [(0,(1,(.k (.int .i64 6)))),(1,(1,(.k (.int .i64 5)))),(5,(4,dT)),(11,(1,eU))])),(.c 31 kA [(.k (.str [121]))]),(.o 32 (.build [(.int .i64 0),(.int .i64 0),(.slice .full 0 []),(.str []),(.str []),(.int .i64 0),(.int .i64 0),(.str []),(.slice .full 0 []),(.bool false),(.slice .full 0 []),(.slice .full 0 []),(.slice .full 0 [])] [(0,(1,(.k (.int .i64 8)))),(1,(1,(.k (.int .i64 9)))),(9,(1,(.k (.bool true)))),(5,(4,fc))])), .o 33 (.cL [(.int .i64 0),(.int .i64 0),(.slice .full 0 []),(.str []),(.str []),(.int .i64 0),(.int .i64 0),(.str []),(.slice .full 0 []),(.bool false),(.slice .full 0 []),(.slice .full 0 []),(.slice .full 0 [])] 13 3 [(0,de),(1,fb),(2,fz)]),(.o 34 (.build [(.str []),(.slice .full 0 []),(.slice .full 0 []),(.slice .full 0 []),(.slice .full 0 [])] [(0,(1,(.k (.str [112])))),(1,(1,da)),(4,(1,dm)),(3,(1,fw))])), .o 2 (.alloc [(.str []),(.slice .full 0 []),(.slice .full 0 []),(.slice .full 0 []),(.slice .full 0 [])]), .op none none (.store dr fL 5)]
abbrev QDW:AC:= .seq (.run [(.o 35 (.cL [(.str [])] 1 1 [(0,(.k (.str [103])))])), .o 36 (.load bc true 5), .o 37 (.load dr true 5), .o 38 (.cL [(.str []),(.slice .full 0 []),(.slice .full 0 []),(.slice .full 0 []),(.slice .full 0 [])] 5 2 [(0,fN),(1,gu)]), .o 39 (.build [(.slice .full 0 []),(.slice .full 0 [])] [(0,(1,fF)),(1,(1,gP))]), .op none none (.store aT gG 2)]) .ret
abbrev QDZ:AC:= .seq (.run [.o 0 (.alloc [(.slice .full 0 []),(.slice .full 0 [])])]) (.seq QDT (.seq QDU QDW))
abbrev QE9:AC:= .seq (.seq (.run [.m 6 bj, .m 7 aT, .o 8 (.len bJ), .o 9 (.bin .lss bP bU), .m 10 cq, .g 11 10 true (.mv bc), .g 12 10 true (.bin .leq bS (.k (.int .i64 20000))), .o 13 (.pick bQ b6 (.k (.bool false)))]) (.cond bW .skip (.exit 0))) (.seq (.block 1 (.run [.m 16 aT, .m 17 bj, .o 18 (.ct b7 cJ 1), .o 19 (.load cG false 1), .m 20 bc, .c 21 gn [da,dm], .m 1 dt])) (.run [.m 14 bj, .o 15 (.bin .add bN (.k (.int .i64 1))), .m 5 cj]))
abbrev QEF:AC:= .seq (.seq (.run [.o 5 (.mv (.k (.int .i64 0)))]) (.block 0 (.loop QE9))) (.seq (.run [.m 22 bc, .m 4 dv]) .ret)
abbrev QEG:AC:= .seq (.run [.o 4 (.mv (.k (.int .i64 0)))]) QEF
abbrev QEL:AC:= .cond bW (.seq (.run [.o 4 (.mv (.k (.int .i64 20001)))]) .ret) .skip
abbrev QEP:AC:= .seq (.seq (.run [.m 5 bc, .o 6 (.bin .gtr bj (.k (.int .i64 20000))), .m 7 bP, .g 8 7 false (.mv aT), .g 9 7 false (.lH bU), .g 10 7 false (.mv bc), .g 11 7 false (.bin .sub (.k (.int .i64 20000)) bQ), .g 12 7 false (.bin .geq cq bS), .o 13 (.pick bJ (.k (.bool true)) b6)]) QEL) (.seq (.run [.m 14 bc, .o 15 (.bin .add bN (.k (.int .i64 1))), .m 16 aT, .o 17 (.lH b7), .o 18 (.bin .add cj cJ), .m 4 cG]) .ret)
abbrev QEQ:AC:= .seq (.run [.o 4 (.mv (.k (.int .i64 0)))]) QEP
abbrev QEX:AC:= .par [.o 22 (.av bP 4), .o 23 (.load dv false 1), .o 24 (.av bP 3), .o 25 (.load de false 1), .o 26 (.av bP 2), .o 27 (.load dY false 1), .o 28 (.av bP 5), .o 29 (.load eR true 4), .m 30 bc, .c 31 jv [eU,fb], .c 32 jg [dT,fc], .c 33 gn [df,fz], .c 34 gn [dB,fw], .m 1 fL] [(6,0),(7,0),(8,0),(9,0),(4,0),(5,1),(10,0),(2,0),(3,2),(11,0),(0,0),(1,3),(12,0),(13,0)]
abbrev QF2:AC:= .par [.o 46 (.av bP 10), .o 47 (.load kp false 1), .m 48 bJ, .o 49 (.ct lb j8 6), .o 50 (.av kq 1), .o 51 (.load lR false 1), .o 52 (.av bP 10), .o 53 (.load ld false 1), .m 54 bJ, .o 55 (.ct lf lS 6), .o 56 (.av mC 2), .o 57 (.load nQ true 4), .m 58 bc, .c 59 jv [oB,nR], .c 60 gn [kS,lT], .m 1 pZ] [(6,0),(7,0),(8,0),(9,0),(10,0),(11,0),(12,0),(13,0),(0,0),(1,1),(2,0),(3,0),(4,0),(5,1),(14,0),(15,0)]
abbrev QF6:AC:= .seq (.seq (.run [.m 35 bJ, .o 36 (.av bP 10), .o 37 (.load fN false 1), .o 38 (.len gu), .o 39 (.bin .lss fF gP), .m 40 gG, .g 41 40 true (.mv bc), .g 42 40 true (.bin .leq gW (.k (.int .i64 20000))), .o 43 (.pick ig iR (.k (.bool false)))]) (.cond ja .skip (.exit 2))) (.seq (.block 3 QF2) (.run [.m 44 bJ, .o 45 (.bin .add jx (.k (.int .i64 1))), .m 7 ko]))
abbrev QFA:AC:= .par [.o 61 (.av bP 12), .o 62 (.load rG false 1), .o 63 (.av bP 11), .o 64 (.load rI false 1), .m 65 bc, .c 66 kg [s7,wC], .c 67 kg [rH,yk], .m 1 wD] [(2,0),(3,0),(4,0),(5,0),(0,0),(1,1),(6,0),(7,0)]
abbrev QFB:AC:= .seq (.seq (.run [.o 7 (.mv (.k (.int .i64 0)))]) (.block 2 (.loop QF6))) QFA
abbrev QFG:AC:= .seq (.block 1 (.seq (.run [.m 18 aT, .m 19 bj, .o 20 (.ct cG da 13), .o 21 (.load dm true 13), .o 6 (.alloc [(.int .i64 0),(.int .i64 0),(.slice .full 0 []),(.str []),(.str []),(.int .i64 0),(.int .i64 0),(.str []),(.slice .full 0 []),(.bool false),(.slice .full 0 []),(.slice .full 0 []),(.slice .full 0 [])]), .op none none (.store bP dt 13)]) (.seq QEX QFB))) (.run [.m 16 bj, .o 17 (.bin .add b7 (.k (.int .i64 1))), .m 5 cJ])
abbrev QFH:AC:= .seq (.seq (.run [.m 8 bj, .m 9 aT, .o 10 (.len cq), .o 11 (.bin .lss bU bQ), .m 12 bS, .g 13 12 true (.mv bc), .g 14 12 true (.bin .leq bW (.k (.int .i64 20000))), .o 15 (.pick b6 bN (.k (.bool false)))]) (.cond cj .skip (.exit 0))) QFG
abbrev QFN:AC:= .seq (.seq (.run [.o 5 (.mv (.k (.int .i64 0)))]) (.block 0 (.loop QFH))) (.seq (.run [.m 68 bc, .m 4 wE]) .ret)
abbrev QFO:AC:= .seq (.run [.o 4 (.mv (.k (.int .i64 0)))]) QFN
abbrev QFX:AC:= .cond bW (.seq (.run [.o 2 (.mv (.k (.bool false)))]) .ret) .skip
abbrev QG2:AC:= .seq (.block 1 (.seq (.run [.o 9 (.ct bj bJ 1), .o 10 (.load cq false 1), .m 4 bQ]) (.seq (.run [.m 11 cZ, .c 12 nf [bS], .o 13 (.un .not b6)]) QFX))) (.run [.o 14 (.bin .add bJ (.k (.int .i64 1))), .m 7 bN])
abbrev QG6:AC:= .block 0 (.loop (.seq (.run [.o 8 (.bin .lss bJ bP)]) (.seq (.cond bU .skip (.exit 0)) QG2)))
abbrev QGA:AC:= .seq (.seq (.run [.m 5 aT, .o 6 (.len bj), .o 7 (.mv (.k (.int .i64 0)))]) QG6) (.seq (.run [.o 2 (.mv (.k (.bool true)))]) .ret)
abbrev QGB:AC:= .seq (.run [.o 2 (.mv (.k (.bool false)))]) QGA
abbrev QGG:AC:= .cond cj (.seq (.run [.o 6 (.mv (.k (.bool false)))]) .ret) .skip
abbrev QGN:AC:= .par [.m 29 aT, .o 30 (.du eU), .o 31 (.av fb 0), .o 32 (.load fc false 1), .o 33 (.bin .gtr fz (.k (.int .i64 200))), .m 34 fw, .g 35 34 false (.av bU 0), .g 36 34 false (.load fF false 1), .g 37 34 false (.mv aT), .g 38 34 false (.du gu), .g 39 34 false (.av gP 0), .g 40 34 false (.load gG false 1), .g 41 34 false (.bin .neq fN ig), .o 42 (.pick fL (.k (.bool true)) gW), .m 43 iR, .g 44 43 false (.av bU 2), .g 45 43 false (.load jx false 1), .d 46 43 false mr [ko], .g 47 43 false (.un .not kp), .o 48 (.pick ja (.k (.bool true)) lb), .m 49 j8, .g 50 49 false (.load bU true 13), .d 51 49 false sZ [lR], .g 52 49 false (.un .not kS), .o 53 (.pick kq (.k (.bool true)) ld)] [(0,0),(1,0),(2,0),(3,0),(4,0),(5,0),(6,0),(7,0),(8,0),(9,0),(10,0),(11,0),(12,0),(13,0),(14,0),(15,0),(16,0),(17,0),(18,0),(19,0),(20,0),(21,0),(22,0),(23,0),(24,0)]
abbrev QGQ:AC:= .cond lf (.seq (.run [.o 6 (.mv (.k (.bool false)))]) .ret) .skip
abbrev QGV:AC:= .cond Ae (.seq (.run [.o 6 (.mv (.k (.bool false)))]) .ret) .skip
abbrev QGX:AC:= .seq (.seq QGN QGQ) (.seq (.run [.m 54 aT, .o 55 (.av bU 11), .o 56 (.load mC false 1), .m 57 dr, .o 58 (.bin .add oB (.k (.int .i64 1))), .c 59 jJ [lS,nQ,nR], .o 60 (.un .not lT), .m 61 pZ, .g 62 61 false (.mv aT), .g 63 61 false (.av bU 12), .g 64 61 false (.load rI false 1), .g 65 61 false (.mv dr), .g 66 61 false (.bin .add wC (.k (.int .i64 1))), .d 67 61 false jJ [rH,s7,yk], .g 68 61 false (.un .not wD), .o 69 (.pick rG (.k (.bool true)) wE)]) QGV)
abbrev QGZ:AC:= .seq (.run [.o 20 (.ct b7 cG 13), .o 21 (.load dm true 13), .o 8 (.alloc [(.int .i64 0),(.int .i64 0),(.slice .full 0 []),(.str []),(.str []),(.int .i64 0),(.int .i64 0),(.str []),(.slice .full 0 []),(.bool false),(.slice .full 0 []),(.slice .full 0 []),(.slice .full 0 [])]), .op none none (.store bU dt 13)]) (.seq (.run [.m 22 aT, .o 23 (.du dv), .o 24 (.av dB 0), .o 25 (.load de false 1), .o 26 (.bin .add df (.k (.int .i64 1))), .o 27 (.du dv), .o 28 (.av dT 0), .op none none (.store eR dY 1)]) QGX)
abbrev QH3:AC:= .seq (.cond da .skip (.exit 0)) (.seq (.block 1 QGZ) (.run [.o 70 (.bin .add cG (.k (.int .i64 1))), .m 18 yl]))
abbrev QH7:AC:= .seq (.run [.m 16 bc, .o 17 (.len b7), .o 18 (.mv (.k (.int .i64 0)))]) (.block 0 (.loop (.seq (.run [.o 19 (.bin .lss cG cJ)]) QH3)))
abbrev QHA:AC:= .seq QH7 (.seq (.run [.o 6 (.mv (.k (.bool true)))]) .ret)
abbrev QHB:AC:= .seq (.seq (.run [.m 9 dr, .o 10 (.bin .gtr cq (.k (.int .i64 12))), .m 11 bQ, .g 12 11 true (.mv bc), .g 13 11 true (.len b6), .g 14 11 true (.bin .gtr bW (.k (.int .i64 0))), .o 15 (.pick bS bN (.k (.bool false)))]) QGG) QHA
abbrev QHC:AC:= .seq (.run [.o 6 (.mv (.k (.bool false)))]) QHB
abbrev QHO:AC:= .block 1 (.seq (.run [.m 10 bU, .m 5 bQ]) (.seq (.run [.m 11 bc, .m 12 aT, .m 13 bj, .o 14 (.ct b6 bW 1), .o 15 (.load bN false 1), .o 16 (.bin .eql bS cj)]) (.cond b7 (.seq (.run [.m 17 bj, .m 4 cJ]) .ret) .skip)))
abbrev QHR:AC:= .seq (.cond cq .skip (.exit 0)) (.seq QHO (.run [.o 18 (.bin .add bU (.k (.int .i64 1))), .m 8 cG]))
abbrev QHV:AC:= .seq (.run [.m 6 aT, .o 7 (.len bP), .o 8 (.mv (.k (.int .i64 0)))]) (.block 0 (.loop (.seq (.run [.o 9 (.bin .lss bU bJ)]) QHR)))
abbrev QHX:AC:= .seq (.run [(.o 4 (.mv (.k (.int .i64 (-1)))))]) .ret
abbrev QHZ:AC:= .seq (.run [.o 4 (.mv (.k (.int .i64 0)))]) (.seq QHV QHX)
abbrev QI8:AC:= .cond b7 (.seq (.run [.o 2 (.mv (.k (.bool true)))]) .ret) .skip
abbrev QIB:AC:= .block 1 (.seq (.run [.m 9 bJ, .o 10 (.ct bj bJ 1), .o 11 (.load bQ false 1), .m 3 cq, .m 4 bS]) (.seq (.run [.m 12 aT, .m 13 bL, .o 14 (.Cw 1 b6 none (some bW)), .m 15 cZ, .c 16 b9 [bN,cj]]) QI8))
abbrev QIE:AC:= .seq (.cond bU .skip (.exit 0)) (.seq QIB (.run [.o 17 (.bin .add bJ (.k (.int .i64 1))), .m 7 cJ]))
abbrev QII:AC:= .seq (.run [.m 5 aT, .o 6 (.len bj), .o 7 (.mv (.k (.int .i64 0)))]) (.block 0 (.loop (.seq (.run [.o 8 (.bin .lss bJ bP)]) QIE)))
abbrev QIL:AC:= .seq QII (.seq (.run [.o 2 (.mv (.k (.bool false)))]) .ret)
abbrev QIM:AC:= .seq (.run [.o 2 (.mv (.k (.bool false)))]) QIL
abbrev QIT:AC:= .par [.m 17 bL, .m 18 bL, .o 19 (.du cG), .o 20 (.av da 3), .o 21 (.load dm false 1), .m 22 bL, .o 23 (.du dv), .o 24 (.av dB 2), .o 25 (.load de false 1), .o 26 (.len df), .o 27 (.bin .add dY (.k (.int .i64 1))), .o 28 (.cL [(.int .i64 0)] 1 1 [(0,dT)]), .o 29 (.app 1 8 dt eR), .o 30 (.du cJ), .o 31 (.av fb 3), .op none none (.store fc eU 1)] [(1,0),(2,0),(3,0),(4,0),(5,0),(6,0),(7,0),(8,0),(9,0),(10,0),(11,0),(12,0),(0,0),(13,0),(14,0),(15,0)]
abbrev QIV:AC:= .par [.m 38 bL, .m 39 bL, .o 40 (.du gG), .o 41 (.av ig 4), .o 42 (.load gW false 1), .m 43 bL, .o 44 (.du ja), .o 45 (.av jx 2), .o 46 (.load ko false 1), .o 47 (.len kp), .o 48 (.bin .add lb (.k (.int .i64 1))), .o 49 (.cL [(.int .i64 0)] 1 1 [(0,j8)]), .o 50 (.app 1 8 iR kq), .o 51 (.du gP), .o 52 (.av kS 4), .op none none (.store ld lR 1)] [(1,0),(2,0),(3,0),(4,0),(5,0),(6,0),(7,0),(8,0),(9,0),(10,0),(11,0),(12,0),(0,0),(13,0),(14,0),(15,0)]
abbrev QIW:AC:= .seq (.run [.m 32 bL, .o 33 (.av bj 3), .o 34 (.load fw false 1), .m 35 cZ,(.o 36 (.build [(.int .i64 0),(.int .i64 0),(.slice .full 0 []),(.str []),(.str []),(.int .i64 0),(.int .i64 0),(.str []),(.slice .full 0 []),(.bool false),(.slice .full 0 []),(.slice .full 0 []),(.slice .full 0 []),(.int .i64 0),(.int .i64 0),(.int .i64 0),(.int .i64 0)] [(13,(1,fF)),(15,(1,(.k (.int .i64 (-1)))))])), .c 37 jw [fz,fL,fN]]) QIV
abbrev QJ1:AC:= .seq (.block 1 (.seq (.run [.m 14 b6, .o 15 (.ct bQ b6 5), .o 16 (.load cj true 5), .o 5 (.alloc [(.str []),(.slice .full 0 []),(.slice .full 0 []),(.slice .full 0 []),(.slice .full 0 [])]), .m 4 bN, .op none none (.store bj b7 5)]) (.seq QIT QIW))) (.run [.o 53 (.bin .add b6 (.k (.int .i64 1))), .m 12 lf])
abbrev QJ5:AC:= .block 0 (.loop (.seq (.run [.o 13 (.bin .lss b6 bS)]) (.seq (.cond bW .skip (.exit 0)) QJ1)))
abbrev QJ9:AC:= .seq (.seq (.run [.o 9 (.av bc 1), .o 10 (.load cq false 1), .o 11 (.len bQ), .o 12 (.mv (.k (.int .i64 0)))]) QJ5) (.seq (.run [.m 54 bL, .m 2 lS]) .ret)
abbrev QJB:AC:= .seq (.run [.o 1 (.box aT), .o 2 (.mv (.k .eO))]) (.seq (.run [.o 6 (.load bc true 2), .o 7 (.build [(.slice .full 0 []),(.slice .full 0 []),(.slice .full 0 []),(.slice .full 0 []),(.slice .full 0 [])] [(0,(2,bP))]), .o 8 (.box bJ), .m 3 bU]) QJ9)
abbrev QJM:AC:= .seq (.block 1 (.seq (.run [.o 11 (.ct bJ cq 2), .o 12 (.load bS true 2), .o 5 (.alloc [(.str []),(.bool false)]), .op none none (.store bj b6 2)]) (.run [.m 13 bL, .o 14 (.av bj 0), .o 15 (.load bN false 1), .o 16 (.cL [(.str [])] 1 1 [(0,cj)]), .o 17 (.app 1 16 bW b7), .m 3 cJ]))) (.run [.o 18 (.bin .add cq (.k (.int .i64 1))), .m 9 cG])
abbrev QJQ:AC:= .block 0 (.loop (.seq (.run [.o 10 (.bin .lss cq bU)]) (.seq (.cond bQ .skip (.exit 0)) QJM)))
abbrev QJU:AC:= .seq (.seq (.run [.o 6 (.av bc 1), .o 7 (.load bP false 1), .o 8 (.len bJ), .o 9 (.mv (.k (.int .i64 0)))]) QJQ) (.seq (.run [.m 19 bL, .o 20 (.av bc 2), .o 21 (.load dm false 1), .o 22 (.app 1 16 da dt), .m 2 dv]) .ret)
abbrev QJW:AC:= .seq (.run [.o 1 (.box aT), .o 2 (.mv (.k (.slice .full 0 [])))]) (.seq (.run [.o 3 (.mv (.k (.slice .full 0 [])))]) QJU)
abbrev QK0:AC:= .seq (.run [.o 4 (.mv (.k (.bool false)))]) (.seq (.run [.m 5 aT, .m 6 bc, .c 7 kn [bj,bP], .o 8 (.bin .geq bJ (.k (.int .i64 0))), .m 4 bU]) .ret)
abbrev QK4:AC:= .seq (.run [.o 3 (.mv (.k (.bool false)))]) (.seq (.run [.o 4 (.av bc 0), .o 5 (.load cZ false 1), .m 6 aT, .c 7 b9 [bj,bP], .m 3 bJ]) .ret)
abbrev QK8:AC:= .seq (.run [.o 4 (.mv (.k (.bool false)))]) (.seq (.run [.m 5 aT, .m 6 bc, .c 7 iN [bj,bP], .o 8 (.bin .geq bJ (.k (.int .i64 0))), .m 4 bU]) .ret)
abbrev QKA:AC:= .par [.m 5 aT, .o 6 (.du bj), .o 7 (.av bP 2), .o 8 (.load bJ false 1), .m 9 aT, .o 10 (.du cq), .o 11 (.av bQ 3), .o 12 (.load bS false 1), .m 13 bc, .o 14 (.ct b6 bW 1), .o 15 (.load bN false 1), .o 16 (.bin .sub cj (.k (.int .i64 1))), .m 17 aT, .o 18 (.du cJ), .o 19 (.av cG 4), .o 20 (.load da false 1), .m 21 bc, .o 22 (.ct dm dt 1), .o 23 (.load dv false 1), .o 24 (.bin .sub dB (.k (.int .i64 1))), .o 25 (.Cw 17 bU (some b7) (some de)), .m 4 df] [(0,0),(1,0),(2,0),(3,0),(4,0),(5,0),(6,0),(7,0),(8,0),(9,0),(10,0),(11,0),(12,0),(13,0),(14,0),(15,0),(16,0),(17,0),(18,0),(19,0),(20,0),(21,0)]
abbrev QKC:AC:= .seq (.run [.o 4 (.mv (.k (.slice .full 0 [])))]) (.seq QKA .ret)
abbrev QKL:AC:= .cond dv (.seq (.run [.o 8 (.mv (.k (.bool false)))]) .ret) .skip
abbrev QKN:AC:= .seq (.run [.o 16 (.ct b6 bN 1), .o 17 (.load b7 false 1), .m 10 cJ]) (.seq (.run [.o 18 (.load cZ true 2), .o 19 (.load bj true 5), .m 20 bQ, .c 21 uG [cG,da,dm], .o 22 (.bin .eql dt (.k (.int .i64 0)))]) QKL)
abbrev QKR:AC:= .seq (.cond cj .skip (.exit 0)) (.seq (.block 1 QKN) (.run [.o 23 (.bin .add bN (.k (.int .i64 1))), .m 14 dB]))
abbrev QKV:AC:= .seq (.run [.o 11 (.load bJ true 13), .c 12 qL [bS], .o 13 (.len b6), .o 14 (.mv (.k (.int .i64 0)))]) (.block 0 (.loop (.seq (.run [.o 15 (.bin .lss bN bW)]) QKR)))
abbrev QKY:AC:= .seq QKV (.seq (.run [.o 24 (.av bJ 1), .o 25 (.load de false 1), .o 26 (.bin .neq df (.k (.int .i64 4))), .m 27 dY, .g 28 27 false (.av bJ 4), .g 29 27 false (.load eR false 1), .g 30 27 false (.bin .neq eU (.k (.str [109,97,105,110]))), .g 31 27 false (.mv fb), .g 32 31 true (.mv dr), .g 33 31 true (.av bJ 4), .g 34 31 true (.load fw false 1), .d 35 31 true b9 [fz,fL], .g 36 27 false (.pick fc fF (.k (.bool false))), .o 37 (.pick dT (.k (.bool true)) fN), .m 8 gu]) .ret)
abbrev QKZ:AC:= .seq (.run [.o 4 (.box aT), .o 5 (.box bc), .o 7 (.box bL), .o 8 (.mv (.k (.bool false)))]) QKY
abbrev QL4:AC:= .cond cq (.seq (.run [.o 4 (.mv (.k (.bool false)))]) .ret) .skip
abbrev QLF:AC:= .seq (.run [.o 15 (.ct bS bW 5), .o 16 (.load cj true 5), .o 6 (.alloc [(.str []),(.slice .full 0 []),(.slice .full 0 []),(.slice .full 0 []),(.slice .full 0 [])]), .op none none (.store bP b7 5)]) (.seq (.run [.o 17 (.av bP 0), .o 18 (.load cJ false 1), .o 19 (.av bL 4), .o 20 (.load da false 1), .o 21 (.bin .eql cG dm)]) (.cond dt (.seq (.run [.o 22 (.av bP 1), .o 23 (.load dv false 1), .o 24 (.av bL 10), .o 25 (.load de false 1), .c 26 uH [dB,df], .m 4 dY]) .ret) .skip))
abbrev QLJ:AC:= .seq (.cond bN .skip (.exit 0)) (.seq (.block 1 QLF) (.run [.o 27 (.bin .add bW (.k (.int .i64 1))), .m 13 dT]))
abbrev QLN:AC:= .seq (.run [.o 10 (.av dr 1), .o 11 (.load bQ false 1), .o 12 (.len bS), .o 13 (.mv (.k (.int .i64 0)))]) (.block 0 (.loop (.seq (.run [.o 14 (.bin .lss bW b6)]) QLJ)))
abbrev QLQ:AC:= .seq QLN (.seq (.run [.o 4 (.mv (.k (.bool false)))]) .ret)
abbrev QLR:AC:= .seq (.seq (.run [.o 7 (.av bL 1), .o 8 (.load bJ false 1), .o 9 (.bin .neq bU (.k (.int .i64 4)))]) QL4) QLQ
abbrev QLS:AC:= .seq (.run [.o 2 (.box aT), .o 3 (.box bc), .o 4 (.mv (.k (.bool false)))]) QLR
abbrev QLY:AC:= .seq (.run [.o 3 (.load bc true 2), .c 4 lg [bL], .o 5 (.sn cZ 0 false 1), .o 6 (.bin .neq bj (.k (.int .i64 0)))]) (.cond bP (.seq (.run [.o 2 (.mv (.k .eO))]) .ret) .skip)
abbrev QM2:AC:= .seq (.run [.o 1 (.box aT), .o 2 (.mv (.k .eO))]) (.seq QLY (.seq (.run [.o 7 (.load bc true 2), .c 8 lB [bJ], .m 2 bU]) .ret))
abbrev QMB:AC:= .cond b7 (.seq (.run [.m 17 aT, .m 4 cJ, .o 5 (.mv (.k (.bool false)))]) .ret) .skip
abbrev QMG:AC:= .block 1 (.seq (.run [.o 12 (.ct bU bQ 1), .o 13 (.load b6 false 1), .m 7 bW]) (.seq (.seq (.run [.m 14 aT, .m 15 bJ, .c 16 b9 [bN,cj]]) QMB) (.run [.m 18 aT, .m 19 bJ, .o 20 (.cL [(.str [])] 1 1 [(0,da)]), .o 21 (.app 1 16 cG dm), .m 0 dt])))
abbrev QMJ:AC:= .seq (.cond bS .skip (.exit 0)) (.seq QMG (.run [.o 22 (.bin .add bQ (.k (.int .i64 1))), .m 10 dv]))
abbrev QMN:AC:= .seq (.run [.m 8 bc, .o 9 (.len bU), .o 10 (.mv (.k (.int .i64 0)))]) (.block 0 (.loop (.seq (.run [.o 11 (.bin .lss bQ cq)]) QMJ)))
abbrev QMQ:AC:= .seq QMN (.seq (.run [.m 23 aT, .m 4 dB, .o 5 (.mv (.k (.bool true)))]) .ret)
abbrev QMR:AC:= .seq (.run [.o 4 (.mv (.k (.slice .full 0 []))), .o 5 (.mv (.k (.bool false)))]) QMQ
abbrev QMX:AC:= .seq (.run [.o 11 (.bin .eql cq (.k (.int .i64 7))), .m 10 bS]) (.cond bQ .skip (.run [.o 12 (.bin .eql cq (.k (.int .i64 8))), .m 10 b6]))
abbrev QN7:AC:= .cond bQ (.seq (.run [.o 13 (.av bL 16), .o 14 (.load bW false 1), .o 15 (.bin .neq bN (.k (.int .i64 0))), .m 4 cj]) .ret) (.seq (.run [.o 17 (.bin .eql cq (.k (.int .i64 10))), .m 16 cJ]) (.cond b7 (.seq (.run [.m 19 aT, .o 20 (.av bL 13), .o 21 (.load dm false 1), .o 22 (.av bL 0), .o 23 (.av dv 3), .o 24 (.load dB false 1), .c 25 qM [da,dt,de], .m 18 df, .o 26 (.ext cG 0), .o 27 (.ext cG 1), .m 5 dY, .m 6 dT]) (.seq (.run [.m 28 bP, .m 4 eR]) .ret)) .skip))
abbrev QND:AC:= .seq (.seq (.run [.o 7 (.av bL 0), .o 8 (.av bJ 1), .o 9 (.load bU false 1)]) (.block 0 (.seq QMX QN7))) (.seq (.run [.o 4 (.mv (.k (.bool true)))]) .ret)
abbrev QNE:AC:= .seq (.run [.o 3 (.box bc), .o 4 (.mv (.k (.bool false)))]) QND
abbrev QNJ:AC:= .cond b7 (.seq (.run [.o 4 (.mv (.k (.slice .full 0 [])))]) .ret) .skip
abbrev QO3:AC:= .seq (.run [.o 43 (.ct gG gW 1), .o 44 (.load ja false 1), .m 12 jx]) (.seq (.run [.o 45 (.av dr 0), .o 46 (.load ko false 1), .m 47 b6, .c 48 b9 [kp,lb]]) (.cond j8 (.run [.m 49 bP, .m 50 b6, .o 51 (.cL [(.str [])] 1 1 [(0,lR)]), .o 52 (.app 1 16 kq kS), .m 6 ld]) .skip))
abbrev QO7:AC:= .seq (.cond iR .skip (.exit 4)) (.seq (.block 5 QO3) (.run [.o 53 (.bin .add gW (.k (.int .i64 1))), .m 41 lf]))
abbrev QOB:AC:= .seq (.run [.o 37 (.av bQ 0), .o 38 (.load gu true 13), .c 39 qL [gP], .o 40 (.len gG), .o 41 (.mv (.k (.int .i64 0)))]) (.block 4 (.loop (.seq (.run [.o 42 (.bin .lss gW ig)]) QO7)))
abbrev QOF:AC:= .seq (.block 3 (.seq (.run [.o 35 (.ct fc fw 17), .o 36 (.load fF true 17), .o 10 (.alloc [(.int .i64 0),(.int .i64 0),(.slice .full 0 []),(.str []),(.str []),(.int .i64 0),(.int .i64 0),(.str []),(.slice .full 0 []),(.bool false),(.slice .full 0 []),(.slice .full 0 []),(.slice .full 0 []),(.int .i64 0),(.int .i64 0),(.int .i64 0),(.int .i64 0)]), .op none none (.store bQ fN 17)]) QOB)) (.run [.o 54 (.bin .add fw (.k (.int .i64 1))), .m 33 lS])
abbrev QOJ:AC:= .block 2 (.loop (.seq (.run [.o 34 (.bin .lss fw fz)]) (.seq (.cond fL .skip (.exit 2)) QOF)))
abbrev QOL:AC:= .seq (.run [.o 25 (.ct dt dB 1), .o 26 (.load df false 1), .m 8 dY]) (.seq (.run [.m 27 bj, .m 28 bj, .m 29 bU, .c 30 l5 [eR,eU], .c 31 gN [dT,fb], .o 32 (.len fc), .o 33 (.mv (.k (.int .i64 0)))]) QOJ)
abbrev QOP:AC:= .seq (.cond de .skip (.exit 0)) (.seq (.block 1 QOL) (.run [.o 55 (.bin .add dB (.k (.int .i64 1))), .m 23 mC]))
abbrev QOT:AC:= .seq (.run [.m 19 bj, .m 20 bc, .c 21 wy [da,dm], .o 22 (.len dt), .o 23 (.mv (.k (.int .i64 0)))]) (.block 0 (.loop (.seq (.run [.o 24 (.bin .lss dB dv)]) QOP)))
abbrev QP0:AC:= .seq (.run [.o 17 (.load dr true 2), .c 18 lB [cJ], .m 5 cG]) (.seq (.run [.o 6 (.mv (.k (.slice .full 0 [])))]) (.seq QOT (.seq (.run [.m 56 bP, .c 57 iW [nQ]]) (.seq (.run [.m 58 bP, .c 59 jm [nR], .m 4 lT]) .ret))))
abbrev QP2:AC:= .seq (.run [.o 2 (.box aT), .o 4 (.mv (.k (.slice .full 0 [])))]) (.seq (.seq (.run [.o 13 (.load dr true 2), .m 14 bc, .c 15 s4 [bW,bN], .o 16 (.un .not cj)]) QNJ) QP0)
abbrev QPF:AC:= .cond fL (.seq (.run [.o 4 (.mv (.k (.bool false)))]) .ret) .skip
abbrev QPI:AC:= .seq (.seq (.run [.m 18 bj, .o 19 (.av bJ 1), .o 20 (.load da false 1), .c 21 b9 [cG,dm], .m 22 dt, .g 23 22 false (.av bJ 1), .g 24 22 false (.load dB false 1), .g 25 22 false (.av dr 3), .g 26 22 false (.load df false 1), .g 27 22 false (.bin .eql de dY), .o 28 (.pick dv (.k (.bool true)) dT), .m 29 eR, .g 30 29 false (.mv bc), .g 31 29 false (.av bJ 1), .g 32 29 false (.load fc false 1), .d 33 29 false b9 [fb,fz], .o 34 (.pick eU (.k (.bool true)) fw)]) QPF) (.run [.m 35 bj, .o 36 (.av bJ 1), .o 37 (.load fN false 1), .o 38 (.cL [(.str [])] 1 1 [(0,gu)]), .o 39 (.app 1 16 fF gP), .m 5 gG])
abbrev QPL:AC:= .block 1 (.seq (.run [.o 13 (.ct cq bS 6), .o 14 (.load bW true 6), .o 7 (.alloc [(.bool false),(.str []),(.int .i64 0),(.int .i64 0),(.str []),(.slice .full 0 [])]), .op none none (.store bJ bN 6)]) (.seq (.seq (.run [.o 15 (.av bJ 0), .o 16 (.load cj false 1), .o 17 (.un .not b7)]) (.cond cJ (.exit 1) .skip)) QPI))
abbrev QPO:AC:= .seq (.cond b6 .skip (.exit 0)) (.seq QPL (.run [.o 40 (.bin .add bS (.k (.int .i64 1))), .m 11 ig]))
abbrev QPS:AC:= .seq (.run [.o 8 (.av dr 10), .o 9 (.load bU false 1), .o 10 (.len cq), .o 11 (.mv (.k (.int .i64 0)))]) (.block 0 (.loop (.seq (.run [.o 12 (.bin .lss bS bQ)]) QPO)))
abbrev QPV:AC:= .seq QPS (.seq (.run [.o 4 (.mv (.k (.bool true)))]) .ret)
abbrev QPX:AC:= .seq (.run [.o 2 (.box aT), .o 4 (.mv (.k (.bool false)))]) (.seq (.run [.o 5 (.mv (.k (.slice .full 0 [])))]) QPV)
abbrev QQ4:AC:= .seq (.run [(.o 13 (.build [(.int .i64 0),(.int .i64 0)] [(0,(1,(.k (.int .i64 4))))])), .o 2 (.mv (.k (.slice .full 0 []))), .op none none (.store bL bW 2)]) .ret
abbrev QQA:AC:= .cond cJ (.seq (.run [.m 18 cZ, .m 19 aT, .o 20 (.lH da), .o 21 (.build [(.int .i64 0),(.str []),(.int .i64 0),(.int .i64 0)] [(3,(1,dm))]), .o 22 (.cL [(.int .i64 0),(.str []),(.int .i64 0),(.int .i64 0)] 4 1 [(0,dt)]), .o 23 (.app 4 40 cG dv), .o 24 (.build [(.int .i64 0),(.int .i64 0)] []), .m 2 dB, .op none none (.store bL de 2)]) .ret) .skip
abbrev QQO:AC:= .cond lb (.goto 1) (.seq (.run [.m 51 cq, .c 52 oz [kS], .m 50 ld]) (.cond lR (.goto 2) (.seq (.run [.m 54 cq, .c 55 px [lS], .m 53 mC]) (.cond lf (.goto 3) .skip))))
abbrev QQQ:AC:= .cond fb (.seq (.run [.m 45 bP, .o 46 (.bin .add ko (.k (.int .i64 1))), .m 6 kp]) (.goto 0)) (.seq (.run [.m 48 cq, .o 49 (.bin .eql j8 (.k (.int .u8 35))), .m 47 kq]) QQO)
abbrev QQS:AC:= .block 0 (.seq (.run [.m 31 cq, .o 32 (.bin .eql fc (.k (.int .u8 32))), .m 33 fz, .g 34 33 false (.mv cq), .g 35 33 false (.bin .eql fL (.k (.int .u8 9))), .o 36 (.pick fw (.k (.bool true)) fF), .m 37 fN, .g 38 37 false (.mv cq), .g 39 37 false (.bin .eql gP (.k (.int .u8 10))), .o 40 (.pick gu (.k (.bool true)) gG), .m 41 ig, .g 42 41 false (.mv cq), .g 43 41 false (.bin .eql iR (.k (.int .u8 13))), .o 44 (.pick gW (.k (.bool true)) ja), .m 30 jx]) QQQ)
abbrev QR6:AC:= .seq (.seq (.run [.m 72 bP, .m 73 aT, .o 74 (.lH ED), .o 75 (.bin .lss Cc EE), .m 76 EF, .g 77 76 true (.mv aT), .g 78 76 true (.mv bP), .g 79 76 true (.od EG Ce), .g 80 76 true (.bin .neq Nz (.k (.int .u8 10))), .o 81 (.pick Cd NA (.k (.bool false)))]) (.cond NB .skip (.exit 1))) (.block 2 (.run [.m 82 bP, .o 83 (.bin .add NC (.k (.int .i64 1))), .m 6 ND]))
abbrev QRA:AC:= .par [.m 87 aT, .o 88 (.av bj 3), .o 89 (.load NL false 1), .m 90 bP, .o 91 (.xU NK (some NM) (some NN)), .o 92 (.av bj 0), .op none none (.store NP (.k (.int .i64 1)) 1), .o 93 (.av bj 1), .op none none (.store Tx NO 1)] [(1,0),(2,0),(5,0),(6,0),(0,0),(3,0),(4,0),(7,0),(8,0)]
abbrev QRE:AC:= .seq (.run [.o 94 (.av bj 1), .o 95 (.load Ty false 1), .c 96 tP [Tz]]) (.cond aaV (.run [.o 97 (.av bj 0), .op none none (.store aaW (.k (.int .i64 3)) 1)]) .skip)
abbrev QRO:AC:= .seq (.seq (.run [.m 103 bP, .m 104 aT, .o 105 (.lH VT), .o 106 (.bin .lss VS VU), .m 107 VV, .g 108 107 true (.mv aT), .g 109 107 true (.mv bP), .g 110 107 true (.od VX VY), .d 111 107 true px [VZ], .o 112 (.pick VW V0 (.k (.bool false)))]) (.cond V1 .skip (.exit 3))) (.block 4 (.run [.m 113 bP, .o 114 (.bin .add V2 (.k (.int .i64 1))), .m 6 V3]))
abbrev QRR:AC:= .par [.m 115 aT, .o 116 (.av bj 3), .o 117 (.load V5 false 1), .m 118 bP, .o 119 (.xU V4 (some V6) (some V7)), .o 120 (.av bj 0), .op none none (.store V9 (.k (.int .i64 2)) 1), .o 121 (.av bj 1), .op none none (.store Wa V8 1), .o 7 (.mv (.k (.int .i64 2)))] [(1,0),(2,0),(5,0),(6,0),(0,0),(3,0),(4,0),(7,0),(8,0),(9,0)]
abbrev QS5:AC:= .par [.m 148 bJ, .o 149 (.av bj 3), .o 150 (.load WB false 1), .o 151 (.build [(.int .i64 0),(.int .i64 0)] [(0,(1,WA)),(1,(1,WC))]), .o 2 (.mv (.k (.slice .full 0 []))), .op none none (.store bL WD 2)] [(0,0),(1,0),(2,0),(3,0),(4,0),(5,0)]
abbrev QSA:AC:= .seq (.seq (.run [.m 141 cZ, .o 142 (.len Wv), .o 143 (.bin .eql Ww (.k (.int .i64 2000)))]) (.cond NR (.goto 5) .skip)) (.seq (.run [.m 144 cZ, .o 145 (.load bj true 4), .o 146 (.cL [(.int .i64 0),(.str []),(.int .i64 0),(.int .i64 0)] 4 1 [(0,G9)]), .o 147 (.app 4 40 Wx Wy), .m 4 Wz]) (.seq (.goto 0) (.seq (.label 5) (.seq QS5 .ret))))
abbrev QSC:AC:= .seq (.label 4) (.seq (.run [.o 7 (.mv (.k (.int .i64 4)))]) QSA)
abbrev QSF:AC:= .seq (.run [.o 133 (.av bj 1), .o 134 (.load Wn false 1), .c 135 uI [Wo], .m 132 Wp, .o 136 (.ext NQ 0), .o 137 (.ext NQ 1), .o 138 (.av bj 2), .op none none (.store Ws Wq 1), .m 8 Wr]) (.seq (.run [.o 7 (.mv (.k (.int .i64 4)))]) (.seq (.seq (.run [.m 139 bU, .o 140 (.un .not Wt)]) (.cond Wu (.goto 5) .skip)) QSC))
abbrev QSG:AC:= .seq (.seq (.run [.o 122 (.av bj 1), .o 123 (.load Wb false 1), .o 124 (.lH Wc), .o 125 (.bin .gtr Wd (.k (.int .i64 1))), .m 126 Wf, .g 127 126 true (.av bj 1), .g 128 126 true (.load Wh false 1), .g 129 126 true (.od Wi (.k (.int .i64 0))), .g 130 126 true (.bin .eql Wj (.k (.int .u8 48))), .o 131 (.pick Wg Wl (.k (.bool false)))]) (.cond Wm (.goto 5) .skip)) QSF
abbrev QSH:AC:= .seq QRR QSG
abbrev QSL:AC:= .seq (.seq (.run [.m 98 bP, .o 99 (.av bj 3), .o 100 (.load aaY false 1), .o 101 (.bin .sub aaX VP), .o 102 (.bin .gtr VQ (.k (.int .i64 8)))]) (.cond VR (.goto 5) .skip)) (.seq (.goto 4) (.seq (.label 3) (.seq (.block 3 (.loop QRO)) QSH)))
abbrev QSN:AC:= .seq QRE (.seq (.run [.o 7 (.mv (.k (.int .i64 4)))]) QSL)
abbrev QST:AC:= .seq (.label 1) (.seq (.block 1 (.loop QR6)) (.seq (.goto 0) (.seq (.label 2) (.seq (.run [.m 84 aT, .m 85 bP, .c 86 vC [NF,NG], .m 6 NH]) (.seq QRA QSN)))))
abbrev QSX:AC:= .seq (.run [.m 62 aT, .o 63 (.av bj 3), .o 64 (.load rI false 1), .m 65 bP, .o 66 (.xU rH (some s7) (some wC)), .o 67 (.av bj 1), .op none none (.store wD yk 1)]) (.seq (.run [.o 7 (.mv (.k (.int .i64 2)))]) (.seq (.seq (.run [.m 68 bP, .o 69 (.av bj 3), .o 70 (.load Ae false 1), .o 71 (.bin .gtr wE yl)]) (.cond EC (.goto 4) .skip)) (.seq (.goto 5) QST)))
abbrev QT0:AC:= .seq (.seq (.run [.m 27 aT, .m 28 bP, .o 29 (.od dT eR), .m 9 eU]) QQS) (.seq (.run [.o 56 (.av bj 0), .op none none (.store nQ (.k (.int .i64 4)) 1)]) (.seq (.run [.m 57 bP, .m 58 aT, .m 59 bP, .c 60 yi [nR,lT], .o 61 (.bin .add oB pZ), .m 6 rG]) QSX))
abbrev Ag:AC:= .seq (.seq (.run [.m 14 bP, .m 15 aT, .o 16 (.lH cj), .o 17 (.bin .geq bN b7)]) QQA) (.seq (.run [.m 25 bP, .o 26 (.build [(.int .i64 0),(.str []),(.int .i64 0),(.int .i64 0)] [(3,(1,df))]), .op none none (.store bj dY 4)]) QT0)
abbrev QT4:AC:= .seq (.seq (.run [.m 10 aT, .o 11 (.lH bQ), .o 12 (.bin .gtr bS (.k (.int .i64 100000)))]) (.cond b6 QQ4 .skip)) (.seq (.label 0) Ag)
abbrev QT6:AC:= .seq (.run [.o 5 (.alloc [(.int .i64 0),(.str []),(.int .i64 0),(.int .i64 0)])]) (.seq (.run [.o 6 (.mv (.k (.int .i64 0))), .o 7 (.mv (.k (.int .i64 0))), .o 8 (.mv (.k (.bool true)))]) QT4)
abbrev uN:AC:= .seq (.run [.o 4 (.mv (.k (.slice .full 0 [])))]) QT6
abbrev QT8:AC:= .scope uN
abbrev QT9:AC:= .seq (.run [.o 2 (.mv (.k (.slice .full 0 []))), .o 3 (.alloc [(.int .i64 0),(.int .i64 0)])]) QT8
abbrev QTH:AC:= .seq (.seq (.run [.m 4 aT,(.c 5 dw [cZ,(.k (.str [103,108,111,98,97,108]))])]) (.cond bj .skip (.exit 0))) (.block 1 (.run [.m 6 aT, .o 7 (.av bL 0), .o 8 (.load bJ false 1), .c 9 iX [bP,bU,(.k (.int .i64 16))], .o 10 (.av bL 0), .op none none (.store bQ cq 1)]))
abbrev QTT:AC:= .seq (.run [.o 17 (.av bL 1), .o 18 (.load cJ false 1), .o 19 (.len cG), .o 20 (.bin .eql da (.k (.int .i64 16)))]) (.cond dm (.seq (.run [.m 21 aT, .c 22 eZ [dt,(.k (.int .i64 4))]]) (.seq (.run [.o 23 (.load bL true 2), .op none none (.store dr dB 2)]) .ret)) .skip)
abbrev QTV:AC:= .par [.o 31 (.av bL 1), .o 32 (.load fc false 1), .m 33 aT, .c 34 nO [fw], .o 35 (.cL [(.str []),(.slice .full 0 []),(.slice .full 0 []),(.slice .full 0 []),(.slice .full 0 [])] 5 1 [(0,fL)]), .o 36 (.app 5 112 fz fF), .o 37 (.av bL 1), .op none none (.store gu fN 1)] [(2,0),(3,0),(0,0),(1,1),(4,0),(5,0),(6,0),(7,0)]
abbrev QTX:AC:= .seq QTT (.seq (.run [.m 24 aT, .o 25 (.du de), .o 26 (.av df 1), .o 27 (.load dY false 1), .o 28 (.bin .add dT (.k (.int .i64 1))), .o 29 (.du de), .o 30 (.av eU 1), .op none none (.store fb eR 1)]) QTV)
abbrev QTZ:AC:= .seq (.seq (.run [.m 11 aT, .c 12 cE [bS], .m 13 b6, .g 14 13 true (.mv aT),(.d 15 13 true fD [bN,(.k (.str [112,114,111,99]))]), .o 16 (.pick bW cj (.k (.bool false)))]) (.cond b7 .skip (.exit 2))) (.block 3 QTX)
abbrev QU8:AC:= .seq (.seq (.run [.m 38 aT, .c 39 cE [gP], .m 40 gG, .g 41 40 true (.mv aT), .d 42 40 true dz [gW], .g 43 40 true (.sn iR 0 false 1), .g 44 40 true (.bin .neq ja (.k (.int .i64 0))), .o 45 (.pick ig jx (.k (.bool false)))]) (.cond ko (.run [.m 46 aT, .c 47 eZ [kp,(.k (.int .i64 3))]]) .skip)) (.seq (.run [.o 48 (.load bL true 2), .op none none (.store dr j8 2)]) .ret)
abbrev QUC:AC:= .seq (.run [.o 2 (.alloc [(.slice .full 0 []),(.slice .full 0 [])])]) (.seq (.run [.o 3 (.alloc [(.slice .full 0 []),(.slice .full 0 [])])]) (.seq (.block 0 (.loop QTH)) (.seq (.block 2 (.loop QTZ)) QU8)))
abbrev QUK:AC:= .par [.o 19 (.av bP 0), .o 20 (.load da false 1), .o 21 (.av bP 1), .o 22 (.load dt false 1), .c 23 kR [dv], .o 24 (.av bP 2), .o 25 (.load de false 1), .c 26 gQ [df], .o 27 (.av bP 4), .o 28 (.load dT false 1), .c 29 gQ [eR], .o 30 (.build [(.str []),(.slice .full 0 []),(.slice .full 0 []),(.slice .full 0 []),(.slice .full 0 [])] [(0,(1,dm)),(1,(1,dB)),(2,(1,dY)),(4,(1,eU))]), .o 7 (.alloc [(.str []),(.slice .full 0 []),(.slice .full 0 []),(.slice .full 0 []),(.slice .full 0 [])]), .op none none (.store bJ fb 5)] [(2,0),(3,0),(4,0),(5,0),(6,1),(7,0),(8,0),(9,2),(10,0),(12,0),(0,0),(1,4),(11,0),(13,0)]
abbrev QUP:AC:= .seq (.run [.o 17 (.ct bW cj 5), .o 18 (.load cJ true 5), .o 6 (.alloc [(.str []),(.slice .full 0 []),(.slice .full 0 []),(.slice .full 0 []),(.slice .full 0 [])]), .op none none (.store bP cG 5)]) (.seq QUK (.seq (.run [.o 32 (.av bP 3), .o 33 (.load fz false 1), .m 34 bL, .c 35 j7 [fw,fL,(.k (.bool true))], .m 31 fF, .o 36 (.ext fc 0), .o 37 (.ext fc 1), .o 38 (.av bJ 3), .op none none (.store gP fN 1), .m 3 gu]) (.run [.o 39 (.av cZ 1), .o 40 (.load gG false 1), .o 41 (.load bJ true 5), .o 42 (.cL [(.str []),(.slice .full 0 []),(.slice .full 0 []),(.slice .full 0 []),(.slice .full 0 [])] 5 1 [(0,gW)]), .o 43 (.app 5 112 ig iR), .o 44 (.av cZ 1), .op none none (.store jx ja 1)])))
abbrev QUT:AC:= .seq (.cond b7 .skip (.exit 0)) (.seq (.block 1 QUP) (.run [.o 45 (.bin .add cj (.k (.int .i64 1))), .m 15 ko]))
abbrev QUX:AC:= .seq (.run [.o 12 (.av bc 1), .o 13 (.load b6 false 1), .o 14 (.len bW), .o 15 (.mv (.k (.int .i64 0)))]) (.block 0 (.loop (.seq (.run [.o 16 (.bin .lss cj bN)]) QUT)))
abbrev QV2:AC:= .seq (.run [.o 3 (.mv (.k (.int .i64 0)))]) (.seq (.run [.o 8 (.av bc 0), .o 9 (.load bU false 1), .c 10 gQ [cq], .o 11 (.build [(.slice .full 0 []),(.slice .full 0 [])] [(0,(1,bQ))]), .o 4 (.alloc [(.slice .full 0 []),(.slice .full 0 [])]), .op none none (.store cZ bS 2)]) (.seq QUX (.seq (.run [.o 46 (.load cZ true 2), .op none none (.store dr kp 2)]) .ret)))
abbrev QV3:AC:= .seq (.run [.o 1 (.box aT), .o 2 (.alloc [(.slice .full 0 []),(.slice .full 0 [])])]) QV2
abbrev QV7:AC:= .seq (.run [.o 2 (.mv (.k (.bool false)))]) (.seq (.run [.m 3 aT, .o 4 (.bin .geq bL (.k (.int .u8 97))), .m 5 cZ, .g 6 5 true (.mv aT), .g 7 5 true (.bin .leq bP (.k (.int .u8 122))), .o 8 (.pick bj bJ (.k (.bool false))), .m 2 bU]) .ret)
abbrev QVE:AC:= .seq (.seq (.run [.m 5 bc, .m 6 aT, .o 7 (.lH bP), .o 8 (.bin .lss bj bJ), .m 9 bU, .g 10 9 true (.mv aT), .g 11 9 true (.mv bc), .g 12 9 true (.od bQ bS), .d 13 9 true oz [b6], .g 14 9 true (.mv bW), .g 15 14 false (.mv aT), .g 16 14 false (.mv bc), .g 17 14 false (.od cj b7), .d 18 14 false px [cJ], .g 19 9 true (.pick bN (.k (.bool true)) cG), .o 20 (.pick cq da (.k (.bool false)))]) (.cond dm .skip (.exit 0))) (.block 1 (.run [.m 21 bc, .o 22 (.bin .add dt (.k (.int .i64 1))), .m 1 dv]))
abbrev QVK:AC:= .seq (.run [.o 4 (.mv (.k (.int .i64 0)))]) (.seq (.block 0 (.loop QVE)) (.seq (.run [.m 23 bc, .m 4 dB]) .ret))
abbrev QW1:AC:= .seq (.run [.o 16 (.bin .eql bL (.k (.str [114,101,97,100]))), .m 4 b7]) (.cond cZ .skip (.run [.o 17 (.bin .eql bL (.k (.str [112,114,105,110,116]))), .m 4 cJ]))
abbrev QW4:AC:= .cond cZ .skip (.seq (.run [.o 15 (.bin .eql bL (.k (.str [103,111,116,111]))), .m 4 cj]) (.cond cZ .skip QW1))
abbrev QW6:AC:= .cond cZ .skip (.seq (.run [.o 14 (.bin .eql bL (.k (.str [114,101,116,117,114,110]))), .m 4 bN]) QW4)
abbrev QW8:AC:= .cond cZ .skip (.seq (.run [.o 13 (.bin .eql bL (.k (.str [99,111,110,116,105,110,117,101]))), .m 4 bW]) QW6)
abbrev QWA:AC:= .cond cZ .skip (.seq (.run [.o 12 (.bin .eql bL (.k (.str [98,114,101,97,107]))), .m 4 b6]) QW8)
abbrev QWC:AC:= .cond cZ .skip (.seq (.run [.o 11 (.bin .eql bL (.k (.str [119,104,105,108,101]))), .m 4 bS]) QWA)
abbrev QWE:AC:= .cond cZ .skip (.seq (.run [.o 10 (.bin .eql bL (.k (.str [101,108,115,101]))), .m 4 bQ]) QWC)
abbrev QWG:AC:= .cond cZ .skip (.seq (.run [.o 9 (.bin .eql bL (.k (.str [105,102]))), .m 4 cq]) QWE)
abbrev QWI:AC:= .cond cZ .skip (.seq (.run [.o 8 (.bin .eql bL (.k (.str [114,101,102]))), .m 4 bU]) QWG)
abbrev QWK:AC:= .cond cZ .skip (.seq (.run [.o 7 (.bin .eql bL (.k (.str [118,97,114]))), .m 4 bJ]) QWI)
abbrev QWM:AC:= .cond cZ .skip (.seq (.run [.o 6 (.bin .eql bL (.k (.str [112,114,111,99]))), .m 4 bP]) QWK)
abbrev QWQ:AC:= .cond cZ (.seq (.run [.o 2 (.mv (.k (.bool true)))]) .ret) .skip
abbrev QWR:AC:= .seq (.seq (.run [.o 5 (.bin .eql bL (.k (.str [103,108,111,98,97,108]))), .m 4 bj]) QWM) QWQ
abbrev QWW:AC:= .seq (.seq (.run [.m 3 aT]) (.block 0 QWR)) (.seq (.run [.o 2 (.mv (.k (.bool false)))]) .ret)
abbrev QWX:AC:= .seq (.run [.o 2 (.mv (.k (.bool false)))]) QWW
end Go.Abs

/-! Have1 -/

namespace Go.Abs
open Go.Proofs
theorem EI:Has Tryz.prog qH 32 [(4,(some (true,2)))] QDN:=⟨Tryz.f43,by kernel_rfl,by kernel_rfl⟩
theorem C8:Has Tryz.prog sY 1 [(0,none)] QDR:=⟨Tryz.f44,by kernel_rfl,by kernel_rfl⟩
theorem Gv:Has Tryz.prog wv 40 [(0,(some (true,2)))] QDZ:=⟨Tryz.f45,by kernel_rfl,by kernel_rfl⟩
theorem zm:Has Tryz.prog jg 23 [(4,none)] QEG:=⟨Tryz.f46,by kernel_rfl,by kernel_rfl⟩
theorem oC:Has Tryz.prog gn 19 [(4,none)] QEQ:=⟨Tryz.f47,by kernel_rfl,by kernel_rfl⟩
theorem rl:Has Tryz.prog kg 69 [(4,none)] QFO:=⟨Tryz.f48,by kernel_rfl,by kernel_rfl⟩
theorem EJ:Has Tryz.prog mr 15 [(2,none)] QGB:=⟨Tryz.f56,by kernel_rfl,by kernel_rfl⟩
theorem qQ:Has Tryz.prog jJ 71 [(6,none)] QHC:=⟨Tryz.f57,by kernel_rfl,by kernel_rfl⟩
theorem ve:Has Tryz.prog iN 19 [(4,none)] QHZ:=⟨Tryz.f58,by kernel_rfl,by kernel_rfl⟩
theorem C9:Has Tryz.prog nC 18 [(2,none)] QIM:=⟨Tryz.f59,by kernel_rfl,by kernel_rfl⟩
theorem Iy:Has Tryz.prog lB 55 [(2,none)] QJB:=⟨Tryz.f60,by kernel_rfl,by kernel_rfl⟩
theorem Gw:Has Tryz.prog wx 23 [(2,none)] QJW:=⟨Tryz.f61,by kernel_rfl,by kernel_rfl⟩
theorem qR:Has Tryz.prog fU 9 [(4,none)] QK0:=⟨Tryz.f62,by kernel_rfl,by kernel_rfl⟩
theorem Bp:Has Tryz.prog nZ 8 [(3,none)] QK4:=⟨Tryz.f63,by kernel_rfl,by kernel_rfl⟩
theorem s8:Has Tryz.prog b9 9 [(4,none)] QK8:=⟨Tryz.f64,by kernel_rfl,by kernel_rfl⟩
theorem Bq:Has Tryz.prog gN 26 [(4,none)] QKC:=⟨Tryz.f65,by kernel_rfl,by kernel_rfl⟩
theorem Da:Has Tryz.prog pM 38 [(8,none)] QKZ:=⟨Tryz.f66,by kernel_rfl,by kernel_rfl⟩
theorem xm:Has Tryz.prog uE 28 [(4,none)] QLS:=⟨Tryz.f67,by kernel_rfl,by kernel_rfl⟩
theorem xn:Has Tryz.prog qI 9 [(2,none)] QM2:=⟨Tryz.f68,by kernel_rfl,by kernel_rfl⟩
theorem Gx:Has Tryz.prog pw 24 [(4,none),(5,none)] QMR:=⟨Tryz.f69,by kernel_rfl,by kernel_rfl⟩
theorem oS:Has Tryz.prog uF 29 [(4,none)] QNE:=⟨Tryz.f70,by kernel_rfl,by kernel_rfl⟩
theorem tz:Has Tryz.prog qJ 60 [(4,none)] QP2:=⟨Tryz.f71,by kernel_rfl,by kernel_rfl⟩
theorem Cf:Has Tryz.prog rF 41 [(4,none)] QPX:=⟨Tryz.f72,by kernel_rfl,by kernel_rfl⟩
theorem Kf:Has Tryz.prog Ab 152 [(2,none),(3,(some (true,2)))] QT9:=⟨Tryz.f73,by kernel_rfl,by kernel_rfl⟩
theorem uO:Has Tryz.prog lO 49 [(2,(some (true,2)))] QUC:=⟨Tryz.f74,by kernel_rfl,by kernel_rfl⟩
theorem Db:Has Tryz.prog pN 47 [(2,(some (true,2)))] QV3:=⟨Tryz.f75,by kernel_rfl,by kernel_rfl⟩
theorem EK:Has Tryz.prog oz 9 [(2,none)] QV7:=⟨Tryz.f76,by kernel_rfl,by kernel_rfl⟩
theorem Kg:Has Tryz.prog vC 24 [(4,none)] QVK:=⟨Tryz.f77,by kernel_rfl,by kernel_rfl⟩
theorem Iz:Has Tryz.prog tP 18 [(2,none)] QWX:=⟨Tryz.f78,by kernel_rfl,by kernel_rfl⟩
end Go.Abs

/-! Codes2 -/

namespace Go.Abs
abbrev QX4:AC:= .par [.o 20 (.av bJ 0), .o 21 (.load dm false 1), .o 22 (.av bJ 2), .o 23 (.load dv false 1), .c 24 mw [dB], .o 25 (.av bJ 4), .o 26 (.load df false 1), .c 27 mw [dY], .o 28 (.av bJ 3), .o 29 (.load eR false 1), .o 30 (.load bL true 13), .c 31 nh [eU,fb], .o 32 (.build [(.str []),(.slice .full 0 []),(.slice .full 0 []),(.slice .full 0 []),(.slice .full 0 [])] [(0,(1,dt)),(2,(1,de)),(4,(1,dT)),(3,(1,fc))]), .o 8 (.alloc [(.str []),(.slice .full 0 []),(.slice .full 0 []),(.slice .full 0 []),(.slice .full 0 [])]), .op none none (.store bU fz 5)] [(2,0),(3,0),(4,0),(5,0),(6,1),(7,0),(8,0),(9,2),(10,2),(11,0),(13,0),(0,0),(1,4),(12,0),(14,0)]
abbrev QX9:AC:= .seq (.run [.o 18 (.ct bN b7 5), .o 19 (.load cG true 5), .o 7 (.alloc [(.str []),(.slice .full 0 []),(.slice .full 0 []),(.slice .full 0 []),(.slice .full 0 [])]), .op none none (.store bJ da 5)]) (.seq QX4 (.seq (.run [.o 33 (.av bU 1), .o 34 (.load fw false 1), .o 35 (.av bJ 1), .o 36 (.load fF false 1), .o 37 (.app 2 24 fL fN), .o 38 (.av bU 1), .op none none (.store gP gu 1)]) (.run [.o 39 (.av bj 1), .o 40 (.load gG false 1), .o 41 (.load bU true 5), .o 42 (.cL [(.str []),(.slice .full 0 []),(.slice .full 0 []),(.slice .full 0 []),(.slice .full 0 [])] 5 1 [(0,gW)]), .o 43 (.app 5 112 ig iR), .o 44 (.av bj 1), .op none none (.store jx ja 1)])))
abbrev QXD:AC:= .seq (.cond cJ .skip (.exit 0)) (.seq (.block 1 QX9) (.run [.o 45 (.bin .add b7 (.k (.int .i64 1))), .m 16 ko]))
abbrev QXE:AC:= .seq (.run [.o 17 (.bin .lss b7 cj)]) QXD
abbrev QXJ:AC:= .seq (.run [.o 46 (.load bj true 2), .op none none (.store cZ kp 2)]) .ret
abbrev QXK:AC:= .seq (.seq (.run [.o 13 (.av dr 1), .o 14 (.load bW false 1), .o 15 (.len bN), .o 16 (.mv (.k (.int .i64 0)))]) (.block 0 (.loop QXE))) QXJ
abbrev QXM:AC:= .seq (.run [.o 2 (.box aT), .o 3 (.box bc), .o 4 (.alloc [(.slice .full 0 []),(.slice .full 0 [])])]) (.seq (.run [.o 9 (.av dr 0), .o 10 (.load cq false 1), .c 11 mw [bQ], .o 12 (.build [(.slice .full 0 []),(.slice .full 0 [])] [(0,(1,bS))]), .o 5 (.alloc [(.slice .full 0 []),(.slice .full 0 [])]), .op none none (.store bj b6 2)]) QXK)
abbrev QXT:AC:= .par [.m 12 bL, .m 13 aT, .m 14 cZ, .o 15 (.ct bW bN 13), .o 16 (.av cj 11), .o 17 (.load b7 false 1), .c 18 jK [cJ], .m 19 aT, .m 20 cZ, .o 21 (.ct da dm 13), .o 22 (.av dt 12), .o 23 (.load dv false 1), .c 24 jK [dB], .o 25 (.bin .add cG de), .o 26 (.bin .add b6 df), .m 3 dY] [(1,0),(2,0),(3,0),(4,0),(5,0),(6,0),(7,0),(8,0),(9,0),(10,0),(11,1),(12,0),(0,0),(13,0),(14,0),(15,0)]
abbrev QXY:AC:= .seq (.cond bQ .skip (.exit 0)) (.seq (.block 1 (.seq (.run [.m 11 cq, .m 4 bS]) QXT)) (.run [.o 27 (.bin .add cq (.k (.int .i64 1))), .m 9 dT]))
abbrev QY2:AC:= .seq (.run [.m 7 aT, .o 8 (.len bJ), .o 9 (.mv (.k (.int .i64 0)))]) (.block 0 (.loop (.seq (.run [.o 10 (.bin .lss cq bU)]) QXY)))
abbrev QY7:AC:= .seq (.run [.o 2 (.mv (.k (.int .i64 0)))]) (.seq (.run [.m 5 aT, .o 6 (.len bj), .m 3 bP]) (.seq QY2 (.seq (.run [.m 28 bL, .m 2 eR]) .ret)))
abbrev QYM:AC:= .seq (.run [.m 20 bc, .o 21 (.av cq 0), .op none none (.store dt dm 1)]) (.seq (.run [.o 23 (.av bU 11), .o 24 (.load dB false 1), .m 25 bc, .c 26 iV [de,df], .m 22 dY, .o 27 (.ext dv 0), .o 28 (.ext dv 1), .o 29 (.av cq 11), .op none none (.store eU dT 1), .m 1 eR]) (.seq (.run [.o 31 (.av bU 12), .o 32 (.load fc false 1), .m 33 bc, .c 34 iV [fz,fw], .m 30 fL, .o 35 (.ext fb 0), .o 36 (.ext fb 1), .o 37 (.av cq 12), .op none none (.store gu fF 1), .m 1 fN]) (.run [.m 38 bP, .o 39 (.load cq true 13), .o 40 (.cL [(.int .i64 0),(.int .i64 0),(.slice .full 0 []),(.str []),(.str []),(.int .i64 0),(.int .i64 0),(.str []),(.slice .full 0 []),(.bool false),(.slice .full 0 []),(.slice .full 0 []),(.slice .full 0 [])] 13 1 [(0,gG)]), .o 41 (.app 13 208 gP ig), .m 6 gW])))
abbrev QYP:AC:= .seq (.run [.o 14 (.ct bQ b6 13), .o 15 (.load bN true 13), .o 8 (.alloc [(.int .i64 0),(.int .i64 0),(.slice .full 0 []),(.str []),(.str []),(.int .i64 0),(.int .i64 0),(.str []),(.slice .full 0 []),(.bool false),(.slice .full 0 []),(.slice .full 0 []),(.slice .full 0 [])]), .op none none (.store bU cj 13)]) (.seq (.run [.m 16 bc, .o 17 (.bin .add b7 (.k (.int .i64 1))), .m 1 cJ]) (.seq (.run [.o 18 (.load bU true 13), .c 19 my [cG], .o 9 (.alloc [(.int .i64 0),(.int .i64 0),(.slice .full 0 []),(.str []),(.str []),(.int .i64 0),(.int .i64 0),(.str []),(.slice .full 0 []),(.bool false),(.slice .full 0 []),(.slice .full 0 []),(.slice .full 0 [])]), .op none none (.store cq da 13)]) QYM))
abbrev QYT:AC:= .seq (.cond bW .skip (.exit 0)) (.seq (.block 1 QYP) (.run [.o 42 (.bin .add b6 (.k (.int .i64 1))), .m 12 iR]))
abbrev QYX:AC:= .seq (.run [.m 10 aT, .o 11 (.len bQ), .o 12 (.mv (.k (.int .i64 0)))]) (.block 0 (.loop (.seq (.run [.o 13 (.bin .lss b6 bS)]) QYT)))
abbrev QZ2:AC:= .seq (.run [.o 4 (.mv (.k (.slice .full 0 []))), .o 5 (.mv (.k (.int .i64 0)))]) (.seq (.run [.o 6 (.mv (.k (.slice .full 0 [])))]) (.seq QYX (.seq (.run [.m 43 bP, .m 44 bc, .m 4 ja, .m 5 jx]) .ret)))
abbrev QZ5:AC:= .seq (.run [.m 3 aT,(.o 4 (.build [(.int .i64 0),(.int .i64 0),(.str []),(.slice .full 0 [])] [(0,(1,(.k (.int .i64 1)))),(1,(1,bL))])), .op none none (.store dr cZ 4)]) .ret
abbrev QZ6:AC:= .seq (.run [.o 2 (.alloc [(.int .i64 0),(.int .i64 0),(.str []),(.slice .full 0 [])])]) QZ5
abbrev QZ9:AC:= .seq (.run [.m 3 aT,(.o 4 (.build [(.int .i64 0),(.int .i64 0),(.str []),(.slice .full 0 [])] [(0,(1,(.k (.int .i64 2)))),(2,(1,bL))])), .op none none (.store dr cZ 4)]) .ret
abbrev QZA:AC:= .seq (.run [.o 2 (.alloc [(.int .i64 0),(.int .i64 0),(.str []),(.slice .full 0 [])])]) QZ9
abbrev QZE:AC:= .seq (.run [.o 4 (.box bc), .o 5 (.box dr), .o 6 (.alloc [(.int .i64 0),(.int .i64 0),(.str []),(.slice .full 0 [])])]) (.seq (.run [.m 7 aT, .o 8 (.load cZ true 4), .o 9 (.load bj true 4), .o 10 (.cL [(.int .i64 0),(.int .i64 0),(.str []),(.slice .full 0 [])] 4 2 [(0,bU),(1,cq)]), .o 11 (.build [(.int .i64 0),(.int .i64 0),(.str []),(.slice .full 0 [])] [(0,(1,bJ)),(3,(1,bQ))]), .op none none (.store bP bS 4)]) .ret)
abbrev QZP:AC:= .seq (.seq (.run [.m 10 bj, .o 11 (.av dr 3), .o 12 (.load bS false 1), .o 13 (.len b6), .o 14 (.bin .lss bQ bW), .m 15 bN, .g 16 15 true (.mv bc), .g 17 15 true (.bin .leq b7 (.k (.int .i64 20000))), .o 18 (.pick cj cJ (.k (.bool false)))]) (.cond cG .skip (.exit 0))) (.seq (.block 1 (.run [.o 21 (.av dr 3), .o 22 (.load dt false 1), .m 23 bj, .o 24 (.ct dv dB 4), .o 25 (.load de true 4), .m 26 bc, .c 27 jv [df,dY], .m 1 dT])) (.run [.m 19 bj, .o 20 (.bin .add da (.k (.int .i64 1))), .m 5 dm]))
abbrev QZV:AC:= .seq (.seq (.run [.o 5 (.mv (.k (.int .i64 0)))]) (.block 0 (.loop QZP))) (.seq (.run [.m 28 bc, .m 4 eR]) .ret)
abbrev QZX:AC:= .seq (.run [.o 2 (.box aT), .o 4 (.mv (.k (.int .i64 0)))]) (.seq (.run [.o 6 (.av dr 2), .o 7 (.load bP false 1), .m 8 bc, .c 9 gn [bJ,bU], .m 1 cq]) QZV)
abbrev QZZ:AC:= .par [.o 10 (.av bc 9), .o 11 (.load bQ false 1), .o 3 (.mv (.k (.bool false))), .o 4 (.mv (.k (.bool false))), .o 5 (.mv (.k (.bool false))), .m 6 bS, .o 7 (.mv (.k (.bool false))), .o 8 (.mv (.k (.bool false)))] [(0,0),(1,0),(2,0),(3,0),(4,0),(5,0),(6,0),(7,0)]
abbrev ah3:AC:= .seq (.run [.o 20 (.bin .eql b7 (.k (.int .i64 2))), .m 19 dm]) (.cond da .skip (.run [.o 21 (.bin .eql b7 (.k (.int .i64 10))), .m 19 dt]))
abbrev ah4:AC:= .seq (.run [.o 38 (.bin .eql b7 (.k (.int .i64 7))), .m 37 gP]) (.cond gu .skip (.run [.o 39 (.bin .eql b7 (.k (.int .i64 8))), .m 37 gG]))
abbrev ah5:AC:= .cond gu .skip (.seq (.run [.o 2 (.mv (.k (.bool false)))]) .ret)
abbrev ah6:AC:= .seq (.run [.o 34 (.bin .eql b7 (.k (.int .i64 9))), .m 33 fL]) (.cond fw (.run [.o 35 (.av bc 9), .o 36 (.load fF false 1), .m 5 fN, .o 6 (.mv (.k (.bool false)))]) (.seq ah4 ah5))
abbrev ah7:AC:= .seq (.run [.o 32 (.bin .eql b7 (.k (.int .i64 6))), .m 31 fz]) (.cond fc (.run [.o 5 (.mv (.k (.bool true))), .o 7 (.mv (.k (.bool true)))]) ah6)
abbrev ah8:AC:= .seq (.run [.o 30 (.bin .eql b7 (.k (.int .i64 5))), .m 29 fb]) (.cond eU (.run [.o 5 (.mv (.k (.bool true))), .o 7 (.mv (.k (.bool true))), .o 8 (.mv (.k (.bool true)))]) ah7)
abbrev ah9:AC:= .seq (.run [.o 25 (.bin .eql b7 (.k (.int .i64 4))), .m 24 df]) (.cond de (.run [.o 26 (.av bc 3), .o 27 (.load dY false 1), .o 28 (.bin .neq dT (.k (.str []))), .m 3 eR, .o 4 (.mv (.k (.bool true)))]) ah8)
abbrev aia:AC:= .seq (.run [.o 23 (.bin .eql b7 (.k (.int .i64 3))), .m 22 dB]) (.cond dv (.run [.o 5 (.mv (.k (.bool true)))]) ah9)
abbrev aib:AC:= .seq ah3 (.cond da (.run [.o 3 (.mv (.k (.bool true)))]) aia)
abbrev aic:AC:= .seq (.run [.o 18 (.bin .eql b7 (.k (.int .i64 1))), .m 17 cG]) (.cond cJ (.run [.o 3 (.mv (.k (.bool true))), .o 5 (.mv (.k (.bool true)))]) aib)
abbrev aid:AC:= .run [.m 40 bP, .m 41 ig, .g 42 41 false (.mv bJ), .g 43 41 false (.un .not iR), .g 44 41 false (.mv ja), .g 45 44 true (.av bc 11), .g 46 44 true (.load ko false 1), .g 47 44 true (.len kp), .g 48 44 true (.bin .gtr lb (.k (.int .i64 0))), .g 49 41 false (.pick jx j8 (.k (.bool false))), .o 50 (.pick gW (.k (.bool true)) kq), .m 51 lR, .g 52 51 false (.mv bU), .g 53 51 false (.un .not ld), .g 54 51 false (.mv lf), .g 55 54 true (.av bc 12), .g 56 54 true (.load mC false 1), .g 57 54 true (.len nQ), .g 58 54 true (.bin .gtr oB (.k (.int .i64 0))), .g 59 51 false (.pick lS nR (.k (.bool false))), .o 60 (.pick kS (.k (.bool true)) lT), .m 61 pZ, .g 62 61 false (.mv cq), .g 63 61 false (.un .not rH), .g 64 61 false (.mv rI), .g 65 64 true (.av bc 10), .g 66 64 true (.load wC false 1), .g 67 64 true (.len yk), .g 68 64 true (.bin .gtr wD (.k (.int .i64 0))), .g 69 61 false (.pick s7 wE (.k (.bool false))), .o 70 (.pick rG (.k (.bool true)) Ae)]
abbrev aie:AC:= .cond yl (.seq (.run [.o 2 (.mv (.k (.bool false)))]) .ret) .skip
abbrev aif:AC:= .cond NM (.seq (.run [.o 2 (.mv (.k (.bool false)))]) .ret) .skip
abbrev aa5:AC:= .seq (.seq (.run [.o 71 (.av bc 3), .o 72 (.load EC false 1), .m 73 bL, .c 74 oA [Cc,ED], .o 75 (.un .not EE), .m 76 EF, .g 77 76 false (.av bc 4), .g 78 76 false (.load EG false 1), .g 79 76 false (.mv cZ), .d 80 76 false oA [Ce,Nz], .g 81 76 false (.un .not NA), .o 82 (.pick Cd (.k (.bool true)) NB), .m 83 NC, .g 84 83 false (.av bc 5), .g 85 83 false (.load NF true 4), .g 86 83 false (.mv bj), .d 87 83 false qN [NG,NH], .g 88 83 false (.un .not NK), .o 89 (.pick ND (.k (.bool true)) NL)]) aif) (.seq (.run [.o 90 (.av bc 10), .o 91 (.load NN false 1), .c 92 s5 [NO], .m 2 NP]) .ret)
abbrev aa6:AC:= .seq (.seq aid aie) aa5
abbrev TA:AC:= .seq (.seq (.run [.o 15 (.av bc 1), .o 16 (.load cj false 1)]) (.block 0 aic)) aa6
abbrev aa7:AC:= .seq (.run [.o 12 (.av bc 1), .o 13 (.load b6 false 1), .o 14 (.bin .eql bW (.k (.int .i64 4))), .m 9 bN]) TA
abbrev aa8:AC:= .seq QZZ aa7
abbrev aih:AC:= .seq (.run [.o 1 (.box aT), .o 2 (.mv (.k (.bool false)))]) aa8
abbrev aii:AC:= .par [.m 37 aT, .m 38 aT, .o 39 (.du gP), .o 40 (.av gG 2), .o 41 (.load ig false 1), .o 42 (.load cq true 17), .o 43 (.cL [(.int .i64 0),(.int .i64 0),(.slice .full 0 []),(.str []),(.str []),(.int .i64 0),(.int .i64 0),(.str []),(.slice .full 0 []),(.bool false),(.slice .full 0 []),(.slice .full 0 []),(.slice .full 0 []),(.int .i64 0),(.int .i64 0),(.int .i64 0),(.int .i64 0)] 17 1 [(0,iR)]), .o 44 (.app 17 240 gW ja), .o 45 (.du gu), .o 46 (.av ko 2), .op none none (.store kp jx 1)] [(1,0),(2,0),(3,0),(4,0),(5,0),(6,0),(7,0),(0,0),(8,0),(9,0),(10,0)]
abbrev aij:AC:= .run [.o 47 (.av bj 13), .o 48 (.load lb false 1), .m 49 bU, .o 50 (.av cq 15), .o 51 (.load lR false 1), .o 52 (.av bj 16), .o 53 (.load ld false 1), .o 54 (.build [(.int .i64 0),(.int .i64 0),(.slice .full 0 []),(.str []),(.str []),(.int .i64 0),(.int .i64 0),(.str []),(.slice .full 0 []),(.bool false),(.slice .full 0 []),(.slice .full 0 []),(.slice .full 0 []),(.int .i64 0),(.int .i64 0),(.int .i64 0),(.int .i64 0)] [(13,(1,j8)),(14,(1,kq)),(15,(1,kS)),(16,(1,lf))]), .o 10 (.alloc [(.int .i64 0),(.int .i64 0),(.slice .full 0 []),(.str []),(.str []),(.int .i64 0),(.int .i64 0),(.str []),(.slice .full 0 []),(.bool false),(.slice .full 0 []),(.slice .full 0 []),(.slice .full 0 []),(.int .i64 0),(.int .i64 0),(.int .i64 0),(.int .i64 0)]), .op none none (.store bQ lS 17)]
abbrev aik:AC:= .seq (.seq (.run [.o 55 (.av bJ 1), .o 56 (.load mC false 1), .o 57 (.bin .eql nQ (.k (.int .i64 6)))]) (.cond oB (.run [.m 58 bU, .m 59 bU, .o 60 (.av bQ 15), .op none none (.store pZ nR 1), .o 61 (.av bQ 16), .op none none (.store rG lT 1)]) .skip)) (.seq (.run [.m 62 aT, .o 63 (.av bJ 11), .o 64 (.load rI false 1), .o 65 (.load bQ true 17), .c 66 jw [rH,s7,wC]]) (.run [.m 67 aT, .o 68 (.av bJ 12), .o 69 (.load wE false 1), .o 70 (.load bQ true 17), .c 71 jw [wD,Ae,yl]]))
abbrev ail:AC:= .seq (.seq (.run [.m 27 bP, .o 28 (.bin .add dT (.k (.int .i64 1))), .m 29 bc, .o 30 (.len eU), .o 31 (.bin .lss eR fb)]) (.cond fc (.run [.m 32 bU, .o 33 (.load bJ true 13), .c 34 lP [fw], .o 35 (.bin .add fz fL), .o 36 (.av cq 15), .op none none (.store fN fF 1)]) .skip)) (.seq aii (.seq aij aik))
abbrev aim:AC:= .seq (.run [.m 15 bW, .o 16 (.ct bS bW 13), .o 17 (.load b7 true 13), .o 7 (.alloc [(.int .i64 0),(.int .i64 0),(.slice .full 0 []),(.str []),(.str []),(.int .i64 0),(.int .i64 0),(.str []),(.slice .full 0 []),(.bool false),(.slice .full 0 []),(.slice .full 0 []),(.slice .full 0 [])]), .m 6 cj, .op none none (.store bJ cJ 13)]) (.seq (.run [.m 18 aT, .o 19 (.du cG), .o 20 (.av da 2), .o 21 (.load dm false 1), .o 22 (.len dt), .o 23 (.bin .add dv (.k (.int .i64 1))), .m 8 dB]) (.seq (.run [.o 24 (.load bj true 17), .o 9 (.alloc [(.int .i64 0),(.int .i64 0),(.slice .full 0 []),(.str []),(.str []),(.int .i64 0),(.int .i64 0),(.str []),(.slice .full 0 []),(.bool false),(.slice .full 0 []),(.slice .full 0 []),(.slice .full 0 []),(.int .i64 0),(.int .i64 0),(.int .i64 0),(.int .i64 0)]), .op none none (.store cq de 17)]) (.seq (.run [.o 25 (.load bJ true 13), .o 26 (.av cq 0), .op none none (.store dY df 13)]) ail)))
abbrev ain:AC:= .seq (.cond bN .skip (.exit 0)) (.seq (.block 1 aim) (.run [.o 72 (.bin .add bW (.k (.int .i64 1))), .m 13 Cc]))
abbrev aio:AC:= .seq (.run [.m 11 bc, .o 12 (.len bS), .o 13 (.mv (.k (.int .i64 0)))]) (.block 0 (.loop (.seq (.run [.o 14 (.bin .lss bW b6)]) ain)))
abbrev aip:AC:= .seq (.run [.o 5 (.box dr)]) aio
abbrev aiq:AC:= .block 1 (.seq (.run [.m 10 bU, .m 5 bQ]) (.seq (.run [.m 11 bc, .m 12 aT, .m 13 bj, .o 14 (.ct b6 bW 1), .o 15 (.load bN false 1),(.iS (some 16) none 11 [cj])]) (.cond b7 (.seq (.run [.m 17 bj, .m 4 cJ]) .ret) .skip)))
abbrev air:AC:= .seq (.cond cq .skip (.exit 0)) (.seq aiq (.run [.o 18 (.bin .add bU (.k (.int .i64 1))), .m 8 cG]))
abbrev ais:AC:= .seq (.run [.m 6 aT, .o 7 (.len bP), .o 8 (.mv (.k (.int .i64 0)))]) (.block 0 (.loop (.seq (.run [.o 9 (.bin .lss bU bJ)]) air)))
abbrev ait:AC:= .seq (.run [(.o 4 (.mv (.k (.int .i64 (-1)))))]) .ret
abbrev aiu:AC:= .seq (.run [.o 4 (.mv (.k (.int .i64 0)))]) (.seq ais ait)
abbrev aiv:AC:= .seq (.seq (.run [.o 31 (.av bj 0), .o 32 (.load fc false 1)]) (.cond fz (.run [.m 33 bL, .o 34 (.av bj 1), .o 35 (.load fL false 1), .o 36 (.cL [(.str [])] 1 1 [(0,fF)]), .o 37 (.app 1 16 fw fN), .m 3 gu]) .skip)) (.run [.m 38 bL, .o 39 (.av bj 2), .o 40 (.load gG true 4), .c 41 qO [ig], .o 42 (.app 1 16 gP gW), .m 3 iR])
abbrev aiw:AC:= .seq (.block 1 (.seq (.run [.o 29 (.ct df dT 6), .o 30 (.load eU true 6), .o 5 (.alloc [(.bool false),(.str []),(.int .i64 0),(.int .i64 0),(.str []),(.slice .full 0 [])]), .op none none (.store bj fb 6)]) aiv)) (.run [.o 43 (.bin .add dT (.k (.int .i64 1))), .m 27 ja])
abbrev aix:AC:= .block 0 (.loop (.seq (.run [.o 28 (.bin .lss dT dY)]) (.seq (.cond eR .skip (.exit 0)) aiw)))
abbrev aiy:AC:= .seq (.seq (.run [.o 24 (.av bc 10), .o 25 (.load de false 1), .o 26 (.len df), .o 27 (.mv (.k (.int .i64 0)))]) aix) (.seq (.run [.m 44 bL, .m 2 jx]) .ret)
abbrev aiz:AC:= .seq (.seq (.run [.o 6 (.av bc 1), .o 7 (.load bP false 1), .o 8 (.bin .neq bJ (.k (.int .i64 10))), .m 9 bU, .g 10 9 true (.av bc 3), .g 11 9 true (.load bQ false 1), .g 12 9 true (.bin .neq bS (.k (.str []))), .o 13 (.pick cq b6 (.k (.bool false)))]) (.cond bW (.run [.m 14 bL, .o 15 (.av bc 3), .o 16 (.load cj false 1), .o 17 (.cL [(.str [])] 1 1 [(0,b7)]), .o 18 (.app 1 16 bN cJ), .m 3 cG]) .skip)) (.seq (.run [.m 19 bL, .o 20 (.av bc 5), .o 21 (.load dm true 4), .c 22 qO [dt], .o 23 (.app 1 16 da dv), .m 3 dB]) aiy)
abbrev aiA:AC:= .seq (.run [.o 1 (.box aT), .o 2 (.mv (.k (.slice .full 0 [])))]) (.seq (.run [.o 3 (.mv (.k (.slice .full 0 [])))]) aiz)
end Go.Abs

/-! Have2 -/

namespace Go.Abs
open Go.Proofs
theorem Ah:Has Tryz.prog ng 47 [(4,(some (true,2)))] QXM:=⟨Tryz.f85,by kernel_rfl,by kernel_rfl⟩
theorem EL:Has Tryz.prog jK 29 [(2,none)] QY7:=⟨Tryz.f86,by kernel_rfl,by kernel_rfl⟩
theorem Br:Has Tryz.prog iV 45 [(4,none),(5,none)] QZ2:=⟨Tryz.f87,by kernel_rfl,by kernel_rfl⟩
theorem IA:Has Tryz.prog qK 5 [(2,(some (true,4)))] QZ6:=⟨Tryz.f95,by kernel_rfl,by kernel_rfl⟩
theorem Gy:Has Tryz.prog kA 5 [(2,(some (true,4)))] QZA:=⟨Tryz.f96,by kernel_rfl,by kernel_rfl⟩
theorem IB:Has Tryz.prog tQ 12 [(6,(some (true,4)))] QZE:=⟨Tryz.f97,by kernel_rfl,by kernel_rfl⟩
theorem Ai:Has Tryz.prog jv 29 [(4,none)] QZX:=⟨Tryz.f98,by kernel_rfl,by kernel_rfl⟩
theorem Dc:Has Tryz.prog sZ 93 [(2,none)] aih:=⟨Tryz.f116,by kernel_rfl,by kernel_rfl⟩
theorem Aj:Has Tryz.prog jw 73 [] aip:=⟨Tryz.f117,by kernel_rfl,by kernel_rfl⟩
theorem sK:Has Tryz.prog kn 19 [(4,none)] aiu:=⟨Tryz.f118,by kernel_rfl,by kernel_rfl⟩
theorem EM:Has Tryz.prog qL 45 [(2,none)] aiA:=⟨Tryz.f119,by kernel_rfl,by kernel_rfl⟩
end Go.Abs

/-! Codes3 -/

namespace Go.Abs
abbrev aiB:AC:= .cond dB (.seq (.run [.o 6 (.mv (.k (.int .i64 3)))]) .ret) .skip
abbrev aiC:AC:= .cond dT (.seq (.run [.o 6 (.mv (.k (.int .i64 2)))]) .ret) .skip
abbrev aiD:AC:= .seq (.seq (.run [.o 16 (.av bU 0), .o 17 (.load b7 false 1), .m 18 dr, .o 19 (.bin .eql cJ cG), .m 20 da, .g 21 20 true (.av bU 1), .g 22 20 true (.load dt false 1), .o 23 (.pick dm dv (.k (.bool false)))]) aiB) (.seq (.run [.o 24 (.av bU 0), .o 25 (.load de false 1), .m 26 dr, .o 27 (.bin .eql df dY)]) aiC)
abbrev aiE:AC:= .seq (.block 1 (.seq (.run [.o 14 (.ct bQ b6 2), .o 15 (.load bN true 2), .o 8 (.alloc [(.str []),(.bool false)]), .op none none (.store bU cj 2)]) aiD)) (.run [.o 28 (.bin .add b6 (.k (.int .i64 1))), .m 12 eR])
abbrev aiF:AC:= .block 0 (.loop (.seq (.run [.o 13 (.bin .lss b6 bS)]) (.seq (.cond bW .skip (.exit 0)) aiE)))
abbrev aiG:AC:= .cond fz (.seq (.run [.o 6 (.mv (.k (.int .i64 4)))]) .ret) .skip
abbrev aiH:AC:= .cond fN (.seq (.run [.o 6 (.mv (.k (.int .i64 1)))]) .ret) .skip
abbrev aiI:AC:= .seq (.seq (.run [.o 33 (.av bL 0), .o 34 (.load fw false 1), .m 35 dr, .c 36 b9 [fL,fF]]) aiH) (.seq (.run [.o 6 (.mv (.k (.int .i64 0)))]) .ret)
abbrev aiJ:AC:= .seq (.seq (.run [.o 9 (.av cZ 1), .o 10 (.load cq false 1), .o 11 (.len bQ), .o 12 (.mv (.k (.int .i64 0)))]) aiF) (.seq (.seq (.run [.o 29 (.av cZ 2), .o 30 (.load eU false 1), .m 31 dr, .c 32 b9 [fb,fc]]) aiG) aiI)
abbrev aiK:AC:= .seq (.run [.o 3 (.box aT), .o 4 (.box bc), .o 6 (.mv (.k (.int .i64 0)))]) aiJ
abbrev aiL:AC:= .cond bS (.seq (.run [.o 4 (.mv (.k (.bool false)))]) .ret) .skip
abbrev aiM:AC:= .par [.o 19 (.av bP 1), .o 20 (.load da false 1), .m 21 bc, .m 22 bj, .o 23 (.ct dt dv 6), .o 24 (.av dB 0), .o 25 (.load de false 1), .o 26 (.Bv true dm df)] [(0,0),(1,0),(2,0),(3,0),(4,0),(5,0),(6,0),(7,0)]
abbrev aiN:AC:= .cond dY (.seq (.run [.o 4 (.mv (.k (.bool false)))]) .ret) .skip
abbrev aiO:AC:= .seq (.block 1 (.seq (.run [.m 16 bN, .o 17 (.ct b6 bN 2), .o 18 (.load cJ true 2), .o 6 (.alloc [(.str []),(.bool false)]), .m 5 b7, .op none none (.store bP cG 2)]) (.seq aiM aiN))) (.run [.o 27 (.bin .add bN (.k (.int .i64 1))), .m 14 dT])
abbrev aiP:AC:= .block 0 (.loop (.seq (.run [.o 15 (.bin .lss bN bW)]) (.seq (.cond cj .skip (.exit 0)) aiO)))
abbrev aiQ:AC:= .seq (.seq (.run [.m 12 aT, .o 13 (.len b6), .o 14 (.mv (.k (.int .i64 0)))]) aiP) (.seq (.run [.o 4 (.mv (.k (.bool true)))]) .ret)
abbrev aiR:AC:= .seq (.run [.o 4 (.mv (.k (.bool false)))]) (.seq (.seq (.run [.m 7 aT, .o 8 (.len bJ), .m 9 bc, .o 10 (.len cq), .o 11 (.bin .neq bU bQ)]) aiL) aiQ)
abbrev aiS:AC:= .cond dv (.seq (.run [.o 23 (.av cq 0), .o 24 (.av dB 0), .o 25 (.load de false 1), .m 6 df, .o 7 (.mv (.k (.bool true)))]) .ret) .skip
abbrev aiT:AC:= .seq (.block 1 (.seq (.run [.o 16 (.ct b6 bN 17), .o 17 (.load b7 true 17), .o 9 (.alloc [(.int .i64 0),(.int .i64 0),(.slice .full 0 []),(.str []),(.str []),(.int .i64 0),(.int .i64 0),(.str []),(.slice .full 0 []),(.bool false),(.slice .full 0 []),(.slice .full 0 []),(.slice .full 0 []),(.int .i64 0),(.int .i64 0),(.int .i64 0),(.int .i64 0)]), .op none none (.store cq cJ 17)]) (.seq (.run [.o 18 (.av cq 0), .o 19 (.av cG 2), .o 20 (.load da false 1), .m 21 dr, .c 22 b9 [dm,dt]]) aiS))) (.run [.o 26 (.bin .add bN (.k (.int .i64 1))), .m 14 dY])
abbrev aiU:AC:= .block 0 (.loop (.seq (.run [.o 15 (.bin .lss bN bW)]) (.seq (.cond cj .skip (.exit 0)) aiT)))
abbrev aiV:AC:= .seq (.run [(.o 6 (.mv (.k (.int .i64 (-1))))), .o 7 (.mv (.k (.bool true)))]) .ret
abbrev aiW:AC:= .seq (.seq (.run [.m 27 aT, .o 28 (.du dT), .o 29 (.av eR 0), .o 30 (.av eU 1), .o 31 (.load fb false 1), .m 32 bc, .o 33 (.ct fc fz 5), .o 34 (.av fw 4), .o 35 (.load fL false 1), .m 36 dr, .c 37 b9 [fF,fN]]) (.cond gu aiV .skip)) (.seq (.run [.o 6 (.mv (.k (.int .i64 0))), .o 7 (.mv (.k (.bool false)))]) .ret)
abbrev aiX:AC:= .seq (.seq (.run [.m 10 aT, .m 11 bc, .c 12 gN [bQ,bS], .o 13 (.len b6), .o 14 (.mv (.k (.int .i64 0)))]) aiU) aiW
abbrev aiY:AC:= .seq (.run [.o 6 (.mv (.k (.int .i64 0))), .o 7 (.mv (.k (.bool false)))]) aiX
abbrev aiZ:AC:= .seq (.run [.o 2 (.box aT), .o 3 (.box bc), .o 4 (.mv (.k (.bool false)))]) (.seq (.run [.o 5 (.load dr true 2), .c 6 lg [bj], .o 7 (.sn bP 0 false 1), .o 8 (.bin .eql bJ (.k (.int .i64 0))), .m 9 bU, .g 10 9 true (.av dr 1), .g 11 9 true (.load bQ false 1), .g 12 9 true (.tD 164 [bL]), .d 13 9 true gO [bS,b6], .o 14 (.pick cq bW (.k (.bool false))), .m 4 bN]) .ret)
abbrev ai0:AC:= .seq (.run [.o 26 (.ct dv de 1), .o 27 (.load dY false 1), .m 8 dT]) (.seq (.run [.m 28 bj, .m 29 bU, .c 30 b9 [eR,eU], .o 31 (.un .not fb)]) (.cond fc (.run [.m 32 bj, .m 33 bU, .o 34 (.cL [(.str [])] 1 1 [(0,fw)]), .o 35 (.app 1 16 fz fL), .m 5 fF]) .skip))
abbrev ai1:AC:= .seq (.cond df .skip (.exit 2)) (.seq (.block 3 ai0) (.run [.o 36 (.bin .add de (.k (.int .i64 1))), .m 24 fN]))
abbrev ai2:AC:= .seq (.run [.m 17 aT, .m 18 bj, .m 19 bP, .o 20 (.ct cG da 1), .o 21 (.load dm false 1), .c 22 s6 [cJ,dt], .o 23 (.len dv), .o 24 (.mv (.k (.int .i64 0)))]) (.block 2 (.loop (.seq (.run [.o 25 (.bin .lss de dB)]) ai1)))
abbrev ai3:AC:= .seq (.seq (.run [.m 11 bP, .m 12 bj, .o 13 (.len b6), .o 14 (.bin .lss bS bW)]) (.cond bN .skip (.exit 0))) (.seq (.block 1 ai2) (.run [.m 15 bP, .o 16 (.bin .add cj (.k (.int .i64 1))), .m 6 b7]))
abbrev aa9:AC:= .seq (.run [.m 39 bj, .m 4 gG]) .ret
abbrev ai4:AC:= .seq (.seq (.run [.o 6 (.mv (.k (.int .i64 0)))]) (.block 0 (.loop ai3))) (.seq (.run [.m 37 bj, .c 38 iW [gu]]) aa9)
abbrev ai5:AC:= .seq (.run [.o 4 (.mv (.k (.slice .full 0 [])))]) (.seq (.run [.m 9 bc, .o 10 (.cL [(.str [])] 1 1 [(0,cq)]), .m 5 bQ]) ai4)
abbrev ai6:AC:= .seq (.run [.o 3 (.box bc), .o 4 (.mv (.k (.int .i64 0)))]) (.seq (.run [.m 5 aT, .o 6 (.du bj), .o 7 (.av bP 0), .o 8 (.av bJ 1), .o 9 (.load bU false 1), .o 10 (.tD 167 [bL]), .c 11 gh [cq,bQ], .m 4 bS]) .ret)
abbrev ai7:AC:= .seq (.run [.o 2 (.mv (.k (.bool false)))]) (.seq (.run [.m 3 aT, .o 4 (.bin .geq bL (.k (.int .u8 48))), .m 5 cZ, .g 6 5 true (.mv aT), .g 7 5 true (.bin .leq bP (.k (.int .u8 57))), .o 8 (.pick bj bJ (.k (.bool false))), .m 2 bU]) .ret)
abbrev ai8:AC:= .seq (.run [.o 20 (.bin .eql bN (.k (.str [38,38]))), .m 15 dm]) (.cond cj .skip (.run [.o 21 (.bin .eql bN (.k (.str [124,124]))), .m 15 dt]))
abbrev ai9:AC:= .cond cj .skip (.seq (.run [.o 19 (.bin .eql bN (.k (.str [62,61]))), .m 15 da]) (.cond cj .skip ai8))
abbrev aja:AC:= .cond cj .skip (.seq (.run [.o 18 (.bin .eql bN (.k (.str [60,61]))), .m 15 cG]) ai9)
abbrev ajb:AC:= .cond cj .skip (.seq (.run [.o 17 (.bin .eql bN (.k (.str [33,61]))), .m 15 cJ]) aja)
abbrev ajc:AC:= .cond cj (.seq (.run [.o 4 (.mv (.k (.int .i64 2)))]) .ret) .skip
abbrev ajd:AC:= .seq (.seq (.run [.o 16 (.bin .eql bN (.k (.str [61,61]))), .m 15 b7]) ajb) ajc
abbrev aje:AC:= .cond cq (.seq (.run [.m 10 aT, .m 11 bc, .m 12 bc, .o 13 (.bin .add b6 (.k (.int .i64 2))), .o 14 (.xU bQ (some bS) (some bW))]) (.block 0 ajd)) .skip
abbrev ajf:AC:= .seq (.run [.o 40 (.bin .eql de (.k (.int .u8 47))), .m 25 ig]) (.cond df .skip (.run [.o 41 (.bin .eql de (.k (.int .u8 37))), .m 25 gW]))
abbrev ajg:AC:= .cond df .skip (.seq (.run [.o 39 (.bin .eql de (.k (.int .u8 42))), .m 25 gG]) (.cond df .skip ajf))
abbrev ajh:AC:= .cond df .skip (.seq (.run [.o 38 (.bin .eql de (.k (.int .u8 45))), .m 25 gP]) ajg)
abbrev aji:AC:= .cond df .skip (.seq (.run [.o 37 (.bin .eql de (.k (.int .u8 43))), .m 25 gu]) ajh)
abbrev ajj:AC:= .cond df .skip (.seq (.run [.o 36 (.bin .eql de (.k (.int .u8 62))), .m 25 fN]) aji)
abbrev ajk:AC:= .cond df .skip (.seq (.run [.o 35 (.bin .eql de (.k (.int .u8 60))), .m 25 fF]) ajj)
abbrev ajl:AC:= .cond df .skip (.seq (.run [.o 34 (.bin .eql de (.k (.int .u8 33))), .m 25 fL]) ajk)
abbrev ajm:AC:= .cond df .skip (.seq (.run [.o 33 (.bin .eql de (.k (.int .u8 61))), .m 25 fw]) ajl)
abbrev ajn:AC:= .cond df .skip (.seq (.run [.o 32 (.bin .eql de (.k (.int .u8 58))), .m 25 fz]) ajm)
abbrev ajo:AC:= .cond df .skip (.seq (.run [.o 31 (.bin .eql de (.k (.int .u8 59))), .m 25 fc]) ajn)
abbrev ajp:AC:= .cond df .skip (.seq (.run [.o 30 (.bin .eql de (.k (.int .u8 44))), .m 25 fb]) ajo)
abbrev ajq:AC:= .cond df .skip (.seq (.run [.o 29 (.bin .eql de (.k (.int .u8 125))), .m 25 eU]) ajp)
abbrev ajr:AC:= .cond df .skip (.seq (.run [.o 28 (.bin .eql de (.k (.int .u8 123))), .m 25 eR]) ajq)
abbrev ajs:AC:= .cond df .skip (.seq (.run [.o 27 (.bin .eql de (.k (.int .u8 41))), .m 25 dT]) ajr)
abbrev ajt:AC:= .cond df (.seq (.run [.o 4 (.mv (.k (.int .i64 1)))]) .ret) .skip
abbrev aju:AC:= .seq (.seq (.run [.o 26 (.bin .eql de (.k (.int .u8 40))), .m 25 dY]) ajs) ajt
abbrev ajv:AC:= .seq (.seq (.run [.m 22 aT, .m 23 bc, .o 24 (.od dv dB)]) (.block 1 aju)) (.seq (.run [.o 4 (.mv (.k (.int .i64 0)))]) .ret)
abbrev ajw:AC:= .seq (.seq (.run [.m 5 bc, .o 6 (.bin .add bj (.k (.int .i64 1))), .m 7 aT, .o 8 (.lH bJ), .o 9 (.bin .lss bP bU)]) aje) ajv
abbrev ajx:AC:= .seq (.run [.o 4 (.mv (.k (.int .i64 0)))]) ajw
abbrev ajy:AC:= .cond dv (.seq (.run [.o 2 (.mv (.k (.int .i64 0))), .o 3 (.mv (.k (.bool false)))]) .ret) .skip
abbrev ajz:AC:= .seq (.seq (.run [.m 18 cZ, .m 19 bP, .o 20 (.bin .sub (.k (.int .i64 9223372036854775807)) da), .o 21 (.bin .quo dm (.k (.int .i64 10))), .o 22 (.bin .gtr cG dt)]) ajy) (.run [.m 23 cZ, .o 24 (.bin .mul dB (.k (.int .i64 10))), .m 25 bP, .o 26 (.bin .add de df), .m 4 dY])
abbrev ajA:AC:= .block 1 (.seq (.run [.m 13 aT, .m 14 bj, .o 15 (.od bW bN), .o 16 (.bin .sub cj (.k (.int .u8 48))), .o 17 (.conv .i64 b7), .m 6 cJ]) ajz)
abbrev ajB:AC:= .seq (.seq (.run [.m 7 bj, .m 8 aT, .o 9 (.lH bU), .o 10 (.bin .lss bJ cq)]) (.cond bQ .skip (.exit 0))) (.seq ajA (.run [.m 11 bj, .o 12 (.bin .add bS (.k (.int .i64 1))), .m 5 b6]))
abbrev ajC:AC:= .seq (.seq (.run [.o 5 (.mv (.k (.int .i64 0)))]) (.block 0 (.loop ajB))) (.seq (.run [.m 27 cZ, .m 2 dT, .o 3 (.mv (.k (.bool true)))]) .ret)
abbrev ajD:AC:= .seq (.run [.o 2 (.mv (.k (.int .i64 0))), .o 3 (.mv (.k (.bool false)))]) (.seq (.run [.o 4 (.mv (.k (.int .i64 0)))]) ajC)
abbrev ajE:AC:= .cond bW (.seq (.run [.o 4 (.mv (.k (.bool false)))]) .ret) .skip
abbrev ajF:AC:= .seq (.run [.m 14 aT, .o 15 (.du bN), .o 16 (.av cj 1), .o 17 (.load b7 false 1), .o 18 (.bin .add cJ (.k (.int .i64 1))), .o 19 (.du bN), .o 20 (.av da 1), .op none none (.store dm cG 1)]) (.seq (.run [.o 4 (.mv (.k (.bool true)))]) .ret)
abbrev ajG:AC:= .seq (.seq (.run [.m 5 aT, .c 6 cE [bj], .o 7 (.un .not bP), .m 8 bJ, .g 9 8 false (.mv aT), .g 10 8 false (.mv bc), .d 11 8 false fD [cq,bQ], .g 12 8 false (.un .not bS), .o 13 (.pick bU (.k (.bool true)) b6)]) ajE) ajF
abbrev ajH:AC:= .seq (.run [.o 4 (.mv (.k (.bool false)))]) ajG
abbrev ajI:AC:= .cond dm (.seq (.run [.m 21 aT,(.c 22 c9 [dt,(.k (.str [59]))])]) (.seq (.run [.m 23 bc, .m 6 dB]) .ret)) .skip
abbrev ajJ:AC:= .seq (.run [.m 9 bc, .m 10 aT, .m 11 bc, .o 12 (.len bS), .m 13 dr, .o 14 (.bin .lss b6 bW), .c 15 eD [bQ,bN], .o 16 (.cL [(.str [])] 1 1 [(0,cj)]), .o 17 (.app 1 16 cq b7), .m 1 cJ]) (.seq (.run [.m 18 aT,(.c 19 dw [cG,(.k (.str [44]))]), .o 20 (.un .not da)]) ajI)
abbrev ajK:AC:= .block 0 (.loop (.seq (.seq (.run [.m 7 aT, .c 8 cE [bJ]]) (.cond bU .skip (.exit 0))) (.block 1 ajJ)))
abbrev ajL:AC:= .seq (.run [.o 6 (.mv (.k (.slice .full 0 [])))]) (.seq ajK (.seq (.run [.m 24 bc, .m 6 de]) .ret))
abbrev ajM:AC:= .seq (.run [.o 2 (.mv (.k (.bool false)))]) (.seq (.run [.m 3 aT, .o 4 (.du bL), .o 5 (.av cZ 2), .o 6 (.av bj 0), .o 7 (.load bP false 1), .o 8 (.bin .eql bJ (.k (.int .i64 0))), .m 2 bU]) .ret)
abbrev ajN:AC:= .seq (.run [.m 6 aT, .c 7 dz [bP], .o 5 (.alloc [(.int .i64 0),(.str []),(.int .i64 0),(.int .i64 0)]), .op none none (.store bj bJ 4)]) (.seq (.run [.o 8 (.av bj 0), .o 9 (.load bU false 1), .o 10 (.bin .eql cq (.k (.int .i64 3))), .m 11 bQ, .g 12 11 false (.av bj 0), .g 13 11 false (.load b6 false 1), .g 14 11 false (.bin .eql bW (.k (.int .i64 4))), .o 15 (.pick bS (.k (.bool true)) bN), .m 16 cj, .g 17 16 true (.av bj 1), .g 18 16 true (.load cJ false 1), .g 19 16 true (.mv bc), .g 20 16 true (.bin .eql cG da), .o 21 (.pick b7 dm (.k (.bool false))), .m 4 dt]) .ret)
abbrev ajO:AC:= .seq (.run [.o 4 (.mv (.k (.bool false)))]) ajN
abbrev ajP:AC:= .seq (.run [.m 4 aT, .c 5 cE [cZ]]) (.cond bj (.run [.m 6 aT, .m 7 bc, .m 8 aT, .c 9 dz [bU], .o 10 (.sn cq 3 false 1), .o 11 (.build [(.int .i64 0),(.int .i64 0)] [(0,(1,bJ)),(1,(1,bQ))]), .o 12 (.du bP), .o 13 (.av b6 2), .op none none (.store bW bS 2)]) .skip)
abbrev ajQ:AC:= .par [.o 21 (.av bL 1), .o 22 (.load dt false 1), .m 23 aT, .o 24 (.av bL 1), .o 25 (.load de false 1), .o 26 (.len df), .o 27 (.bin .lss dY (.k (.int .i64 8))), .c 28 eD [dB,dT], .m 29 cZ, .o 30 (.build [(.str []),(.bool false)] [(0,(1,eR)),(1,(1,eU))]), .o 31 (.cL [(.str []),(.bool false)] 2 1 [(0,fb)]), .o 32 (.app 2 24 dv fc), .o 33 (.av bL 1), .op none none (.store fw fz 1)] [(2,0),(3,0),(4,0),(5,0),(6,0),(7,0),(0,0),(1,1),(8,0),(9,0),(10,0),(11,0),(12,0),(13,0)]
abbrev ajR:AC:= .seq ajQ (.seq (.run [.m 34 aT,(.c 35 dw [fL,(.k (.str [44]))]), .o 36 (.un .not fF)]) (.cond fN (.exit 0) .skip))
abbrev ajS:AC:= .block 1 (.seq (.run [.m 19 aT,(.c 20 dw [da,(.k (.str [114,101,102]))]), .m 4 dm]) ajR)
abbrev ajT:AC:= .block 0 (.loop (.seq (.seq (.run [.m 17 aT, .c 18 cE [cJ]]) (.cond cG .skip (.exit 0))) ajS))
abbrev abb:AC:= .seq (.seq (.run [.m 41 aT,(.c 42 dw [gW,(.k (.str [118,97,114]))])]) (.cond iR .skip (.exit 2))) (.block 3 (.run [.m 43 aT, .o 44 (.av bL 2), .o 45 (.load jx false 1), .c 46 iX [ja,ko,(.k (.int .i64 16))], .o 47 (.av bL 2), .op none none (.store lb kp 1)]))
abbrev abd:AC:= .seq (.run [.m 49 aT, .c 50 gF [kq,(.k (.int .i64 1)),(.k (.bool true))], .m 48 lR, .o 51 (.ext j8 0), .o 52 (.ext j8 1), .o 53 (.av bL 3), .op none none (.store lf kS 1), .o 54 (.av bL 4), .op none none (.store lS ld 1)]) (.seq (.run [.o 55 (.load bL true 5), .op none none (.store dr mC 5)]) .ret)
abbrev ajU:AC:= .seq (.run [.m 37 aT,(.c 38 c9 [gu,(.k (.str [41]))])]) (.seq (.run [.m 39 aT,(.c 40 c9 [gG,(.k (.str [123]))])]) (.seq (.block 2 (.loop abb)) abd))
abbrev ajV:AC:= .seq (.seq (.run [.m 10 aT, .c 11 cE [bQ], .m 12 bS, .g 13 12 true (.mv aT),(.d 14 12 true fD [bW,(.k (.str [41]))]), .g 15 12 true (.un .not bN), .o 16 (.pick b6 cj (.k (.bool false)))]) (.cond b7 ajT .skip)) ajU
abbrev ajW:AC:= .seq (.run [.m 5 aT, .c 6 eD [bj,(.k (.bool true))], .o 7 (.build [(.str []),(.slice .full 0 []),(.slice .full 0 []),(.slice .full 0 []),(.slice .full 0 [])] [(0,(1,bP))]), .o 3 (.alloc [(.str []),(.slice .full 0 []),(.slice .full 0 []),(.slice .full 0 []),(.slice .full 0 [])]), .op none none (.store bL bJ 5)]) (.seq (.run [.m 8 aT,(.c 9 c9 [bU,(.k (.str [40]))])]) ajV)
abbrev ajX:AC:= .seq (.run [.o 2 (.alloc [(.str []),(.slice .full 0 []),(.slice .full 0 []),(.slice .full 0 []),(.slice .full 0 [])])]) ajW
abbrev ajY:AC:= .par [.m 3 aT, .o 4 (.du bL), .o 5 (.av cZ 0), .o 6 (.load bj false 1), .m 7 aT, .o 8 (.du bJ), .o 9 (.av bU 1), .o 10 (.load cq false 1), .o 11 (.ct bP bQ 4), .o 12 (.load bS true 4), .op none none (.store dr b6 4)] [(0,0),(1,0),(2,0),(3,0),(4,0),(5,0),(6,0),(7,0),(8,0),(9,0),(10,0)]
abbrev ajZ:AC:= .seq (.run [.o 2 (.alloc [(.int .i64 0),(.str []),(.int .i64 0),(.int .i64 0)])]) (.seq ajY .ret)
abbrev aj0:AC:= .cond cZ (.seq (.run [.o 2 (.mv (.k (.slice .full 0 [])))]) .ret) .skip
abbrev aj1:AC:= .seq (.run [.o 2 (.mv (.k (.slice .full 0 [])))]) (.seq (.seq (.run [.m 3 aT, .nil (some 4) none false bL]) aj0) (.seq (.run [.o 5 (.cL [(.str [])] 1 0 []), .m 6 aT, .o 7 (.app 1 16 bj bP), .m 2 bJ]) .ret))
abbrev aj2:AC:= .cond cZ (.seq (.run [.o 2 (.mv (.k (.slice .full 0 [])))]) .ret) .skip
abbrev aj3:AC:= .seq (.run [.o 2 (.mv (.k (.slice .full 0 [])))]) (.seq (.seq (.run [.m 3 aT, .nil (some 4) none false bL]) aj2) (.seq (.run [.o 5 (.cL [(.str []),(.bool false)] 2 0 []), .m 6 aT, .o 7 (.app 2 24 bj bP), .m 2 bJ]) .ret))
abbrev aj4:AC:= .par [.o 26 (.av bQ 2), .o 27 (.load dY false 1), .c 28 gQ [dT], .o 29 (.av bQ 5), .o 30 (.load eU true 4), .c 31 lQ [fb], .o 32 (.av bS 2), .op none none (.store fz eR 1), .o 33 (.av bS 5), .op none none (.store fw fc 4), .o 34 (.av bS 10), .op none none (.store fL (.k (.slice .full 0 [])) 1)] [(0,0),(1,0),(2,0),(3,0),(4,1),(5,0),(6,0),(7,0),(8,0),(9,0),(10,0),(11,0)]
abbrev aj5:AC:= .block 3 (.seq (.run [.o 40 (.ct fN gP 6), .o 41 (.load ig true 6), .o 13 (.alloc [(.bool false),(.str []),(.int .i64 0),(.int .i64 0),(.str []),(.slice .full 0 [])]), .op none none (.store bW gW 6)]) (.seq (.run [.o 42 (.av bW 2), .o 43 (.load iR true 4), .c 44 lQ [ja], .o 45 (.av bW 2), .op none none (.store ko jx 4)]) (.run [.o 46 (.av bS 10), .o 47 (.load kp false 1), .o 48 (.load bW true 6), .o 49 (.cL [(.bool false),(.str []),(.int .i64 0),(.int .i64 0),(.str []),(.slice .full 0 [])] 6 1 [(0,j8)]), .o 50 (.app 6 80 lb kq), .o 51 (.av bS 10), .op none none (.store kS lR 1)])))
abbrev aj6:AC:= .seq (.cond gG .skip (.exit 2)) (.seq aj5 (.run [.o 52 (.bin .add gP (.k (.int .i64 1))), .m 38 ld]))
abbrev aj7:AC:= .seq (.run [.o 35 (.av bQ 10), .o 36 (.load fF false 1), .o 37 (.len fN), .o 38 (.mv (.k (.int .i64 0)))]) (.block 2 (.loop (.seq (.run [.o 39 (.bin .lss gP gu)]) aj6)))
abbrev aj8:AC:= .seq aj7 (.seq (.run [.o 54 (.av bQ 11), .o 55 (.load lS false 1), .m 56 bc, .m 57 dr, .c 58 j7 [mC,nQ,oB], .m 53 nR, .o 59 (.ext lf 0), .o 60 (.ext lf 1), .o 61 (.av bS 11), .op none none (.store rG lT 1), .m 1 pZ]) (.seq (.run [.o 63 (.av bQ 12), .o 64 (.load rI false 1), .m 65 bc, .m 66 dr, .c 67 j7 [s7,wC,yk], .m 62 wD, .o 68 (.ext rH 0), .o 69 (.ext rH 1), .o 70 (.av bS 12), .op none none (.store yl wE 1), .m 1 Ae]) (.run [.m 71 bU, .o 72 (.load bS true 13), .o 73 (.cL [(.int .i64 0),(.int .i64 0),(.slice .full 0 []),(.str []),(.str []),(.int .i64 0),(.int .i64 0),(.str []),(.slice .full 0 []),(.bool false),(.slice .full 0 []),(.slice .full 0 []),(.slice .full 0 [])] 13 1 [(0,Cc)]), .o 74 (.app 13 208 EC ED), .m 8 EE])))
abbrev aj9:AC:= .seq (.run [.o 22 (.load bQ true 13), .o 11 (.alloc [(.int .i64 0),(.int .i64 0),(.slice .full 0 []),(.str []),(.str []),(.int .i64 0),(.int .i64 0),(.str []),(.slice .full 0 []),(.bool false),(.slice .full 0 []),(.slice .full 0 []),(.slice .full 0 [])]), .op none none (.store bS dv 13)]) (.seq (.seq (.run [.m 23 dr]) (.cond dB (.run [.m 24 bc, .o 25 (.av bS 0), .op none none (.store df de 1)]) .skip)) (.seq aj4 aj8))
abbrev aka:AC:= .seq (.run [.o 18 (.ct bN b7 13), .o 19 (.load cG true 13), .o 10 (.alloc [(.int .i64 0),(.int .i64 0),(.slice .full 0 []),(.str []),(.str []),(.int .i64 0),(.int .i64 0),(.str []),(.slice .full 0 []),(.bool false),(.slice .full 0 []),(.slice .full 0 []),(.slice .full 0 [])]), .op none none (.store bQ da 13)]) (.seq (.run [.m 20 bc, .o 21 (.bin .add dm (.k (.int .i64 1))), .m 1 dt]) aj9)
abbrev akb:AC:= .seq (.cond cJ .skip (.exit 0)) (.seq (.block 1 aka) (.run [.o 75 (.bin .add b7 (.k (.int .i64 1))), .m 16 EF]))
abbrev akc:AC:= .seq (.run [.m 14 aT, .o 15 (.len bN), .o 16 (.mv (.k (.int .i64 0)))]) (.block 0 (.loop (.seq (.run [.o 17 (.bin .lss b7 cj)]) akb)))
abbrev akd:AC:= .seq (.run [.o 6 (.mv (.k (.slice .full 0 []))), .o 7 (.mv (.k (.int .i64 0)))]) (.seq (.run [.o 8 (.mv (.k (.slice .full 0 [])))]) (.seq akc (.seq (.run [.m 76 bU, .m 77 bc, .m 6 Cd, .m 7 EG]) .ret)))
abbrev ake:AC:= .seq (.run [.o 2 (.mv (.k (.slice .full 0 [])))]) (.seq (.run [.o 3 (.mv (.k (.slice .full 0 [])))]) (.seq (.run [.m 4 bL, .m 5 aT, .o 6 (.app 1 16 cZ bj), .m 2 bP]) .ret))
abbrev akf:AC:= .par [.o 24 (.av bJ 11), .o 25 (.load de false 1), .o 26 (.load bL true 13), .c 27 nh [df,dY], .o 28 (.av bJ 12), .o 29 (.load eR false 1), .o 30 (.load bL true 13), .c 31 nh [eU,fb], .o 32 (.av bU 11), .op none none (.store fz dT 1), .o 33 (.av bU 12), .op none none (.store fw fc 1)] [(0,0),(1,0),(2,0),(3,0),(4,0),(5,1),(6,1),(7,0),(8,0),(9,0),(10,0),(11,0)]
abbrev akg:AC:= .seq (.run [.o 15 (.load bJ true 13), .c 16 my [cj], .o 8 (.alloc [(.int .i64 0),(.int .i64 0),(.slice .full 0 []),(.str []),(.str []),(.int .i64 0),(.int .i64 0),(.str []),(.slice .full 0 []),(.bool false),(.slice .full 0 []),(.slice .full 0 []),(.slice .full 0 [])]), .op none none (.store bU b7 13)]) (.seq (.seq (.run [.o 17 (.av bJ 0), .o 18 (.load cJ false 1), .o 19 (.av bL 0), .o 20 (.load da false 1), .o 21 (.bin .eql cG dm)]) (.cond dt (.run [.o 22 (.load bL true 13), .c 23 my [dv], .op none none (.store bU dB 13)]) .skip)) (.seq akf (.run [.m 34 bj, .o 35 (.load bU true 13), .o 36 (.cL [(.int .i64 0),(.int .i64 0),(.slice .full 0 []),(.str []),(.str []),(.int .i64 0),(.int .i64 0),(.str []),(.slice .full 0 []),(.bool false),(.slice .full 0 []),(.slice .full 0 []),(.slice .full 0 [])] 13 1 [(0,fF)]), .o 37 (.app 13 208 fL fN), .m 5 gu])))
abbrev akh:AC:= .seq (.block 1 (.seq (.run [.o 13 (.ct cq bS 13), .o 14 (.load bW true 13), .o 7 (.alloc [(.int .i64 0),(.int .i64 0),(.slice .full 0 []),(.str []),(.str []),(.int .i64 0),(.int .i64 0),(.str []),(.slice .full 0 []),(.bool false),(.slice .full 0 []),(.slice .full 0 []),(.slice .full 0 [])]), .op none none (.store bJ bN 13)]) akg)) (.run [.o 38 (.bin .add bS (.k (.int .i64 1))), .m 11 gP])
abbrev aki:AC:= .block 0 (.loop (.seq (.run [.o 12 (.bin .lss bS bQ)]) (.seq (.cond b6 .skip (.exit 0)) akh)))
abbrev akj:AC:= .seq (.seq (.run [.m 9 aT, .o 10 (.len cq), .o 11 (.mv (.k (.int .i64 0)))]) aki) (.seq (.run [.m 39 bj, .m 4 gG]) .ret)
abbrev akk:AC:= .seq (.run [.o 3 (.box bc), .o 4 (.mv (.k (.slice .full 0 [])))]) (.seq (.run [.o 5 (.mv (.k (.slice .full 0 [])))]) akj)
abbrev akl:AC:= .par [.o 6 (.av bc 0), .o 7 (.load bP false 1), .o 8 (.av bc 1), .o 9 (.load bU false 1), .o 10 (.av bc 2), .o 11 (.load bQ false 1), .c 12 mw [bS], .o 13 (.av bc 3), .o 14 (.load bW false 1), .o 15 (.av bc 4), .o 16 (.load cj false 1), .o 17 (.av bc 5), .o 18 (.load cJ true 4), .c 19 iY [cG], .o 20 (.av bc 9), .o 21 (.load dm false 1), .o 22 (.build [(.int .i64 0),(.int .i64 0),(.slice .full 0 []),(.str []),(.str []),(.int .i64 0),(.int .i64 0),(.str []),(.slice .full 0 []),(.bool false),(.slice .full 0 []),(.slice .full 0 []),(.slice .full 0 [])] [(0,(1,bJ)),(1,(1,cq)),(2,(1,b6)),(3,(1,bN)),(4,(1,b7)),(5,(4,da)),(9,(1,dt))]), .o 3 (.alloc [(.int .i64 0),(.int .i64 0),(.slice .full 0 []),(.str []),(.str []),(.int .i64 0),(.int .i64 0),(.str []),(.slice .full 0 []),(.bool false),(.slice .full 0 []),(.slice .full 0 []),(.slice .full 0 [])]), .op none none (.store bL dv 13)] [(4,0),(5,0),(6,0),(11,0),(12,1),(13,0),(17,0),(0,0),(1,3),(2,0),(3,3),(7,0),(8,3),(9,0),(10,3),(14,0),(15,3),(16,0),(18,0)]
abbrev akm:AC:= .par [.o 30 (.av bL 10), .o 31 (.load fb false 1), .o 32 (.av bj 0), .o 33 (.load fz false 1), .o 34 (.av bj 1), .o 35 (.load fL false 1), .o 36 (.av bj 2), .o 37 (.load fN true 4), .c 38 iY [gu], .o 39 (.build [(.bool false),(.str []),(.int .i64 0),(.int .i64 0),(.str []),(.slice .full 0 [])] [(0,(1,fw)),(1,(1,fF)),(2,(4,gP))]), .o 40 (.cL [(.bool false),(.str []),(.int .i64 0),(.int .i64 0),(.str []),(.slice .full 0 [])] 6 1 [(0,gG)]), .o 41 (.app 6 80 fc ig), .o 42 (.av bL 10), .op none none (.store iR gW 1)] [(6,0),(7,0),(8,0),(0,0),(1,1),(2,0),(3,1),(4,0),(5,1),(9,0),(10,0),(11,0),(12,0),(13,0)]
abbrev akn:AC:= .seq (.block 1 (.seq (.run [.o 28 (.ct de dY 6), .o 29 (.load eR true 6), .o 5 (.alloc [(.bool false),(.str []),(.int .i64 0),(.int .i64 0),(.str []),(.slice .full 0 [])]), .op none none (.store bj eU 6)]) akm)) (.run [.o 43 (.bin .add dY (.k (.int .i64 1))), .m 26 ja])
abbrev ako:AC:= .block 0 (.loop (.seq (.run [.o 27 (.bin .lss dY df)]) (.seq (.cond dT .skip (.exit 0)) akn)))
abbrev akp:AC:= .seq (.seq (.run [.o 23 (.av bc 10), .o 24 (.load dB false 1), .o 25 (.len de), .o 26 (.mv (.k (.int .i64 0)))]) ako) (.seq (.run [.o 44 (.load bL true 13), .op none none (.store dr jx 13)]) .ret)
abbrev akq:AC:= .seq (.run [.o 1 (.box aT), .o 2 (.alloc [(.int .i64 0),(.int .i64 0),(.slice .full 0 []),(.str []),(.str []),(.int .i64 0),(.int .i64 0),(.str []),(.slice .full 0 []),(.bool false),(.slice .full 0 []),(.slice .full 0 []),(.slice .full 0 [])])]) (.seq akl akp)
abbrev akr:AC:= .cond bW (.seq (.run [.o 2 (.mv (.k (.bool false)))]) .ret) .skip
abbrev aks:AC:= .seq (.block 1 (.seq (.run [.o 9 (.ct bj bJ 1), .o 10 (.load cq false 1), .m 4 bQ]) (.seq (.run [.m 11 cZ, .c 12 kB [bS], .o 13 (.un .not b6)]) akr))) (.run [.o 14 (.bin .add bJ (.k (.int .i64 1))), .m 7 bN])
abbrev akt:AC:= .block 0 (.loop (.seq (.run [.o 8 (.bin .lss bJ bP)]) (.seq (.cond bU .skip (.exit 0)) aks)))
abbrev aku:AC:= .seq (.seq (.run [.m 5 aT, .o 6 (.len bj), .o 7 (.mv (.k (.int .i64 0)))]) akt) (.seq (.run [.o 2 (.mv (.k (.bool true)))]) .ret)
abbrev akv:AC:= .seq (.run [.o 2 (.mv (.k (.bool false)))]) aku
abbrev akw:AC:= .cond b7 (.seq (.run [.o 2 (.mv (.k (.bool false)))]) .ret) .skip
abbrev akx:AC:= .cond fL (.seq (.run [.o 2 (.mv (.k (.bool false)))]) .ret) .skip
abbrev aky:AC:= .block 1 (.seq (.run [.m 23 aT, .m 24 bL, .o 25 (.od dB de), .c 26 qP [df], .o 27 (.un .not dY), .m 28 dT, .g 29 28 true (.mv aT), .g 30 28 true (.mv bL), .g 31 28 true (.od eU fb), .d 32 28 true uK [fc], .g 33 28 true (.un .not fz), .o 34 (.pick eR fw (.k (.bool false)))]) akx)
abbrev akz:AC:= .seq (.seq (.run [.m 17 bL, .m 18 aT, .o 19 (.lH cG), .o 20 (.bin .lss cJ da)]) (.cond dm .skip (.exit 0))) (.seq aky (.run [.m 21 bL, .o 22 (.bin .add dt (.k (.int .i64 1))), .m 3 dv]))
abbrev akA:AC:= .seq (.seq (.run [.o 3 (.mv (.k (.int .i64 1)))]) (.block 0 (.loop akz))) (.seq (.run [.m 35 aT, .c 36 wz [fF], .o 37 (.un .not fN), .m 2 gu]) .ret)
abbrev akB:AC:= .seq (.seq (.run [.m 4 aT, .o 5 (.bin .eql cZ (.k (.str []))), .m 6 bj, .g 7 6 false (.mv aT), .g 8 6 false (.lH bJ), .g 9 6 false (.bin .gtr bU (.k (.int .i64 8))), .o 10 (.pick bP (.k (.bool true)) cq), .m 11 bQ, .g 12 11 false (.mv aT), .g 13 11 false (.od b6 (.k (.int .i64 0))), .d 14 11 false qP [bW], .g 15 11 false (.un .not bN), .o 16 (.pick bS (.k (.bool true)) cj)]) akw) akA
abbrev akC:AC:= .seq (.run [.o 2 (.mv (.k (.bool false)))]) akB
abbrev akD:AC:= .run [.o 8 (.av bc 1), .o 9 (.load bU false 1), .o 10 (.bin .eql cq (.k (.int .i64 1))), .m 11 bQ, .g 12 11 false (.av bc 1), .g 13 11 false (.load b6 false 1), .g 14 11 false (.bin .eql bW (.k (.int .i64 3))), .o 15 (.pick bS (.k (.bool true)) bN), .m 16 cj, .g 17 16 false (.av bc 1), .g 18 16 false (.load cJ false 1), .g 19 16 false (.bin .eql cG (.k (.int .i64 5))), .o 20 (.pick b7 (.k (.bool true)) da), .m 21 dm, .g 22 21 false (.av bc 1), .g 23 21 false (.load dv false 1), .g 24 21 false (.bin .eql dB (.k (.int .i64 6))), .o 25 (.pick dt (.k (.bool true)) de), .m 26 df, .g 27 26 false (.av bc 1), .g 28 26 false (.load dT false 1), .g 29 26 false (.bin .eql eR (.k (.int .i64 9))), .g 30 26 false (.mv eU), .g 31 30 true (.av bc 9), .g 32 30 true (.load fc false 1), .g 33 26 false (.pick fb fz (.k (.bool false))), .o 34 (.pick dY (.k (.bool true)) fw), .m 3 fL]
abbrev akE:AC:= .run [.o 51 (.av bc 1), .o 52 (.load kS false 1), .o 53 (.bin .lss ld (.k (.int .i64 1))), .m 54 lf, .g 55 54 false (.av bc 1), .g 56 54 false (.load mC false 1), .g 57 54 false (.bin .gtr nQ (.k (.int .i64 10))), .o 58 (.pick lS (.k (.bool true)) oB), .m 59 nR, .g 60 59 false (.av bc 2), .g 61 59 false (.load pZ false 1), .d 62 59 false uJ [rG], .g 63 59 false (.un .not rH), .o 64 (.pick lT (.k (.bool true)) rI), .m 65 s7, .g 66 65 false (.mv bL), .g 67 65 false (.mv yk), .g 68 67 true (.av bc 5), .g 69 67 true (.load wE true 4), .d 70 67 true oQ [Ae], .g 71 67 true (.un .not yl), .g 72 65 false (.pick wD EC (.k (.bool false))), .o 73 (.pick wC (.k (.bool true)) Cc), .m 74 ED, .g 75 74 false (.mv bL), .g 76 74 false (.un .not EF), .g 77 74 false (.mv Cd), .g 78 77 true (.av bc 5), .g 79 77 true (.load Ce true 4), .d 80 77 true sg [Nz], .g 81 77 true (.un .not NA), .g 82 74 false (.pick EG NB (.k (.bool false))), .o 83 (.pick EE (.k (.bool true)) NC), .m 84 ND, .g 85 84 false (.av bc 9), .g 86 84 false (.load NG false 1), .g 87 84 false (.mv NH), .g 88 87 true (.av bc 1), .g 89 87 true (.load NL false 1), .g 90 87 true (.bin .neq NM (.k (.int .i64 9))), .g 91 84 false (.pick NK NN (.k (.bool false))), .o 92 (.pick NF (.k (.bool true)) NO)]
abbrev akF:AC:= .cond NP (.seq (.run [.o 2 (.mv (.k (.bool false)))]) .ret) .skip
abbrev akG:AC:= .run [.m 93 cZ, .m 94 Tx, .g 95 94 true (.av bc 3), .g 96 94 true (.load Tz false 1), .d 97 94 true kB [aaV], .g 98 94 true (.un .not aaW), .o 99 (.pick Ty aaX (.k (.bool false))), .m 100 aaY, .g 101 100 false (.mv cZ), .g 102 100 false (.un .not VQ), .g 103 100 false (.mv VR), .g 104 103 true (.av bc 3), .g 105 103 true (.load VT false 1), .g 106 103 true (.bin .neq VU (.k (.str []))), .g 107 100 false (.pick VS VV (.k (.bool false))), .g 108 100 false (.mv VW), .g 109 108 true (.mv bj), .g 110 108 true (.mv VY), .g 111 110 true (.av bc 3), .g 112 110 true (.load V0 false 1), .d 113 110 true kB [V1], .g 114 108 true (.pick VZ V2 (.k (.bool false))), .g 115 108 true (.un .not V3), .g 116 100 false (.pick VX V4 (.k (.bool false))), .o 117 (.pick VP (.k (.bool true)) V5)]
abbrev akH:AC:= .cond V6 (.seq (.run [.o 2 (.mv (.k (.bool false)))]) .ret) .skip
abbrev akI:AC:= .run [.m 118 bj, .o 119 (.av bc 4), .o 120 (.load V8 false 1), .o 121 (.bin .neq V9 (.k (.str []))), .o 122 (.Bv true V7 Wa), .m 123 Wb, .g 124 123 false (.mv bj), .g 125 123 false (.mv Wd), .g 126 125 true (.av bc 4), .g 127 125 true (.load Wg false 1), .d 128 125 true kB [Wh], .g 129 125 true (.un .not Wi), .g 130 123 false (.pick Wf Wj (.k (.bool false))), .o 131 (.pick Wc (.k (.bool true)) Wl), .m 132 Wm, .g 133 132 false (.mv bj), .g 134 132 false (.un .not Wn), .g 135 132 false (.mv Wo), .g 136 135 true (.av bc 10), .g 137 135 true (.load Wq false 1), .g 138 135 true (.len Wr), .g 139 135 true (.bin .gtr Ws (.k (.int .i64 0))), .g 140 132 false (.pick Wp Wt (.k (.bool false))), .o 141 (.pick NQ (.k (.bool true)) Wu)]
abbrev akJ:AC:= .cond Wv (.seq (.run [.o 2 (.mv (.k (.bool false)))]) .ret) .skip
abbrev akK:AC:= .cond WD (.seq (.run [.o 2 (.mv (.k (.bool false)))]) .ret) .skip
abbrev akL:AC:= .seq (.block 1 (.seq (.run [.o 147 (.ct NR G9 6), .o 148 (.load Wz true 6), .o 7 (.alloc [(.bool false),(.str []),(.int .i64 0),(.int .i64 0),(.str []),(.slice .full 0 [])]), .op none none (.store bJ WA 6)]) (.seq (.run [.o 149 (.load bJ true 6), .c 150 yj [WB], .o 151 (.un .not WC)]) akK))) (.run [.o 152 (.bin .add G9 (.k (.int .i64 1))), .m 145 aeM])
abbrev akM:AC:= .block 0 (.loop (.seq (.run [.o 146 (.bin .lss G9 Wx)]) (.seq (.cond Wy .skip (.exit 0)) akL)))
abbrev akN:AC:= .run [.o 153 (.av bc 11), .o 154 (.load aeN false 1), .o 155 (.len aeO), .o 156 (.bin .eql aeP (.k (.int .i64 0))), .m 157 aeQ, .g 158 157 false (.av bc 1), .g 159 157 false (.load aeS false 1), .g 160 157 false (.bin .eql aeT (.k (.int .i64 5))), .o 161 (.pick aeR (.k (.bool true)) aeU), .m 162 aeV, .g 163 162 false (.av bc 1), .g 164 162 false (.load aeX false 1), .g 165 162 false (.bin .eql aeY (.k (.int .i64 6))), .o 166 (.pick aeW (.k (.bool true)) aeZ), .m 167 ae0, .g 168 167 true (.av bc 12), .g 169 167 true (.load ae2 false 1), .g 170 167 true (.len ae3), .g 171 167 true (.bin .eql ae4 (.k (.int .i64 0))), .g 172 167 true (.mv ae5), .g 173 172 false (.av bc 1), .g 174 172 false (.load ae7 false 1), .g 175 172 false (.bin .eql ae8 (.k (.int .i64 5))), .g 176 167 true (.pick ae6 (.k (.bool true)) ae9), .o 177 (.pick ae1 afa (.k (.bool false))), .m 2 afb]
abbrev abe:AC:= .seq (.seq (.run [.o 142 (.av bc 10), .o 143 (.load Ww false 1), .o 144 (.len NR), .o 145 (.mv (.k (.int .i64 0)))]) akM) (.seq akN .ret)
abbrev abf:AC:= .seq (.seq akI akJ) abe
abbrev abg:AC:= .seq (.seq akG akH) abf
abbrev abh:AC:= .seq (.seq akE akF) abg
abbrev abi:AC:= .seq (.run [.o 48 (.av bc 1), .o 49 (.load j8 false 1), .o 50 (.bin .eql kq (.k (.int .i64 4))), .m 5 lR]) abh
abbrev abj:AC:= .seq (.run [.o 35 (.av bc 1), .o 36 (.load fF false 1), .o 37 (.bin .eql fN (.k (.int .i64 1))), .m 38 gu, .g 39 38 false (.av bc 1), .g 40 38 false (.load gG false 1), .g 41 38 false (.bin .eql ig (.k (.int .i64 2))), .o 42 (.pick gP (.k (.bool true)) gW), .m 43 iR, .g 44 43 false (.av bc 1), .g 45 43 false (.load jx false 1), .g 46 43 false (.bin .eql ko (.k (.int .i64 10))), .o 47 (.pick ja (.k (.bool true)) kp), .m 4 lb]) abi
abbrev abk:AC:= .seq akD abj
abbrev akO:AC:= .seq (.run [.o 1 (.box aT), .o 2 (.mv (.k (.bool false)))]) abk
abbrev akP:AC:= .seq (.run [.o 4 (.mv (.k (.bool false)))]) (.seq (.run [.m 5 bc, .m 6 bj, .g 7 6 true (.mv aT), .d 8 6 true nf [bJ], .o 9 (.pick bP bU (.k (.bool false))), .m 10 cq, .g 11 10 false (.mv bc), .g 12 10 false (.un .not bS), .g 13 10 false (.mv b6), .g 14 13 true (.mv aT), .g 15 13 true (.bin .eql bN (.k (.str []))), .g 16 10 false (.pick bW cj (.k (.bool false))), .o 17 (.pick bQ (.k (.bool true)) b7), .m 4 cJ]) .ret)
abbrev akQ:AC:= .seq (.run [.o 2 (.box aT), .o 4 (.mv (.k (.bool false)))]) (.seq (.run [.m 5 bc, .m 6 bj, .g 7 6 true (.load dr true 4), .d 8 6 true oR [bJ], .o 9 (.pick bP bU (.k (.bool false))), .m 10 cq, .g 11 10 false (.mv bc), .g 12 10 false (.un .not bS), .g 13 10 false (.mv b6), .g 14 13 true (.load dr true 4), .d 15 13 true wA [bN], .g 16 10 false (.pick bW cj (.k (.bool false))), .o 17 (.pick bQ (.k (.bool true)) b7), .m 4 cJ]) .ret)
abbrev akR:AC:= .cond df (.seq (.run [.o 2 (.mv (.k (.bool false)))]) .ret) .skip
abbrev akS:AC:= .seq (.run [.o 9 (.ct bj bJ 6), .o 10 (.load cq true 6), .o 4 (.alloc [(.bool false),(.str []),(.int .i64 0),(.int .i64 0),(.str []),(.slice .full 0 [])]), .op none none (.store cZ bQ 6)]) (.seq (.run [.o 11 (.av cZ 1), .o 12 (.load bS false 1), .o 13 (.av cZ 0), .o 14 (.load bW false 1), .c 15 oA [b6,bN], .o 16 (.un .not cj), .m 17 b7, .g 18 17 false (.av cZ 2), .g 19 17 false (.load cG true 4), .g 20 17 false (.av cZ 0), .g 21 17 false (.load dm false 1), .g 22 17 false (.un .not dt), .d 23 17 false qN [da,dv], .g 24 17 false (.un .not dB), .o 25 (.pick cJ (.k (.bool true)) de)]) akR)
abbrev akT:AC:= .seq (.cond bU .skip (.exit 0)) (.seq (.block 1 akS) (.run [.o 26 (.bin .add bJ (.k (.int .i64 1))), .m 7 dY]))
abbrev akU:AC:= .seq (.run [.m 5 aT, .o 6 (.len bj), .o 7 (.mv (.k (.int .i64 0)))]) (.block 0 (.loop (.seq (.run [.o 8 (.bin .lss bJ bP)]) akT)))
abbrev akV:AC:= .seq akU (.seq (.run [.o 2 (.mv (.k (.bool true)))]) .ret)
abbrev akW:AC:= .seq (.run [.o 2 (.mv (.k (.bool false)))]) akV
abbrev akX:AC:= .seq (.block 1 (.seq (.run [.o 13 (.ct cq bS 13), .o 14 (.load bW true 13), .o 5 (.alloc [(.int .i64 0),(.int .i64 0),(.slice .full 0 []),(.str []),(.str []),(.int .i64 0),(.int .i64 0),(.str []),(.slice .full 0 []),(.bool false),(.slice .full 0 []),(.slice .full 0 []),(.slice .full 0 [])]), .op none none (.store bj bN 13)]) (.run [.m 15 bL, .o 16 (.load bj true 13), .c 17 lP [b7], .o 18 (.bin .add cj cJ), .m 3 cG]))) (.run [.o 19 (.bin .add bS (.k (.int .i64 1))), .m 11 da])
abbrev akY:AC:= .block 0 (.loop (.seq (.run [.o 12 (.bin .lss bS bQ)]) (.seq (.cond b6 .skip (.exit 0)) akX)))
abbrev akZ:AC:= .seq (.block 3 (.seq (.run [.o 25 (.ct dt dB 13), .o 26 (.load df true 13), .o 7 (.alloc [(.int .i64 0),(.int .i64 0),(.slice .full 0 []),(.str []),(.str []),(.int .i64 0),(.int .i64 0),(.str []),(.slice .full 0 []),(.bool false),(.slice .full 0 []),(.slice .full 0 []),(.slice .full 0 [])]), .op none none (.store bJ dY 13)]) (.run [.m 27 bL, .o 28 (.load bJ true 13), .c 29 lP [eR], .o 30 (.bin .add dT eU), .m 3 fb]))) (.run [.o 31 (.bin .add dB (.k (.int .i64 1))), .m 23 fc])
abbrev ak0:AC:= .block 2 (.loop (.seq (.run [.o 24 (.bin .lss dB dv)]) (.seq (.cond de .skip (.exit 2)) akZ)))
abbrev ak1:AC:= .seq (.seq (.run [.o 20 (.av bc 12), .o 21 (.load dm false 1), .o 22 (.len dt), .o 23 (.mv (.k (.int .i64 0)))]) ak0) (.seq (.run [.m 32 bL, .m 2 fz]) .ret)
abbrev ak2:AC:= .seq (.seq (.run [.o 8 (.av bc 11), .o 9 (.load bU false 1), .o 10 (.len cq), .o 11 (.mv (.k (.int .i64 0)))]) akY) ak1
abbrev ak3:AC:= .seq (.run [.o 1 (.box aT), .o 2 (.mv (.k (.int .i64 0)))]) (.seq (.run [.o 3 (.mv (.k (.int .i64 1)))]) ak2)
abbrev ak4:AC:= .cond bj (.seq (.run [.o 2 (.mv (.k (.slice .full 0 [])))]) .ret) .skip
abbrev ak5:AC:= .seq (.seq (.run [.o 3 (.load bc true 4), .c 4 oR [bL], .o 5 (.un .not cZ)]) ak4) (.seq (.run [.o 6 (.load bc true 4),(.c 7 iC [bP,(.k (.slice .full 0 []))]), .m 2 bJ]) .ret)
abbrev ak6:AC:= .seq (.run [.o 1 (.box aT), .o 2 (.mv (.k (.slice .full 0 [])))]) ak5
abbrev ak7:AC:= .seq (.run [.o 4 (.mv (.k (.bool false)))]) (.seq (.run [.m 5 aT, .m 6 bc, .c 7 gh [bj,bP], .o 8 (.bin .geq bJ (.k (.int .i64 0))), .m 4 bU]) .ret)
abbrev ak8:AC:= .seq (.run [.o 2 (.box aT), .o 3 (.mv (.k (.bool false)))]) (.seq (.run [.o 4 (.av dr 0), .o 5 (.load cZ false 1), .o 6 (.load bc false 1), .o 7 (.bin .eql bj bP), .m 3 bJ]) .ret)
abbrev ak9:AC:= .seq (.run [.o 16 (.ct b6 bN 17), .o 17 (.load b7 true 17), .o 7 (.alloc [(.int .i64 0),(.int .i64 0),(.slice .full 0 []),(.str []),(.str []),(.int .i64 0),(.int .i64 0),(.str []),(.slice .full 0 []),(.bool false),(.slice .full 0 []),(.slice .full 0 []),(.slice .full 0 []),(.int .i64 0),(.int .i64 0),(.int .i64 0),(.int .i64 0)]), .op none none (.store bJ cJ 17)]) (.seq (.run [.o 18 (.av bJ 0), .o 19 (.av cG 1), .o 20 (.load da false 1), .o 21 (.bin .eql dm (.k (.int .i64 4)))]) (.cond dt (.run [.m 22 bj, .o 23 (.av bJ 0), .o 24 (.av dB 4), .o 25 (.load de false 1), .o 26 (.cL [(.str [])] 1 1 [(0,df)]), .o 27 (.app 1 16 dv dY), .m 5 dT]) .skip))
abbrev ala:AC:= .seq (.cond cj .skip (.exit 0)) (.seq (.block 1 ak9) (.run [.o 28 (.bin .add bN (.k (.int .i64 1))), .m 14 eR]))
abbrev alb:AC:= .seq (.run [.m 8 aT, .m 9 aT, .m 10 bc, .c 11 l5 [cq,bQ], .c 12 gN [bU,bS], .o 13 (.len b6), .o 14 (.mv (.k (.int .i64 0)))]) (.block 0 (.loop (.seq (.run [.o 15 (.bin .lss bN bW)]) ala)))
abbrev alc:AC:= .seq (.run [.o 4 (.mv (.k (.slice .full 0 [])))]) (.seq (.run [.o 5 (.mv (.k (.slice .full 0 [])))]) (.seq alb (.seq (.run [.m 29 bj, .c 30 iW [eU]]) (.seq (.run [.m 31 bj, .c 32 jm [fc], .m 4 fz]) .ret))))
end Go.Abs

/-! Codes4 -/

namespace Go.Abs
abbrev ald:AC:= .block 1 (.seq (.run [.m 10 bU, .m 5 bQ]) (.seq (.run [.m 11 bc, .m 12 aT, .m 13 bj, .o 14 (.ct b6 bW 5), .o 15 (.load bN true 5),(.iS (some 16) none 11 [cj])]) (.cond b7 (.seq (.run [.m 17 bj, .m 4 cJ]) .ret) .skip)))
abbrev ale:AC:= .seq (.cond cq .skip (.exit 0)) (.seq ald (.run [.o 18 (.bin .add bU (.k (.int .i64 1))), .m 8 cG]))
abbrev alf:AC:= .seq (.run [.m 6 aT, .o 7 (.len bP), .o 8 (.mv (.k (.int .i64 0)))]) (.block 0 (.loop (.seq (.run [.o 9 (.bin .lss bU bJ)]) ale)))
abbrev alg:AC:= .seq (.run [(.o 4 (.mv (.k (.int .i64 (-1)))))]) .ret
abbrev alh:AC:= .seq (.run [.o 4 (.mv (.k (.int .i64 0)))]) (.seq alf alg)
abbrev ali:AC:= .seq (.run [.o 2 (.box aT), .o 3 (.mv (.k (.bool false)))]) (.seq (.run [.o 4 (.av dr 0), .o 5 (.load cZ false 1), .o 6 (.load bc false 1), .o 7 (.bin .eql bj bP), .m 3 bJ]) .ret)
abbrev alj:AC:= .seq (.run [.m 16 aT, .c 17 eZ [b7,(.k (.int .i64 3))]]) (.seq (.run [.o 4 (.mv (.k (.str [])))]) .ret)
abbrev alk:AC:= .seq (.run [.m 20 aT, .c 21 eZ [dm,(.k (.int .i64 4))]]) (.seq (.run [.o 4 (.mv (.k (.str [])))]) .ret)
abbrev alm:AC:= .seq (.seq (.run [.m 18 bc, .o 19 (.un .not cG)]) (.cond da alk .skip)) (.seq (.run [.m 22 aT, .o 23 (.du dv), .o 24 (.av dB 1), .o 25 (.load de false 1), .o 26 (.bin .add df (.k (.int .i64 1))), .o 27 (.du dv), .o 28 (.av dT 1), .op none none (.store eR dY 1)]) (.seq (.run [.o 29 (.av bj 1), .o 30 (.load eU false 1), .m 4 fb]) .ret))
abbrev aln:AC:= .seq (.seq (.run [.m 8 aT, .c 9 cE [bU], .o 10 (.un .not cq), .m 11 bQ, .g 12 11 false (.av bj 0), .g 13 11 false (.load b6 false 1), .g 14 11 false (.bin .neq bW (.k (.int .i64 1))), .o 15 (.pick bS (.k (.bool true)) bN)]) (.cond cj alj .skip)) alm
abbrev alo:AC:= .seq (.run [.o 4 (.mv (.k (.str [])))]) (.seq (.run [.m 6 aT, .c 7 dz [bP], .o 5 (.alloc [(.int .i64 0),(.str []),(.int .i64 0),(.int .i64 0)]), .op none none (.store bj bJ 4)]) aln)
abbrev alp:AC:= .seq (.run [.m 4 aT, .m 5 bc, .c 6 dw [cZ,bj], .o 7 (.un .not bP)]) (.cond bJ (.run [.m 8 aT, .c 9 eZ [bU,(.k (.int .i64 3))]]) .skip)
abbrev alq:AC:= .cond de (.seq (.run [.m 25 aT, .o 26 (.du df), .o 27 (.av dY 1), .o 28 (.load dT false 1), .o 29 (.bin .add eR (.k (.int .i64 1))), .o 30 (.du df), .o 31 (.av fb 1), .op none none (.store fc eU 1)]) (.seq (.run [.m 32 bU, .m 33 cq, .m 6 fz, .m 7 fw]) .ret)) .skip
abbrev alr:AC:= .seq (.seq (.run [.m 15 aT,(.c 16 fD [cj,(.k (.str [125]))]), .m 17 b7, .g 18 17 true (.mv dr), .g 19 17 true (.mv cG), .g 20 19 false (.mv cq), .g 21 19 false (.len dm), .g 22 19 false (.bin .eql dt (.k (.int .i64 0))), .g 23 17 true (.pick da (.k (.bool true)) dv), .o 24 (.pick cJ dB (.k (.bool false)))]) alq) (.seq (.run [.m 34 aT, .m 35 bc, .c 36 nP [fL,fF], .o 10 (.alloc [(.int .i64 0),(.int .i64 0),(.slice .full 0 []),(.str []),(.str []),(.int .i64 0),(.int .i64 0),(.str []),(.slice .full 0 []),(.bool false),(.slice .full 0 []),(.slice .full 0 []),(.slice .full 0 [])]), .op none none (.store bQ fN 13)]) (.seq (.run [.m 37 cq, .o 38 (.av bQ 2), .op none none (.store gP gu 1)]) (.run [.m 39 bU, .o 40 (.load bQ true 13), .o 41 (.cL [(.int .i64 0),(.int .i64 0),(.slice .full 0 []),(.str []),(.str []),(.int .i64 0),(.int .i64 0),(.str []),(.slice .full 0 []),(.bool false),(.slice .full 0 []),(.slice .full 0 []),(.slice .full 0 [])] 13 1 [(0,ig)]), .o 42 (.app 13 208 gG gW), .m 8 iR])))
abbrev als:AC:= .block 0 (.loop (.seq (.seq (.run [.m 11 aT, .c 12 cE [bS]]) (.cond b6 .skip (.exit 0))) (.block 1 (.seq (.run [.m 13 aT, .c 14 mz [bW], .m 9 bN]) alr))))
abbrev alu:AC:= .seq als (.seq (.run [.o 6 (.mv (.k (.slice .full 0 []))), .o 7 (.mv (.k (.slice .full 0 [])))]) .ret)
abbrev alv:AC:= .seq (.run [.o 6 (.mv (.k (.slice .full 0 []))), .o 7 (.mv (.k (.slice .full 0 [])))]) (.seq (.run [.o 8 (.mv (.k (.slice .full 0 [])))]) alu)
abbrev alw:AC:= .par [.o 15 (.av bc 3), .o 16 (.load cj false 1), .o 17 (.load bj true 4), .c 18 lQ [cJ], .o 19 (.cL [(.int .i64 0),(.int .i64 0),(.str []),(.slice .full 0 [])] 4 1 [(0,cG)]), .o 20 (.app 4 56 b7 da), .o 21 (.av bc 3), .op none none (.store dt dm 1)] [(2,0),(3,0),(0,0),(1,1),(4,0),(5,0),(6,0),(7,0)]
abbrev alx:AC:= .seq (.block 1 (.seq (.run [.o 13 (.ct cq bS 4), .o 14 (.load bW true 4), .o 5 (.alloc [(.int .i64 0),(.int .i64 0),(.str []),(.slice .full 0 [])]), .op none none (.store bj bN 4)]) alw)) (.run [.o 22 (.bin .add bS (.k (.int .i64 1))), .m 11 dv])
abbrev aly:AC:= .block 0 (.loop (.seq (.run [.o 12 (.bin .lss bS bQ)]) (.seq (.cond b6 .skip (.exit 0)) alx)))
abbrev alz:AC:= .seq (.seq (.run [.m 9 bL, .o 10 (.len cq), .o 11 (.mv (.k (.int .i64 0)))]) aly) (.seq (.run [.o 23 (.load bc true 4), .op none none (.store dr dB 4)]) .ret)
abbrev alA:AC:= .seq (.run [.o 6 (.av bc 3), .o 7 (.load bP false 1), .m 3 bJ]) (.seq (.run [.o 8 (.av bc 3), .op none none (.store bU (.k (.slice .full 0 [])) 1)]) alz)
abbrev alB:AC:= .seq (.run [.o 1 (.box aT), .o 2 (.alloc [(.int .i64 0),(.int .i64 0),(.str []),(.slice .full 0 [])])]) alA
abbrev alC:AC:= .seq (.run [.o 1 (.box aT), .o 2 (.mv (.k (.bool false)))]) (.seq (.run [.o 3 (.load bc true 4), .c 4 py [bL,(.k (.int .i64 20))], .o 5 (.bin .leq cZ (.k (.int .i64 20))), .m 6 bj, .g 7 6 true (.load bc true 4), .d 8 6 true pz [bJ], .o 9 (.pick bP bU (.k (.bool false))), .m 2 cq]) .ret)
abbrev alD:AC:= .par [.o 18 (.av bL 3), .o 19 (.load cG false 1), .o 20 (.av bc 3), .o 21 (.load dm false 1), .m 22 cZ, .o 23 (.ct dt dv 4), .o 24 (.load dB true 4), .c 25 iY [de], .o 26 (.cL [(.int .i64 0),(.int .i64 0),(.str []),(.slice .full 0 [])] 4 1 [(0,df)]), .o 27 (.app 4 56 da dY), .o 28 (.av bL 3), .op none none (.store eR dT 1)] [(2,0),(3,0),(4,0),(5,0),(6,0),(7,0),(0,0),(1,1),(8,0),(9,0),(10,0),(11,0)]
abbrev alE:AC:= .seq (.cond b7 .skip (.exit 0)) (.seq (.block 1 (.seq (.run [.m 17 cj, .m 4 cJ]) alD)) (.run [.o 29 (.bin .add cj (.k (.int .i64 1))), .m 15 eU]))
abbrev alG:AC:= .seq (.run [.o 12 (.av bc 3), .o 13 (.load b6 false 1), .o 14 (.len bW), .o 15 (.mv (.k (.int .i64 0)))]) (.block 0 (.loop (.seq (.run [.o 16 (.bin .lss cj bN)]) alE)))
abbrev alH:AC:= .seq (.run [.o 1 (.box aT), .o 2 (.alloc [(.int .i64 0),(.int .i64 0),(.str []),(.slice .full 0 [])])]) (.seq (.run [.o 5 (.av bc 0), .o 6 (.load bj false 1), .o 7 (.av bc 1), .o 8 (.load bJ false 1), .o 9 (.av bc 2), .o 10 (.load cq false 1), .o 11 (.build [(.int .i64 0),(.int .i64 0),(.str []),(.slice .full 0 [])] [(0,(1,bP)),(1,(1,bU)),(2,(1,bQ))]), .o 3 (.alloc [(.int .i64 0),(.int .i64 0),(.str []),(.slice .full 0 [])]), .op none none (.store bL bS 4)]) (.seq alG (.seq (.run [.o 30 (.load bL true 4), .op none none (.store dr fb 4)]) .ret)))
abbrev alI:AC:= .seq (.run [.o 2 (.mv (.k (.bool false)))]) (.seq (.run [.m 3 aT, .o 4 (.bin .geq bL (.k (.int .u8 97))), .m 5 cZ, .g 6 5 true (.mv aT), .g 7 5 true (.bin .leq bP (.k (.int .u8 122))), .o 8 (.pick bj bJ (.k (.bool false))), .m 2 bU]) .ret)
abbrev alJ:AC:= .seq (.run [.o 2 (.mv (.k (.bool false)))]) (.seq (.run [.m 3 aT, .o 4 (.bin .geq bL (.k (.int .u8 48))), .m 5 cZ, .g 6 5 true (.mv aT), .g 7 5 true (.bin .leq bP (.k (.int .u8 57))), .o 8 (.pick bj bJ (.k (.bool false))), .m 2 bU]) .ret)
abbrev alK:AC:= .cond bW (.seq (.run [.o 2 (.mv (.k (.bool true)))]) .ret) .skip
abbrev alL:AC:= .seq (.block 1 (.seq (.run [.o 9 (.ct bj bJ 1), .o 10 (.load cq false 1), .m 4 bQ]) (.seq (.run [.m 11 cZ, .m 12 aT, .o 13 (.bin .eql bS b6)]) alK))) (.run [.o 14 (.bin .add bJ (.k (.int .i64 1))), .m 7 bN])
abbrev alM:AC:= .block 0 (.loop (.seq (.run [.o 8 (.bin .lss bJ bP)]) (.seq (.cond bU .skip (.exit 0)) alL)))
abbrev alN:AC:= .seq (.seq (.run [.c 5 uL [], .o 6 (.len bj), .o 7 (.mv (.k (.int .i64 0)))]) alM) (.seq (.run [.o 2 (.mv (.k (.bool false)))]) .ret)
abbrev alO:AC:= .seq (.run [.o 2 (.mv (.k (.bool false)))]) alN
abbrev alP:AC:= .seq (.run [.o 1 (.box aT), .o 2 (.mv (.k (.bool false)))]) (.seq (.run [.o 3 (.av bc 0), .o 4 (.load bL false 1), .o 5 (.bin .eql cZ (.k (.int .i64 0))), .m 6 bj, .g 7 6 true (.av bc 1), .g 8 6 true (.load bJ false 1), .g 9 6 true (.bin .eql bU (.k (.int .i64 0))), .o 10 (.pick bP cq (.k (.bool false))), .m 11 bQ, .g 12 11 true (.av bc 2), .g 13 11 true (.load b6 false 1), .g 14 11 true (.bin .eql bW (.k (.str []))), .o 15 (.pick bS bN (.k (.bool false))), .m 16 cj, .g 17 16 true (.av bc 3), .g 18 16 true (.load cJ false 1), .g 19 16 true (.len cG), .g 20 16 true (.bin .eql da (.k (.int .i64 0))), .o 21 (.pick b7 dm (.k (.bool false))), .m 2 dt]) .ret)
abbrev alQ:AC:= .cond cZ (.seq (.run [.o 5 (.av bc 1), .o 6 (.load bj false 1), .c 7 kB [bP], .m 8 bJ, .g 9 8 true (.av bc 2), .g 10 8 true (.load cq true 4), .d 11 8 true sg [bQ], .o 12 (.pick bU bS (.k (.bool false))), .m 2 b6]) .ret) .skip
abbrev alR:AC:= .seq (.seq (.run [.o 3 (.av bc 0), .o 4 (.load bL false 1)]) alQ) (.seq (.run [.o 13 (.av bc 1), .o 14 (.load bW false 1), .o 15 (.bin .eql bN (.k (.str []))), .m 16 cj, .g 17 16 true (.av bc 2), .g 18 16 true (.load cJ true 4), .d 19 16 true oQ [cG], .o 20 (.pick b7 da (.k (.bool false))), .m 2 dm]) .ret)
abbrev alS:AC:= .seq (.run [.o 1 (.box aT), .o 2 (.mv (.k (.bool false)))]) alR
abbrev alT:AC:= .seq (.run [.o 1 (.box aT), .o 2 (.mv (.k (.bool false)))]) (.seq (.run [.o 3 (.load bc true 4), .c 4 pA [bL,(.k (.int .i64 20))], .m 2 cZ]) .ret)
abbrev alU:AC:= .seq (.run [.o 1 (.box aT), .o 2 (.mv (.k (.bool false)))]) (.seq (.run [.o 3 (.av bc 0), .o 4 (.load bL false 1), .o 5 (.bin .eql cZ (.k (.int .i64 0))), .m 6 bj, .g 7 6 true (.av bc 1), .g 8 6 true (.load bJ false 1), .g 9 6 true (.bin .eql bU (.k (.int .i64 0))), .o 10 (.pick bP cq (.k (.bool false))), .m 11 bQ, .g 12 11 true (.av bc 2), .g 13 11 true (.load b6 false 1), .g 14 11 true (.bin .eql bW (.k (.str []))), .o 15 (.pick bS bN (.k (.bool false))), .m 16 cj, .g 17 16 true (.av bc 3), .g 18 16 true (.load cJ false 1), .g 19 16 true (.len cG), .g 20 16 true (.bin .eql da (.k (.int .i64 0))), .o 21 (.pick b7 dm (.k (.bool false))), .m 2 dt]) .ret)
abbrev alV:AC:= .seq (.block 1 (.seq (.run [.o 27 (.ct dB df 4), .o 28 (.load dT true 4), .o 6 (.alloc [(.int .i64 0),(.int .i64 0),(.str []),(.slice .full 0 [])]), .op none none (.store bP eR 4)]) (.run [.o 29 (.load bP true 4), .m 30 bc, .c 31 iC [eU,fb], .m 1 fc]))) (.run [.o 32 (.bin .add df (.k (.int .i64 1))), .m 25 fz])
abbrev alW:AC:= .block 0 (.loop (.seq (.run [.o 26 (.bin .lss df de)]) (.seq (.cond dY .skip (.exit 0)) alV)))
abbrev alX:AC:= .seq (.seq (.run [.o 22 (.av dr 3), .o 23 (.load dv false 1), .o 24 (.len dB), .o 25 (.mv (.k (.int .i64 0)))]) alW) (.seq (.run [.m 33 bc, .m 4 fw]) .ret)
abbrev alY:AC:= .seq (.seq (.run [.o 7 (.av dr 0), .o 8 (.load bJ false 1), .o 9 (.bin .eql bU (.k (.int .i64 2))), .m 10 cq, .g 11 10 true (.mv bc), .g 12 10 true (.av dr 2), .g 13 10 true (.load b6 false 1), .d 14 10 true b9 [bS,bW], .g 15 10 true (.un .not bN), .o 16 (.pick bQ cj (.k (.bool false)))]) (.cond b7 (.run [.m 17 bc, .o 18 (.av dr 2), .o 19 (.load cG false 1), .o 20 (.cL [(.str [])] 1 1 [(0,da)]), .o 21 (.app 1 16 cJ dm), .m 1 dt]) .skip)) alX
abbrev alZ:AC:= .seq (.run [.o 2 (.box aT), .o 4 (.mv (.k (.slice .full 0 [])))]) alY
abbrev al0:AC:= .par [.m 4 aT, .c 5 cE [cZ], .m 6 bj, .g 7 6 true (.mv aT), .d 8 6 true dz [bJ], .g 9 6 true (.sn bU 0 false 1), .g 10 6 true (.bin .eql cq (.k (.int .i64 1))), .o 11 (.pick bP bQ (.k (.bool false))), .m 12 bS, .g 13 12 true (.mv aT), .g 14 12 true (.du bW), .g 15 12 true (.av bN 0), .g 16 12 true (.load cj false 1), .g 17 12 true (.mv aT), .g 18 12 true (.du cJ), .g 19 12 true (.av cG 1), .g 20 12 true (.load da false 1), .g 21 12 true (.bin .add dm (.k (.int .i64 1))), .g 22 12 true (.ct b7 dt 4), .g 23 12 true (.av dv 0), .g 24 12 true (.load dB false 1), .g 25 12 true (.bin .eql de (.k (.int .i64 4))), .o 26 (.pick b6 df (.k (.bool false))), .m 27 dY, .g 28 27 true (.mv aT), .g 29 27 true (.du eR), .g 30 27 true (.av eU 0), .g 31 27 true (.load fb false 1), .g 32 27 true (.mv aT), .g 33 27 true (.du fz), .g 34 27 true (.av fw 1), .g 35 27 true (.load fL false 1), .g 36 27 true (.bin .add fF (.k (.int .i64 1))), .g 37 27 true (.ct fc fN 4), .g 38 27 true (.av gu 1), .g 39 27 true (.load gP false 1), .g 40 27 true (.bin .eql gG (.k (.str [58]))), .o 41 (.pick dT ig (.k (.bool false)))] [(0,0),(1,0),(2,0),(3,0),(4,0),(5,0),(6,0),(7,0),(8,0),(9,0),(10,0),(11,0),(12,0),(13,0),(14,0),(15,0),(16,0),(17,0),(18,0),(19,0),(20,0),(21,0),(22,0),(23,0),(24,0),(25,0),(26,0),(27,0),(28,0),(29,0),(30,0),(31,0),(32,0),(33,0),(34,0),(35,0),(36,0),(37,0)]
abbrev al1:AC:= .block 1 (.seq (.run [.m 42 bL, .m 43 aT, .c 44 dz [ja], .o 45 (.sn jx 1 false 1), .o 46 (.cL [(.str [])] 1 1 [(0,ko)]), .o 47 (.app 1 16 iR kp), .m 3 lb]) (.run [.m 48 aT, .o 49 (.du j8), .o 50 (.av kq 1), .o 51 (.load lR false 1), .o 52 (.bin .add kS (.k (.int .i64 2))), .o 53 (.du j8), .o 54 (.av lf 1), .op none none (.store lS ld 1)]))
abbrev al2:AC:= .block 0 (.loop (.seq (.seq al0 (.cond gW .skip (.exit 0))) al1))
abbrev al3:AC:= .seq (.run [.o 2 (.mv (.k (.slice .full 0 [])))]) (.seq (.run [.o 3 (.mv (.k (.slice .full 0 [])))]) (.seq al2 (.seq (.run [.m 55 bL, .m 2 mC]) .ret)))
end Go.Abs

/-! Have4 -/

namespace Go.Abs
open Go.Proofs
theorem rf:Has Tryz.prog gh 19 [(4,none)] alh:=⟨Tryz.f166,by kernel_rfl,by kernel_rfl⟩
theorem xo:Has Tryz.prog kX 8 [(3,none)] ali:=⟨Tryz.f167,by kernel_rfl,by kernel_rfl⟩
theorem xp:Has Tryz.prog eD 31 [(4,none)] alo:=⟨Tryz.f170,by kernel_rfl,by kernel_rfl⟩
theorem xq:Has Tryz.prog c9 10 [] alp:=⟨Tryz.f171,by kernel_rfl,by kernel_rfl⟩
theorem qg:Has Tryz.prog gF 43 [(6,none),(7,none)] alv:=⟨Tryz.f172,by kernel_rfl,by kernel_rfl⟩
theorem Gz:Has Tryz.prog lQ 24 [(2,(some (true,4)))] alB:=⟨Tryz.f173,by kernel_rfl,by kernel_rfl⟩
theorem Cg:Has Tryz.prog oQ 10 [(2,none)] alC:=⟨Tryz.f174,by kernel_rfl,by kernel_rfl⟩
theorem Bs:Has Tryz.prog iY 31 [(2,(some (true,4)))] alH:=⟨Tryz.f176,by kernel_rfl,by kernel_rfl⟩
theorem EN:Has Tryz.prog qP 9 [(2,none)] alI:=⟨Tryz.f177,by kernel_rfl,by kernel_rfl⟩
theorem EO:Has Tryz.prog uK 9 [(2,none)] alJ:=⟨Tryz.f178,by kernel_rfl,by kernel_rfl⟩
theorem GC:Has Tryz.prog wz 15 [(2,none)] alO:=⟨Tryz.f179,by kernel_rfl,by kernel_rfl⟩
theorem GD:Has Tryz.prog sg 22 [(2,none)] alP:=⟨Tryz.f180,by kernel_rfl,by kernel_rfl⟩
theorem IC:Has Tryz.prog yj 21 [(2,none)] alS:=⟨Tryz.f181,by kernel_rfl,by kernel_rfl⟩
theorem Ch:Has Tryz.prog oR 5 [(2,none)] alT:=⟨Tryz.f190,by kernel_rfl,by kernel_rfl⟩
theorem GF:Has Tryz.prog wA 22 [(2,none)] alU:=⟨Tryz.f191,by kernel_rfl,by kernel_rfl⟩
theorem qS:Has Tryz.prog iC 34 [(4,none)] alZ:=⟨Tryz.f192,by kernel_rfl,by kernel_rfl⟩
theorem vf:Has Tryz.prog mz 56 [(2,none)] al3:=⟨Tryz.f204,by kernel_rfl,by kernel_rfl⟩
end Go.Abs

/-! Codes5 -/

namespace Go.Abs
abbrev al4:AC:= .cond bQ (.seq (.run [.m 11 aT, .c 12 eZ [bS,(.k (.int .i64 3))]]) (.seq (.run [.o 13 (.build [(.int .i64 0),(.int .i64 0),(.slice .full 0 []),(.str []),(.str []),(.int .i64 0),(.int .i64 0),(.str []),(.slice .full 0 []),(.bool false),(.slice .full 0 []),(.slice .full 0 []),(.slice .full 0 [])] []), .op none none (.store cZ bW 13)]) .ret)) .skip
abbrev al5:AC:= .cond eU (.seq (.run [.m 30 aT, .c 31 eZ [fb,(.k (.int .i64 4))]]) (.seq (.run [.o 32 (.build [(.int .i64 0),(.int .i64 0),(.slice .full 0 []),(.str []),(.str []),(.int .i64 0),(.int .i64 0),(.str []),(.slice .full 0 []),(.bool false),(.slice .full 0 []),(.slice .full 0 []),(.slice .full 0 [])] []), .op none none (.store cZ fz 13)]) .ret)) .skip
abbrev al6:AC:= .seq (.run [.m 56 aT, .c 57 kY [nQ],(.o 58 (.build [(.int .i64 0),(.int .i64 0),(.slice .full 0 []),(.str []),(.str []),(.int .i64 0),(.int .i64 0),(.str []),(.slice .full 0 []),(.bool false),(.slice .full 0 []),(.slice .full 0 []),(.slice .full 0 [])] [(1,(1,(.k (.int .i64 6)))),(5,(4,oB))])), .o 6 (.alloc [(.int .i64 0),(.int .i64 0),(.slice .full 0 []),(.str []),(.str []),(.int .i64 0),(.int .i64 0),(.str []),(.slice .full 0 []),(.bool false),(.slice .full 0 []),(.slice .full 0 []),(.slice .full 0 [])]), .op none none (.store bP nR 13)]) (.seq (.run [.m 59 aT, .m 60 bc, .c 61 iZ [lT,pZ], .o 62 (.av bP 11), .op none none (.store rH rG 1)]) (.seq (.run [.o 63 (.load bP true 13), .op none none (.store cZ rI 13)]) .ret))
abbrev al7:AC:= .cond kq (.seq (.run [.m 51 aT, .m 52 bc, .c 53 mB [kS,ld], .op none none (.store cZ lf 13)]) .ret) (.seq (.run [.o 55 (.bin .eql j8 (.k (.str [119,104,105,108,101]))), .m 54 mC]) (.cond lS al6 .skip))
abbrev al8:AC:= .block 0 (.seq (.run [.o 50 (.bin .eql j8 (.k (.str [105,102]))), .m 49 lR]) al7)
abbrev al9:AC:= .seq (.run [.m 64 aT, .o 65 (.av bj 1), .o 66 (.load wC false 1), .c 67 nj [s7,yk], .o 7 (.alloc [(.int .i64 0),(.int .i64 0),(.slice .full 0 []),(.str []),(.str []),(.int .i64 0),(.int .i64 0),(.str []),(.slice .full 0 []),(.bool false),(.slice .full 0 []),(.slice .full 0 []),(.slice .full 0 [])]), .op none none (.store bJ wD 13)]) (.seq (.run [.m 68 aT,(.c 69 c9 [wE,(.k (.str [59]))])]) (.seq (.run [.o 70 (.load bJ true 13), .op none none (.store cZ yl 13)]) .ret))
abbrev ama:AC:= .seq (.seq (.run [.o 35 (.av bj 0), .o 36 (.load fF false 1), .o 37 (.bin .eql fN (.k (.int .i64 1)))]) (.cond gu (.seq (.run [.m 38 aT, .c 39 ni [gP], .op none none (.store cZ gG 13)]) .ret) .skip)) (.seq (.run [.m 40 aT, .o 41 (.du ig), .o 42 (.av gW 1), .o 43 (.load iR false 1), .o 44 (.bin .add ja (.k (.int .i64 1))), .o 45 (.du ig), .o 46 (.av ko 1), .op none none (.store kp jx 1)]) (.seq (.seq (.run [.o 47 (.av bj 1), .o 48 (.load lb false 1)]) al8) al9))
abbrev amb:AC:= .seq (.seq (.run [.m 21 aT, .o 22 (.du dt), .o 23 (.av dv 4), .o 24 (.load dB false 1), .o 25 (.bin .gtr de (.k (.int .i64 200))), .m 26 df, .g 27 26 false (.mv bc), .g 28 26 false (.bin .gtr dT (.k (.int .i64 12))), .o 29 (.pick dY (.k (.bool true)) eR)]) al5) (.seq (.run [.m 33 aT, .c 34 dz [fw], .o 5 (.alloc [(.int .i64 0),(.str []),(.int .i64 0),(.int .i64 0)]), .op none none (.store bj fL 4)]) ama)
abbrev amc:AC:= .seq (.seq (.run [.m 8 aT, .c 9 mA [bU], .o 10 (.un .not cq)]) al4) (.seq (.run [.m 14 aT, .o 15 (.du bN), .o 16 (.av cj 4), .o 17 (.load b7 false 1), .o 18 (.bin .add cJ (.k (.int .i64 1))), .o 19 (.du bN), .o 20 (.av da 4), .op none none (.store dm cG 1)]) amb)
abbrev amd:AC:= .seq (.run [.o 4 (.alloc [(.int .i64 0),(.int .i64 0),(.slice .full 0 []),(.str []),(.str []),(.int .i64 0),(.int .i64 0),(.str []),(.slice .full 0 []),(.bool false),(.slice .full 0 []),(.slice .full 0 []),(.slice .full 0 [])])]) amc
abbrev ame:AC:= .cond cq (.seq (.run [.o 4 (.mv (.k (.int .i64 1)))]) .ret) .skip
abbrev amf:AC:= .block 1 (.seq (.run [.o 22 (.av dr 3), .o 23 (.load dv false 1), .m 24 bP, .o 25 (.ct dB de 4), .o 26 (.load df true 4), .m 27 bc, .o 28 (.bin .sub dT (.k (.int .i64 1))), .c 29 py [dY,eR], .m 7 eU]) (.seq (.run [.m 30 bJ, .m 31 bj, .o 32 (.bin .gtr fb fc)]) (.cond fz (.run [.m 33 bJ, .m 5 fw]) .skip)))
abbrev amg:AC:= .seq (.seq (.run [.m 10 bP, .o 11 (.av dr 3), .o 12 (.load bS false 1), .o 13 (.len b6), .o 14 (.bin .lss bQ bW), .m 15 bN, .g 16 15 true (.mv bj), .g 17 15 true (.mv bc), .g 18 15 true (.bin .lss b7 cJ), .o 19 (.pick cj cG (.k (.bool false)))]) (.cond da .skip (.exit 0))) (.seq amf (.run [.m 20 bP, .o 21 (.bin .add dm (.k (.int .i64 1))), .m 6 dt]))
abbrev amh:AC:= .seq (.seq (.run [.o 6 (.mv (.k (.int .i64 0)))]) (.block 0 (.loop amg))) (.seq (.run [.m 34 bj, .o 35 (.bin .add fL (.k (.int .i64 1))), .m 4 fF]) .ret)
abbrev ami:AC:= .seq (.seq (.run [.m 8 bc, .o 9 (.bin .eql bU (.k (.int .i64 0)))]) ame) (.seq (.run [.o 5 (.mv (.k (.int .i64 0)))]) amh)
abbrev amj:AC:= .seq (.run [.o 2 (.box aT), .o 4 (.mv (.k (.int .i64 0)))]) ami
abbrev amk:AC:= .par [.o 4 (.av bc 0), .o 5 (.load cZ false 1), .c 6 uM [bj], .o 7 (.av bc 3), .o 8 (.load bJ false 1), .o 9 (.len bU), .o 10 (.bin .neq bP cq), .m 11 bQ, .g 12 11 false (.av bc 0), .g 13 11 false (.load b6 false 1), .g 14 11 false (.bin .neq bW (.k (.int .i64 1))), .g 15 11 false (.mv bN), .g 16 15 true (.av bc 1), .g 17 15 true (.load b7 false 1), .g 18 15 true (.bin .neq cJ (.k (.int .i64 0))), .g 19 11 false (.pick cj cG (.k (.bool false))), .o 20 (.pick bS (.k (.bool true)) da), .m 21 dm, .g 22 21 false (.av bc 1), .g 23 21 false (.load dv false 1), .g 24 21 false (.bin .lss dB (.k (.int .i64 0))), .o 25 (.pick dt (.k (.bool true)) de), .m 26 df, .g 27 26 false (.av bc 0), .g 28 26 false (.load dT false 1), .g 29 26 false (.bin .eql eR (.k (.int .i64 2))), .g 30 26 false (.av bc 2), .g 31 26 false (.load fb false 1), .g 32 26 false (.bin .neq fc (.k (.str []))), .g 33 26 false (.Bv true eU fz), .o 34 (.pick dY (.k (.bool true)) fw), .m 35 fL, .g 36 35 false (.av bc 2), .g 37 35 false (.load fN false 1), .g 38 35 false (.bin .neq gu (.k (.str []))), .g 39 35 false (.mv gP), .g 40 39 true (.av bc 2), .g 41 39 true (.load ig false 1), .d 42 39 true kB [gW], .g 43 39 true (.un .not iR), .g 44 35 false (.pick gG ja (.k (.bool false))), .o 45 (.pick fF (.k (.bool true)) jx)] [(0,0),(1,0),(2,0),(3,0),(4,1),(5,0),(6,0),(7,0),(8,0),(9,0),(10,0),(11,0),(12,0),(13,0),(14,0),(15,0),(16,0),(17,0),(18,0),(19,0),(20,0),(21,0),(22,0),(23,0),(24,0),(25,0),(26,0),(27,0),(28,0),(29,0),(30,0),(31,0),(32,0),(33,0),(34,0),(35,0),(36,0),(37,0),(38,0),(39,0),(40,0),(41,0)]
abbrev aml:AC:= .cond ko (.seq (.run [.o 2 (.mv (.k (.bool false)))]) .ret) .skip
abbrev amm:AC:= .cond nR (.seq (.run [.o 2 (.mv (.k (.bool false)))]) .ret) .skip
abbrev amn:AC:= .seq (.block 1 (.seq (.run [.m 51 kq, .m 3 kS]) (.seq (.run [.o 52 (.av bc 3), .o 53 (.load ld false 1), .m 54 bL, .o 55 (.ct lf lS 4), .o 56 (.load mC true 4), .c 57 pz [nQ], .o 58 (.un .not oB)]) amm))) (.run [.o 59 (.bin .add kq (.k (.int .i64 1))), .m 49 lT])
abbrev amo:AC:= .block 0 (.loop (.seq (.run [.o 50 (.bin .lss kq j8)]) (.seq (.cond lR .skip (.exit 0)) amn)))
abbrev amp:AC:= .seq (.seq (.run [.o 46 (.av bc 3), .o 47 (.load kp false 1), .o 48 (.len lb), .o 49 (.mv (.k (.int .i64 0)))]) amo) (.seq (.run [.o 2 (.mv (.k (.bool true)))]) .ret)
abbrev amq:AC:= .seq (.run [.o 1 (.box aT), .o 2 (.mv (.k (.bool false)))]) (.seq (.seq amk aml) amp)
abbrev amr:AC:= .seq (.run [(.o 1 (.cL [(.str [])] 1 13 [(0,(.k (.str [103,108,111,98,97,108]))),(1,(.k (.str [112,114,111,99]))),(2,(.k (.str [118,97,114]))),(3,(.k (.str [114,101,102]))),(4,(.k (.str [105,102]))),(5,(.k (.str [101,108,115,101]))),(6,(.k (.str [119,104,105,108,101]))),(7,(.k (.str [98,114,101,97,107]))),(8,(.k (.str [99,111,110,116,105,110,117,101]))),(9,(.k (.str [114,101,116,117,114,110]))),(10,(.k (.str [103,111,116,111]))),(11,(.k (.str [114,101,97,100]))),(12,(.k (.str [112,114,105,110,116])))])), .m 0 bc]) .ret
abbrev ams:AC:= .seq (.run [.o 0 (.mv (.k (.slice .full 0 [])))]) amr
abbrev amt:AC:= .cond cJ (.seq (.run [.o 2 (.mv (.k (.int .i64 2)))]) .ret) .skip
abbrev amu:AC:= .cond bQ (.seq (.run [.o 2 (.mv (.k (.int .i64 1)))]) .ret) (.seq (.run [.m 18 aT, .o 19 (.bin .geq cG (.k (.int .i64 5))), .m 20 da, .g 21 20 true (.mv aT), .g 22 20 true (.bin .leq dt (.k (.int .i64 17))), .o 23 (.pick dm dv (.k (.bool false))), .m 17 dB]) amt)
abbrev amv:AC:= .cond bL (.seq (.run [.o 2 (.mv (.k (.int .i64 0)))]) .ret) (.seq (.run [.m 11 aT, .o 12 (.bin .eql bS (.k (.int .i64 3))), .m 13 b6, .g 14 13 false (.mv aT), .g 15 13 false (.bin .eql bN (.k (.int .i64 4))), .o 16 (.pick bW (.k (.bool true)) cj), .m 10 b7]) amu)
abbrev amw:AC:= .block 0 (.seq (.run [.m 4 aT, .o 5 (.bin .eql cZ (.k (.int .i64 1))), .m 6 bj, .g 7 6 false (.mv aT), .g 8 6 false (.bin .eql bJ (.k (.int .i64 2))), .o 9 (.pick bP (.k (.bool true)) bU), .m 3 cq]) amv)
abbrev amx:AC:= .seq (.run [(.o 2 (.mv (.k (.int .i64 (-1)))))]) .ret
abbrev amy:AC:= .seq (.run [.o 2 (.mv (.k (.int .i64 0)))]) (.seq amw amx)
abbrev amz:AC:= .par [.m 7 bc, .o 8 (.bin .lss bJ (.k (.int .i64 1))), .m 9 bU, .g 10 9 false (.av dr 3), .g 11 9 false (.load bQ false 1), .g 12 9 false (.len bS), .g 13 9 false (.av dr 0), .g 14 9 false (.load bW false 1), .d 15 9 false wB [bN], .g 16 9 false (.bin .neq b6 cj), .o 17 (.pick cq (.k (.bool true)) b7)] [(0,0),(1,0),(2,0),(6,0),(7,0),(8,0),(3,0),(4,1),(5,0),(9,0),(10,0)]
abbrev amA:AC:= .cond cJ (.seq (.run [.o 4 (.mv (.k (.bool false)))]) .ret) .skip
abbrev amB:AC:= .cond fb (.seq (.run [.o 32 (.av dr 1), .o 33 (.load fz false 1), .o 34 (.bin .eql fw (.k (.int .i64 0))), .m 35 fL, .g 36 35 true (.av dr 2), .g 37 35 true (.load fN false 1), .d 38 35 true nf [gu], .o 39 (.pick fF gP (.k (.bool false))), .m 4 gG]) .ret) .skip
abbrev amC:AC:= .cond dm (.seq (.run [.o 22 (.av dr 1), .o 23 (.load dv false 1), .o 24 (.bin .geq dB (.k (.int .i64 0))), .m 25 de, .g 26 25 true (.av dr 2), .g 27 25 true (.load dY false 1), .g 28 25 true (.bin .eql dT (.k (.str []))), .o 29 (.pick df eR (.k (.bool false))), .m 4 eU]) .ret) (.seq (.run [.o 31 (.bin .eql da (.k (.int .i64 2))), .m 30 fc]) amB)
abbrev amD:AC:= .block 0 (.seq (.run [.o 21 (.bin .eql da (.k (.int .i64 1))), .m 20 dt]) amC)
abbrev amE:AC:= .cond lb (.seq (.run [.o 4 (.mv (.k (.bool false)))]) .ret) .skip
abbrev amF:AC:= .cond lT (.seq (.run [.o 4 (.mv (.k (.bool false)))]) .ret) .skip
abbrev amG:AC:= .seq (.run [.o 53 (.ct kq kS 4), .o 54 (.load lf true 4), .o 6 (.alloc [(.int .i64 0),(.int .i64 0),(.str []),(.slice .full 0 [])]), .op none none (.store bP lS 4)]) (.seq (.run [.o 55 (.load bP true 4), .m 56 bc, .o 57 (.bin .sub nQ (.k (.int .i64 1))), .c 58 pA [mC,oB], .o 59 (.un .not nR)]) amF)
abbrev amH:AC:= .seq (.cond ld .skip (.exit 1)) (.seq (.block 2 amG) (.run [.o 60 (.bin .add kS (.k (.int .i64 1))), .m 51 pZ]))
abbrev amI:AC:= .seq (.run [.o 48 (.av dr 3), .o 49 (.load j8 false 1), .o 50 (.len kq), .o 51 (.mv (.k (.int .i64 0)))]) (.block 1 (.loop (.seq (.run [.o 52 (.bin .lss kS lR)]) amH)))
abbrev amJ:AC:= .seq amI (.seq (.run [.o 4 (.mv (.k (.bool true)))]) .ret)
abbrev amK:AC:= .seq (.seq (.run [.o 40 (.av dr 1), .o 41 (.load ig false 1), .o 42 (.bin .neq gW (.k (.int .i64 0))), .m 43 iR, .g 44 43 false (.av dr 2), .g 45 43 false (.load jx false 1), .g 46 43 false (.bin .neq ko (.k (.str []))), .o 47 (.pick ja (.k (.bool true)) kp)]) amE) amJ
abbrev amL:AC:= .seq (.run [.o 2 (.box aT), .o 4 (.mv (.k (.bool false)))]) (.seq (.seq amz amA) (.seq (.seq (.run [.o 18 (.av dr 0), .o 19 (.load cG false 1)]) amD) amK))
abbrev amM:AC:= .cond bU (.seq (.run [.o 2 (.mv (.k (.bool true)))]) .ret) .skip
abbrev amN:AC:= .cond bS (.seq (.run [.o 2 (.mv (.k (.bool false)))]) .ret) .skip
abbrev amO:AC:= .seq (.run [.o 21 (.bin .eql bW (.k (.str [114,101,97,100]))), .m 14 dt]) (.cond bN .skip (.run [.o 22 (.bin .eql bW (.k (.str [112,114,105,110,116]))), .m 14 dv]))
abbrev amP:AC:= .cond bN .skip (.seq (.run [.o 20 (.bin .eql bW (.k (.str [103,111,116,111]))), .m 14 dm]) (.cond bN .skip amO))
abbrev amQ:AC:= .cond bN .skip (.seq (.run [.o 19 (.bin .eql bW (.k (.str [114,101,116,117,114,110]))), .m 14 da]) amP)
abbrev amR:AC:= .cond bN .skip (.seq (.run [.o 18 (.bin .eql bW (.k (.str [99,111,110,116,105,110,117,101]))), .m 14 cG]) amQ)
abbrev amS:AC:= .cond bN .skip (.seq (.run [.o 17 (.bin .eql bW (.k (.str [98,114,101,97,107]))), .m 14 cJ]) amR)
abbrev amT:AC:= .cond bN .skip (.seq (.run [.o 16 (.bin .eql bW (.k (.str [119,104,105,108,101]))), .m 14 b7]) amS)
abbrev amU:AC:= .cond bN (.seq (.run [.o 2 (.mv (.k (.bool true)))]) .ret) .skip
abbrev amV:AC:= .seq (.seq (.run [.o 15 (.bin .eql bW (.k (.str [105,102]))), .m 14 cj]) amT) amU
abbrev amW:AC:= .seq (.seq (.run [.o 12 (.av bL 1), .o 13 (.load b6 false 1)]) (.block 0 amV)) (.seq (.run [.o 2 (.mv (.k (.bool false)))]) .ret)
abbrev amX:AC:= .seq (.seq (.run [.o 9 (.av bL 0), .o 10 (.load cq false 1), .o 11 (.bin .neq bQ (.k (.int .i64 3)))]) amN) amW
abbrev amY:AC:= .seq (.seq (.run [.o 6 (.av bL 0), .o 7 (.load bP false 1), .o 8 (.bin .eql bJ (.k (.int .i64 1)))]) amM) amX
abbrev amZ:AC:= .seq (.run [.o 2 (.mv (.k (.bool false)))]) (.seq (.run [.m 4 aT, .c 5 dz [cZ], .o 3 (.alloc [(.int .i64 0),(.str []),(.int .i64 0),(.int .i64 0)]), .op none none (.store bL bj 4)]) amY)
abbrev am0:AC:= .cond bU (.seq (.run [.m 9 aT, .m 10 bL,(.c 11 kZ [cq,(.k (.str [])),bQ]), .op none none (.store dr bS 13)]) .ret) .skip
abbrev am1:AC:= .par [.m 14 aT, .c 15 cE [bN], .m 16 cj, .g 17 16 true (.mv aT), .d 18 16 true dz [cJ], .g 19 16 true (.sn cG 0 false 1), .g 20 16 true (.bin .eql da (.k (.int .i64 1))), .o 21 (.pick b7 dm (.k (.bool false))), .m 22 dt, .g 23 22 true (.mv aT), .g 24 22 true (.du dB), .g 25 22 true (.av de 0), .g 26 22 true (.load df false 1), .g 27 22 true (.mv aT), .g 28 22 true (.du dT), .g 29 22 true (.av eR 1), .g 30 22 true (.load eU false 1), .g 31 22 true (.bin .add fb (.k (.int .i64 1))), .g 32 22 true (.ct dY fc 4), .g 33 22 true (.av fz 0), .g 34 22 true (.load fw false 1), .g 35 22 true (.bin .eql fL (.k (.int .i64 4))), .o 36 (.pick dv fF (.k (.bool false))), .m 37 fN, .g 38 37 true (.mv aT), .g 39 37 true (.du gP), .g 40 37 true (.av gG 0), .g 41 37 true (.load ig false 1), .g 42 37 true (.mv aT), .g 43 37 true (.du iR), .g 44 37 true (.av ja 1), .g 45 37 true (.load jx false 1), .g 46 37 true (.bin .add ko (.k (.int .i64 1))), .g 47 37 true (.ct gW kp 4), .g 48 37 true (.av lb 1), .g 49 37 true (.load j8 false 1), .g 50 37 true (.bin .eql kq (.k (.str [40]))), .o 51 (.pick gu lR (.k (.bool false)))] [(0,0),(1,0),(2,0),(3,0),(4,0),(5,0),(6,0),(7,0),(8,0),(9,0),(10,0),(11,0),(12,0),(13,0),(14,0),(15,0),(16,0),(17,0),(18,0),(19,0),(20,0),(21,0),(22,0),(23,0),(24,0),(25,0),(26,0),(27,0),(28,0),(29,0),(30,0),(31,0),(32,0),(33,0),(34,0),(35,0),(36,0),(37,0)]
abbrev am2:AC:= .seq am1 (.cond kS (.seq (.run [.m 52 aT, .m 53 bL, .m 54 aT, .c 55 eD [lS,(.k (.bool true))], .c 56 kZ [ld,lf,mC], .op none none (.store dr nQ 13)]) .ret) .skip)
abbrev am3:AC:= .seq (.run [.m 57 bL, .m 58 aT, .c 59 gp [nR],(.o 60 (.build [(.int .i64 0),(.int .i64 0),(.slice .full 0 []),(.str []),(.str []),(.int .i64 0),(.int .i64 0),(.str []),(.slice .full 0 []),(.bool false),(.slice .full 0 []),(.slice .full 0 []),(.slice .full 0 [])] [(1,(1,(.k (.int .i64 1)))),(3,(1,oB)),(5,(4,lT))])), .o 4 (.alloc [(.int .i64 0),(.int .i64 0),(.slice .full 0 []),(.str []),(.str []),(.int .i64 0),(.int .i64 0),(.str []),(.slice .full 0 []),(.bool false),(.slice .full 0 []),(.slice .full 0 []),(.slice .full 0 [])]), .op none none (.store cZ pZ 13)]) (.seq (.run [.m 61 aT,(.c 62 c9 [rG,(.k (.str [59]))])]) (.seq (.run [.o 63 (.load cZ true 13), .op none none (.store dr rI 13)]) .ret))
abbrev am4:AC:= .seq (.seq (.run [.m 7 aT,(.c 8 fD [bJ,(.k (.str [40]))])]) am0) (.seq (.run [.m 12 aT,(.c 13 c9 [b6,(.k (.str [61]))])]) (.seq am2 am3))
abbrev am5:AC:= .seq (.run [.o 2 (.alloc [(.int .i64 0),(.int .i64 0),(.slice .full 0 []),(.str []),(.str []),(.int .i64 0),(.int .i64 0),(.str []),(.slice .full 0 []),(.bool false),(.slice .full 0 []),(.slice .full 0 []),(.slice .full 0 [])])]) (.seq (.run [.m 5 aT, .c 6 eD [bj,(.k (.bool true))], .m 3 bP]) am4)
abbrev am6:AC:= .seq (.seq (.run [.m 13 aT,(.c 14 dw [bW,(.k (.str [101,108,115,101]))])]) (.cond bN (.run [.m 15 aT, .m 16 bc, .c 17 iZ [cj,b7], .o 18 (.av bj 12), .op none none (.store cG cJ 1)]) .skip)) (.seq (.run [.o 19 (.load bj true 13), .op none none (.store cZ da 13)]) .ret)
abbrev am7:AC:= .seq (.run [.m 6 aT, .c 7 kY [bP],(.o 8 (.build [(.int .i64 0),(.int .i64 0),(.slice .full 0 []),(.str []),(.str []),(.int .i64 0),(.int .i64 0),(.str []),(.slice .full 0 []),(.bool false),(.slice .full 0 []),(.slice .full 0 []),(.slice .full 0 [])] [(1,(1,(.k (.int .i64 5)))),(5,(4,bJ))])), .o 5 (.alloc [(.int .i64 0),(.int .i64 0),(.slice .full 0 []),(.str []),(.str []),(.int .i64 0),(.int .i64 0),(.str []),(.slice .full 0 []),(.bool false),(.slice .full 0 []),(.slice .full 0 []),(.slice .full 0 [])]), .op none none (.store bj bU 13)]) (.seq (.run [.m 9 aT, .m 10 bc, .c 11 iZ [cq,bQ], .o 12 (.av bj 11), .op none none (.store b6 bS 1)]) am6)
abbrev am8:AC:= .seq (.run [.o 4 (.alloc [(.int .i64 0),(.int .i64 0),(.slice .full 0 []),(.str []),(.str []),(.int .i64 0),(.int .i64 0),(.str []),(.slice .full 0 []),(.bool false),(.slice .full 0 []),(.slice .full 0 []),(.slice .full 0 [])])]) am7
abbrev am9:AC:= .seq (.run [.m 6 aT, .c 7 gp [bP], .o 3 (.alloc [(.int .i64 0),(.int .i64 0),(.str []),(.slice .full 0 [])]), .op none none (.store bL bJ 4)]) (.seq (.run [.m 8 aT,(.c 9 c9 [bU,(.k (.str [41]))])]) (.seq (.run [.o 10 (.load bL true 4), .op none none (.store dr bQ 4)]) .ret))
abbrev ana:AC:= .seq (.run [.o 2 (.alloc [(.int .i64 0),(.int .i64 0),(.str []),(.slice .full 0 [])])]) (.seq (.run [.m 4 aT,(.c 5 c9 [cZ,(.k (.str [40]))])]) am9)
abbrev anb:AC:= .seq (.run [.m 7 aT,(.c 8 c9 [bJ,(.k (.str [123]))])]) (.seq (.run [.m 10 aT, .m 11 bc, .o 12 (.bin .add bS (.k (.int .i64 1))), .c 13 gF [bQ,b6,(.k (.bool false))], .m 9 bW, .o 14 (.ext cq 0), .o 15 (.ext cq 1), .m 5 bN, .m 6 cj]) (.seq (.run [.m 16 bj, .m 4 b7]) .ret))
abbrev anc:AC:= .seq (.run [.o 4 (.mv (.k (.slice .full 0 [])))]) anb
abbrev ane:AC:= .seq (.run [.m 16 aT,(.c 17 fD [b7,(.k (.str [59]))]), .o 18 (.un .not cJ)]) (.cond cG (.run [.m 19 aT, .c 20 gp [da], .o 21 (.av bj 9), .op none none (.store dt (.k (.bool true)) 1), .o 22 (.av bj 5), .op none none (.store dv dm 4)]) .skip)
abbrev anf:AC:= .seq (.run [.o 36 (.bin .eql bP (.k (.str [112,114,105,110,116]))), .m 35 fN]) (.cond fF (.run [.m 37 aT, .c 38 gp [gu], .o 39 (.av bj 1), .op none none (.store gG (.k (.int .i64 3)) 1), .o 40 (.av bj 5), .op none none (.store ig gP 4)]) .skip)
abbrev ang:AC:= .seq (.run [.o 30 (.bin .eql bP (.k (.str [114,101,97,100]))), .m 29 fb]) (.cond eU (.run [.m 31 aT, .c 32 eD [fc,(.k (.bool true))], .o 33 (.av bj 1), .op none none (.store fw (.k (.int .i64 2)) 1), .o 34 (.av bj 3), .op none none (.store fL fz 1)]) anf)
abbrev anh:AC:= .seq (.run [.o 24 (.bin .eql bP (.k (.str [103,111,116,111]))), .m 23 de]) (.cond dB (.run [.m 25 aT, .c 26 eD [df,(.k (.bool true))], .o 27 (.av bj 1), .op none none (.store dT (.k (.int .i64 10)) 1), .o 28 (.av bj 3), .op none none (.store eR dY 1)]) ang)
abbrev ani:AC:= .cond bW (.seq (.run [.o 15 (.av bj 1), .op none none (.store cj (.k (.int .i64 9)) 1)]) ane) anh
abbrev anj:AC:= .cond bQ (.run [.o 12 (.av bj 1), .op none none (.store b6 (.k (.int .i64 8)) 1)]) (.seq (.run [.o 14 (.bin .eql bP (.k (.str [114,101,116,117,114,110]))), .m 13 bN]) ani)
abbrev ank:AC:= .cond bJ (.run [.o 9 (.av bj 1), .op none none (.store cq (.k (.int .i64 7)) 1)]) (.seq (.run [.o 11 (.bin .eql bP (.k (.str [99,111,110,116,105,110,117,101]))), .m 10 bS]) anj)
abbrev anl:AC:= .block 0 (.seq (.run [.o 8 (.bin .eql bP (.k (.str [98,114,101,97,107]))), .m 7 bU]) ank)
abbrev anm:AC:= .seq (.run [.o 4 (.alloc [(.int .i64 0),(.int .i64 0),(.slice .full 0 []),(.str []),(.str []),(.int .i64 0),(.int .i64 0),(.str []),(.slice .full 0 []),(.bool false),(.slice .full 0 []),(.slice .full 0 []),(.slice .full 0 [])])]) (.seq (.run [.o 5 (.alloc [(.int .i64 0),(.int .i64 0),(.slice .full 0 []),(.str []),(.str []),(.int .i64 0),(.int .i64 0),(.str []),(.slice .full 0 []),(.bool false),(.slice .full 0 []),(.slice .full 0 []),(.slice .full 0 [])])]) (.seq (.seq (.run [.m 6 bc]) anl) (.seq (.run [.o 41 (.load bj true 13), .op none none (.store cZ gW 13)]) .ret)))
abbrev ann:AC:= .cond cJ (.seq (.run [.o 2 (.mv (.k (.int .i64 2)))]) .ret) .skip
abbrev ano:AC:= .cond bQ (.seq (.run [.o 2 (.mv (.k (.int .i64 1)))]) .ret) (.seq (.run [.m 18 aT, .o 19 (.bin .geq cG (.k (.int .i64 5))), .m 20 da, .g 21 20 true (.mv aT), .g 22 20 true (.bin .leq dt (.k (.int .i64 17))), .o 23 (.pick dm dv (.k (.bool false))), .m 17 dB]) ann)
abbrev anp:AC:= .cond bL (.seq (.run [.o 2 (.mv (.k (.int .i64 0)))]) .ret) (.seq (.run [.m 11 aT, .o 12 (.bin .eql bS (.k (.int .i64 3))), .m 13 b6, .g 14 13 false (.mv aT), .g 15 13 false (.bin .eql bN (.k (.int .i64 4))), .o 16 (.pick bW (.k (.bool true)) cj), .m 10 b7]) ano)
abbrev anq:AC:= .block 0 (.seq (.run [.m 4 aT, .o 5 (.bin .eql cZ (.k (.int .i64 1))), .m 6 bj, .g 7 6 false (.mv aT), .g 8 6 false (.bin .eql bJ (.k (.int .i64 2))), .o 9 (.pick bP (.k (.bool true)) bU), .m 3 cq]) anp)
abbrev anr:AC:= .seq (.run [(.o 2 (.mv (.k (.int .i64 (-1)))))]) .ret
abbrev ans:AC:= .seq (.run [.o 2 (.mv (.k (.int .i64 0)))]) (.seq anq anr)
abbrev ant:AC:= .par [.o 24 (.av bJ 10), .o 25 (.load de false 1), .m 26 aT, .c 27 eD [dY,(.k (.bool true))],(.o 28 (.build [(.bool false),(.str []),(.int .i64 0),(.int .i64 0),(.str []),(.slice .full 0 [])] [(0,(1,(.k (.bool true)))),(1,(1,dT))])), .o 29 (.cL [(.bool false),(.str []),(.int .i64 0),(.int .i64 0),(.str []),(.slice .full 0 [])] 6 1 [(0,eR)]), .o 30 (.app 6 80 df eU), .o 31 (.av bJ 10), .op none none (.store fc fb 1)] [(2,0),(3,0),(0,0),(1,1),(4,0),(5,0),(6,0),(7,0),(8,0)]
abbrev anu:AC:= .par [.o 32 (.av bJ 10), .o 33 (.load fz false 1), .m 34 aT, .c 35 gp [fL], .o 36 (.build [(.bool false),(.str []),(.int .i64 0),(.int .i64 0),(.str []),(.slice .full 0 [])] [(2,(4,fF))]), .o 37 (.cL [(.bool false),(.str []),(.int .i64 0),(.int .i64 0),(.str []),(.slice .full 0 [])] 6 1 [(0,fN)]), .o 38 (.app 6 80 fw gu), .o 39 (.av bJ 10), .op none none (.store gG gP 1)] [(2,0),(3,0),(0,0),(1,1),(4,0),(5,0),(6,0),(7,0),(8,0)]
abbrev anv:AC:= .seq (.seq (.run [.m 22 aT,(.c 23 dw [dv,(.k (.str [114,101,102]))])]) (.cond dB ant anu)) (.seq (.run [.m 40 aT,(.c 41 dw [ig,(.k (.str [44]))]), .o 42 (.un .not gW)]) (.cond iR (.exit 0) .skip))
abbrev anw:AC:= .block 0 (.loop (.seq (.seq (.run [.m 20 aT, .c 21 cE [dm]]) (.cond dt .skip (.exit 0))) (.block 1 anv)))
abbrev anx:AC:= .seq (.run [.m 43 aT,(.c 44 c9 [ja,(.k (.str [41]))])]) (.seq (.run [.m 45 aT,(.c 46 c9 [ko,(.k (.str [59]))])]) (.seq (.run [.o 47 (.load bJ true 13), .op none none (.store bP lb 13)]) .ret))
abbrev anz:AC:= .seq (.seq (.run [.m 13 aT, .c 14 cE [bW], .m 15 bN, .g 16 15 true (.mv aT),(.d 17 15 true fD [b7,(.k (.str [41]))]), .g 18 15 true (.un .not cJ), .o 19 (.pick cj cG (.k (.bool false)))]) (.cond da anw .skip)) anx
abbrev anA:AC:= .seq (.run [.m 8 bc, .m 9 dr,(.o 10 (.build [(.int .i64 0),(.int .i64 0),(.slice .full 0 []),(.str []),(.str []),(.int .i64 0),(.int .i64 0),(.str []),(.slice .full 0 []),(.bool false),(.slice .full 0 []),(.slice .full 0 []),(.slice .full 0 [])] [(1,(1,(.k (.int .i64 4)))),(3,(1,bU)),(4,(1,cq))])), .o 7 (.alloc [(.int .i64 0),(.int .i64 0),(.slice .full 0 []),(.str []),(.str []),(.int .i64 0),(.int .i64 0),(.str []),(.slice .full 0 []),(.bool false),(.slice .full 0 []),(.slice .full 0 []),(.slice .full 0 [])]), .op none none (.store bJ bQ 13)]) (.seq (.run [.m 11 aT,(.c 12 c9 [bS,(.k (.str [40]))])]) anz)
abbrev anB:AC:= .seq (.run [.o 6 (.alloc [(.int .i64 0),(.int .i64 0),(.slice .full 0 []),(.str []),(.str []),(.int .i64 0),(.int .i64 0),(.str []),(.slice .full 0 []),(.bool false),(.slice .full 0 []),(.slice .full 0 []),(.slice .full 0 [])])]) anA
abbrev anC:AC:= .cond b7 (.run [.m 17 aT, .m 18 bL,(.o 19 (.build [(.int .i64 0),(.int .i64 0)] [(0,(1,(.k (.int .i64 4)))),(1,(1,cG))])), .o 20 (.du cJ), .o 21 (.av dm 2), .op none none (.store dt da 2)]) .skip
abbrev anD:AC:= .seq (.seq (.run [.m 10 aT, .c 11 cE [bQ], .m 12 bS, .g 13 12 true (.load cZ true 4), .d 14 12 true lh [bW], .g 15 12 true (.bin .gtr bN (.k (.int .i64 20))), .o 16 (.pick b6 cj (.k (.bool false)))]) anC) (.seq (.run [.o 22 (.load cZ true 4), .op none none (.store dr dv 4)]) .ret)
abbrev anE:AC:= .seq (.run [.o 2 (.alloc [(.int .i64 0),(.int .i64 0),(.str []),(.slice .full 0 [])])]) (.seq (.run [.m 5 aT, .c 6 dz [bj], .o 7 (.sn bP 3 false 1), .m 3 bJ]) (.seq (.run [.m 8 aT, .c 9 iO [bU,(.k (.int .i64 1))], .o 4 (.alloc [(.int .i64 0),(.int .i64 0),(.str []),(.slice .full 0 [])]), .op none none (.store cZ cq 4)]) anD))
abbrev anF:AC:= .seq (.run [.m 27 aT, .o 28 (.du dT), .o 29 (.av eR 1), .o 30 (.load eU false 1), .o 31 (.bin .add fb (.k (.int .i64 1))), .o 32 (.du dT), .o 33 (.av fz 1), .op none none (.store fw fc 1)]) (.seq (.run [.m 34 aT, .m 35 bJ, .o 36 (.bin .add fF (.k (.int .i64 1))), .c 37 iO [fL,fN], .o 8 (.alloc [(.int .i64 0),(.int .i64 0),(.str []),(.slice .full 0 [])]), .op none none (.store bU gu 4)]) (.run [.m 38 bP, .o 39 (.load bj true 4), .o 40 (.load bU true 4), .o 41 (.cL [(.int .i64 0),(.int .i64 0),(.str []),(.slice .full 0 [])] 4 2 [(0,gG),(1,ig)]), .o 42 (.build [(.int .i64 0),(.int .i64 0),(.str []),(.slice .full 0 [])] [(0,(1,gP)),(3,(1,gW))]), .op none none (.store bj iR 4)]))
abbrev anG:AC:= .seq (.seq (.run [.m 19 bJ, .m 20 bc, .o 21 (.bin .lss da dm), .m 22 dt, .g 23 22 false (.mv bP), .g 24 22 false (.bin .eql dB (.k (.int .i64 0))), .o 25 (.pick dv (.k (.bool true)) de)]) (.cond df (.seq (.run [.o 26 (.load bj true 4), .op none none (.store cZ dY 4)]) .ret) .skip)) anF
abbrev anH:AC:= .loop (.seq (.seq (.run [.m 11 aT, .c 12 cE [bS]]) (.cond b6 .skip (.exit 0))) (.block 1 (.seq (.run [.m 14 aT, .c 15 dz [bN], .c 16 tR [cj], .m 13 b7, .o 17 (.ext bW 0), .o 18 (.ext bW 1), .m 6 cJ, .m 7 cG]) anG)))
abbrev anI:AC:= .seq (.run [.o 4 (.alloc [(.int .i64 0),(.int .i64 0),(.str []),(.slice .full 0 [])])]) (.seq (.run [.m 9 aT, .c 10 jL [cq], .o 5 (.alloc [(.int .i64 0),(.int .i64 0),(.str []),(.slice .full 0 [])]), .op none none (.store bj bQ 4)]) (.seq (.block 0 anH) (.seq (.run [.o 43 (.load bj true 4), .op none none (.store cZ ja 4)]) .ret)))
abbrev anJ:AC:= .seq (.block 1 (.seq (.run [.o 11 (.ct bJ cq 4), .o 12 (.load bS true 4), .o 5 (.alloc [(.int .i64 0),(.int .i64 0),(.str []),(.slice .full 0 [])]), .op none none (.store bj b6 4)]) (.run [.m 13 bL, .o 14 (.load bj true 4), .c 15 lh [bN], .o 16 (.mm true bW cj), .m 3 b7]))) (.run [.o 17 (.bin .add cq (.k (.int .i64 1))), .m 9 cJ])
abbrev anK:AC:= .block 0 (.loop (.seq (.run [.o 10 (.bin .lss cq bU)]) (.seq (.cond bQ .skip (.exit 0)) anJ)))
abbrev anL:AC:= .seq (.seq (.run [.o 6 (.av bc 3), .o 7 (.load bP false 1), .o 8 (.len bJ), .o 9 (.mv (.k (.int .i64 0)))]) anK) (.seq (.run [.m 18 bL, .o 19 (.bin .add cG (.k (.int .i64 1))), .m 2 da]) .ret)
abbrev anM:AC:= .seq (.run [.o 1 (.box aT), .o 2 (.mv (.k (.int .i64 0)))]) (.seq (.run [.o 3 (.mv (.k (.int .i64 0)))]) anL)
abbrev anN:AC:= .seq (.run [.m 7 aT, .c 8 cE [bJ], .o 9 (.un .not bU)]) (.cond cq (.seq (.run [.o 10 (.build [(.int .i64 0),(.int .i64 0),(.str []),(.slice .full 0 [])] []), .op none none (.store dr bQ 4)]) .ret) .skip)
abbrev anO:AC:= .seq (.run [.o 22 (.av bL 2), .o 23 (.load dv false 1),(.o 24 (.build [(.int .i64 0),(.int .i64 0),(.str []),(.slice .full 0 [])] [(0,(1,(.k (.int .i64 1)))),(1,(1,dB))])), .op none none (.store dr de 4)]) .ret
abbrev anP:AC:= .seq (.run [.o 36 (.av bL 1), .o 37 (.load fN false 1),(.o 38 (.build [(.int .i64 0),(.int .i64 0),(.str []),(.slice .full 0 [])] [(0,(1,(.k (.int .i64 2)))),(2,(1,gu))])), .op none none (.store dr gP 4)]) .ret
abbrev anQ:AC:= .seq (.run [.m 42 aT, .c 43 iO [iR,(.k (.int .i64 1))], .o 4 (.alloc [(.int .i64 0),(.int .i64 0),(.str []),(.slice .full 0 [])]), .op none none (.store cZ ja 4)]) (.seq (.run [.m 44 aT,(.c 45 c9 [jx,(.k (.str [41]))])]) (.seq (.run [.o 46 (.load cZ true 4), .op none none (.store dr kp 4)]) .ret))
abbrev anR:AC:= .seq (.run [.m 50 aT, .c 51 jL [lR], .o 52 (.cL [(.int .i64 0),(.int .i64 0),(.str []),(.slice .full 0 [])] 4 1 [(0,kS)]),(.o 53 (.build [(.int .i64 0),(.int .i64 0),(.str []),(.slice .full 0 [])] [(0,(1,(.k (.int .i64 3)))),(3,(1,ld))])), .op none none (.store dr lf 4)]) .ret
abbrev anS:AC:= .seq (.run [.m 57 aT, .c 58 jL [oB], .o 59 (.cL [(.int .i64 0),(.int .i64 0),(.str []),(.slice .full 0 [])] 4 1 [(0,nR)]),(.o 60 (.build [(.int .i64 0),(.int .i64 0),(.str []),(.slice .full 0 [])] [(0,(1,(.k (.int .i64 4)))),(3,(1,lT))])), .op none none (.store dr pZ 4)]) .ret
abbrev anT:AC:= .cond lb anR (.seq (.run [.m 55 aT,(.c 56 dw [mC,(.k (.str [33]))]), .m 54 nQ]) (.cond lS anS .skip))
abbrev anU:AC:= .cond gG anQ (.seq (.run [.m 48 aT,(.c 49 dw [j8,(.k (.str [45]))]), .m 47 kq]) anT)
abbrev anV:AC:= .cond df (.seq (.run [.m 29 aT, .o 30 (.du eU), .o 31 (.av fb 1), .o 32 (.load fc false 1), .o 33 (.bin .add fz (.k (.int .i64 1))), .o 34 (.du eU), .o 35 (.av fL 1), .op none none (.store fF fw 1)]) anP) (.seq (.run [.m 40 aT,(.c 41 dw [ig,(.k (.str [40]))]), .m 39 gW]) anU)
abbrev anW:AC:= .cond bS (.seq (.run [.m 15 aT, .o 16 (.du cj), .o 17 (.av b7 1), .o 18 (.load cJ false 1), .o 19 (.bin .add cG (.k (.int .i64 1))), .o 20 (.du cj), .o 21 (.av dm 1), .op none none (.store dt da 1)]) anO) (.seq (.run [.o 26 (.av bL 0), .o 27 (.load dY false 1), .o 28 (.bin .eql dT (.k (.int .i64 1))), .m 25 eR]) anV)
abbrev anX:AC:= .block 0 (.seq (.run [.o 12 (.av bL 0), .o 13 (.load b6 false 1), .o 14 (.bin .eql bW (.k (.int .i64 2))), .m 11 bN]) anW)
abbrev anY:AC:= .seq anX (.seq (.run [.m 61 aT, .c 62 eZ [rG,(.k (.int .i64 3))]]) (.seq (.run [.o 63 (.build [(.int .i64 0),(.int .i64 0),(.str []),(.slice .full 0 [])] []), .op none none (.store dr rI 4)]) .ret))
abbrev anZ:AC:= .seq (.run [.o 2 (.alloc [(.int .i64 0),(.int .i64 0),(.str []),(.slice .full 0 [])])]) (.seq (.run [.m 5 aT, .c 6 dz [bj], .o 3 (.alloc [(.int .i64 0),(.str []),(.int .i64 0),(.int .i64 0)]), .op none none (.store bL bP 4)]) (.seq anN anY))
abbrev an0:AC:= .cond bP (.seq (.run [.o 2 (.mv (.k (.int .i64 0))), .o 3 (.mv (.k (.int .i64 0)))]) .ret) .skip
abbrev an1:AC:= .cond fw (.seq (.run [.o 2 (.mv (.k (.int .i64 7))), .o 3 (.mv (.k (.int .i64 6)))]) .ret) .skip
abbrev an2:AC:= .cond fc (.seq (.run [.o 2 (.mv (.k (.int .i64 6))), .o 3 (.mv (.k (.int .i64 6)))]) .ret) (.seq (.run [.o 34 (.bin .eql bU (.k (.str [37]))), .m 33 fL]) an1)
abbrev an3:AC:= .cond eU (.seq (.run [.o 2 (.mv (.k (.int .i64 5))), .o 3 (.mv (.k (.int .i64 6)))]) .ret) (.seq (.run [.o 32 (.bin .eql bU (.k (.str [47]))), .m 31 fz]) an2)
abbrev an4:AC:= .cond dT (.seq (.run [.o 2 (.mv (.k (.int .i64 9))), .o 3 (.mv (.k (.int .i64 5)))]) .ret) (.seq (.run [.o 30 (.bin .eql bU (.k (.str [42]))), .m 29 fb]) an3)
abbrev an5:AC:= .cond df (.seq (.run [.o 2 (.mv (.k (.int .i64 8))), .o 3 (.mv (.k (.int .i64 5)))]) .ret) (.seq (.run [.o 28 (.bin .eql bU (.k (.str [45]))), .m 27 eR]) an4)
abbrev an6:AC:= .cond dB (.seq (.run [.o 2 (.mv (.k (.int .i64 13))), .o 3 (.mv (.k (.int .i64 4)))]) .ret) (.seq (.run [.o 26 (.bin .eql bU (.k (.str [43]))), .m 25 dY]) an5)
abbrev an7:AC:= .cond dt (.seq (.run [.o 2 (.mv (.k (.int .i64 12))), .o 3 (.mv (.k (.int .i64 4)))]) .ret) (.seq (.run [.o 24 (.bin .eql bU (.k (.str [62,61]))), .m 23 de]) an6)
abbrev an8:AC:= .cond da (.seq (.run [.o 2 (.mv (.k (.int .i64 11))), .o 3 (.mv (.k (.int .i64 4)))]) .ret) (.seq (.run [.o 22 (.bin .eql bU (.k (.str [62]))), .m 21 dv]) an7)
abbrev an9:AC:= .cond cJ (.seq (.run [.o 2 (.mv (.k (.int .i64 10))), .o 3 (.mv (.k (.int .i64 4)))]) .ret) (.seq (.run [.o 20 (.bin .eql bU (.k (.str [60,61]))), .m 19 dm]) an8)
abbrev aoa:AC:= .cond cj (.seq (.run [.o 2 (.mv (.k (.int .i64 15))), .o 3 (.mv (.k (.int .i64 3)))]) .ret) (.seq (.run [.o 18 (.bin .eql bU (.k (.str [60]))), .m 17 cG]) an9)
abbrev aob:AC:= .cond bW (.seq (.run [.o 2 (.mv (.k (.int .i64 14))), .o 3 (.mv (.k (.int .i64 3)))]) .ret) (.seq (.run [.o 16 (.bin .eql bU (.k (.str [33,61]))), .m 15 b7]) aoa)
abbrev aoc:AC:= .cond bS (.seq (.run [.o 2 (.mv (.k (.int .i64 16))), .o 3 (.mv (.k (.int .i64 2)))]) .ret) (.seq (.run [.o 14 (.bin .eql bU (.k (.str [61,61]))), .m 13 bN]) aob)
abbrev aod:AC:= .cond cq (.seq (.run [.o 2 (.mv (.k (.int .i64 17))), .o 3 (.mv (.k (.int .i64 1)))]) .ret) (.seq (.run [.o 12 (.bin .eql bU (.k (.str [38,38]))), .m 11 b6]) aoc)
abbrev aoe:AC:= .block 0 (.seq (.run [.o 10 (.bin .eql bU (.k (.str [124,124]))), .m 9 bQ]) aod)
abbrev aof:AC:= .seq (.seq (.run [.o 7 (.av bc 1), .o 8 (.load bJ false 1)]) aoe) (.seq (.run [.o 2 (.mv (.k (.int .i64 0))), .o 3 (.mv (.k (.int .i64 0)))]) .ret)
abbrev aog:AC:= .seq (.seq (.run [.o 4 (.av bc 0), .o 5 (.load cZ false 1), .o 6 (.bin .neq bj (.k (.int .i64 4)))]) an0) aof
abbrev aoh:AC:= .seq (.run [.o 1 (.box aT), .o 2 (.mv (.k (.int .i64 0))), .o 3 (.mv (.k (.int .i64 0)))]) aog
end Go.Abs

/-! Have5 -/

namespace Go.Abs
open Go.Proofs
theorem xr:Has Tryz.prog nP 71 [(4,(some (true,13)))] amd:=⟨Tryz.f205,by kernel_rfl,by kernel_rfl⟩
theorem ze:Has Tryz.prog py 36 [(4,none)] amj:=⟨Tryz.f206,by kernel_rfl,by kernel_rfl⟩
theorem GG:Has Tryz.prog pz 60 [(2,none)] amq:=⟨Tryz.f207,by kernel_rfl,by kernel_rfl⟩
theorem EP:Has Tryz.prog uL 2 [(0,none)] ams:=⟨Tryz.f209,by kernel_rfl,by kernel_rfl⟩
theorem ER:Has Tryz.prog uM 24 [(2,none)] amy:=⟨Tryz.f210,by kernel_rfl,by kernel_rfl⟩
theorem zf:Has Tryz.prog pA 61 [(4,none)] amL:=⟨Tryz.f219,by kernel_rfl,by kernel_rfl⟩
theorem vg:Has Tryz.prog mA 23 [(2,none)] amZ:=⟨Tryz.f226,by kernel_rfl,by kernel_rfl⟩
theorem wF:Has Tryz.prog ni 64 [(2,(some (true,13)))] am5:=⟨Tryz.f227,by kernel_rfl,by kernel_rfl⟩
theorem vh:Has Tryz.prog mB 20 [(4,(some (true,13)))] am8:=⟨Tryz.f228,by kernel_rfl,by kernel_rfl⟩
theorem xu:Has Tryz.prog kY 11 [(2,(some (true,4)))] ana:=⟨Tryz.f229,by kernel_rfl,by kernel_rfl⟩
theorem wG:Has Tryz.prog iZ 17 [(4,none)] anc:=⟨Tryz.f230,by kernel_rfl,by kernel_rfl⟩
theorem wH:Has Tryz.prog nj 42 [(4,(some (true,13)))] anm:=⟨Tryz.f231,by kernel_rfl,by kernel_rfl⟩
theorem GH:Has Tryz.prog wB 24 [(2,none)] ans:=⟨Tryz.f237,by kernel_rfl,by kernel_rfl⟩
theorem xv:Has Tryz.prog kZ 48 [(6,(some (true,13)))] anB:=⟨Tryz.f239,by kernel_rfl,by kernel_rfl⟩
theorem wI:Has Tryz.prog gp 23 [(2,(some (true,4)))] anE:=⟨Tryz.f240,by kernel_rfl,by kernel_rfl⟩
theorem ym:Has Tryz.prog iO 44 [(4,(some (true,4)))] anI:=⟨Tryz.f242,by kernel_rfl,by kernel_rfl⟩
theorem Dd:Has Tryz.prog lh 20 [(2,none)] anM:=⟨Tryz.f243,by kernel_rfl,by kernel_rfl⟩
theorem yn:Has Tryz.prog jL 64 [(2,(some (true,4)))] anZ:=⟨Tryz.f244,by kernel_rfl,by kernel_rfl⟩
theorem ID:Has Tryz.prog tR 35 [(2,none),(3,none)] aoh:=⟨Tryz.f245,by kernel_rfl,by kernel_rfl⟩
end Go.Abs

/-! Have3 -/

namespace Go.Abs
open Go.Proofs
theorem ES:Has Tryz.prog uG 37 [(6,none)] aiK:=⟨Tryz.f120,by kernel_rfl,by kernel_rfl⟩
theorem xw:Has Tryz.prog uH 28 [(4,none)] aiR:=⟨Tryz.f121,by kernel_rfl,by kernel_rfl⟩
theorem Bt:Has Tryz.prog qM 38 [(6,none),(7,none)] aiY:=⟨Tryz.f122,by kernel_rfl,by kernel_rfl⟩
theorem vG:Has Tryz.prog s4 15 [(4,none)] aiZ:=⟨Tryz.f123,by kernel_rfl,by kernel_rfl⟩
theorem GM:Has Tryz.prog wy 40 [(4,none)] ai5:=⟨Tryz.f124,by kernel_rfl,by kernel_rfl⟩
theorem zn:Has Tryz.prog l5 12 [(4,none)] ai6:=⟨Tryz.f125,by kernel_rfl,by kernel_rfl⟩
theorem GN:Has Tryz.prog px 9 [(2,none)] ai7:=⟨Tryz.f128,by kernel_rfl,by kernel_rfl⟩
theorem Ak:Has Tryz.prog yi 42 [(4,none)] ajx:=⟨Tryz.f129,by kernel_rfl,by kernel_rfl⟩
theorem ET:Has Tryz.prog uI 28 [(2,none),(3,none)] ajD:=⟨Tryz.f130,by kernel_rfl,by kernel_rfl⟩
theorem xx:Has Tryz.prog dw 21 [(4,none)] ajH:=⟨Tryz.f131,by kernel_rfl,by kernel_rfl⟩
theorem wJ:Has Tryz.prog iX 25 [(6,none)] ajL:=⟨Tryz.f132,by kernel_rfl,by kernel_rfl⟩
theorem xy:Has Tryz.prog cE 9 [(2,none)] ajM:=⟨Tryz.f133,by kernel_rfl,by kernel_rfl⟩
theorem zo:Has Tryz.prog fD 22 [(4,none)] ajO:=⟨Tryz.f134,by kernel_rfl,by kernel_rfl⟩
theorem yo:Has Tryz.prog eZ 14 [] ajP:=⟨Tryz.f135,by kernel_rfl,by kernel_rfl⟩
theorem xA:Has Tryz.prog nO 56 [(2,(some (true,5)))] ajX:=⟨Tryz.f136,by kernel_rfl,by kernel_rfl⟩
theorem xB:Has Tryz.prog dz 13 [(2,(some (true,4)))] ajZ:=⟨Tryz.f137,by kernel_rfl,by kernel_rfl⟩
theorem vi:Has Tryz.prog gQ 8 [(2,none)] aj1:=⟨Tryz.f138,by kernel_rfl,by kernel_rfl⟩
theorem s9:Has Tryz.prog kR 8 [(2,none)] aj3:=⟨Tryz.f139,by kernel_rfl,by kernel_rfl⟩
theorem De:Has Tryz.prog j7 78 [(6,none),(7,none)] akd:=⟨Tryz.f140,by kernel_rfl,by kernel_rfl⟩
theorem xC:Has Tryz.prog mw 7 [(2,none)] ake:=⟨Tryz.f144,by kernel_rfl,by kernel_rfl⟩
theorem IE:Has Tryz.prog nh 40 [(4,none)] akk:=⟨Tryz.f145,by kernel_rfl,by kernel_rfl⟩
theorem Ci:Has Tryz.prog my 45 [(2,(some (true,13)))] akq:=⟨Tryz.f146,by kernel_rfl,by kernel_rfl⟩
theorem EU:Has Tryz.prog uJ 15 [(2,none)] akv:=⟨Tryz.f148,by kernel_rfl,by kernel_rfl⟩
theorem zg:Has Tryz.prog kB 38 [(2,none)] akC:=⟨Tryz.f149,by kernel_rfl,by kernel_rfl⟩
theorem IF:Has Tryz.prog C4 178 [(2,none)] akO:=⟨Tryz.f150,by kernel_rfl,by kernel_rfl⟩
theorem EV:Has Tryz.prog oA 18 [(4,none)] akP:=⟨Tryz.f158,by kernel_rfl,by kernel_rfl⟩
theorem EW:Has Tryz.prog qN 18 [(4,none)] akQ:=⟨Tryz.f159,by kernel_rfl,by kernel_rfl⟩
theorem Df:Has Tryz.prog s5 27 [(2,none)] akW:=⟨Tryz.f160,by kernel_rfl,by kernel_rfl⟩
theorem GO:Has Tryz.prog lP 33 [(2,none)] ak3:=⟨Tryz.f161,by kernel_rfl,by kernel_rfl⟩
theorem xD:Has Tryz.prog qO 8 [(2,none)] ak6:=⟨Tryz.f162,by kernel_rfl,by kernel_rfl⟩
theorem p6:Has Tryz.prog gO 9 [(4,none)] ak7:=⟨Tryz.f163,by kernel_rfl,by kernel_rfl⟩
theorem Bu:Has Tryz.prog n3 8 [(3,none)] ak8:=⟨Tryz.f164,by kernel_rfl,by kernel_rfl⟩
theorem Dg:Has Tryz.prog s6 33 [(4,none)] alc:=⟨Tryz.f165,by kernel_rfl,by kernel_rfl⟩
end Go.Abs

/-! Prs -/

namespace Go.Abs
set_option maxRecDepth 8000
open Go.Proofs
@[go_sem] def cm (r:Rd):List D:= [.slice .shared 4 (r.l.map ew), .int .i64 r.i, .int .i64 r.code, .int .i64 r.vz, .int .i64 r.n]
theorem fM (r:Rd):D.bp 0 0 (cm r)=true:=by simp [cm,D.bp,D.ok,Tag.ok,Io]
theorem rK {r:Rd} {t:fB} (h:r.pd=some t):r.i<4611686018427387904:=(Ir h).1
theorem is_lt {r:Rd} {s:aC} {t:Bool} (h:r.is s=some t):r.i<4611686018427387904:=by
 obtain⟨t,h1,h⟩:=Option.bind_eq_some_iff.1 h
 exact rK h1
-- good
theorem abl (l:List fB) (i c f n:Int):aB Tryz.prog cE [.ptr 0 0] ⟨[[.slice .shared 4 (l.map ew), .int .i64 i, .int .i64 c, .int .i64 f, .int .i64 n]],[]⟩ (.bool (c==0)) ⟨[[.slice .shared 4 (l.map ew), .int .i64 i, .int .i64 c, .int .i64 f, .int .i64 n]],[]⟩:=by
 refine aB.go xy rfl fun B Q hB hQ=> ?_
 have⟨hF,hP,hZ,gA⟩:=bH
 repeat' (first
 | simp only [go_sem,hF,hP,hZ,gA,mn]
 | (with_reducible refine aG hQ ?_;simp only [ay,az,Option.some.injEq,exists_eq_left',go_sem,hF,hP,hZ,gA];repeat' (first | exact Ok.out | with_reducible refine aI ?_ ?_ | (simp;done))))
theorem kh {l:List fB} {i c f n:Int} {s:St} {o:Nat} (ho:s.aw[o]? = some [.slice .shared 4 (l.map ew), .int .i64 i, .int .i64 c, .int .i64 f, .int .i64 n]):aB Tryz.prog cE [.ptr o 0] s (.bool (c==0)) ⟨s.aw.set o [.slice .shared 4 (l.map ew), .int .i64 i, .int .i64 c, .int .i64 f, .int .i64 n],s.aA⟩:=
 have hk:D.bp 0 0 [.slice .shared 4 (l.map ew), .int .i64 i, .int .i64 c, .int .i64 f, .int .i64 n] = true:=by simp [D.bp,D.ok,Tag.ok,Io]
 aB.jY (abl l i c f n) rfl hk hk rfl ho
theorem abm {r:Rd} {t:fB} (h:r.pd=some t):aB Tryz.prog dz [.ptr 0 0] ⟨[cm r],[]⟩ (.agg (ew t)) ⟨[cm r],[]⟩:=by
 obtain⟨h2,h,_,_⟩:=Ir h
 refine aB.go xB rfl fun B Q hB hQ=> ?_
 have⟨hF,hP,hZ,gA⟩:=bH
 repeat' (first
 | simp only [go_sem,hF,hP,hZ,gA,mn,h]
 | (with_reducible refine aG hQ ?_;simp only [ay,az,Option.some.injEq,exists_eq_left',go_sem,hF,hP,hZ,gA];repeat' (first | exact Ok.out | with_reducible refine aI ?_ ?_ | (simp;done))))
theorem oD {r:Rd} {t:fB} (h:r.pd=some t) {s:St} {o:Nat} (ho:s.aw[o]? = some (cm r)):aB Tryz.prog dz [.ptr o 0] s (.agg (ew t)) ⟨s.aw.set o (cm r),s.aA⟩:=
 (abm h).jY rfl (fM r) (fM r) (G6 t) ho
theorem aoi {r:Rd} {text:aC} {b:Bool} (h:r.is text=some b):aB Tryz.prog fD [.ptr 0 0, .str text] ⟨[cm r],[]⟩ (.bool b) ⟨[cm r],[]⟩:=by
 unfold Rd.is at h
 refine aB.go zo rfl fun B Q hB hQ=> ?_
 have⟨hF,hP,hZ,gA⟩:=bH
 repeat' (first
 | simp only [go_sem,hF,hP,hZ,gA,mn]
 | (rw [Option.bind_eq_some_iff]at h;obtain⟨_,h1,h⟩:=h;first | (with_reducible refine CU (oD h1 (by with_unfolding_all rfl)) ?_))
 | (with_reducible first | refine bw fun hc=> ?_ | refine bx fun hc=> ?_ | refine bA (fun hc=> ?_) fun hc=> ?_) <;> (try simp only [hc,bs, ↓reduceIte]at h) <;> try simp only [hc]
 | (with_reducible refine aG hQ ?_;(try cases h);simp only [ay,az,bF,bG,go_sem,hF,hP,hZ,gA,mn];repeat' (first | exact Ok.out | with_reducible refine aI ?_ ?_ | (simp;done))))
theorem Al {r:Rd} {text:aC} {b:Bool} (h:r.is text=some b) {s:St} {o:Nat} (ho:s.aw[o]? = some (cm r)):aB Tryz.prog fD [.ptr o 0, .str text] s (.bool b) ⟨s.aw.set o (cm r),s.aA⟩:=
 (aoi h).jY rfl (fM r) (fM r) rfl ho
theorem afc {r r':Rd} {c:Int} (h:r.bad c=some r'):aB Tryz.prog eZ [.ptr 0 0, .int .i64 c] ⟨[cm r],[]⟩ (.tuple []) ⟨[cm r'],[]⟩:=by
 unfold Rd.bad at h
 refine aB.go yo rfl fun B Q hB hQ=> ?_
 have⟨hF,hP,hZ,gA⟩:=bH
 repeat' (first
 | simp only [go_sem,hF,hP,hZ,gA,mn]
 | (rw [Option.bind_eq_some_iff]at h;obtain⟨_,h1,h⟩:=h;first | (with_reducible refine CU (oD h1 (by with_unfolding_all rfl)) ?_))
 | (with_reducible refine CU (kh (by with_unfolding_all rfl)) ?_)
 | (with_reducible first | refine bw fun hc=> ?_ | refine bx fun hc=> ?_ | refine bA (fun hc=> ?_) fun hc=> ?_) <;> (try simp only [hc,bs, ↓reduceIte]at h) <;> try simp only [hc]
 | (with_reducible refine aG hQ ?_;(try cases h);simp only [ay,az,bF,bG,go_sem,hF,hP,hZ,gA,mn];repeat' (first | exact Ok.out | with_reducible refine aI ?_ ?_ | (simp;done))))
theorem Dh {r r':Rd} {c:Int} (h:r.bad c=some r') {s:St} {o:Nat} (ho:s.aw[o]? = some (cm r)):aB Tryz.prog eZ [.ptr o 0, .int .i64 c] s (.tuple []) ⟨s.aw.set o (cm r'),s.aA⟩:=
 (afc h).jY rfl (fM r) (fM r') rfl ho
theorem abn {r:Rd} {text:aC} {p:Bool×Rd} (h:r.take text=some p):aB Tryz.prog dw [.ptr 0 0, .str text] ⟨[cm r],[]⟩ (.bool p.1) ⟨[cm p.2],[]⟩:=by
 unfold Rd.take at h
 refine aB.go xx rfl fun B Q hB hQ=> ?_
 have⟨hF,hP,hZ,gA⟩:=bH
 repeat' (first
 | simp only [go_sem,hF,hP,hZ,gA,mn]
 | (rw [Option.bind_eq_some_iff]at h;obtain⟨_,h1,h⟩:=h;first | (with_reducible refine CU (Al h1 (by with_unfolding_all rfl)) ?_;have hF:=is_lt h1))
 | (with_reducible refine CU (kh (by with_unfolding_all rfl)) ?_)
 | (with_reducible first | refine bw fun hc=> ?_ | refine bx fun hc=> ?_ | refine bA (fun hc=> ?_) fun hc=> ?_) <;> (try simp only [hc,bs, ↓reduceIte]at h) <;> try simp only [hc]
 | (with_reducible refine aG hQ ?_;(try cases h);simp only [ay,az,bF,bG,go_sem,hF,hP,hZ,gA,mn];repeat' (first | exact Ok.out | with_reducible refine aI ?_ ?_ | (simp;done))))
theorem sL {r:Rd} {text:aC} {p:Bool×Rd} (h:r.take text=some p) {s:St} {o:Nat} (ho:s.aw[o]? = some (cm r)):aB Tryz.prog dw [.ptr o 0, .str text] s (.bool p.1) ⟨s.aw.set o (cm p.2),s.aA⟩:=
 (abn h).jY rfl (fM r) (fM p.2) rfl ho
theorem abo {r r':Rd} {text:aC} (h:r.want text=some r'):aB Tryz.prog c9 [.ptr 0 0, .str text] ⟨[cm r],[]⟩ (.tuple []) ⟨[cm r'],[]⟩:=by
 unfold Rd.want at h
 refine aB.go xq rfl fun B Q hB hQ=> ?_
 have⟨hF,hP,hZ,gA⟩:=bH
 repeat' (first
 | simp only [go_sem,hF,hP,hZ,gA,mn]
 | (rw [Option.bind_eq_some_iff]at h;obtain⟨_,h1,h⟩:=h;first | (with_reducible refine CU (sL h1 (by with_unfolding_all rfl)) ?_))
 | (with_reducible refine CU (Dh h (by with_unfolding_all rfl)) ?_)
 | (with_reducible first | refine bw fun hc=> ?_ | refine bx fun hc=> ?_ | refine bA (fun hc=> ?_) fun hc=> ?_) <;> (try simp only [hc,bs, ↓reduceIte]at h) <;> try simp only [hc]
 | (with_reducible refine aG hQ ?_;(try cases h);simp only [ay,az,bF,bG,go_sem,hF,hP,hZ,gA,mn];repeat' (first | exact Ok.out | with_reducible refine aI ?_ ?_ | (simp;done))))
theorem pB {r r':Rd} {text:aC} (h:r.want text=some r') {s:St} {o:Nat} (ho:s.aw[o]? = some (cm r)):aB Tryz.prog c9 [.ptr o 0, .str text] s (.tuple []) ⟨s.aw.set o (cm r'),s.aA⟩:=
 (abo h).jY rfl (fM r) (fM r') rfl ho
theorem abp {r:Rd} {room:Bool} {p:aC×Rd} (h:r.name room=some p):aB Tryz.prog eD [.ptr 0 0, .bool room] ⟨[cm r],[]⟩ (.str p.1) ⟨[cm p.2],[]⟩:=by
 unfold Rd.name at h
 refine aB.go xp rfl fun B Q hB hQ=> ?_
 have⟨hF,hP,hZ,gA⟩:=bH
 repeat' (first
 | simp only [go_sem,hF,hP,hZ,gA,mn]
 | (rw [Option.bind_eq_some_iff]at h;obtain⟨_,h1,h⟩:=h;first | (with_reducible refine CU (oD h1 (by with_unfolding_all rfl)) ?_;have hF:=rK h1) | (with_reducible refine CU (Dh h1 (by with_unfolding_all rfl)) ?_))
 | (with_reducible refine CU (kh (by with_unfolding_all rfl)) ?_)
 | (with_reducible first | refine bw fun hc=> ?_ | refine bx fun hc=> ?_ | refine bA (fun hc=> ?_) fun hc=> ?_) <;> (try simp only [hc,bs, ↓reduceIte]at h) <;> try simp only [hc]
 | (with_reducible refine aG hQ ?_;(try cases h);simp only [ay,az,bF,bG,go_sem,hF,hP,hZ,gA,mn];repeat' (first | exact Ok.out | with_reducible refine aI ?_ ?_ | (simp;done))))
theorem xE {r:Rd} {room:Bool} {p:aC×Rd} (h:r.name room=some p) {s:St} {o:Nat} (ho:s.aw[o]? = some (cm r)):aB Tryz.prog eD [.ptr o 0, .bool room] s (.str p.1) ⟨s.aw.set o (cm p.2),s.aA⟩:=
 (abp h).jY rfl (fM r) (fM p.2) rfl ho
end Go.Abs

/-! Lex1 -/

namespace Go.Abs
set_option maxRecDepth 8000
open Go.Proofs
theorem ij (c:UInt8) (s:St):aB Tryz.prog oz [.int .u8 (c.toNat:Int)] s (.bool (qD c)) s:=by
 refine aB.pure ?_ rfl rfl s
 generalize h:qD c=b
 unfold qD at h
 unfold S0
 refine aB.go EK rfl fun B Q hB hQ=> ?_
 have⟨hF,hP,hZ,gA⟩:=bH
 repeat' (first
 | simp only [go_sem,hF,hP,hZ,gA]
 | (with_reducible first | refine bw fun hc=> ?_ | refine bx fun hc=> ?_ | refine bA (fun hc=> ?_) fun hc=> ?_) <;> (try simp only [hc,bs, ↓reduceIte]at h) <;> try simp only [hc]
 | (with_reducible refine aG hQ ?_;(try cases h);simp only [ay,az,bF,bG,go_sem,hF,hP,hZ,gA];repeat' (first | exact Ok.out | with_reducible refine aI ?_ ?_ | (simp;done))))
theorem jy (c:UInt8) (s:St):aB Tryz.prog px [.int .u8 (c.toNat:Int)] s (.bool (o6 c)) s:=by
 refine aB.pure ?_ rfl rfl s
 generalize h:o6 c=b
 unfold o6 at h
 unfold S0
 refine aB.go GN rfl fun B Q hB hQ=> ?_
 have⟨hF,hP,hZ,gA⟩:=bH
 repeat' (first
 | simp only [go_sem,hF,hP,hZ,gA]
 | (with_reducible first | refine bw fun hc=> ?_ | refine bx fun hc=> ?_ | refine bA (fun hc=> ?_) fun hc=> ?_) <;> (try simp only [hc,bs, ↓reduceIte]at h) <;> try simp only [hc]
 | (with_reducible refine aG hQ ?_;(try cases h);simp only [ay,az,bF,bG,go_sem,hF,hP,hZ,gA];repeat' (first | exact Ok.out | with_reducible refine aI ?_ ?_ | (simp;done))))
theorem uP (t:aC) (s:St):aB Tryz.prog tP [.str t] s (.bool (isWord t)) s:=by
 refine aB.pure ?_ rfl rfl s
 generalize h:isWord t=b
 unfold isWord at h
 unfold S0
 refine aB.go Iz rfl fun B Q hB hQ=> ?_
 have⟨hF,hP,hZ,gA⟩:=bH
 repeat' (first
 | simp only [go_sem,hF,hP,hZ,gA]
 | (with_reducible first | refine bw fun hc=> ?_ | refine bx fun hc=> ?_ | refine bA (fun hc=> ?_) fun hc=> ?_) <;> (try simp only [hc,bs, ↓reduceIte]at h) <;> try simp only [hc]
 | (with_reducible refine aG hQ ?_;(try cases h);simp only [ay,az,bF,bG,go_sem,hF,hP,hZ,gA];repeat' (first | exact Ok.out | with_reducible refine aI ?_ ?_ | (simp;done))))
theorem WE {text:aC} {pos:Nat} (hl:text.length<4611686018427387904) (s:St):aB Tryz.prog vC [.str text, .int .i64 (pos:Int)] s (.int .i64 ((pos+la (text.drop pos):Nat):Int)) s:=by
 refine aB.pure ?_ rfl rfl s
 unfold S0
 refine aB.go Kg rfl fun B Q hB hQ=> ?_
 have⟨hF,hP,hZ,gA⟩:=bH
 repeat' (first
 | simp only [go_sem,hF,hP,hZ,gA]
 | (with_reducible refine aG hQ ?_;simp only [ay,az,Option.some.injEq,exists_eq_left',go_sem,hF,hP,hZ,gA];repeat' (first | exact Ok.out | with_reducible refine aI ?_ ?_ | (simp;done))))
 refine cU 0 0 (bk.ind (ι:=aC×Nat) (fun i=>text.drop i.2=i.1∧i.2+la i.1=pos+la (text.drop pos)) (fun i=>i.1.length)
  (fun i=> [(0, .str text),(1, .int .i64 (i.2:Int))]) (fun i=>⟨[],[]⟩) ?_ (text.drop pos,pos) ⟨rfl,rfl⟩)
 rintro⟨rest,k⟩ ⟨h1,h2⟩ IH
 dsimp only at h1 h2
 cases rest with
 | nil=>
  have hF:=drop_nil h1
  simp only [la,Nat.add_zero]at h2
  rw [← h2]at hQ
  repeat' (first
 | simp only [go_sem,hF,hP,hZ,gA]
 | (with_reducible refine aG hQ ?_;simp only [ay,az,Option.some.injEq,exists_eq_left',go_sem,hF,hP,hZ,gA];repeat' (first | exact Ok.out | with_reducible refine aI ?_ ?_ | (simp;done))))
 | cons c rest=>
  obtain⟨hP,g2,hF,g4⟩:=drop_cons h1
  have hZ:k<4611686018427387904:=by omega
  cases hb:(qD c || o6 c)
  ·simp only [la,hb,Bool.false_eq_true, ↓reduceIte,Nat.add_zero]at h2
   rw [← h2]at hQ
   simp only [Bool.or_eq_false_iff]at hb
   repeat' (first
 | simp only [go_sem,hF,hP,hZ,gA,hb.1,hb.2]
 | (with_reducible refine CU (ij _ _) ?_)
 | (with_reducible refine CU (jy _ _) ?_)
 | (with_reducible refine aG hQ ?_;simp only [ay,az,Option.some.injEq,exists_eq_left',go_sem,hF,hP,hZ,gA];repeat' (first | exact Ok.out | with_reducible refine aI ?_ ?_ | (simp;done))))
  ·simp only [la,hb, ↓reduceIte]at h2
   cases HL:qD c
   ·rw [HL,Bool.false_or]at hb
    repeat' (first
 | simp only [go_sem,hF,hP,hZ,gA,hb,HL]
 | (with_reducible refine CU (ij _ _) ?_)
 | (with_reducible refine CU (jy _ _) ?_)
 | (with_reducible refine aG hQ ?_;simp only [ay,az,Option.some.injEq,exists_eq_left',go_sem,hF,hP,hZ,gA];repeat' (first | exact Ok.out | with_reducible refine aI ?_ ?_ | (simp;done))))
    refine cU 0 0 (IH (rest,k+1) ⟨g2,by dsimp only;omega⟩ (Nat.lt_succ_self _))
   ·repeat' (first
 | simp only [go_sem,hF,hP,hZ,gA,HL]
 | (with_reducible refine CU (ij _ _) ?_)
 | (with_reducible refine CU (jy _ _) ?_)
 | (with_reducible refine aG hQ ?_;simp only [ay,az,Option.some.injEq,exists_eq_left',go_sem,hF,hP,hZ,gA];repeat' (first | exact Ok.out | with_reducible refine aI ?_ ?_ | (simp;done))))
    refine cU 0 0 (IH (rest,k+1) ⟨g2,by dsimp only;omega⟩ (Nat.lt_succ_self _))
theorem yp (text:aC) (a b:Nat):(text.take (a+b)).drop a=(text.drop a).take b:=by rw [List.drop_take];congr 1;omega
set_option maxRecDepth 20000 in
theorem abq {text : aC} {pos : Nat} {c : UInt8} {r : aC} (hd : text.drop pos = c :: r) (hl : text.length < 4611686018427387904) (s : St) :
   aB Tryz.prog yi [.str text, .int .i64 (pos : Int)] s (.int .i64 ((sf (c :: r) : Nat) : Int)) s := by
 refine aB.pure ?_ rfl rfl s
 obtain ⟨hP, g2, g3, g4⟩ := drop_cons hd
 have hZ : pos < 4611686018427387904 := by omega
 have gA : 0 < 1 := Nat.zero_lt_one
 generalize h : sf (c :: r) = k
 unfold S0
 cases r with
 | nil =>
   have hF : decide (((pos + 1 : Nat) : Int) < (text.length : Int)) = false := drop_nil g2
   simp only [sf, G8] at h
   refine aB.go Ak rfl fun B Q hB hQ => ?_
   repeat' (first
 | simp only [go_sem, hF, hP, hZ, gA]
 | (with_reducible first | refine bw fun hc => ?_ | refine bx fun hc => ?_ | refine bA (fun hc => ?_) fun hc => ?_) <;> (try simp only [hc, bs, ↓reduceIte] at h) <;> try simp only [hc]
 | (with_reducible refine aG hQ ?_; exact jS)
 | (cases h; done))
 | cons d r =>
   obtain ⟨_, _, hF, _⟩ := drop_cons g2
   have e1 : (text.take (pos + 2)).drop pos = [c, d] := by rw [yp, hd]; rfl
   have e2 : (0 : Int) ≤ (pos : Int) ∧ (pos : Int) ≤ ((pos + 2 : Nat) : Int) ∧ ((pos + 2 : Nat) : Int) ≤ (text.length : Int) := by omega
   simp only [sf, G8, VI] at h
   refine aB.go Ak rfl fun B Q hB hQ => ?_
   repeat' (first
 | simp only [go_sem, hF, hP, hZ, gA, e1, e2]
 | (with_reducible first | refine bw fun hc => ?_ | refine bx fun hc => ?_ | refine bA (fun hc => ?_) fun hc => ?_) <;> (try simp only [hc, bs, ↓reduceIte] at h) <;> try simp only [hc]
 | (with_reducible refine aG hQ ?_; (try cases h); simp only [ay, az, bF, bG, go_sem, hF, hP, hZ, gA, e1, e2]; try exact mj)
 | (cases h; done))
theorem Qd {c:UInt8} (h:o6 c=true):48≤(c.toNat:Int)∧(c.toNat:Int)≤57:=by
 simp only [o6,Bool.and_eq_true,decide_eq_true_eq]at h
 omega
def oE (s:aC):Int×Bool:=match vB 0 s with | some n=>(n,true) | none=>(0,false)
theorem TB {text:aC} (hd : ∀ c∈text,o6 c=true) (hl:text.length<4611686018427387904) (s:St) :
 aB Tryz.prog uI [.str text] s (.tuple [.int .i64 (oE text).1, .bool (oE text).2]) s:=by
 refine aB.pure ?_ rfl rfl s
 generalize hw:oE text=p
 unfold S0
 refine aB.go ET rfl fun B Q hB hQ=> ?_
 have⟨hF,hP,hZ,gA⟩:=bH
 repeat' (first
 | simp only [go_sem,hF,hP,hZ,gA]
 | (with_reducible first | refine bw fun hc=> ?_ | refine bx fun hc=> ?_ | refine bA (fun hc=> ?_) fun hc=> ?_) <;> (try simp only [hc,bs, ↓reduceIte]at h) <;> try simp only [hc]
 | (with_reducible refine aG hQ ?_;exact jS)
 | (cases h;done))
 refine cU 0 0 (bk.ind (ι:=aC×Nat×Int) (fun i=>text.drop i.2.1=i.1∧0≤i.2.2∧i.2.2≤9223372036854775807∧(match vB i.2.2 i.1 with | some n=>(n,true) | none=>(0,false))=p) (fun i=>i.1.length)
  (fun i=> [(0, .str text),(4, .int .i64 i.2.2),(5, .int .i64 (i.2.1:Int))]) (fun i=>⟨[],[]⟩) ?_ (text,0,0) ⟨rfl,Int.le_refl 0,by dsimp only;omega,hw⟩)
 rintro⟨rest,k,n⟩ ⟨h1,h2,h3,h⟩ IH
 dsimp only at h1 h2 h3 h
 cases rest with
 | nil=>
  have hF:=drop_nil h1
  simp only [vB]at h
  repeat' (first
 | simp only [go_sem,hF,hP,hZ,gA]
 | (with_reducible first | refine bw fun hc=> ?_ | refine bx fun hc=> ?_ | refine bA (fun hc=> ?_) fun hc=> ?_) <;> (try simp only [hc,bs, ↓reduceIte]at h) <;> try simp only [hc]
 | (with_reducible refine aG hQ ?_;exact jS)
 | (cases h;done))
 | cons c rest=>
  obtain⟨hP,g2,hF,g4⟩:=drop_cons h1
  have hZ:k<4611686018427387904:=by omega
  have hc:=Qd (hd c (List.mem_of_getElem? hP))
  have w1:IntKind.wrap .u8 ((c.toNat:Int) - 48)=(c.toNat:Int) - 48:=by rw [IntKind.wrap_u8];omega
  have w2:IntKind.wrap .i64 ((c.toNat:Int) - 48)=(c.toNat:Int) - 48:=c6 (by omega) (by omega)
  have w3:IntKind.wrap .i64 (9223372036854775807 - ((c.toNat:Int) - 48))=9223372036854775807 - ((c.toNat:Int) - 48):=c6 (by omega) (by omega)
  have w4:IntKind.wrap .i64 ((9223372036854775807 - ((c.toNat:Int) - 48)).tdiv 10)=(9223372036854775807 - ((c.toNat:Int) - 48)) / 10:=by
   rw [Int.tdiv_eq_ediv_of_nonneg (by omega)];exact c6 (by omega) (by omega)
  have t10:((10:Int)=0)=False:=by simp
  simp only [vB]at h
  by_cases hn:n > (9223372036854775807 - ((c.toNat:Int) - 48)) / 10
  ·have nV:decide (n > (9223372036854775807 - ((c.toNat:Int) - 48)) / 10)=true:=by simpa using hn
   rw [if_pos hn]at h
   repeat' (first
 | simp only [go_sem,hF,hP,hZ,gA,w1,w2,w3,w4,t10,nV]
 | (with_reducible first | refine bw fun hc=> ?_ | refine bx fun hc=> ?_ | refine bA (fun hc=> ?_) fun hc=> ?_) <;> (try simp only [hc,bs, ↓reduceIte]at h) <;> try simp only [hc]
 | (with_reducible refine aG hQ ?_;(try cases h);simp only [ay,az,bF,bG,go_sem,hF,hP,hZ,gA,w1,w2,w3,w4,t10,nV];try exact mj)
 | (cases h;done))
  ·have nV:decide (n > (9223372036854775807 - ((c.toNat:Int) - 48)) / 10)=false:=by simpa using hn
   rw [if_neg hn]at h
   have w5:IntKind.wrap .i64 (n*10)=n*10:=c6 (by omega) (by omega)
   have w6:IntKind.wrap .i64 (n*10+((c.toNat:Int) - 48))=n*10+((c.toNat:Int) - 48):=c6 (by omega) (by omega)
   repeat' (first
 | simp only [go_sem,hF,hP,hZ,gA,w1,w2,w3,w4,t10,nV,w5,w6]
 | (with_reducible first | refine bw fun hc=> ?_ | refine bx fun hc=> ?_ | refine bA (fun hc=> ?_) fun hc=> ?_) <;> (try simp only [hc,bs, ↓reduceIte]at h) <;> try simp only [hc]
 | (with_reducible refine aG hQ ?_;(try cases h);simp only [ay,az,bF,bG,go_sem,hF,hP,hZ,gA,w1,w2,w3,w4,t10,nV,w5,w6];try exact mj)
 | (cases h;done))
   refine cU 0 0 (IH (rest,k+1,n*10+((c.toNat:Int) - 48)) ⟨g2,by dsimp only;omega,by dsimp only;omega,h⟩ (Nat.lt_succ_self _))
end Go.Abs

/-! Lex2 -/

namespace Go.Abs
set_option maxRecDepth 8000
open Go.Proofs
theorem TC {c:UInt8} {r:aC} (h:qD c=true):0<la (c::r):=by simp [la,h]
theorem IG : ∀ s:aC,la s≤s.length
 | []=>Nat.le_refl _
 | c::r=>by simp only [la];split <;> simp only [List.length_cons] <;> have:=IG r <;> omega
theorem II : ∀ s:aC,qE s≤s.length
 | []=>Nat.le_refl _
 | c::r=>by simp only [qE];split <;> simp only [List.length_cons] <;> have:=II r <;> omega
theorem FE : ∀ s:aC,pJ s≤s.length
 | []=>Nat.le_refl _
 | c::r=>by simp only [pJ];split <;> simp only [List.length_cons] <;> have:=FE r <;> omega
theorem Qe : ∀ s:aC,sf s≤s.length
 | []=>Nat.le_refl _
 | [c]=>by simp only [sf];split <;> simp
 | c::d::r=>by simp only [sf];(repeat' split) <;> simp
theorem IJ : ∀ (s:aC),∀ c∈s.take (qE s),o6 c=true
 | [],c,h=>by simp [qE]at h
 | d::r,c,h=>by
  simp only [qE]at h
  split at h
  ·rw [List.take_succ_cons]at h
   rcases List.mem_cons.1 h with rfl | h
   ·assumption
   ·exact IJ r c h
  ·simp at h
def mE (f:Int×Int):List D:= [.int .i64 f.1, .int .i64 f.2]
def n4 (text:aC) (out:List fB) (pos:Nat):Tm:= [(0, .str text),(3, .ptr 0 0),(4, .slice (.tok 0) 4 (out.map ew)),(5, .ptr 1 0),(6, .int .i64 (pos:Int))]
def oT (out:List fB):St:=⟨[[.int .i64 0, .int .i64 0],[.junk, .junk, .junk, .junk]],[some out.length]⟩
theorem Qf {c:UInt8} {r:aC} (h:((c.toNat:Int)==35)=true):0<pJ (c::r):=by
 have:((c.toNat:Int) != 10)=true:=by simp only [beq_iff_eq]at h;simp [h]
 simp [pJ,this]
def sh (text:aC) (B:fv) (Q:Exit→Tm→St→Prop) (p:List fB×Int×Int) (N:Nat):Prop:=
 ∀ (n pos:Nat) (rest:aC) (out:List fB),text.drop pos=rest→nc n pos rest out=p→rest.length<n→out.length≤2000→pos≤text.length→n<N→
  nM Tryz.prog B 152 uN (.seq .skip Ag) Q (n4 text out pos) (oT out)
theorem sh.to {text:aC} {B:fv} {Q:Exit→Tm→St→Prop} {p:List fB×Int×Int} {N:Nat} (hB:B.s=S0) (IH:sh text B Q p N) {n pos:Nat} {rest:aC} {out:List fB} {tm:Tm} {s:St}
 (h1:text.drop pos=rest) (h:nc n pos rest out=p) (h2:rest.length<n) (h3:out.length≤2000) (h4:pos≤text.length) (h5:n<N)
 (ht:tw tm 2 1 (n4 text out pos)) (ho:gU (s.cut 2 1).aw (oT out).aw) (hk:(s.cut 2 1).aA=(oT out).aA) :
 jC Tryz.prog B 152 uN Q (.goto 0) tm s:=by
 refine Sx (l:=0) (r:= .seq .skip Ag) rfl (nM.re _ _ 2 1 (by rw [hB];exact lY rfl) (by rw [hB];exact lY rfl) ht ho ?_)
 have:=IH n pos rest out h1 h h2 h3 h4 h5
 rw [hk]
 exact this
attribute [go_sem] n4 oT mE
theorem lex_nil {text:aC} (hl:text.length≤100000) {B:fv} {Q:Exit→Tm→St→Prop} {p:List fB×Int×Int} (hB:B.s=S0)
 (hQ:iI 0 0 [(2,none),(3,some (true,2))] (.tuple [.slice .shared 4 (p.1.map ew), .agg (mE p.2)]) ⟨[],[]⟩=Q)
 {n pos:Nat} {out:List fB} (ho:out.length≤2000) (hp:pos≤text.length) (IH:sh text B Q p (n+1))
 (h1:text.drop pos = []) (h:nc (n+1) pos [] out=p):gC Tryz.prog B 152 Ag (jC Tryz.prog B 152 uN Q) (n4 text out pos) (oT out):=by
 have⟨hF,hP,hZ,gA⟩:=bH
 have dH:(out.length+1)*41≤bm:=by simp only [bm];omega
 have eK:decide ((pos:Int)≥(text.length:Int))=true:=by have:=List.drop_eq_nil_iff.1 h1;simp;omega
 have:pos=text.length:=by have:=List.drop_eq_nil_iff.1 h1;omega
 subst this
 simp only [nc]at h
 repeat' (first
 | simp only [go_sem,hF,hP,hZ,gA,eK,dH]
 | (with_reducible first | refine bw fun hc=> ?_ | refine bx fun hc=> ?_ | refine bA (fun hc=> ?_) fun hc=> ?_) <;> (try simp only [hc,bs, ↓reduceIte]at h) <;> try simp only [hc]
 | (with_reducible refine aG hQ ?_;(try cases h);simp only [ay,az,bF,bG,go_sem,hF,hP,hZ,gA,eK,dH];repeat' (first | exact Ok.out | with_reducible refine aI ?_ ?_ | (simp;done))))
theorem Qg {text:aC} (hl:text.length≤100000) {B:fv} {Q:Exit→Tm→St→Prop} {p:List fB×Int×Int} (hB:B.s=S0)
 (hQ:iI 0 0 [(2,none),(3,some (true,2))] (.tuple [.slice .shared 4 (p.1.map ew), .agg (mE p.2)]) ⟨[],[]⟩=Q)
 {n pos:Nat} {out:List fB} (ho:out.length≤2000) (hp:pos≤text.length) (IH:sh text B Q p (n+1))
 {c:UInt8} {r:aC} (h1:text.drop pos=c::r) (hb:zb c=true) (hn:(c::r).length<n+1) (h:nc (n+1) pos (c::r) out=p) :
 gC Tryz.prog B 152 Ag (jC Tryz.prog B 152 uN Q) (n4 text out pos) (oT out):=by
 have hZ:0<1:=Nat.zero_lt_one
 have gA:0<1:=Nat.zero_lt_one
 obtain⟨hP,g2,g3,g4⟩:=drop_cons h1
 have hF:pos<4611686018427387904:=by omega
 have eK:decide ((pos:Int)≥(text.length:Int))=false:=by simp;omega
 simp only [nc,hb, ↓reduceIte]at h
 have nV:r.length<n:=by simp only [List.length_cons]at hn;omega
 have e : ∀ x y:Int,(x==y)=false→(x==y)=true→False:=fun x y a b=>by rw [a]at b;cases b
 simp only [zb]at hb
 repeat' (first
 | simp only [go_sem,hF,hP,hZ,gA,eK]
 | (refine IH.to hB g2 h nV ho g4 (Nat.lt_succ_self _) ?_ ?_ ?_ <;> ((try simp only [go_sem,hF,hP,hZ,gA]);repeat' (first | exact Ok.out | with_reducible refine aI ?_ ?_ | omega | (simp;done)));done)
 | (with_reducible first | refine bw fun hc=> ?_ | refine bx fun hc=> ?_ | refine bA (fun hc=> ?_) fun hc=> ?_) <;> (try simp only [hc,bs, ↓reduceIte]at h) <;> try simp only [hc]
 | (with_reducible refine aG hQ ?_;simp only [ay,az,bF,bG,go_sem,hF,hP,hZ,gA];repeat' (first | exact Ok.out | with_reducible refine aI ?_ ?_ | (simp;done))))
 all_goals (exfalso;simp_all;done)
theorem NS {text:aC} (hl:text.length≤100000) {B:fv} {Q:Exit→Tm→St→Prop} {p:List fB×Int×Int} (hB:B.s=S0)
 (hQ:iI 0 0 [(2,none),(3,some (true,2))] (.tuple [.slice .shared 4 (p.1.map ew), .agg (mE p.2)]) ⟨[],[]⟩=Q)
 {n pos:Nat} {out:List fB} (ho:out.length≤2000) (hp:pos≤text.length) (IH:sh text B Q p (n+1))
 {c:UInt8} {r:aC} (h1:text.drop pos=c::r) (hb:zb c=false) (hc:((c.toNat:Int)==35)=true) (hn:(c::r).length<n+1) (h:nc (n+1) pos (c::r) out=p) :
 gC Tryz.prog B 152 Ag (jC Tryz.prog B 152 uN Q) (n4 text out pos) (oT out):=by
 have hZ:0<1:=Nat.zero_lt_one
 have gA:0<1:=Nat.zero_lt_one
 have yq:=(drop_cons h1).1
 have hP:=yq
 have g4:=(drop_cons h1).2.2.2
 have hF:pos<4611686018427387904:=by omega
 have eK:decide ((pos:Int)≥(text.length:Int))=false:=by simp;omega
 simp only [nc,hb,Bool.false_eq_true, ↓reduceIte,hc]at h
 simp only [zb,Bool.or_eq_false_iff]at hb
 have hk:=Qf (r:=r) hc
 have cv:=FE (c::r)
 have sM:(c::r).length=text.length - pos:=by rw [← h1,List.length_drop]
 generalize hL:pJ (c::r)=L at h hk cv
 repeat' (first
 | simp only [go_sem,hF,hP,hZ,gA,eK,hb.1.1.1,hb.1.1.2,hb.1.2,hb.2,hc]
 | (with_reducible refine bZ (l:=1) (by with_unfolding_all rfl) ?_)
 | (with_reducible refine aG hQ ?_;simp only [ay,az,Option.some.injEq,exists_eq_left',go_sem,hF,hP,hZ,gA];repeat' (first | exact Ok.out | with_reducible refine aI ?_ ?_ | (simp;done))))
 refine cU 2 1 (bk.ind (ι:=aC×Nat) (fun i=>text.drop i.2=i.1∧i.2+pJ i.1=pos+L) (fun i=>i.1.length)
  (fun i=>n4 text out i.2) (fun i=>oT out) ?_ (c::r,pos) ⟨h1,by dsimp only;omega⟩)
 rintro⟨rest,k⟩ ⟨j1,j2⟩ IHl
 dsimp only at j1 j2
 have fin:text.drop (pos+L)=(c::r).drop L:=by rw [← h1,List.drop_drop]
 have hlen:((c::r).drop L).length<n:=by rw [List.length_drop];omega
 cases rest with
 | nil=>
  have eK:=drop_nil j1
  simp only [pJ,Nat.add_zero]at j2
  subst j2
  repeat' (first
 | simp only [go_sem,hF,hP,hZ,gA,eK]
 | (refine IH.to hB fin h hlen ho (by omega) (Nat.lt_succ_self _) ?_ ?_ ?_ <;> ((try simp only [go_sem,hF,hP,hZ,gA]);repeat' (first | exact Ok.out | with_reducible refine aI ?_ ?_ | omega | (simp;done)));done)
 | (with_reducible refine aG hQ ?_;simp only [ay,az,Option.some.injEq,exists_eq_left',go_sem,hF,hP,hZ,gA];repeat' (first | exact Ok.out | with_reducible refine aI ?_ ?_ | (simp;done))))
 | cons d rest=>
  obtain⟨hP,g2,eK,g5⟩:=drop_cons j1
  have hF:k<4611686018427387904:=by omega
  cases hd:((d.toNat:Int) != 10)
  ·simp only [pJ,hd,Bool.false_eq_true, ↓reduceIte,Nat.add_zero]at j2
   subst j2
   repeat' (first
 | simp only [go_sem,hF,hP,hZ,gA,eK,hd]
 | (refine IH.to hB fin h hlen ho (by omega) (Nat.lt_succ_self _) ?_ ?_ ?_ <;> ((try simp only [go_sem,hF,hP,hZ,gA]);repeat' (first | exact Ok.out | with_reducible refine aI ?_ ?_ | omega | (simp;done)));done)
 | (with_reducible refine aG hQ ?_;simp only [ay,az,Option.some.injEq,exists_eq_left',go_sem,hF,hP,hZ,gA];repeat' (first | exact Ok.out | with_reducible refine aI ?_ ?_ | (simp;done))))
  ·simp only [pJ,hd, ↓reduceIte]at j2
   repeat' (first
 | simp only [go_sem,hF,hP,hZ,gA,eK,hd]
 | (with_reducible refine aG hQ ?_;simp only [ay,az,Option.some.injEq,exists_eq_left',go_sem,hF,hP,hZ,gA];repeat' (first | exact Ok.out | with_reducible refine aI ?_ ?_ | (simp;done))))
   refine cU 2 1 (IHl (rest,k+1) ⟨g2,by dsimp only;omega⟩ (Nat.lt_succ_self _))
theorem TD {text:aC} (hl:text.length≤100000) {B:fv} {Q:Exit→Tm→St→Prop} {p:List fB×Int×Int} (hB:B.s=S0)
 (hQ:iI 0 0 [(2,none),(3,some (true,2))] (.tuple [.slice .shared 4 (p.1.map ew), .agg (mE p.2)]) ⟨[],[]⟩=Q)
 {n pos:Nat} {out:List fB} (ho:out.length≤2000) (hp:pos≤text.length) (IH:sh text B Q p (n+1))
 {c:UInt8} {r:aC} (h1:text.drop pos=c::r) (hb:zb c=false) (hc:((c.toNat:Int)==35)=false) (hL:qD c=false) (hD:o6 c=false) (hn:(c::r).length<n+1) (h:nc (n+1) pos (c::r) out=p) :
 gC Tryz.prog B 152 Ag (jC Tryz.prog B 152 uN Q) (n4 text out pos) (oT out):=by
 have hZ:0<1:=Nat.zero_lt_one
 have gA:0<1:=Nat.zero_lt_one
 have hP:=(drop_cons h1).1
 have g4:=(drop_cons h1).2.2.2
 have hF:pos<4611686018427387904:=by omega
 have eK:decide ((pos:Int)≥(text.length:Int))=false:=by simp;omega
 have dH:(out.length+1)*41≤bm:=by simp only [bm];omega
 have Ha:=fun s=>abq h1 (by omega) s
 have cv:=Qe (c::r)
 have sM:(c::r).length=text.length - pos:=by rw [← h1,List.length_drop]
 simp only [nc,hb,Bool.false_eq_true, ↓reduceIte,hc,Ny,hL,hD]at h
 simp only [zb,Bool.or_eq_false_iff]at hb
 generalize hK:sf (c::r)=k at h Ha cv
 have e1:IntKind.wrap .i64 ((pos:Int)+(k:Int))=((pos+k:Nat):Int):=by rw [c6] <;> omega
 have e2:(0:Int)≤(pos:Int)∧(pos:Int)≤((pos+k:Nat):Int)∧((pos+k:Nat):Int)≤(text.length:Int):=by omega
 have e3:(text.take (pos+k)).drop pos=(c::r).take k:=by rw [yp,h1]
 by_cases hz:k=0
 ·have nE:decide (((pos+k:Nat):Int) > (pos:Int))=false:=by simp;omega
  simp only [hz, ↓reduceIte]at h
  repeat' (first
 | simp only [go_sem,hF,hP,hZ,gA,eK,hb.1.1.1,hb.1.1.2,hb.1.2,hb.2,hc,hL,hD,e1,e2,e3,nE]
 | (with_reducible refine CU (ij _ _) ?_)
 | (with_reducible refine CU (jy _ _) ?_)
 | (with_reducible refine CU (Ha _) ?_)
 | (with_reducible refine bZ (l:=4) (by with_unfolding_all rfl) ?_)
 | (with_reducible refine bZ (l:=5) (by with_unfolding_all rfl) ?_)
 | (with_reducible first | refine bw fun hc=> ?_ | refine bx fun hc=> ?_ | refine bA (fun hc=> ?_) fun hc=> ?_) <;> (try simp only [hc,bs, ↓reduceIte]at h) <;> try simp only [hc]
 | (with_reducible refine aG hQ ?_;(try cases h);simp only [ay,az,bF,bG,go_sem,hF,hP,hZ,gA,eK,hb.1.1.1,hb.1.1.2,hb.1.2,hb.2,hc,hL,hD,e1,e2,e3,nE];repeat' (first | exact Ok.out | with_reducible refine aI ?_ ?_ | (simp;done))))
 ·have nE:decide (((pos+k:Nat):Int) > (pos:Int))=true:=by simp;omega
  have hlen:((c::r).take k).length=k:=by rw [List.length_take];omega
  have fin:text.drop (pos+k)=(c::r).drop k:=by rw [← h1,List.drop_drop]
  have tT:((c::r).drop k).length<n:=by rw [List.length_drop];omega
  simp only [hz, ↓reduceIte,hlen]at h
  by_cases rj:out.length=2000
  ·have jP:((out.length:Int)==2000)=true:=by simp [rj]
   simp only [rj, ↓reduceIte]at h
   repeat' (first
 | simp only [go_sem,hF,hP,hZ,gA,eK,hb.1.1.1,hb.1.1.2,hb.1.2,hb.2,hc,hL,hD,e1,e2,e3,nE,jP]
 | (with_reducible refine CU (ij _ _) ?_)
 | (with_reducible refine CU (jy _ _) ?_)
 | (with_reducible refine CU (Ha _) ?_)
 | (with_reducible refine bZ (l:=4) (by with_unfolding_all rfl) ?_)
 | (with_reducible refine bZ (l:=5) (by with_unfolding_all rfl) ?_)
 | (with_reducible first | refine bw fun hc=> ?_ | refine bx fun hc=> ?_ | refine bA (fun hc=> ?_) fun hc=> ?_) <;> (try simp only [hc,bs, ↓reduceIte]at h) <;> try simp only [hc]
 | (with_reducible refine aG hQ ?_;(try cases h);simp only [ay,az,bF,bG,go_sem,hF,hP,hZ,gA,eK,hb.1.1.1,hb.1.1.2,hb.1.2,hb.2,hc,hL,hD,e1,e2,e3,nE,jP];repeat' (first | exact Ok.out | with_reducible refine aI ?_ ?_ | (simp;done))))
  ·have jP:((out.length:Int)==2000)=false:=by simp;omega
   have BM : ∀ t:fB,(out++ [t]).length≤2000:=by intro t;simp;omega
   simp only [rj, ↓reduceIte]at h
   repeat' (first
 | simp only [go_sem,hF,hP,hZ,gA,eK,hb.1.1.1,hb.1.1.2,hb.1.2,hb.2,hc,hL,hD,e1,e2,e3,nE,jP,dH]
 | (with_reducible refine CU (ij _ _) ?_)
 | (with_reducible refine CU (jy _ _) ?_)
 | (with_reducible refine CU (Ha _) ?_)
 | (with_reducible refine bZ (l:=4) (by with_unfolding_all rfl) ?_)
 | (with_reducible refine bZ (l:=5) (by with_unfolding_all rfl) ?_)
 | (refine IH.to hB fin h tT (BM _) (by omega) (Nat.lt_succ_self _) ?_ ?_ ?_ <;> ((try simp only [go_sem,hF,hP,hZ,gA]);repeat' (first | exact Ok.out | with_reducible refine aI ?_ ?_ | omega | (simp;done)));done)
 | (with_reducible refine aG hQ ?_;simp only [ay,az,bF,bG,go_sem,hF,hP,hZ,gA];repeat' (first | exact Ok.out | with_reducible refine aI ?_ ?_ | (simp;done))))
theorem TE {text:aC} (hl:text.length≤100000) {B:fv} {Q:Exit→Tm→St→Prop} {p:List fB×Int×Int} (hB:B.s=S0)
 (hQ:iI 0 0 [(2,none),(3,some (true,2))] (.tuple [.slice .shared 4 (p.1.map ew), .agg (mE p.2)]) ⟨[],[]⟩=Q)
 {n pos:Nat} {out:List fB} (ho:out.length≤2000) (hp:pos≤text.length) (IH:sh text B Q p (n+1))
 {c:UInt8} {r:aC} (h1:text.drop pos=c::r) (hb:zb c=false) (hc:((c.toNat:Int)==35)=false) (hL:qD c=true) (hn:(c::r).length<n+1) (h:nc (n+1) pos (c::r) out=p) :
 gC Tryz.prog B 152 Ag (jC Tryz.prog B 152 uN Q) (n4 text out pos) (oT out):=by
 have hZ:0<1:=Nat.zero_lt_one
 have gA:0<1:=Nat.zero_lt_one
 have hP:=(drop_cons h1).1
 have g4:=(drop_cons h1).2.2.2
 have hF:pos<4611686018427387904:=by omega
 have eK:decide ((pos:Int)≥(text.length:Int))=false:=by simp;omega
 have dH:(out.length+1)*41≤bm:=by simp only [bm];omega
 have dn:=fun s=>WE (text:=text) (pos:=pos) (by omega) s
 rw [h1]at dn
 have cv:=IG (c::r)
 have uj:=TC (r:=r) hL
 have sM:(c::r).length=text.length - pos:=by rw [← h1,List.length_drop]
 simp only [nc,hb,Bool.false_eq_true, ↓reduceIte,hc,Ny,hL]at h
 simp only [zb,Bool.or_eq_false_iff]at hb
 generalize hK:la (c::r)=k at h dn cv uj
 have hlen:((c::r).take k).length=k:=by rw [List.length_take];omega
 simp only [hlen]at h
 have e1:IntKind.wrap .i64 (((pos+k:Nat):Int) - (pos:Int))=(k:Int):=by rw [c6] <;> omega
 have e2:(0:Int)≤(pos:Int)∧(pos:Int)≤((pos+k:Nat):Int)∧((pos+k:Nat):Int)≤(text.length:Int):=by omega
 have e3:(text.take (pos+k)).drop pos=(c::r).take k:=by rw [yp,h1]
 by_cases hz:k > 8
 ·have nE:decide ((k:Int) > 8)=true:=by simp;omega
  simp only [hz, ↓reduceIte]at h
  cases hw:isWord ((c::r).take k)
  ·repeat' (first
 | simp only [go_sem,hF,hP,hZ,gA,eK,hb.1.1.1,hb.1.1.2,hb.1.2,hb.2,hc,hL,e1,e2,e3,nE,hw]
 | (with_reducible refine CU (ij _ _) ?_)
 | (with_reducible refine CU (dn _) ?_)
 | (with_reducible refine CU (uP _ _) ?_)
 | (with_reducible refine bZ (l:=2) (by with_unfolding_all rfl) ?_)
 | (with_reducible refine bZ (l:=4) (by with_unfolding_all rfl) ?_)
 | (with_reducible refine bZ (l:=5) (by with_unfolding_all rfl) ?_)
 | (with_reducible first | refine bw fun hc=> ?_ | refine bx fun hc=> ?_ | refine bA (fun hc=> ?_) fun hc=> ?_) <;> (try simp only [hc,bs, ↓reduceIte]at h) <;> try simp only [hc]
 | (with_reducible refine aG hQ ?_;(try cases h);simp only [ay,az,bF,bG,go_sem,hF,hP,hZ,gA,eK,hb.1.1.1,hb.1.1.2,hb.1.2,hb.2,hc,hL,e1,e2,e3,nE,hw];repeat' (first | exact Ok.out | with_reducible refine aI ?_ ?_ | (simp;done))))
  ·repeat' (first
 | simp only [go_sem,hF,hP,hZ,gA,eK,hb.1.1.1,hb.1.1.2,hb.1.2,hb.2,hc,hL,e1,e2,e3,nE,hw]
 | (with_reducible refine CU (ij _ _) ?_)
 | (with_reducible refine CU (dn _) ?_)
 | (with_reducible refine CU (uP _ _) ?_)
 | (with_reducible refine bZ (l:=2) (by with_unfolding_all rfl) ?_)
 | (with_reducible refine bZ (l:=4) (by with_unfolding_all rfl) ?_)
 | (with_reducible refine bZ (l:=5) (by with_unfolding_all rfl) ?_)
 | (with_reducible first | refine bw fun hc=> ?_ | refine bx fun hc=> ?_ | refine bA (fun hc=> ?_) fun hc=> ?_) <;> (try simp only [hc,bs, ↓reduceIte]at h) <;> try simp only [hc]
 | (with_reducible refine aG hQ ?_;(try cases h);simp only [ay,az,bF,bG,go_sem,hF,hP,hZ,gA,eK,hb.1.1.1,hb.1.1.2,hb.1.2,hb.2,hc,hL,e1,e2,e3,nE,hw];repeat' (first | exact Ok.out | with_reducible refine aI ?_ ?_ | (simp;done))))
 ·have nE:decide ((k:Int) > 8)=false:=by simp;omega
  have fin:text.drop (pos+k)=(c::r).drop k:=by rw [← h1,List.drop_drop]
  have tT:((c::r).drop k).length<n:=by rw [List.length_drop];omega
  simp only [hz, ↓reduceIte,hlen]at h
  by_cases rj:out.length=2000
  ·have jP:((out.length:Int)==2000)=true:=by simp [rj]
   simp only [rj, ↓reduceIte]at h
   cases hw:isWord ((c::r).take k)
   ·repeat' (first
 | simp only [go_sem,hF,hP,hZ,gA,eK,hb.1.1.1,hb.1.1.2,hb.1.2,hb.2,hc,hL,e1,e2,e3,nE,jP,hw]
 | (with_reducible refine CU (ij _ _) ?_)
 | (with_reducible refine CU (dn _) ?_)
 | (with_reducible refine CU (uP _ _) ?_)
 | (with_reducible refine bZ (l:=2) (by with_unfolding_all rfl) ?_)
 | (with_reducible refine bZ (l:=4) (by with_unfolding_all rfl) ?_)
 | (with_reducible refine bZ (l:=5) (by with_unfolding_all rfl) ?_)
 | (with_reducible first | refine bw fun hc=> ?_ | refine bx fun hc=> ?_ | refine bA (fun hc=> ?_) fun hc=> ?_) <;> (try simp only [hc,bs, ↓reduceIte]at h) <;> try simp only [hc]
 | (with_reducible refine aG hQ ?_;(try cases h);simp only [ay,az,bF,bG,go_sem,hF,hP,hZ,gA,eK,hb.1.1.1,hb.1.1.2,hb.1.2,hb.2,hc,hL,e1,e2,e3,nE,jP,hw];repeat' (first | exact Ok.out | with_reducible refine aI ?_ ?_ | (simp;done))))
   ·repeat' (first
 | simp only [go_sem,hF,hP,hZ,gA,eK,hb.1.1.1,hb.1.1.2,hb.1.2,hb.2,hc,hL,e1,e2,e3,nE,jP,hw]
 | (with_reducible refine CU (ij _ _) ?_)
 | (with_reducible refine CU (dn _) ?_)
 | (with_reducible refine CU (uP _ _) ?_)
 | (with_reducible refine bZ (l:=2) (by with_unfolding_all rfl) ?_)
 | (with_reducible refine bZ (l:=4) (by with_unfolding_all rfl) ?_)
 | (with_reducible refine bZ (l:=5) (by with_unfolding_all rfl) ?_)
 | (with_reducible first | refine bw fun hc=> ?_ | refine bx fun hc=> ?_ | refine bA (fun hc=> ?_) fun hc=> ?_) <;> (try simp only [hc,bs, ↓reduceIte]at h) <;> try simp only [hc]
 | (with_reducible refine aG hQ ?_;(try cases h);simp only [ay,az,bF,bG,go_sem,hF,hP,hZ,gA,eK,hb.1.1.1,hb.1.1.2,hb.1.2,hb.2,hc,hL,e1,e2,e3,nE,jP,hw];repeat' (first | exact Ok.out | with_reducible refine aI ?_ ?_ | (simp;done))))
  ·have jP:((out.length:Int)==2000)=false:=by simp;omega
   have BM : ∀ t:fB,(out++ [t]).length≤2000:=by intro t;simp;omega
   simp only [rj, ↓reduceIte]at h
   cases hw:isWord ((c::r).take k)
   ·simp only [hw,Bool.false_eq_true, ↓reduceIte]at h
    repeat' (first
 | simp only [go_sem,hF,hP,hZ,gA,eK,hb.1.1.1,hb.1.1.2,hb.1.2,hb.2,hc,hL,e1,e2,e3,nE,jP,dH,hw]
 | (with_reducible refine CU (ij _ _) ?_)
 | (with_reducible refine CU (dn _) ?_)
 | (with_reducible refine CU (uP _ _) ?_)
 | (with_reducible refine bZ (l:=2) (by with_unfolding_all rfl) ?_)
 | (with_reducible refine bZ (l:=4) (by with_unfolding_all rfl) ?_)
 | (with_reducible refine bZ (l:=5) (by with_unfolding_all rfl) ?_)
 | (refine IH.to hB fin h tT (BM _) (by omega) (Nat.lt_succ_self _) ?_ ?_ ?_ <;> ((try simp only [go_sem,hF,hP,hZ,gA]);repeat' (first | exact Ok.out | with_reducible refine aI ?_ ?_ | omega | (simp;done)));done)
 | (with_reducible first | refine bw fun hc=> ?_ | refine bx fun hc=> ?_ | refine bA (fun hc=> ?_) fun hc=> ?_) <;> (try simp only [hc,bs, ↓reduceIte]at h) <;> try simp only [hc]
 | (with_reducible refine aG hQ ?_;(try cases h);simp only [ay,az,bF,bG,go_sem,hF,hP,hZ,gA,eK,hb.1.1.1,hb.1.1.2,hb.1.2,hb.2,hc,hL,e1,e2,e3,nE,jP,dH,hw];repeat' (first | exact Ok.out | with_reducible refine aI ?_ ?_ | (simp;done))))
   ·simp only [hw, ↓reduceIte]at h
    repeat' (first
 | simp only [go_sem,hF,hP,hZ,gA,eK,hb.1.1.1,hb.1.1.2,hb.1.2,hb.2,hc,hL,e1,e2,e3,nE,jP,dH,hw]
 | (with_reducible refine CU (ij _ _) ?_)
 | (with_reducible refine CU (dn _) ?_)
 | (with_reducible refine CU (uP _ _) ?_)
 | (with_reducible refine bZ (l:=2) (by with_unfolding_all rfl) ?_)
 | (with_reducible refine bZ (l:=4) (by with_unfolding_all rfl) ?_)
 | (with_reducible refine bZ (l:=5) (by with_unfolding_all rfl) ?_)
 | (refine IH.to hB fin h tT (BM _) (by omega) (Nat.lt_succ_self _) ?_ ?_ ?_ <;> ((try simp only [go_sem,hF,hP,hZ,gA]);repeat' (first | exact Ok.out | with_reducible refine aI ?_ ?_ | omega | (simp;done)));done)
 | (with_reducible refine aG hQ ?_;simp only [ay,az,bF,bG,go_sem,hF,hP,hZ,gA];repeat' (first | exact Ok.out | with_reducible refine aI ?_ ?_ | (simp;done))))
end Go.Abs

/-! RefLex1 -/

namespace Go.Abs
set_option maxRecDepth 8000
open Go.Proofs
theorem IK (c:UInt8) (s:St):aB Tryz.prog qP [.int .u8 (c.toNat:Int)] s (.bool (qD c)) s:=by
 refine aB.pure ?_ rfl rfl s
 generalize h:qD c=b
 unfold qD at h
 unfold S0
 refine aB.go EN rfl fun B Q hB hQ=> ?_
 have⟨hF,hP,hZ,gA⟩:=bH
 repeat' (first
 | simp only [go_sem,hF,hP,hZ,gA]
 | (with_reducible first | refine bw fun hc=> ?_ | refine bx fun hc=> ?_ | refine bA (fun hc=> ?_) fun hc=> ?_) <;> (try simp only [hc,bs, ↓reduceIte]at h) <;> try simp only [hc]
 | (with_reducible refine aG hQ ?_;(try cases h);simp only [ay,az,bF,bG,go_sem,hF,hP,hZ,gA];repeat' (first | exact Ok.out | with_reducible refine aI ?_ ?_ | (simp;done))))
theorem TF (c:UInt8) (s:St):aB Tryz.prog uK [.int .u8 (c.toNat:Int)] s (.bool (o6 c)) s:=by
 refine aB.pure ?_ rfl rfl s
 generalize h:o6 c=b
 unfold o6 at h
 unfold S0
 refine aB.go EO rfl fun B Q hB hQ=> ?_
 have⟨hF,hP,hZ,gA⟩:=bH
 repeat' (first
 | simp only [go_sem,hF,hP,hZ,gA]
 | (with_reducible first | refine bw fun hc=> ?_ | refine bx fun hc=> ?_ | refine bA (fun hc=> ?_) fun hc=> ?_) <;> (try simp only [hc,bs, ↓reduceIte]at h) <;> try simp only [hc]
 | (with_reducible refine aG hQ ?_;(try cases h);simp only [ay,az,bF,bG,go_sem,hF,hP,hZ,gA];repeat' (first | exact Ok.out | with_reducible refine aI ?_ ?_ | (simp;done))))
theorem XZ (s:St):aB Tryz.prog uL [] s (.slice .shared 1 [[.str [103,108,111,98,97,108]],[.str [112,114,111,99]],[.str [118,97,114]],[.str [114,101,102]],[.str [105,102]],[.str [101,108,115,101]],[.str [119,104,105,108,101]],[.str [98,114,101,97,107]],[.str [99,111,110,116,105,110,117,101]],[.str [114,101,116,117,114,110]],[.str [103,111,116,111]],[.str [114,101,97,100]],[.str [112,114,105,110,116]]]) s:=by
 refine aB.pure ?_ rfl rfl s
 unfold S0
 refine aB.go EP rfl fun B Q hB hQ=> ?_
 have⟨hF,hP,hZ,gA⟩:=bH
 repeat' (first
 | simp only [go_sem,hF,hP,hZ,gA]
 | (with_reducible refine aG hQ ?_;simp only [ay,az,Option.some.injEq,exists_eq_left',go_sem,hF,hP,hZ,gA];repeat' (first | exact Ok.out | with_reducible refine aI ?_ ?_ | (simp;done))))
def Ba (s:aC):Bool:=
 [103,108,111,98,97,108] == s || [112,114,111,99] == s || [118,97,114] == s || [114,101,102] == s || [105,102] == s || [101,108,115,101] == s || [119,104,105,108,101] == s || [98,114,101,97,107] == s || [99,111,110,116,105,110,117,101] == s || [114,101,116,117,114,110] == s || [103,111,116,111] == s || [114,101,97,100] == s || [112,114,105,110,116] == s
theorem NT (s:aC):Ba s=isWord s:=by
 have e : ∀ a:aC,(a==s)=(s==a):=fun a=>BEq.comm
 simp only [Ba,isWord,e]
theorem X0 (text:aC) (s:St):aB Tryz.prog wz [.str text] s (.bool (isWord text)) s:=by
 refine aB.pure ?_ rfl rfl s
 rw [← NT]
 generalize h:Ba text=p
 unfold Ba at h
 unfold S0
 refine aB.go GC rfl fun B Q hB hQ=> ?_
 have⟨hF,hP,hZ,gA⟩:=bH
 repeat' (first
 | simp only [go_sem,hF,hP,hZ,gA,Int.cast_ofNat_Int,c6,Int.reduceAdd,Int.reduceLT,Int.reduceNeg,decide_true,decide_false,Int.reduceToNat]
 | (with_reducible refine CU (XZ _) ?_)
 | (with_reducible refine bk.qA ?_)
 | (with_reducible first | refine bw fun hc=> ?_ | refine bx fun hc=> ?_ | refine bA (fun hc=> ?_) fun hc=> ?_) <;> (try simp only [hc,bs, ↓reduceIte]at h) <;> try simp only [hc]
 | (with_reducible refine aG hQ ?_;(try cases h);simp only [ay,az,bF,bG,go_sem,hF,hP,hZ,gA,Int.cast_ofNat_Int,c6,Int.reduceAdd,Int.reduceLT,Int.reduceNeg,decide_true,decide_false,Int.reduceToNat];repeat' (first | exact Ok.out | with_reducible refine aI ?_ ?_ | (simp;done))))
end Go.Abs

/-! Prs2 -/

namespace Go.Abs
set_option maxRecDepth 8000
open Go.Proofs
theorem aoj {t:fB} {p:Int×Int} (h:qC t=p):aB Tryz.prog tR [.agg (ew t)] S0 (.tuple [.int .i64 p.1, .int .i64 p.2]) S0:=by
 unfold qC at h
 unfold S0
 refine aB.go ID rfl fun B Q hB hQ=> ?_
 have⟨hF,hP,hZ,gA⟩:=bH
 repeat' (first
 | simp only [go_sem,hF,hP,hZ,gA]
 | (with_reducible first | refine bw fun hc=> ?_ | refine bx fun hc=> ?_ | refine bA (fun hc=> ?_) fun hc=> ?_) <;> (try simp only [hc,bs, ↓reduceIte]at h) <;> try simp only [hc]
 | (with_reducible refine aG hQ ?_;(try cases h);simp only [ay,az,bF,bG,go_sem,hF,hP,hZ,gA];repeat' (first | exact Ok.out | with_reducible refine aI ?_ ?_ | (simp;done))))
theorem X1 : ∀ n,n<4611686018427387904→∀ x:Ex,x.size≤n→aB Tryz.prog lh [.agg (bu x)] S0 (.int .i64 (x.depth:Int)) S0:=by
 intro n
 induction n with
 | zero=>rintro _ ⟨op,m,name,kids⟩ h;simp only [Ex.size]at h;omega
 | succ n Qh=>
 rintro hn ⟨op,m,name,kids⟩ hx
 have hk : ∀ y∈kids,aB Tryz.prog lh [.agg (bu y)] S0 (.int .i64 (y.depth:Int)) S0:=fun y hy=>Qh (by omega) y (by simp only [Ex.size]at hx;have:=Ex.bV hy;omega)
 have hlen:kids.length<4611686018427387904:=by simp only [Ex.size]at hx;have:=Ex.cP kids;omega
 have Mg:Ex.gM kids<4611686018427387904:=by have:=Ex.Nw _ _ hx;simp only [Ex.depth]at this;omega
 unfold S0
 refine aB.go Dd rfl fun B Q hB hQ=> ?_
 have⟨hF,hP,hZ,gA⟩:=bH
 repeat' (first
 | simp only [go_sem,hF,hP,hZ,gA]
 | (with_reducible first | refine bw fun hc=> ?_ | refine bx fun hc=> ?_ | refine bA (fun hc=> ?_) fun hc=> ?_) <;> (try simp only [hc,bs, ↓reduceIte]at h) <;> try simp only [hc]
 | (with_reducible refine aG hQ ?_;simp only [ay,az,bF,bG,go_sem,hF,hP,hZ,gA];repeat' (first | exact Ok.out | with_reducible refine aI ?_ ?_ | (simp;done))))
 refine cU 0 0 (bk.ind (ι:=List Ex×Nat×Nat) (fun i=>kids.drop i.2.1=i.1∧max i.2.2 (Ex.gM i.1)=Ex.gM kids) (fun i=>i.1.length)
  (fun i=> [(3, .int .i64 (i.2.2:Int)),(7, .slice .shared 4 (kids.map bu)),(8, .int .i64 (kids.length:Int)),(9, .int .i64 (i.2.1:Int))]) (fun _=>S0) ?_ (kids,0,0) ⟨rfl,by simp⟩)
 rintro⟨rest,k,acc⟩ ⟨h1,h2⟩ IH
 unfold S0
 cases rest with
 | nil=>
  have hF:=drop_nil h1
  simp only [Ex.gM,Nat.max_zero]at h2
  subst h2
  repeat' (first
 | simp only [go_sem,hF,hP,hZ,gA,aM Mg,Ex.depth]
 | (with_reducible first | refine bw fun hc=> ?_ | refine bx fun hc=> ?_ | refine bA (fun hc=> ?_) fun hc=> ?_) <;> (try simp only [hc,bs, ↓reduceIte]at h) <;> try simp only [hc]
 | (with_reducible refine aG hQ ?_;simp only [ay,az,bF,bG,go_sem,hF,hP,hZ,gA,aM Mg,Ex.depth];repeat' (first | exact Ok.out | with_reducible refine aI ?_ ?_ | (simp;done))))
 | cons y rest=>
  obtain⟨g1,g2,hF,g4⟩:=drop_cons h1
  simp only [Ex.gM]at h2
  have hy:=fun s=>(hk y (List.mem_of_getElem? g1)).pure (by simp [D.bp,D.ok,gE]) rfl s
  dsimp only at g1 g2 hF g4 h2
  repeat' (first
 | simp only [go_sem,hF,hP,hZ,gA,g1]
 | (with_reducible refine CU (hy _) ?_)
 | (with_reducible refine aG hQ ?_;simp only [ay,az,bF,bG,go_sem,hF,hP,hZ,gA];repeat' (first | exact Ok.out | with_reducible refine aI ?_ ?_ | (simp;done))))
  refine dZ 0 0 ?_ ?_ (IH (rest,k+1,max acc y.depth) ⟨g2,by dsimp only;omega⟩ (by simp))
  ·(simp only [go_sem,hF,hP,hZ,gA,mx,aM (show k<4611686018427387904 by omega)];try exact bO)
  ·(simp only [go_sem,hF,hP,hZ,gA,mx,aM (show k<4611686018427387904 by omega)];try exact bO)
theorem X2 {x:Ex} {d:Int} (h:Iq x=some d) (s:St):aB Tryz.prog lh [.agg (bu x)] s (.int .i64 d) s:=by
 unfold Iq at h
 split at h
 ·cases h;exact(X1 x.size ‹_› x (Nat.le_refl _)).pure (by simp [D.bp,D.ok,gE]) rfl s
 ·cases h
theorem aok (t:fB) (s:St):aB Tryz.prog tR [.agg (ew t)] s (.tuple [.int .i64 (qC t).1, .int .i64 (qC t).2]) s:=(aoj rfl).pure rfl rfl s
theorem afd {c:Prop} [Decidable c] {α:Type} {P:α→Prop} {a b:α} (ha:P a) (hb:P b):P (if c then a else b):=by
 by_cases h:c
 ·rw [if_pos h];exact ha
 ·rw [if_neg h];exact hb
def OpR (p:Int×Int):Prop:=0≤p.2∧p.2≤6
theorem TG (t:fB):OpR (qC t):=by
 unfold qC
 repeat' with_reducible refine afd (P:=OpR) ?_ ?_
 all_goals exact⟨by decide,by decide⟩
theorem KP (t:fB):IntKind.wrap .i64 ((qC t).2+1)=(qC t).2+1:=by
 have:0≤(qC t).2∧(qC t).2≤6:=TG t
 rw [c6] <;> omega
abbrev Hb (m:Nat):Prop:=∀ {r:Rd} {p:Ex×Rd},Rd.one m r=some p→∀ {s:St} {o:Nat},s.aw[o]? = some (cm r)→aB Tryz.prog jL [.ptr o 0] s (.agg (bu p.1)) ⟨s.aw.set o (cm p.2),s.aA⟩
abbrev Hc (m:Nat):Prop:=∀ {k:Int} {r:Rd} {p:Ex×Rd},Rd.two m k r=some p→∀ {s:St} {o:Nat},s.aw[o]? = some (cm r)→aB Tryz.prog iO [.ptr o 0, .int .i64 k] s (.agg (bu p.1)) ⟨s.aw.set o (cm p.2),s.aA⟩
theorem TH {m:Nat} (Hd:Hb m) (Di:Hc m):Hb (m+1):=by
 intro r p h s o ho
 refine aB.jY ?_ rfl (fM r) (fM p.2) (by simp [D.ok,gE]) ho
 unfold Rd.one at h
 refine aB.go yn rfl fun B Q hB hQ=> ?_
 have⟨hF,hP,hZ,gA⟩:=bH
 repeat' (first
 | simp only [go_sem,hF,hP,hZ,gA]
 | (rw [Option.bind_eq_some_iff]at h;obtain⟨_,h1,h⟩:=h;first | (with_reducible refine CU (oD h1 (by with_unfolding_all rfl)) ?_;have hF:=rK h1) | (with_reducible refine CU (sL h1 (by with_unfolding_all rfl)) ?_) | (with_reducible refine CU (Di h1 (by with_unfolding_all rfl)) ?_) | (with_reducible refine CU (pB h1 (by with_unfolding_all rfl)) ?_) | (with_reducible refine CU (Hd h1 (by with_unfolding_all rfl)) ?_) | (with_reducible refine CU (Dh h1 (by with_unfolding_all rfl)) ?_))
 | (with_reducible refine CU (kh (by with_unfolding_all rfl)) ?_)
 | (with_reducible first | refine bw fun hc=> ?_ | refine bx fun hc=> ?_ | refine bA (fun hc=> ?_) fun hc=> ?_) <;> (try simp only [hc,bs, ↓reduceIte]at h) <;> try simp only [hc]
 | (with_reducible refine aG hQ ?_;(try cases h);simp only [ay,az,bF,bG,go_sem,hF,hP,hZ,gA];repeat' (first | exact Ok.out | with_reducible refine aI ?_ ?_ | (simp;done))))
theorem TI {m:Nat} (Hd:Hb m) (Di : ∀ j<m,Hc j):Hc (m+1):=by
 intro k r p h s o ho
 refine aB.jY ?_ rfl (fM r) (fM p.2) (by simp [D.ok,gE]) ho
 unfold Rd.two at h
 refine aB.go ym rfl fun B Q hB hQ=> ?_
 have⟨hF,hP,hZ,gA⟩:=bH
 repeat' (first
 | simp only [go_sem,hF,hP,hZ,gA]
 | (rw [Option.bind_eq_some_iff]at h;obtain⟨_,h1,h⟩:=h;first | (with_reducible refine CU (Hd h1 (by with_unfolding_all rfl)) ?_))
 | (with_reducible refine aG hQ ?_;simp only [ay,az,bF,bG,go_sem,hF,hP,hZ,gA];repeat' (first | exact Ok.out | with_reducible refine aI ?_ ?_ | (simp;done))))
 refine cU 3 0 (bk.ind (ι:=Nat×Ex×Rd) (fun i=>Rd.Ev i.1 k i.2.1 i.2.2=some p∧i.1≤m) (fun i=>i.1)
  (fun i=> [(0, .ptr 0 0),(1, .int .i64 k),(4, .ptr 1 0),(5, .ptr 2 0)]) (fun i=>⟨[cm i.2.2,bu mU,bu i.2.1],[]⟩) ?_ (m,_,_) ⟨h,Nat.le_refl _⟩)
 rintro⟨n,x,r⟩ ⟨h,hn⟩ IH
 cases n with
 | zero=>simp only [Rd.Ev]at h;cases h
 | succ n=>
  have afe:=@Di n (by omega)
  simp only [Rd.Ev]at h
  repeat' (first
 | simp only [go_sem,hF,hP,hZ,gA,KP]
 | (rw [Option.bind_eq_some_iff]at h;obtain⟨_,h1,h⟩:=h;first | (with_reducible refine CU (oD h1 (by with_unfolding_all rfl)) ?_;have hF:=rK h1) | (with_reducible refine CU (afe h1 (by with_unfolding_all rfl)) ?_))
 | (with_reducible refine CU (kh (by with_unfolding_all rfl)) ?_)
 | (with_reducible refine CU (aok _ _) ?_)
 | (with_reducible first | refine bw fun hc=> ?_ | refine bx fun hc=> ?_ | refine bA (fun hc=> ?_) fun hc=> ?_) <;> (try simp only [hc,bs, ↓reduceIte]at h) <;> try simp only [hc]
 | (with_reducible refine aG hQ ?_;(try cases h);simp only [ay,az,bF,bG,go_sem,hF,hP,hZ,gA,KP];repeat' (first | exact Ok.out | with_reducible refine aI ?_ ?_ | (simp;done))))
  refine cU 3 0 (IH (n,_,_) ⟨h,by dsimp only at hn ⊢;omega⟩ (Nat.lt_succ_self _))
theorem X3 : ∀ n,∀ m<n,Hb m∧Hc m:=by
 intro n
 induction n with
 | zero=>intro m h;exact absurd h (Nat.not_lt_zero _)
 | succ n ih=>
  intro m h
  cases m with
  | zero=>
   refine⟨?_, ?_⟩
   ·intro r p h;simp only [Rd.one]at h;cases h
   ·intro k r p h;simp only [Rd.two]at h;cases h
  | succ m=>
   have hm:=ih m (by omega)
   exact⟨TH hm.1 hm.2,TI hm.1 fun j hj=>(ih j (by omega)).2⟩
theorem Di {m:Nat} {k:Int} {r:Rd} {p:Ex×Rd} (h:Rd.two m k r=some p) {s:St} {o:Nat} (ho:s.aw[o]? = some (cm r)) :
 aB Tryz.prog iO [.ptr o 0, .int .i64 k] s (.agg (bu p.1)) ⟨s.aw.set o (cm p.2),s.aA⟩:=(X3 (m+1) m (Nat.lt_succ_self _)).2 h ho
theorem Bb {n:Nat} {r:Rd} {p:Ex×Rd} (h:Rd.whole n r=some p) {s:St} {o:Nat} (ho:s.aw[o]? = some (cm r)) :
 aB Tryz.prog gp [.ptr o 0] s (.agg (bu p.1)) ⟨s.aw.set o (cm p.2),s.aA⟩:=by
 refine aB.jY ?_ rfl (fM r) (fM p.2) (by simp [D.ok,gE]) ho
 unfold Rd.whole at h
 refine aB.go wI rfl fun B Q hB hQ=> ?_
 have⟨hF,hP,hZ,gA⟩:=bH
 repeat' (first
 | simp only [go_sem,hF,hP,hZ,gA]
 | (rw [Option.bind_eq_some_iff]at h;obtain⟨_,h1,h⟩:=h;first | (with_reducible refine CU (oD h1 (by with_unfolding_all rfl)) ?_) | (with_reducible refine CU (X2 h1 _) ?_) | (with_reducible refine CU (Di h1 (by with_unfolding_all rfl)) ?_))
 | (with_reducible refine CU (kh (by with_unfolding_all rfl)) ?_)
 | (with_reducible first | refine bw fun hc=> ?_ | refine bx fun hc=> ?_ | refine bA (fun hc=> ?_) fun hc=> ?_) <;> (try simp only [hc,bs, ↓reduceIte]at h) <;> try simp only [hc]
 | (with_reducible refine aG hQ ?_;(try cases h);simp only [ay,az,bF,bG,go_sem,hF,hP,hZ,gA];repeat' (first | exact Ok.out | with_reducible refine aI ?_ ?_ | (simp;done))))
end Go.Abs

/-! Ref1 -/

namespace Go.Abs
set_option maxRecDepth 8000
open Go.Proofs
@[go_sem] def vH (z:D) (r:Rd):List D:= [.slice .shared 4 (r.l.map ew), .int .i64 r.i, .int .i64 r.code, .int .i64 r.vz,z]
class Cell (z:D):Prop where
 ok:D.ok 0 0 z=true
 fg : ∀ n m,D.fg n m z=z
instance (n:Int):Cell (.int .i64 n):=⟨rfl,fun _ _=>rfl⟩
instance:Cell .junk:=⟨rfl,fun _ _=>rfl⟩
theorem X4 (z:D) [h:Cell z] (n m:Nat):D.fg n m z=z:=h.fg n m
attribute [go_sem] X4
def Rd.isO (text:aC) (r:Rd):Option Bool:=if r.good then r.is text else some false
end Go.Abs

/-! Ref2 -/

namespace Go.Abs
set_option maxRecDepth 8000
open Go.Proofs
def abt (s:aC):Int×Int:=
 if [42] == s then(6,5)else if [47] == s then(6,6)else if [37] == s then(6,7)else if [43] == s then(5,8)else if [45] == s then(5,9)
 else if [60] == s then(4,10)else if [60,61] == s then(4,11)else if [62] == s then(4,12)else if [62,61] == s then(4,13)
 else if [61,61] == s then(3,14)else if [33,61] == s then(3,15)else if [38,38] == s then(2,16)else if [124,124] == s then(1,17)else(0,0)
abbrev ao2 (m:Nat):Prop:=∀ {z:D} [Cell z] {r:Rd} {p:Ex×Rd},Rd.one m r=some p→∀ {s:St} {o:Nat},s.aw[o]? = some (vH z r)→aB Tryz.prog EB [.ptr o 0] s (.agg (bu p.1)) ⟨s.aw.set o (vH z p.2),s.aA⟩
abbrev auG (m:Nat):Prop:=∀ {z:D} [Cell z] {k:Int} {x:Ex} {r:Rd} {p:Ex×Rd},Rd.Ev m k x r=some p→∀ {s:St} {o:Nat},s.aw[o]? = some (vH z r)→aB Tryz.prog Gs [.ptr o 0, .agg (bu x), .int .i64 k] s (.agg (bu p.1)) ⟨s.aw.set o (vH z p.2),s.aA⟩
def BZ (p:Int×Int):Prop:=(p.2==0)=(p.1==0)
end Go.Abs

/-! Ref3 -/

namespace Go.Abs
set_option maxRecDepth 8000
open Go.Proofs
theorem abu : ∀ (gm:Nat),gm<1000000→∀ x:Ex,x.size<4611686018427387904→∀ s:St,aB Tryz.prog py [.agg (bu x), .int .i64 (gm:Int)] s (.int .i64 ((min x.depth (gm+1):Nat):Int)) s:=by
 intro gm
 induction gm with
 | zero=>
  rintro _ ⟨op,m,name,kids⟩ hx s
  refine aB.pure ?_ (by simp [D.bp,D.ok,gE]) rfl s
  have hz:((0:Int)==0)=true:=rfl
  have e:min (Ex.depth ⟨op,m,name,kids⟩) (0+1)=1:=by simp only [Ex.depth];omega
  rw [e]
  unfold S0
  refine aB.go ze rfl fun B Q hB hQ=> ?_
  have⟨hF,hP,hZ,gA⟩:=bH
  repeat' (first
 | simp only [go_sem,hF,hP,hZ,gA,hz]
 | (with_reducible refine aG hQ ?_;simp only [ay,az,Option.some.injEq,exists_eq_left',go_sem,hF,hP,hZ,gA];repeat' (first | exact Ok.out | with_reducible refine aI ?_ ?_ | (simp;done))))
 | succ gm ih=>
  rintro av6 ⟨op,m,name,kids⟩ hx s
  refine aB.pure ?_ (by simp [D.bp,D.ok,gE]) rfl s
  have hlen:kids.length<4611686018427387904:=by simp only [Ex.size]at hx;have:=Ex.cP kids;omega
  have hk : ∀ y∈kids,∀ s,aB Tryz.prog py [.agg (bu y), .int .i64 (gm:Int)] s (.int .i64 ((min y.depth (gm+1):Nat):Int)) s:=fun y hy s=>
   ih (by omega) y (by simp only [Ex.size]at hx;have:=Ex.bV hy;omega) s
  have hz:(((gm+1:Nat):Int)==0)=false:=by simp;omega
  have w1:IntKind.wrap .i64 (((gm+1:Nat):Int) - 1)=(gm:Int):=by rw [c6] <;> omega
  unfold S0
  refine aB.go ze rfl fun B Q hB hQ=> ?_
  have⟨hF,hP,hZ,gA⟩:=bH
  repeat' (first
 | simp only [go_sem,hF,hP,hZ,gA,hz]
 | (with_reducible refine aG hQ ?_;simp only [ay,az,Option.some.injEq,exists_eq_left',go_sem,hF,hP,hZ,gA];repeat' (first | exact Ok.out | with_reducible refine aI ?_ ?_ | (simp;done))))
  refine cU 1 0 (bk.ind (ι:=List Ex×Nat×Nat) (fun i=>kids.drop i.2.1=i.1∧i.2.2≤gm+1∧min (max i.2.2 (Ex.gM i.1)) (gm+1)=min (Ex.gM kids) (gm+1)) (fun i=>i.1.length)
   (fun i=> [(1, .int .i64 ((gm+1:Nat):Int)),(2, .ptr 0 0),(5, .int .i64 (i.2.2:Int)),(6, .int .i64 (i.2.1:Int))]) (fun i=>⟨[bu ⟨op,m,name,kids⟩],[]⟩) ?_ (kids,0,0) ⟨rfl,Nat.zero_le _,by simp⟩)
  rintro⟨rest,k,d⟩ ⟨h1,h2,h3⟩ IH
  dsimp only at h1 h2 h3
  have hd:min (Ex.depth ⟨op,m,name,kids⟩) (gm+1+1)=min (Ex.gM kids) (gm+1)+1:=by simp only [Ex.depth];omega
  rw [hd, ← h3]at hQ
  have w2:IntKind.wrap .i64 ((d:Int)+1)=((d+1:Nat):Int):=by rw [c6] <;> omega
  by_cases aws:d<gm+1
  ·have c2:decide ((d:Int)<((gm+1:Nat):Int))=true:=by simp;omega
   cases rest with
   | nil=>
    have hF:=drop_nil h1
    simp only [Ex.gM,Nat.max_zero]at hQ
    have e:min d (gm+1)=d:=by omega
    rw [e]at hQ
    repeat' (first
 | simp only [go_sem,hF,hP,hZ,gA,c2,w2]
 | (with_reducible refine aG hQ ?_;simp only [ay,az,Option.some.injEq,exists_eq_left',go_sem,hF,hP,hZ,gA];repeat' (first | exact Ok.out | with_reducible refine aI ?_ ?_ | (simp;done))))
   | cons y rest=>
    obtain⟨hP,g2,hF,g4⟩:=drop_cons h1
    have hy:=hk y (List.mem_of_getElem? hP)
    simp only [Ex.gM]at h3
    have cv:k<4611686018427387904:=by omega
    by_cases nE:min y.depth (gm+1) > d
    ·have c3:decide (((min y.depth (gm+1):Nat):Int) > (d:Int))=true:=by simp only [decide_eq_true_eq];omega
     repeat' (first
 | simp only [go_sem,hF,hP,hZ,gA,c2,w1,c3]
 | (with_reducible refine CU (hy _) ?_)
 | (with_reducible refine aG hQ ?_;simp only [ay,az,Option.some.injEq,exists_eq_left',go_sem,hF,hP,hZ,gA];repeat' (first | exact Ok.out | with_reducible refine aI ?_ ?_ | (simp;done))))
     refine dZ 1 0 ?_ ?_ (IH (rest,k+1,min y.depth (gm+1)) ⟨g2,by dsimp only;omega,by dsimp only;omega⟩ (Nat.lt_succ_self _))
     ·(simp only [go_sem,hF,hP,hZ,gA,aM cv];try exact bO)
     ·(simp only [go_sem,hF,hP,hZ,gA,aM cv];try exact bO)
    ·have c3:decide (((min y.depth (gm+1):Nat):Int) > (d:Int))=false:=by simp only [decide_eq_false_iff_not];omega
     repeat' (first
 | simp only [go_sem,hF,hP,hZ,gA,c2,w1,c3]
 | (with_reducible refine CU (hy _) ?_)
 | (with_reducible refine aG hQ ?_;simp only [ay,az,Option.some.injEq,exists_eq_left',go_sem,hF,hP,hZ,gA];repeat' (first | exact Ok.out | with_reducible refine aI ?_ ?_ | (simp;done))))
     refine dZ 1 0 ?_ ?_ (IH (rest,k+1,d) ⟨g2,h2,by dsimp only;omega⟩ (Nat.lt_succ_self _))
     ·(simp only [go_sem,hF,hP,hZ,gA,aM cv];try exact bO)
     ·(simp only [go_sem,hF,hP,hZ,gA,aM cv];try exact bO)
  ·have c2:decide ((d:Int)<((gm+1:Nat):Int))=false:=by simp;omega
   have e:min (max d (Ex.gM rest)) (gm+1)=d:=by omega
   rw [e]at hQ
   cases rest with
   | nil=>
    have hF:=drop_nil h1
    repeat' (first
 | simp only [go_sem,hF,hP,hZ,gA,c2,w2]
 | (with_reducible refine aG hQ ?_;simp only [ay,az,Option.some.injEq,exists_eq_left',go_sem,hF,hP,hZ,gA];repeat' (first | exact Ok.out | with_reducible refine aI ?_ ?_ | (simp;done))))
   | cons y rest=>
    obtain⟨hP,g2,hF,g4⟩:=drop_cons h1
    repeat' (first
 | simp only [go_sem,hF,hP,hZ,gA,c2,w2]
 | (with_reducible refine aG hQ ?_;simp only [ay,az,Option.some.injEq,exists_eq_left',go_sem,hF,hP,hZ,gA];repeat' (first | exact Ok.out | with_reducible refine aI ?_ ?_ | (simp;done))))
end Go.Abs

/-! RefMay1 -/

namespace Go.Abs
set_option maxRecDepth 8000
open Go.Proofs
theorem xF (text:aC) (hl:text.length<4611686018427387904) (s:St):aB Tryz.prog kB [.str text] s (.bool (isName text)) s:=by
 refine aB.pure ?_ rfl rfl s
 unfold S0
 cases text with
 | nil=>
  have e:(([] : aC) == [])=true:=rfl
  refine aB.go zg rfl fun B Q hB hQ=> ?_
  have⟨hF,hP,hZ,gA⟩:=bH
  repeat' (first
 | simp only [go_sem,hF,hP,hZ,gA,e,isName]
 | (with_reducible first | refine bw fun hc=> ?_ | refine bx fun hc=> ?_ | refine bA (fun hc=> ?_) fun hc=> ?_) <;> (try simp only [hc,bs, ↓reduceIte]at h) <;> try simp only [hc]
 | (with_reducible refine aG hQ ?_;simp only [ay,az,bF,bG,go_sem,hF,hP,hZ,gA,e,isName];repeat' (first | exact Ok.out | with_reducible refine aI ?_ ?_ | (simp;done))))
 | cons c r=>
  have e:((c::r) == [])=false:=rfl
  generalize h:isName (c::r)=p
  simp only [isName]at h
  refine aB.go zg rfl fun B Q hB hQ=> ?_
  have⟨hF,hP,hZ,gA⟩:=bH
  repeat' (first
 | simp only [go_sem,hF,hP,hZ,gA,e]
 | (with_reducible refine CU (IK _ _) ?_)
 | (with_reducible first | refine bw fun hc=> ?_ | refine bx fun hc=> ?_ | refine bA (fun hc=> ?_) fun hc=> ?_) <;> (try simp only [hc,bs, ↓reduceIte]at h) <;> try simp only [hc]
 | (with_reducible refine aG hQ ?_;(try cases h);simp only [ay,az,bF,bG,go_sem,hF,hP,hZ,gA,e];repeat' (first | exact Ok.out | with_reducible refine aI ?_ ?_ | (simp;done))))
  refine cU 0 0 (bk.ind (ι:=aC×Nat) (fun i=>(c::r).drop i.2=i.1∧(if tM i.1 then !(isWord (c::r))else false)=p) (fun i=>i.1.length)
   (fun i=> [(0, .str (c::r)),(3, .int .i64 (i.2:Int))]) (fun i=>⟨[],[]⟩) ?_ (r,1) ⟨rfl,h⟩)
  rintro⟨rest,k⟩ ⟨h1,h⟩ IH
  dsimp only at h1 h
  cases rest with
  | nil=>
   have hF:=drop_nil h1
   simp only [List.length_cons]at hF
   simp only [tM, ↓reduceIte]at h
   repeat' (first
 | simp only [go_sem,hF,hP,hZ,gA]
 | (with_reducible refine CU (X0 _ _) ?_)
 | (with_reducible first | refine bw fun hc=> ?_ | refine bx fun hc=> ?_ | refine bA (fun hc=> ?_) fun hc=> ?_) <;> (try simp only [hc,bs, ↓reduceIte]at h) <;> try simp only [hc]
 | (with_reducible refine aG hQ ?_;(try cases h);simp only [ay,az,bF,bG,go_sem,hF,hP,hZ,gA];repeat' (first | exact Ok.out | with_reducible refine aI ?_ ?_ | (simp;done))))
  | cons d rest=>
   obtain⟨hP,g2,hF,g4⟩:=drop_cons h1
   simp only [List.length_cons]at hF
   have hZ:k<4611686018427387904:=by omega
   simp only [tM]at h
   repeat' (first
 | simp only [go_sem,hF,hP,hZ,gA]
 | (with_reducible refine CU (IK _ _) ?_)
 | (with_reducible refine CU (TF _ _) ?_)
 | (with_reducible first | refine bw fun hc=> ?_ | refine bx fun hc=> ?_ | refine bA (fun hc=> ?_) fun hc=> ?_) <;> (try simp only [hc,bs, ↓reduceIte]at h) <;> try simp only [hc]
 | (with_reducible refine aG hQ ?_;(try cases h);simp only [ay,az,bF,bG,go_sem,hF,hP,hZ,gA];repeat' (first | exact Ok.out | with_reducible refine aI ?_ ?_ | (simp;done)))
 | (cases h;done))
   all_goals
    refine cU 0 0 (IH (rest,k+1) ⟨g2,h⟩ (Nat.lt_succ_self _))
theorem X5 (op:Int) (s:St):aB Tryz.prog uM [.int .i64 op] s (.int .i64 (mq op)) s:=by
 refine aB.pure ?_ rfl rfl s
 unfold S0
 generalize h:mq op=p
 unfold mq at h
 refine aB.go ER rfl fun B Q hB hQ=> ?_
 have⟨hF,hP,hZ,gA⟩:=bH
 repeat' (first
 | simp only [go_sem,hF,hP,hZ,gA]
 | (with_reducible first | refine bw fun hc=> ?_ | refine bx fun hc=> ?_ | refine bA (fun hc=> ?_) fun hc=> ?_) <;> (try simp only [hc,bs, ↓reduceIte]at h) <;> try simp only [hc]
 | (with_reducible refine aG hQ ?_;(try cases h);simp only [ay,az,bF,bG,go_sem,hF,hP,hZ,gA];repeat' (first | exact Ok.out | with_reducible refine aI ?_ ?_ | (simp;done))))
theorem TJ {l:List aC} (hl:l.length<4611686018427387904) (hs : ∀ t∈l,t.length<4611686018427387904) (s:St):aB Tryz.prog uJ [.slice .shared 1 (l.map encStr)] s (.bool (dd l)) s:=by
 refine aB.pure ?_ (by simp [D.bp,D.ok,eC,Tag.ok]) rfl s
 unfold S0
 generalize h:dd l=p
 refine aB.go EU rfl fun B Q hB hQ=> ?_
 have⟨hF,hP,hZ,gA⟩:=bH
 repeat' (first
 | simp only [go_sem,hF,hP,hZ,gA]
 | (with_reducible first | refine bw fun hc=> ?_ | refine bx fun hc=> ?_ | refine bA (fun hc=> ?_) fun hc=> ?_) <;> (try simp only [hc,bs, ↓reduceIte]at h) <;> try simp only [hc]
 | (with_reducible refine aG hQ ?_;(try cases h);simp only [ay,az,bF,bG,go_sem,hF,hP,hZ,gA];repeat' (first | exact Ok.out | with_reducible refine aI ?_ ?_ | (simp;done))))
 refine cU 0 0 (bk.ind (ι:=List aC×Nat) (fun i=>l.drop i.2=i.1∧dd i.1=p) (fun i=>i.1.length)
  (fun i=> [(5, .slice .shared 1 (l.map encStr)),(6, .int .i64 (l.length:Int)),(7, .int .i64 (i.2:Int))]) (fun i=>⟨[],[]⟩) ?_ (l,0) ⟨rfl,h⟩)
 rintro⟨rest,k⟩ ⟨h1,h⟩ IH
 dsimp only at h1 h
 cases rest with
 | nil=>
  have hF:=drop_nil h1
  simp only [dd]at h
  repeat' (first
 | simp only [go_sem,hF,hP,hZ,gA]
 | (with_reducible first | refine bw fun hc=> ?_ | refine bx fun hc=> ?_ | refine bA (fun hc=> ?_) fun hc=> ?_) <;> (try simp only [hc,bs, ↓reduceIte]at h) <;> try simp only [hc]
 | (with_reducible refine aG hQ ?_;(try cases h);simp only [ay,az,bF,bG,go_sem,hF,hP,hZ,gA];repeat' (first | exact Ok.out | with_reducible refine aI ?_ ?_ | (simp;done))))
 | cons t rest=>
  obtain⟨hP,g2,hF,g4⟩:=drop_cons h1
  have hZ:k<4611686018427387904:=by omega
  have hn:=xF t (hs t (List.mem_of_getElem? hP))
  simp only [dd]at h
  repeat' (first
 | simp only [go_sem,hF,hP,hZ,gA]
 | (with_reducible refine CU (hn _) ?_)
 | (with_reducible first | refine bw fun hc=> ?_ | refine bx fun hc=> ?_ | refine bA (fun hc=> ?_) fun hc=> ?_) <;> (try simp only [hc,bs, ↓reduceIte]at h) <;> try simp only [hc]
 | (with_reducible refine aG hQ ?_;(try cases h);simp only [ay,az,bF,bG,go_sem,hF,hP,hZ,gA];repeat' (first | exact Ok.out | with_reducible refine aI ?_ ?_ | (simp;done))))
  refine cU 0 0 (IH (rest,k+1) ⟨g2,h⟩ (Nat.lt_succ_self _))
theorem abv : ∀ (n:Nat) (x:Ex),x.size≤n→x.size<4611686018427387904→x.texts→∀ s:St,aB Tryz.prog pz [.agg (bu x)] s (.bool x.form) s:=by
 intro n
 induction n with
 | zero=>rintro⟨op,m,name,kids⟩ h;simp only [Ex.size]at h;omega
 | succ n ih=>
  rintro⟨op,m,name,kids⟩ h hx ht s
  refine aB.pure ?_ (by simp [D.bp,D.ok,gE]) rfl s
  have hlen:kids.length<4611686018427387904:=by simp only [Ex.size]at hx;have:=Ex.cP kids;omega
  have hk : ∀ y∈kids,∀ s,aB Tryz.prog pz [.agg (bu y)] s (.bool y.form) s:=fun y hy s=>
   ih y (by simp only [Ex.size]at h;have:=Ex.bV hy;omega) (by simp only [Ex.size]at hx;have:=Ex.bV hy;omega) (Ex.FD ht hy) s
  have hn:=xF name ht.1
  unfold S0
  generalize h:Ex.form ⟨op,m,name,kids⟩=p
  simp only [Ex.form]at h
  refine aB.go GG rfl fun B Q hB hQ=> ?_
  have⟨hF,hP,hZ,gA⟩:=bH
  repeat' (first
 | simp only [go_sem,hF,hP,hZ,gA]
 | (with_reducible refine CU (X5 _ _) ?_)
 | (with_reducible refine CU (hn _) ?_)
 | (with_reducible first | refine bw fun hc=> ?_ | refine bx fun hc=> ?_ | refine bA (fun hc=> ?_) fun hc=> ?_) <;> (try simp only [hc,bs, ↓reduceIte]at h) <;> try simp only [hc]
 | (with_reducible refine aG hQ ?_;(try cases h);simp only [ay,az,bF,bG,go_sem,hF,hP,hZ,gA];repeat' (first | exact Ok.out | with_reducible refine aI ?_ ?_ | (simp;done))))
  all_goals
   refine cU 1 0 (bk.ind (ι:=List Ex×Nat) (fun i=>kids.drop i.2=i.1∧Ex.oP i.1=p) (fun i=>i.1.length)
    (fun i=> [(1, .ptr 0 0),(48, .int .i64 (kids.length:Int)),(49, .int .i64 (i.2:Int))]) (fun i=>⟨[bu ⟨op,m,name,kids⟩],[]⟩) ?_ (kids,0) ⟨rfl,h⟩)
   rintro⟨rest,k⟩ ⟨h1,h⟩ IH
   dsimp only at h1 h
   cases rest with
   | nil=>
    have hF:=drop_nil h1
    simp only [Ex.oP]at h
    repeat' (first
 | simp only [go_sem,hF,hP,hZ,gA]
 | (with_reducible first | refine bw fun hc=> ?_ | refine bx fun hc=> ?_ | refine bA (fun hc=> ?_) fun hc=> ?_) <;> (try simp only [hc,bs, ↓reduceIte]at h) <;> try simp only [hc]
 | (with_reducible refine aG hQ ?_;exact jS)
 | (cases h;done))
   | cons y rest=>
    obtain⟨hP,g2,hF,g4⟩:=drop_cons h1
    have hy:=hk y (List.mem_of_getElem? hP)
    have hZ:k<4611686018427387904:=by omega
    simp only [Ex.oP]at h
    repeat' (first
 | simp only [go_sem,hF,hP,hZ,gA]
 | (with_reducible refine CU (hy _) ?_)
 | (with_reducible first | refine bw fun hc=> ?_ | refine bx fun hc=> ?_ | refine bA (fun hc=> ?_) fun hc=> ?_) <;> (try simp only [hc,bs, ↓reduceIte]at h) <;> try simp only [hc]
 | (with_reducible refine aG hQ ?_;(try cases h);simp only [ay,az,bF,bG,go_sem,hF,hP,hZ,gA];repeat' (first | exact Ok.out | with_reducible refine aI ?_ ?_ | (simp;done))))
    refine cU 1 0 (IH (rest,k+1) ⟨g2,h⟩ (Nat.lt_succ_self _))
theorem FF {x:Ex} (hx:x.size<4611686018427387904) (ht:x.texts) (s:St):aB Tryz.prog oQ [.agg (bu x)] s (.bool x.may) s:=by
 refine aB.pure ?_ (by simp [D.bp,D.ok,gE]) rfl s
 have hd:=fun s=>abu 20 (by decide) x hx s
 have c20:((20:Nat):Int)=20:=rfl
 rw [c20]at hd
 have hf:=abv _ x (Nat.le_refl _) hx ht
 unfold S0
 generalize h:Ex.may x=p
 unfold Ex.may at h
 refine aB.go Cg rfl fun B Q hB hQ=> ?_
 have⟨hF,hP,hZ,gA⟩:=bH
 repeat' (first
 | simp only [go_sem,hF,hP,hZ,gA]
 | (with_reducible refine CU (hd _) ?_)
 | (with_reducible refine CU (hf _) ?_)
 | (with_reducible first | refine bw fun hc=> ?_ | refine bx fun hc=> ?_ | refine bA (fun hc=> ?_) fun hc=> ?_) <;> (try simp only [hc,bs, ↓reduceIte]at h) <;> try simp only [hc]
 | (with_reducible refine aG hQ ?_;(try cases h);simp only [ay,az,bF,bG,go_sem,hF,hP,hZ,gA];repeat' (first | exact Ok.out | with_reducible refine aI ?_ ?_ | (simp;done))))
theorem Qi (x:Ex) (s:St):aB Tryz.prog sg [.agg (bu x)] s (.bool x.none) s:=by
 refine aB.pure ?_ (by simp [D.bp,D.ok,gE]) rfl s
 unfold S0
 generalize h:Ex.none x=p
 unfold Ex.none at h
 refine aB.go GD rfl fun B Q hB hQ=> ?_
 have⟨hF,hP,hZ,gA⟩:=bH
 repeat' (first
 | simp only [go_sem,hF,hP,hZ,gA]
 | (with_reducible first | refine bw fun hc=> ?_ | refine bx fun hc=> ?_ | refine bA (fun hc=> ?_) fun hc=> ?_) <;> (try simp only [hc,bs, ↓reduceIte]at h) <;> try simp only [hc]
 | (with_reducible refine aG hQ ?_;(try cases h);simp only [ay,az,bF,bG,go_sem,hF,hP,hZ,gA];repeat' (first | exact Ok.out | with_reducible refine aI ?_ ?_ | (simp;done))))
theorem aff {a:Ar} (hx:a.x.size<4611686018427387904) (ht:a.x.texts) (hn:a.name.length<4611686018427387904) (s:St):aB Tryz.prog yj [.agg (ej a)] s (.bool a.may) s:=by
 refine aB.pure ?_ (by simp [D.bp,D.ok,Il]) rfl s
 have hm:=FF hx ht
 have h1:=xF a.name hn
 unfold S0
 generalize h:Ar.may a=p
 simp only [Ar.may]at h
 refine aB.go IC rfl fun B Q hB hQ=> ?_
 have⟨hF,hP,hZ,gA⟩:=bH
 repeat' (first
 | simp only [go_sem,hF,hP,hZ,gA]
 | (with_reducible refine CU (hm _) ?_)
 | (with_reducible refine CU (h1 _) ?_)
 | (with_reducible refine CU (Qi _ _) ?_)
 | (with_reducible first | refine bw fun hc=> ?_ | refine bx fun hc=> ?_ | refine bA (fun hc=> ?_) fun hc=> ?_) <;> (try simp only [hc,bs, ↓reduceIte]at h) <;> try simp only [hc]
 | (with_reducible refine aG hQ ?_;(try cases h);simp only [ay,az,bF,bG,go_sem,hF,hP,hZ,gA];repeat' (first | exact Ok.out | with_reducible refine aI ?_ ?_ | (simp;done))))
end Go.Abs

/-! TMay1 -/

namespace Go.Abs
set_option maxRecDepth 8000
open Go.Proofs
theorem FG {r:aC} : tM r=true↔la r=r.length:=by
 induction r with
 | nil=>simp [tM,la]
 | cons c r ih=>
  simp only [tM,la]
  cases h1:qD c <;> cases h2:o6 c <;> simp [ih]
theorem Am (t:aC) (hl:t.length<4611686018427387904) (s:St):aB Tryz.prog nf [.str t] s (.bool (isName t)) s:=by
 refine aB.pure ?_ rfl rfl s
 have hr:=fun s=>WE (pos:=0) hl s
 simp only [List.drop_zero,Nat.zero_add]at hr
 unfold S0
 cases t with
 | nil=>
  have z:decide (((0:Nat):Int)<1)=true:=rfl
  have z':decide ((0:Int)<1)=true:=rfl
  have e:isName [] = false:=rfl
  rw [e]
  refine aB.go mD rfl fun B Q hB hQ=> ?_
  have⟨hF,hP,hZ,gA⟩:=bH
  repeat' (first
 | simp only [go_sem,hF,hP,hZ,gA,z,z']
 | (with_reducible refine aG hQ ?_;simp only [ay,az,Option.some.injEq,exists_eq_left',go_sem,hF,hP,hZ,gA];repeat' (first | exact Ok.out | with_reducible refine aI ?_ ?_ | (simp;done))))
 | cons c r=>
  have l1:decide (((r.length+1:Nat):Int)<1)=false:=by simp;omega
  generalize h:isName (c::r)=p
  simp only [isName]at h
  cases hL:qD c
  ·simp only [hL,Bool.not_false,Bool.or_true, ↓reduceIte]at h
   subst h
   by_cases c8:decide (((r.length+1:Nat):Int) > 8)=true
   ·refine aB.go mD rfl fun B Q hB hQ=> ?_
    have⟨hF,hP,hZ,gA⟩:=bH
    repeat' (first
 | simp only [go_sem,hF,hP,hZ,gA,l1,c8]
 | (with_reducible refine aG hQ ?_;simp only [ay,az,Option.some.injEq,exists_eq_left',go_sem,hF,hP,hZ,gA];repeat' (first | exact Ok.out | with_reducible refine aI ?_ ?_ | (simp;done))))
   ·have c8:decide (((r.length+1:Nat):Int) > 8)=false:=by simpa using c8
    refine aB.go mD rfl fun B Q hB hQ=> ?_
    have⟨hF,hP,hZ,gA⟩:=bH
    repeat' (first
 | simp only [go_sem,hF,hP,hZ,gA,l1,c8,hL]
 | (with_reducible refine CU (ij _ _) ?_)
 | (with_reducible refine aG hQ ?_;simp only [ay,az,Option.some.injEq,exists_eq_left',go_sem,hF,hP,hZ,gA];repeat' (first | exact Ok.out | with_reducible refine aI ?_ ?_ | (simp;done))))
  ·simp only [hL,Bool.not_true,Bool.or_false]at h
   by_cases c8:decide (((r.length+1:Nat):Int) > 8)=true
   ·simp only [c8, ↓reduceIte]at h
    subst h
    refine aB.go mD rfl fun B Q hB hQ=> ?_
    have⟨hF,hP,hZ,gA⟩:=bH
    repeat' (first
 | simp only [go_sem,hF,hP,hZ,gA,l1,c8]
 | (with_reducible refine aG hQ ?_;simp only [ay,az,Option.some.injEq,exists_eq_left',go_sem,hF,hP,hZ,gA];repeat' (first | exact Ok.out | with_reducible refine aI ?_ ?_ | (simp;done))))
   ·have c8:decide (((r.length+1:Nat):Int) > 8)=false:=by simpa using c8
    simp only [c8,Bool.false_eq_true, ↓reduceIte]at h
    have dn:la (c::r)=la r+1:=by simp [la,hL]
    cases hn:tM r
    ·simp only [hn,Bool.false_eq_true, ↓reduceIte]at h
     have:la r≠r.length:=fun e=>by rw [FG.2 e]at hn;cases hn
     have e:(((la (c::r):Nat):Int)==((r.length+1:Nat):Int))=false:=by rw [dn];simp;omega
     subst h
     refine aB.go mD rfl fun B Q hB hQ=> ?_
     have⟨hF,hP,hZ,gA⟩:=bH
     repeat' (first
 | simp only [go_sem,hF,hP,hZ,gA,l1,c8,hL,e]
 | (with_reducible refine CU (ij _ _) ?_)
 | (with_reducible refine CU (hr _) ?_)
 | (with_reducible refine aG hQ ?_;simp only [ay,az,Option.some.injEq,exists_eq_left',go_sem,hF,hP,hZ,gA];repeat' (first | exact Ok.out | with_reducible refine aI ?_ ?_ | (simp;done))))
    ·simp only [hn, ↓reduceIte]at h
     have:=FG.1 hn
     have e:(((la (c::r):Nat):Int)==((r.length+1:Nat):Int))=true:=by rw [dn];simp;omega
     subst h
     refine aB.go mD rfl fun B Q hB hQ=> ?_
     have⟨hF,hP,hZ,gA⟩:=bH
     repeat' (first
 | simp only [go_sem,hF,hP,hZ,gA,l1,c8,hL,e]
 | (with_reducible refine CU (ij _ _) ?_)
 | (with_reducible refine CU (hr _) ?_)
 | (with_reducible refine CU (uP _ _) ?_)
 | (with_reducible refine aG hQ ?_;simp only [ay,az,Option.some.injEq,exists_eq_left',go_sem,hF,hP,hZ,gA];repeat' (first | exact Ok.out | with_reducible refine aI ?_ ?_ | (simp;done))))
theorem KQ (op:Int) (s:St):aB Tryz.prog wB [.int .i64 op] s (.int .i64 (mq op)) s:=by
 refine aB.pure ?_ rfl rfl s
 unfold S0
 generalize h:mq op=p
 unfold mq at h
 refine aB.go GH rfl fun B Q hB hQ=> ?_
 have⟨hF,hP,hZ,gA⟩:=bH
 repeat' (first
 | simp only [go_sem,hF,hP,hZ,gA]
 | (with_reducible first | refine bw fun hc=> ?_ | refine bx fun hc=> ?_ | refine bA (fun hc=> ?_) fun hc=> ?_) <;> (try simp only [hc,bs, ↓reduceIte]at h) <;> try simp only [hc]
 | (with_reducible refine aG hQ ?_;(try cases h);simp only [ay,az,bF,bG,go_sem,hF,hP,hZ,gA];repeat' (first | exact Ok.out | with_reducible refine aI ?_ ?_ | (simp;done))))
theorem yr {l:List aC} (hl:l.length<4611686018427387904) (hs : ∀ t∈l,t.length<4611686018427387904) (s:St):aB Tryz.prog mr [.slice .shared 1 (l.map encStr)] s (.bool (dd l)) s:=by
 refine aB.pure ?_ (by simp [D.bp,D.ok,eC,Tag.ok]) rfl s
 unfold S0
 generalize h:dd l=p
 refine aB.go EJ rfl fun B Q hB hQ=> ?_
 have⟨hF,hP,hZ,gA⟩:=bH
 repeat' (first
 | simp only [go_sem,hF,hP,hZ,gA]
 | (with_reducible first | refine bw fun hc=> ?_ | refine bx fun hc=> ?_ | refine bA (fun hc=> ?_) fun hc=> ?_) <;> (try simp only [hc,bs, ↓reduceIte]at h) <;> try simp only [hc]
 | (with_reducible refine aG hQ ?_;(try cases h);simp only [ay,az,bF,bG,go_sem,hF,hP,hZ,gA];repeat' (first | exact Ok.out | with_reducible refine aI ?_ ?_ | (simp;done))))
 refine cU 0 0 (bk.ind (ι:=List aC×Nat) (fun i=>l.drop i.2=i.1∧dd i.1=p) (fun i=>i.1.length)
  (fun i=> [(5, .slice .shared 1 (l.map encStr)),(6, .int .i64 (l.length:Int)),(7, .int .i64 (i.2:Int))]) (fun i=>⟨[],[]⟩) ?_ (l,0) ⟨rfl,h⟩)
 rintro⟨rest,k⟩ ⟨h1,h⟩ IH
 dsimp only at h1 h
 cases rest with
 | nil=>
  have hF:=drop_nil h1
  simp only [dd]at h
  repeat' (first
 | simp only [go_sem,hF,hP,hZ,gA]
 | (with_reducible first | refine bw fun hc=> ?_ | refine bx fun hc=> ?_ | refine bA (fun hc=> ?_) fun hc=> ?_) <;> (try simp only [hc,bs, ↓reduceIte]at h) <;> try simp only [hc]
 | (with_reducible refine aG hQ ?_;(try cases h);simp only [ay,az,bF,bG,go_sem,hF,hP,hZ,gA];repeat' (first | exact Ok.out | with_reducible refine aI ?_ ?_ | (simp;done))))
 | cons t rest=>
  obtain⟨hP,g2,hF,g4⟩:=drop_cons h1
  have hZ:k<4611686018427387904:=by omega
  have hn:=Am t (hs t (List.mem_of_getElem? hP))
  simp only [dd]at h
  repeat' (first
 | simp only [go_sem,hF,hP,hZ,gA]
 | (with_reducible refine CU (hn _) ?_)
 | (with_reducible first | refine bw fun hc=> ?_ | refine bx fun hc=> ?_ | refine bA (fun hc=> ?_) fun hc=> ?_) <;> (try simp only [hc,bs, ↓reduceIte]at h) <;> try simp only [hc]
 | (with_reducible refine aG hQ ?_;(try cases h);simp only [ay,az,bF,bG,go_sem,hF,hP,hZ,gA];repeat' (first | exact Ok.out | with_reducible refine aI ?_ ?_ | (simp;done))))
  refine cU 0 0 (IH (rest,k+1) ⟨g2,h⟩ (Nat.lt_succ_self _))
mutual
def Ex.dp (left:Int):Ex→Bool
 | ⟨op,n,name,kids⟩=>
  if decide (left<1) || (kids.length:Int) != mq op then false
  else if op==1 then decide (n≥0) && name == []
  else if op==2 then n==0 && isName name
  else if n != 0 || !(name == [])then false
  else Ex.Dj (left - 1) kids
def Ex.Dj (left:Int):List Ex→Bool
 | []=>true
 | x::l=>if !(Ex.dp left x)then false else Ex.Dj left l
end
theorem X6 : ∀ (m:Nat) (x:Ex),x.size≤m→x.size<4611686018427387904→x.texts→∀ left:Int,0≤left→left≤100→∀ s:St,aB Tryz.prog pA [.agg (bu x), .int .i64 left] s (.bool (x.dp left)) s:=by
 intro m
 induction m with
 | zero=>rintro⟨op,v,name,kids⟩ h;simp only [Ex.size]at h;omega
 | succ m ih=>
  rintro⟨op,v,name,kids⟩ h hx ht left h0 awt s
  refine aB.pure ?_ (by simp [D.bp,D.ok,gE]) rfl s
  have hlen:kids.length<4611686018427387904:=by simp only [Ex.size]at hx;have:=Ex.cP kids;omega
  have hn:=Am name ht.1
  generalize hp:Ex.dp left ⟨op,v,name,kids⟩=p
  simp only [Ex.dp]at hp
  unfold S0
  by_cases Dk:left<1
  ·have d1:decide (left<1)=true:=by simpa using Dk
   simp only [d1,Bool.true_or, ↓reduceIte]at hp
   subst hp
   refine aB.go zf rfl fun B Q hB hQ=> ?_
   have⟨hF,hP,hZ,gA⟩:=bH
   repeat' (first
 | simp only [go_sem,hF,hP,hZ,gA,d1]
 | (with_reducible refine CU (KQ _ _) ?_)
 | (with_reducible refine CU (hn _) ?_)
 | (with_reducible refine aG hQ ?_;simp only [ay,az,bF,bG,go_sem,hF,hP,hZ,gA];repeat' (first | exact Ok.out | with_reducible refine aI ?_ ?_ | (simp;done))))
  ·have d1:decide (left<1)=false:=by simpa using Dk
   have w1:IntKind.wrap .i64 (left - 1)=left - 1:=c6 (by omega) (by omega)
   have hk : ∀ y∈kids,∀ s,aB Tryz.prog pA [.agg (bu y), .int .i64 (left - 1)] s (.bool (y.dp (left - 1))) s:=fun y hy s=>
    ih y (by simp only [Ex.size]at h;have:=Ex.bV hy;omega) (by simp only [Ex.size]at hx;have:=Ex.bV hy;omega) (Ex.FD ht hy) (left - 1) (by omega) (by omega) s
   simp only [d1,Bool.false_or]at hp
   have h:=hp
   clear hp
   refine aB.go zf rfl fun B Q hB hQ=> ?_
   have⟨hF,hP,hZ,gA⟩:=bH
   repeat' (first
 | simp only [go_sem,hF,hP,hZ,gA,d1]
 | (with_reducible refine CU (KQ _ _) ?_)
 | (with_reducible refine CU (hn _) ?_)
 | (with_reducible first | refine bw fun hc=> ?_ | refine bx fun hc=> ?_ | refine bA (fun hc=> ?_) fun hc=> ?_) <;> (try simp only [hc,bs, ↓reduceIte]at h) <;> try simp only [hc]
 | (with_reducible refine aG hQ ?_;(try cases h);simp only [ay,az,bF,bG,go_sem,hF,hP,hZ,gA,d1];repeat' (first | exact Ok.out | with_reducible refine aI ?_ ?_ | (simp;done))))
   all_goals
    refine cU 1 0 (bk.ind (ι:=List Ex×Nat) (fun i=>kids.drop i.2=i.1∧Ex.Dj (left - 1) i.1=p) (fun i=>i.1.length)
     (fun i=> [(1, .int .i64 left),(49, .slice .shared 4 (kids.map bu)),(50, .int .i64 (kids.length:Int)),(51, .int .i64 (i.2:Int))]) (fun i=>⟨[bu ⟨op,v,name,kids⟩],[]⟩) ?_ (kids,0) ⟨rfl,h⟩)
    rintro⟨rest,k⟩ ⟨h1,h⟩ IH
    dsimp only at h1 h
    cases rest with
    | nil=>
     have hF:=drop_nil h1
     simp only [Ex.Dj]at h
     repeat' (first
 | simp only [go_sem,hF,hP,hZ,gA]
 | (with_reducible first | refine bw fun hc=> ?_ | refine bx fun hc=> ?_ | refine bA (fun hc=> ?_) fun hc=> ?_) <;> (try simp only [hc,bs, ↓reduceIte]at h) <;> try simp only [hc]
 | (with_reducible refine aG hQ ?_;exact jS)
 | (cases h;done))
    | cons y rest=>
     obtain⟨hP,g2,hF,g4⟩:=drop_cons h1
     have hy:=hk y (List.mem_of_getElem? hP)
     have hZ:k<4611686018427387904:=by omega
     simp only [Ex.Dj]at h
     repeat' (first
 | simp only [go_sem,hF,hP,hZ,gA,w1]
 | (with_reducible refine CU (hy _) ?_)
 | (with_reducible first | refine bw fun hc=> ?_ | refine bx fun hc=> ?_ | refine bA (fun hc=> ?_) fun hc=> ?_) <;> (try simp only [hc,bs, ↓reduceIte]at h) <;> try simp only [hc]
 | (with_reducible refine aG hQ ?_;(try cases h);simp only [ay,az,bF,bG,go_sem,hF,hP,hZ,gA,w1];repeat' (first | exact Ok.out | with_reducible refine aI ?_ ?_ | (simp;done))))
     refine cU 1 0 (IH (rest,k+1) ⟨g2,h⟩ (Nat.lt_succ_self _))
end Go.Abs

/-! RefMay2 -/

namespace Go.Abs
set_option maxRecDepth 8000
open Go.Proofs
structure Sm.mF (s:Sm):Prop where
 lab : ∀ t∈s.labels,t.length<4611686018427387904
 abw:s.labels.length<4611686018427387904
 name:s.name.length<4611686018427387904
 proc:s.proc.length<4611686018427387904
 x:s.x.size<4611686018427387904
 xt:s.x.texts
 abx:s.args.length<4611686018427387904
 arg : ∀ a∈s.args,a.x.size<4611686018427387904∧a.x.texts∧a.name.length<4611686018427387904
section
variable {v:Sm} {B:fv} {Q:Exit→Tm→St→Prop} {p:Bool}
theorem afg (hf:v.mF) (hB:B.s = ⟨[],[]⟩) (hQ:iI 0 0 [(2,none)] (.bool p) ⟨[],[]⟩=Q)
 (h:(if !(Ar.ep v.args)then false else((v.aY.length:Int)==0 || v.kind==5 || v.kind==6) && ((v.aP.length:Int)==0 || v.kind==5))=p) :
 Sem Tryz.prog B 178 abe Q [(1, .ptr 0 0)] ⟨[aU v],[]⟩:=by
 have av7:=hf.abx
 have TK:=fun a ha s=>aff (hf.arg a ha).1 (hf.arg a ha).2.1 (hf.arg a ha).2.2 s
 have⟨hF,hP,hZ,gA⟩:=bH
 refine im ?_
 repeat' (first
 | simp only [go_sem,hF,hP,hZ,gA]
 | (with_reducible refine aG hQ ?_;simp only [ay,az,bF,bG,go_sem,hF,hP,hZ,gA];repeat' (first | exact Ok.out | with_reducible refine aI ?_ ?_ | (simp;done))))
 refine cU 1 0 (bk.ind (ι:=List Ar×Nat) (fun i=>v.args.drop i.2=i.1∧(if !(Ar.ep i.1)then false else((v.aY.length:Int)==0 || v.kind==5 || v.kind==6) && ((v.aP.length:Int)==0 || v.kind==5))=p) (fun i=>i.1.length)
  (fun i=> [(1, .ptr 0 0),(143, .slice .shared 6 (v.args.map ej)),(144, .int .i64 (v.args.length:Int)),(145, .int .i64 (i.2:Int))]) (fun i=>⟨[aU v],[]⟩) ?_ (v.args,0) ⟨rfl,h⟩)
 rintro⟨rest,k⟩ ⟨h1,h⟩ IH
 dsimp only at h1 h
 cases rest with
 | nil=>
  have hF:=drop_nil h1
  simp only [Ar.ep,Bool.not_true,Bool.false_eq_true, ↓reduceIte]at h
  repeat' (first
 | simp only [go_sem,hF,hP,hZ,gA]
 | (with_reducible first | refine bw fun hc=> ?_ | refine bx fun hc=> ?_ | refine bA (fun hc=> ?_) fun hc=> ?_) <;> (try simp only [hc,bs, ↓reduceIte]at h) <;> try simp only [hc]
 | (with_reducible refine aG hQ ?_;(try cases h);simp only [ay,az,bF,bG,go_sem,hF,hP,hZ,gA];repeat' (first | exact Ok.out | with_reducible refine aI ?_ ?_ | (simp;done))))
  all_goals
   simp only [*]
   exact Ok.out
 | cons a rest=>
  obtain⟨hP,g2,hF,g4⟩:=drop_cons h1
  have ha:=TK a (List.mem_of_getElem? hP)
  have hZ:k<4611686018427387904:=by omega
  simp only [Ar.ep]at h
  repeat' (first
 | simp only [go_sem,hF,hP,hZ,gA]
 | (with_reducible refine CU (ha _) ?_)
 | (with_reducible first | refine bw fun hc=> ?_ | refine bx fun hc=> ?_ | refine bA (fun hc=> ?_) fun hc=> ?_) <;> (try simp only [hc,bs, ↓reduceIte]at h) <;> try simp only [hc]
 | (with_reducible refine aG hQ ?_;(try cases h);simp only [ay,az,bF,bG,go_sem,hF,hP,hZ,gA];repeat' (first | exact Ok.out | with_reducible refine aI ?_ ?_ | (simp;done))))
  refine cU 1 0 (IH (rest,k+1) ⟨g2,h⟩ (Nat.lt_succ_self _))
theorem afh {cl:Bool} (hf:v.mF) (hB:B.s = ⟨[],[]⟩) (hQ:iI 0 0 [(2,none)] (.bool p) ⟨[],[]⟩=Q)
 (h:(if !(cl == !(v.proc == [])) || (cl && !(isName v.proc)) || (!cl && decide ((v.args.length:Int) > 0))then false
  else if !(Ar.ep v.args)then false else((v.aY.length:Int)==0 || v.kind==5 || v.kind==6) && ((v.aP.length:Int)==0 || v.kind==5))=p) :
 Sem Tryz.prog B 178 abf Q [(1, .ptr 0 0),(5, .bool cl)] ⟨[aU v],[]⟩:=by
 have NU:=xF v.proc hf.proc
 have⟨hF,hP,hZ,gA⟩:=bH
 refine Sem.km ?_
 repeat' (first
 | simp only [go_sem,hF,hP,hZ,gA]
 | (with_reducible refine CU (NU _) ?_)
 | (with_reducible first | refine bw fun hc=> ?_ | refine bx fun hc=> ?_ | refine bA (fun hc=> ?_) fun hc=> ?_) <;> (try simp only [hc,bs, ↓reduceIte]at h) <;> try simp only [hc]
 | (with_reducible refine aG hQ ?_;(try cases h);simp only [ay,az,bF,bG,go_sem,hF,hP,hZ,gA];repeat' (first | exact Ok.out | with_reducible refine aI ?_ ?_ | (simp;done))))
 all_goals
  refine Sem.re _ _ 1 0 (by rw [hB];exact lY rfl) (by rw [hB];exact lY rfl) ?_ ?_ (afg hf hB hQ h)
  ·(simp only [go_sem,hF,hP,hZ,gA];repeat' (first | exact Ok.out | with_reducible refine aI ?_ ?_))
  ·(simp only [go_sem,hF,hP,hZ,gA];repeat' (first | exact Ok.out | with_reducible refine aI ?_ ?_))
theorem afi {hn cl:Bool} (hf:v.mF) (hB:B.s = ⟨[],[]⟩) (hQ:iI 0 0 [(2,none)] (.bool p) ⟨[],[]⟩=Q)
 (h:(if(hn && !(isName v.name)) || (!hn && !(v.name == []) && !(cl && isName v.name))then false
  else if !(cl == !(v.proc == [])) || (cl && !(isName v.proc)) || (!cl && decide ((v.args.length:Int) > 0))then false
  else if !(Ar.ep v.args)then false else((v.aY.length:Int)==0 || v.kind==5 || v.kind==6) && ((v.aP.length:Int)==0 || v.kind==5))=p) :
 Sem Tryz.prog B 178 abg Q [(1, .ptr 0 0),(4, .bool hn),(5, .bool cl)] ⟨[aU v],[]⟩:=by
 have LC:=xF v.name hf.name
 have⟨hF,hP,hZ,gA⟩:=bH
 have k:=@afh v B Q p cl hf hB hQ
 cases cl
 all_goals
  refine Sem.km ?_
  repeat' (first
 | simp only [go_sem,hF,hP,hZ,gA]
 | (with_reducible refine CU (LC _) ?_)
 | (with_reducible first | refine bw fun hc=> ?_ | refine bx fun hc=> ?_ | refine bA (fun hc=> ?_) fun hc=> ?_) <;> (try simp only [hc,bs, ↓reduceIte]at h) <;> try simp only [hc]
 | (with_reducible refine aG hQ ?_;(try cases h);simp only [ay,az,bF,bG,go_sem,hF,hP,hZ,gA];repeat' (first | exact Ok.out | with_reducible refine aI ?_ ?_ | (simp;done))))
 all_goals
  refine Sem.re _ _ 1 0 (by rw [hB];exact lY rfl) (by rw [hB];exact lY rfl) ?_ ?_ (k (by simpa only [bs, ↓reduceIte]using h))
  ·(simp only [go_sem,hF,hP,hZ,gA];repeat' (first | exact Ok.out | with_reducible refine aI ?_ ?_))
  ·(simp only [go_sem,hF,hP,hZ,gA];repeat' (first | exact Ok.out | with_reducible refine aI ?_ ?_))
theorem afj {hx hn cl:Bool} (hf:v.mF) (hB:B.s = ⟨[],[]⟩) (hQ:iI 0 0 [(2,none)] (.bool p) ⟨[],[]⟩=Q)
 (h:(if decide (v.kind<1) || decide (v.kind > 10) || !(dd v.labels) || (hx && !(v.x.may)) || (!hx && !(v.x.none)) || (v.has && v.kind != 9)then false
  else if(hn && !(isName v.name)) || (!hn && !(v.name == []) && !(cl && isName v.name))then false
  else if !(cl == !(v.proc == [])) || (cl && !(isName v.proc)) || (!cl && decide ((v.args.length:Int) > 0))then false
  else if !(Ar.ep v.args)then false else((v.aY.length:Int)==0 || v.kind==5 || v.kind==6) && ((v.aP.length:Int)==0 || v.kind==5))=p) :
 Sem Tryz.prog B 178 abh Q [(1, .ptr 0 0),(3, .bool hx),(4, .bool hn),(5, .bool cl)] ⟨[aU v],[]⟩:=by
 have hns:=fun s=>TJ hf.abw hf.lab s
 have hm:=FF hf.x hf.xt
 have⟨hF,hP,hZ,gA⟩:=bH
 refine Sem.km ?_
 repeat' (first
 | simp only [go_sem,hF,hP,hZ,gA]
 | (with_reducible refine CU (hns _) ?_)
 | (with_reducible refine CU (hm _) ?_)
 | (with_reducible refine CU (Qi _ _) ?_)
 | (with_reducible first | refine bw fun hc=> ?_ | refine bx fun hc=> ?_ | refine bA (fun hc=> ?_) fun hc=> ?_) <;> (try simp only [hc,bs, ↓reduceIte]at h) <;> try simp only [hc]
 | (with_reducible refine aG hQ ?_;(try cases h);simp only [ay,az,bF,bG,go_sem,hF,hP,hZ,gA];repeat' (first | exact Ok.out | with_reducible refine aI ?_ ?_ | (simp;done))))
 all_goals
  refine Sem.re _ _ 1 0 (by rw [hB];exact lY rfl) (by rw [hB];exact lY rfl) ?_ ?_ (afi hf hB hQ h)
  ·(simp only [go_sem,hF,hP,hZ,gA];repeat' (first | exact Ok.out | with_reducible refine aI ?_ ?_))
  ·(simp only [go_sem,hF,hP,hZ,gA];repeat' (first | exact Ok.out | with_reducible refine aI ?_ ?_))
theorem afk {hx hn:Bool} (hf:v.mF) (hB:B.s = ⟨[],[]⟩) (hQ:iI 0 0 [(2,none)] (.bool p) ⟨[],[]⟩=Q) (ex:v.yf=hx) (en:v.hasName=hn) (h:v.one=p) :
 Sem Tryz.prog B 178 abi Q [(1, .ptr 0 0),(3, .bool hx),(4, .bool hn)] ⟨[aU v],[]⟩:=by
 unfold Sm.one at h
 rw [ex,en]at h
 have⟨hF,hP,hZ,gA⟩:=bH
 refine Sem.km ?_
 repeat' (first
 | simp only [go_sem,hF,hP,hZ,gA]
 | (with_reducible refine aG hQ ?_;simp only [ay,az,Option.some.injEq,exists_eq_left',go_sem,hF,hP,hZ,gA];repeat' (first | exact Ok.out | with_reducible refine aI ?_ ?_ | (simp;done))))
 refine Sem.re _ _ 1 0 (by rw [hB];exact lY rfl) (by rw [hB];exact lY rfl) ?_ ?_ (afj hf hB hQ h)
 ·(simp only [go_sem,hF,hP,hZ,gA,Sm.qF];repeat' (first | exact Ok.out | with_reducible refine aI ?_ ?_))
 ·(simp only [go_sem,hF,hP,hZ,gA,Sm.qF];repeat' (first | exact Ok.out | with_reducible refine aI ?_ ?_))
theorem afl {hx:Bool} (hf:v.mF) (hB:B.s = ⟨[],[]⟩) (hQ:iI 0 0 [(2,none)] (.bool p) ⟨[],[]⟩=Q) (ex:v.yf=hx) (hp:v.one=p) :
 Sem Tryz.prog B 178 abj Q [(1, .ptr 0 0),(3, .bool hx)] ⟨[aU v],[]⟩:=by
 generalize h:v.hasName=hn
 have hn:=h
 unfold Sm.hasName at h
 have⟨hF,hP,hZ,gA⟩:=bH
 refine Sem.km ?_
 repeat' (first
 | simp only [go_sem,hF,hP,hZ,gA]
 | (with_reducible first | refine bw fun hc=> ?_ | refine bx fun hc=> ?_ | refine bA (fun hc=> ?_) fun hc=> ?_) <;> (try simp only [hc,bs, ↓reduceIte]at h) <;> try simp only [hc]
 | (with_reducible refine aG hQ ?_;simp only [ay,az,bF,bG,go_sem,hF,hP,hZ,gA];repeat' (first | exact Ok.out | with_reducible refine aI ?_ ?_ | (simp;done))))
 all_goals
  refine Sem.re _ _ 1 0 (by rw [hB];exact lY rfl) (by rw [hB];exact lY rfl) ?_ ?_ (afk hf hB hQ ex hn hp)
  ·(simp only [go_sem,hF,hP,hZ,gA,h];repeat' (first | exact Ok.out | with_reducible refine aI ?_ ?_))
  ·(simp only [go_sem,hF,hP,hZ,gA,h];repeat' (first | exact Ok.out | with_reducible refine aI ?_ ?_))
theorem afm (hf:v.mF) (hB:B.s = ⟨[],[]⟩) (hQ:iI 0 0 [(2,none)] (.bool p) ⟨[],[]⟩=Q) (hp:v.one=p) :
 Sem Tryz.prog B 178 abk Q [(1, .ptr 0 0)] ⟨[aU v],[]⟩:=by
 generalize h:v.yf=hx
 have ex:=h
 unfold Sm.yf at h
 have⟨hF,hP,hZ,gA⟩:=bH
 refine Sem.km ?_
 repeat' (first
 | simp only [go_sem,hF,hP,hZ,gA]
 | (with_reducible first | refine bw fun hc=> ?_ | refine bx fun hc=> ?_ | refine bA (fun hc=> ?_) fun hc=> ?_) <;> (try simp only [hc,bs, ↓reduceIte]at h) <;> try simp only [hc]
 | (with_reducible refine aG hQ ?_;simp only [ay,az,bF,bG,go_sem,hF,hP,hZ,gA];repeat' (first | exact Ok.out | with_reducible refine aI ?_ ?_ | (simp;done))))
 all_goals
  refine Sem.re _ _ 1 0 (by rw [hB];exact lY rfl) (by rw [hB];exact lY rfl) ?_ ?_ (afl hf hB hQ ex hp)
  ·(simp only [go_sem,hF,hP,hZ,gA,h];repeat' (first | exact Ok.out | with_reducible refine aI ?_ ?_))
  ·(simp only [go_sem,hF,hP,hZ,gA,h];repeat' (first | exact Ok.out | with_reducible refine aI ?_ ?_))
end
theorem aB.goS {P:Program} {f:FuncId} {nt:Nat} {res:List (Nat×Option (Bool×Nat))} {body:AC} {args:List D} {s:St} {d:D} {s':St} (h0:Has P f nt res body) (hl:Nat.ble args.length nt=true)
 (h : ∀ (B:fv) (Q:Exit→Tm→St→Prop),B.s=s→iI s.aw.length s.aA.length res d s'=Q→Sem P B nt body Q (nX 0 args) s):aB P f args s d s':=by
 obtain⟨fn,hf,hc⟩:=h0
 exact aB.intro ⟨fn,hf,hc⟩ (Nat.le_of_ble_eq_true hl) fun B hB=>h B _ hB rfl
theorem Hd {v:Sm} (hf:v.mF) (s:St):aB Tryz.prog C4 [.agg (aU v)] s (.bool v.one) s:=by
 refine aB.pure ?_ (by simp [D.bp,D.ok,jZ]) rfl s
 unfold S0
 refine aB.goS IF rfl fun B Q hB hQ=> ?_
 have⟨hF,hP,hZ,gA⟩:=bH
 refine Sem.km ?_
 repeat' (first
 | simp only [go_sem,hF,hP,hZ,gA]
 | (with_reducible refine aG hQ ?_;simp only [ay,az,Option.some.injEq,exists_eq_left',go_sem,hF,hP,hZ,gA];repeat' (first | exact Ok.out | with_reducible refine aI ?_ ?_ | (simp;done))))
 refine Sem.re _ _ 1 0 (by rw [hB];exact lY rfl) (by rw [hB];exact lY rfl) ?_ ?_ (afm hf hB hQ rfl)
 ·(simp only [go_sem,hF,hP,hZ,gA];repeat' (first | exact Ok.out | with_reducible refine aI ?_ ?_))
 ·(simp only [go_sem,hF,hP,hZ,gA];repeat' (first | exact Ok.out | with_reducible refine aI ?_ ?_))
end Go.Abs

/-! TMay2 -/

namespace Go.Abs
set_option maxRecDepth 8000
open Go.Proofs
theorem Dl {x:Ex} (hx:x.size<4611686018427387904) (ht:x.texts) (s:St):aB Tryz.prog oR [.agg (bu x)] s (.bool (x.dp 20)) s:=by
 refine aB.pure ?_ (by simp [D.bp,D.ok,gE]) rfl s
 have hd:=fun s=>X6 _ x (Nat.le_refl _) hx ht 20 (by omega) (by omega) s
 unfold S0
 refine aB.go Ch rfl fun B Q hB hQ=> ?_
 have⟨hF,hP,hZ,gA⟩:=bH
 repeat' (first
 | simp only [go_sem,hF,hP,hZ,gA]
 | (with_reducible refine CU (hd _) ?_)
 | (with_reducible refine aG hQ ?_;simp only [ay,az,Option.some.injEq,exists_eq_left',go_sem,hF,hP,hZ,gA];repeat' (first | exact Ok.out | with_reducible refine aI ?_ ?_ | (simp;done))))
theorem X7 (x:Ex) (s:St):aB Tryz.prog wA [.agg (bu x)] s (.bool x.none) s:=by
 refine aB.pure ?_ (by simp [D.bp,D.ok,gE]) rfl s
 unfold S0
 generalize h:Ex.none x=p
 unfold Ex.none at h
 refine aB.go GF rfl fun B Q hB hQ=> ?_
 have⟨hF,hP,hZ,gA⟩:=bH
 repeat' (first
 | simp only [go_sem,hF,hP,hZ,gA]
 | (with_reducible first | refine bw fun hc=> ?_ | refine bx fun hc=> ?_ | refine bA (fun hc=> ?_) fun hc=> ?_) <;> (try simp only [hc,bs, ↓reduceIte]at h) <;> try simp only [hc]
 | (with_reducible refine aG hQ ?_;(try cases h);simp only [ay,az,bF,bG,go_sem,hF,hP,hZ,gA];repeat' (first | exact Ok.out | with_reducible refine aI ?_ ?_ | (simp;done))))
def qT (t:aC) (is:Bool):Bool:=(is && isName t) || (!is && t == [])
theorem Cj (t:aC) (is:Bool) (hl:t.length<4611686018427387904) (s:St):aB Tryz.prog oA [.str t, .bool is] s (.bool (qT t is)) s:=by
 refine aB.pure ?_ rfl rfl s
 have hn:=Am t hl
 unfold S0
 generalize h:qT t is=p
 unfold qT at h
 refine aB.go EV rfl fun B Q hB hQ=> ?_
 have⟨hF,hP,hZ,gA⟩:=bH
 repeat' (first
 | simp only [go_sem,hF,hP,hZ,gA]
 | (with_reducible refine CU (hn _) ?_)
 | (with_reducible first | refine bw fun hc=> ?_ | refine bx fun hc=> ?_ | refine bA (fun hc=> ?_) fun hc=> ?_) <;> (try simp only [hc,bs, ↓reduceIte]at h) <;> try simp only [hc]
 | (with_reducible refine aG hQ ?_;(try cases h);simp only [ay,az,bF,bG,go_sem,hF,hP,hZ,gA];repeat' (first | exact Ok.out | with_reducible refine aI ?_ ?_ | (simp;done))))
def uQ (x:Ex) (is:Bool):Bool:=(is && x.dp 20) || (!is && x.none)
theorem KR {x:Ex} (is:Bool) (hx:x.size<4611686018427387904) (ht:x.texts) (s:St):aB Tryz.prog qN [.agg (bu x), .bool is] s (.bool (uQ x is)) s:=by
 refine aB.pure ?_ (by simp [D.bp,D.ok,gE]) rfl s
 have hm:=Dl hx ht
 unfold S0
 generalize h:uQ x is=p
 unfold uQ at h
 refine aB.go EW rfl fun B Q hB hQ=> ?_
 have⟨hF,hP,hZ,gA⟩:=bH
 repeat' (first
 | simp only [go_sem,hF,hP,hZ,gA]
 | (with_reducible refine CU (hm _) ?_)
 | (with_reducible refine CU (X7 _ _) ?_)
 | (with_reducible first | refine bw fun hc=> ?_ | refine bx fun hc=> ?_ | refine bA (fun hc=> ?_) fun hc=> ?_) <;> (try simp only [hc,bs, ↓reduceIte]at h) <;> try simp only [hc]
 | (with_reducible refine aG hQ ?_;(try cases h);simp only [ay,az,bF,bG,go_sem,hF,hP,hZ,gA];repeat' (first | exact Ok.out | with_reducible refine aI ?_ ?_ | (simp;done))))
def oU:List Ar→Bool
 | []=>true
 | a::l=>if !(qT a.name a.ref) || !(uQ a.x !a.ref)then false else oU l
theorem TL {l:List Ar} (hl:l.length<4611686018427387904) (hs : ∀ a∈l,a.x.size<4611686018427387904∧a.x.texts∧a.name.length<4611686018427387904) (s:St) :
 aB Tryz.prog s5 [.slice .shared 6 (l.map ej)] s (.bool (oU l)) s:=by
 refine aB.pure ?_ (by simp [D.bp,D.ok,G7,Tag.ok]) rfl s
 unfold S0
 generalize h:oU l=p
 refine aB.go Df rfl fun B Q hB hQ=> ?_
 have⟨hF,hP,hZ,gA⟩:=bH
 repeat' (first
 | simp only [go_sem,hF,hP,hZ,gA]
 | (with_reducible first | refine bw fun hc=> ?_ | refine bx fun hc=> ?_ | refine bA (fun hc=> ?_) fun hc=> ?_) <;> (try simp only [hc,bs, ↓reduceIte]at h) <;> try simp only [hc]
 | (with_reducible refine aG hQ ?_;(try cases h);simp only [ay,az,bF,bG,go_sem,hF,hP,hZ,gA];repeat' (first | exact Ok.out | with_reducible refine aI ?_ ?_ | (simp;done))))
 refine cU 0 0 (bk.ind (ι:=List Ar×Nat) (fun i=>l.drop i.2=i.1∧oU i.1=p) (fun i=>i.1.length)
  (fun i=> [(5, .slice .shared 6 (l.map ej)),(6, .int .i64 (l.length:Int)),(7, .int .i64 (i.2:Int))]) (fun i=>⟨[],[]⟩) ?_ (l,0) ⟨rfl,h⟩)
 rintro⟨rest,k⟩ ⟨h1,h⟩ IH
 dsimp only at h1 h
 cases rest with
 | nil=>
  have hF:=drop_nil h1
  simp only [oU]at h
  repeat' (first
 | simp only [go_sem,hF,hP,hZ,gA]
 | (with_reducible first | refine bw fun hc=> ?_ | refine bx fun hc=> ?_ | refine bA (fun hc=> ?_) fun hc=> ?_) <;> (try simp only [hc,bs, ↓reduceIte]at h) <;> try simp only [hc]
 | (with_reducible refine aG hQ ?_;(try cases h);simp only [ay,az,bF,bG,go_sem,hF,hP,hZ,gA];repeat' (first | exact Ok.out | with_reducible refine aI ?_ ?_ | (simp;done))))
 | cons a rest=>
  obtain⟨hP,g2,hF,g4⟩:=drop_cons h1
  have hZ:k<4611686018427387904:=by omega
  obtain⟨a1,a2,a3⟩:=hs a (List.mem_of_getElem? hP)
  have hn:=fun b s=>Cj a.name b a3 s
  have hw:=fun b s=>KR b a1 a2 s
  simp only [oU]at h
  repeat' (first
 | simp only [go_sem,hF,hP,hZ,gA]
 | (with_reducible refine CU (hn _ _) ?_)
 | (with_reducible refine CU (hw _ _) ?_)
 | (with_reducible first | refine bw fun hc=> ?_ | refine bx fun hc=> ?_ | refine bA (fun hc=> ?_) fun hc=> ?_) <;> (try simp only [hc,bs, ↓reduceIte]at h) <;> try simp only [hc]
 | (with_reducible refine aG hQ ?_;(try cases h);simp only [ay,az,bF,bG,go_sem,hF,hP,hZ,gA];repeat' (first | exact Ok.out | with_reducible refine aI ?_ ?_ | (simp;done))))
  refine cU 0 0 (IH (rest,k+1) ⟨g2,h⟩ (Nat.lt_succ_self _))
def Sm.flags (s:Sm):Option (Bool×Bool×Bool×Bool×Bool×Bool):=
 if s.kind==1 then some (true,false,true,s.has,false,false)
 else if s.kind==2 || s.kind==10 then some (true,false,false,s.has,false,false)
 else if s.kind==3 then some (false,false,true,s.has,false,false)
 else if s.kind==4 then some (!(s.name == []),true,false,s.has,false,false)
 else if s.kind==5 then some (false,false,true,s.has,true,true)
 else if s.kind==6 then some (false,false,true,s.has,true,false)
 else if s.kind==9 then some (false,false,s.has,false,false,false)
 else if s.kind==7 || s.kind==8 then some (false,false,false,s.has,false,false)
 else none
def Sm.He (s:Sm) (nm pr x:Bool):Bool:=if !(qT s.name nm) || !(qT s.proc pr) || !(uQ s.x x)then false else oU s.args
def Sm.Hf (s:Sm) (f:Bool×Bool×Bool×Bool×Bool×Bool):Bool:=
 if f.2.2.2.1 || (!f.2.2.2.2.1 && decide ((s.aY.length:Int) > 0)) || (!f.2.2.2.2.2 && decide ((s.aP.length:Int) > 0)) || (!(s.kind==4) && decide ((s.args.length:Int) > 0))then false
 else s.He f.1 f.2.1 f.2.2.1
def Sm.fields (s:Sm):Bool:=match s.flags with
 | none=>false
 | some f=>s.Hf f
section
variable {v:Sm} {B:fv} {Q:Exit→Tm→St→Prop} {p:Bool}
theorem TN {nm pr x:Bool} (hf:v.mF) (hB:B.s = ⟨[],[]⟩) (hQ:iI 0 0 [(2,none)] (.bool p) ⟨[],[]⟩=Q) (h:v.He nm pr x=p) :
 Sem Tryz.prog B 93 aa5 Q [(1, .ptr 0 0),(3, .bool nm),(4, .bool pr),(5, .bool x)] ⟨[aU v],[]⟩:=by
 have h1:=fun b s=>Cj v.name b hf.name s
 have h2:=fun b s=>Cj v.proc b hf.proc s
 have h3:=fun b s=>KR b hf.x hf.xt s
 have h4:=fun s=>TL hf.abx hf.arg s
 unfold Sm.He at h
 have⟨hF,hP,hZ,gA⟩:=bH
 refine im ?_
 repeat' (first
 | simp only [go_sem,hF,hP,hZ,gA]
 | (with_reducible refine CU (h1 _ _) ?_)
 | (with_reducible refine CU (h2 _ _) ?_)
 | (with_reducible refine CU (h3 _ _) ?_)
 | (with_reducible refine CU (h4 _) ?_)
 | (with_reducible first | refine bw fun hc=> ?_ | refine bx fun hc=> ?_ | refine bA (fun hc=> ?_) fun hc=> ?_) <;> (try simp only [hc,bs, ↓reduceIte]at h) <;> try simp only [hc]
 | (with_reducible refine aG hQ ?_;(try cases h);simp only [ay,az,bF,bG,go_sem,hF,hP,hZ,gA];repeat' (first | exact Ok.out | with_reducible refine aI ?_ ?_ | (simp;done))))
theorem TO {nm pr x has th ot ar:Bool} (hf:v.mF) (hB:B.s = ⟨[],[]⟩) (hQ:iI 0 0 [(2,none)] (.bool p) ⟨[],[]⟩=Q) (e:(v.kind==4)=ar) (h:v.Hf (nm,pr,x,has,th,ot)=p) :
 Sem Tryz.prog B 93 aa6 Q [(1, .ptr 0 0),(3, .bool nm),(4, .bool pr),(5, .bool x),(6, .bool has),(7, .bool th),(8, .bool ot),(9, .bool ar)] ⟨[aU v],[]⟩:=by
 simp only [Sm.Hf,e]at h
 have⟨hF,hP,hZ,gA⟩:=bH
 refine Sem.km ?_
 repeat' (first
 | simp only [go_sem,hF,hP,hZ,gA]
 | (with_reducible first | refine bw fun hc=> ?_ | refine bx fun hc=> ?_ | refine bA (fun hc=> ?_) fun hc=> ?_) <;> (try simp only [hc,bs, ↓reduceIte]at h) <;> try simp only [hc]
 | (with_reducible refine aG hQ ?_;(try cases h);simp only [ay,az,bF,bG,go_sem,hF,hP,hZ,gA];repeat' (first | exact Ok.out | with_reducible refine aI ?_ ?_ | (simp;done))))
 all_goals
  refine Sem.re _ _ 1 0 (by rw [hB];exact lY rfl) (by rw [hB];exact lY rfl) ?_ ?_ (TN hf hB hQ h)
  ·(simp only [go_sem,hF,hP,hZ,gA];repeat' (first | exact Ok.out | with_reducible refine aI ?_ ?_))
  ·(simp only [go_sem,hF,hP,hZ,gA];repeat' (first | exact Ok.out | with_reducible refine aI ?_ ?_))
theorem TP {ar:Bool} (hf:v.mF) (hB:B.s = ⟨[],[]⟩) (hQ:iI 0 0 [(2,none)] (.bool p) ⟨[],[]⟩=Q) (e:(v.kind==4)=ar) (h:v.fields=p) :
 Sem Tryz.prog B 93 TA Q [(1, .ptr 0 0),(3, .bool false),(4, .bool false),(5, .bool false),(6, .bool v.has),(7, .bool false),(8, .bool false),(9, .bool ar)] ⟨[aU v],[]⟩:=by
 simp only [Sm.fields,Sm.flags]at h
 have⟨hF,hP,hZ,gA⟩:=bH
 refine Sem.km ?_
 repeat' (first
 | simp only [go_sem,hF,hP,hZ,gA]
 | (with_reducible first | refine bw fun hc=> ?_ | refine bx fun hc=> ?_ | refine bA (fun hc=> ?_) fun hc=> ?_) <;> (try simp only [hc,bs, ↓reduceIte]at h) <;> try simp only [hc]
 | (with_reducible refine aG hQ ?_;(try cases h);simp only [ay,az,bF,bG,go_sem,hF,hP,hZ,gA];repeat' (first | exact Ok.out | with_reducible refine aI ?_ ?_ | (simp;done))))
 all_goals
  refine Sem.re _ _ 1 0 (by rw [hB];exact lY rfl) (by rw [hB];exact lY rfl) ?_ ?_ (TO hf hB hQ e h)
  ·(simp only [go_sem,hF,hP,hZ,gA];repeat' (first | exact Ok.out | with_reducible refine aI ?_ ?_))
  ·(simp only [go_sem,hF,hP,hZ,gA];repeat' (first | exact Ok.out | with_reducible refine aI ?_ ?_))
end
theorem TQ {v:Sm} (hf:v.mF) (s:St):aB Tryz.prog sZ [.agg (aU v)] s (.bool v.fields) s:=by
 refine aB.pure ?_ (by simp [D.bp,D.ok,jZ]) rfl s
 unfold S0
 refine aB.goS Dc rfl fun B Q hB hQ=> ?_
 have⟨hF,hP,hZ,gA⟩:=bH
 refine Sem.seq (b:=aa8) (im ?_)
 repeat' (first
 | simp only [go_sem,hF,hP,hZ,gA]
 | (with_reducible refine aG hQ ?_;simp only [ay,az,Option.some.injEq,exists_eq_left',go_sem,hF,hP,hZ,gA];repeat' (first | exact Ok.out | with_reducible refine aI ?_ ?_ | (simp;done))))
 refine Sem.seq (b:=aa7) (im ?_)
 repeat' (first
 | simp only [go_sem,hF,hP,hZ,gA]
 | (with_reducible refine aG hQ ?_;simp only [ay,az,Option.some.injEq,exists_eq_left',go_sem,hF,hP,hZ,gA];repeat' (first | exact Ok.out | with_reducible refine aI ?_ ?_ | (simp;done))))
 refine Sem.seq (b:=TA) (im ?_)
 repeat' (first
 | simp only [go_sem,hF,hP,hZ,gA]
 | (with_reducible refine aG hQ ?_;simp only [ay,az,Option.some.injEq,exists_eq_left',go_sem,hF,hP,hZ,gA];repeat' (first | exact Ok.out | with_reducible refine aI ?_ ?_ | (simp;done))))
 refine Sem.re _ _ 1 0 (by rw [hB];exact lY rfl) (by rw [hB];exact lY rfl) ?_ ?_ (TP hf hB hQ rfl rfl)
 ·(simp only [go_sem,hF,hP,hZ,gA];repeat' (first | exact Ok.out | with_reducible refine aI ?_ ?_))
 ·(simp only [go_sem,hF,hP,hZ,gA];repeat' (first | exact Ok.out | with_reducible refine aI ?_ ?_))
end Go.Abs

/-! RefMay3 -/

namespace Go.Abs
set_option maxRecDepth 8000
open Go.Proofs
def jn (i:It):List D:= [.int .i64 i.s.id, .int .i64 i.s.kind, .slice .shared 1 (i.s.labels.map encStr), .str i.s.name, .str i.s.proc,
 .int .i64 i.s.x.op, .int .i64 i.s.x.n, .str i.s.x.name, .slice .shared 4 (i.s.x.kids.map bu), .bool i.s.has, .slice .shared 6 (i.s.args.map ej), .slice .shared 13 (i.s.aY.map aU), .slice .shared 13 (i.s.aP.map aU), .int .i64 i.deep, .int .i64 i.bY, .bool i.aP]
theorem abz (i:It):D.bp 0 0 (jn i)=true:=by simp [jn,D.bp,D.ok,Tag.ok,eC,VF,G7,jD]
theorem afn (n m:Nat) (l:List It):D.kf n m (l.map jn)=l.map jn:=ml abz n m l
theorem afo (n m:Nat) (i:It):D.gw n m (jn i)=jn i:=ib n m _ (abz i)
theorem afp (x:It):(jn x).length=16:=nd rfl
theorem abA (x:It):List.take 13 (jn x)=aU x.s:=by simp only [jn,cH];rfl
theorem TR (x:It):(jn x)[0]? = some (.int .i64 x.s.id):=nd rfl
theorem Qj (x:It):(jn x)[13]? = some (.int .i64 x.deep):=nd rfl
attribute [go_sem] afn afo afp abA TR Qj
abbrev auL (N:Nat):Prop:=∀ (l:List Sm) (deep bY:Int) (aP:Bool) (out:List It),Sm.aX l<N→0≤deep→deep≤13→out.length≤201→∀ {s:St} {t:Nat},s.aA[t]? = some (some out.length)→
 aB Tryz.prog Kc [.slice .shared 13 (l.map aU), .int .i64 deep, .int .i64 bY, .bool aP, .slice (.tok t) 16 (out.map jn)] s (.slice (.tok t) 16 ((eA deep bY aP out l).map jn)) ⟨s.aw,s.aA.set t (some (eA deep bY aP out l).length)⟩
end Go.Abs

/-! RefMay4 -/

namespace Go.Abs
set_option maxRecDepth 8000
open Go.Proofs
structure Pg.mF (p:Pg):Prop where
 sz:p.size<4611686018427387000
 yu : ∀ t∈p.globals,t.length<4611686018427387904
 lA : ∀ f∈p.procs,f.name.length<4611686018427387904∧(∀ t∈f.vars,t.length<4611686018427387904)∧(∀ t∈f.fin,t.length<4611686018427387904)∧∀ a∈f.params,a.name.length<4611686018427387904
 items : ∀ i∈p.all,i.s.mF
end Go.Abs

/-! TMay3 -/

namespace Go.Abs
set_option maxRecDepth 8000
open Go.Proofs
def gate (nest:Int) (len n:Nat) (r:Bool×Nat):Bool×Nat:=if decide (nest > 12) && decide ((len:Int) > 0)then(false,n)else r
mutual
def Sm.pf (nest:Int) (n:Nat):Sm→Bool×Nat
 | ⟨id,kind,labels,name,proc,x,has,args,aY,aP⟩=>
  if decide (((n+1:Nat):Int) > 200) || id != ((n+1:Nat):Int) || !(dd labels) || !(Sm.fields ⟨id,kind,labels,name,proc,x,has,args,aY,aP⟩)then(false,n+1)
  else if !(gate (nest+1) aY.length (n+1) (Sm.fe (nest+1) (n+1) aY)).1 then(false,(gate (nest+1) aY.length (n+1) (Sm.fe (nest+1) (n+1) aY)).2)
  else gate (nest+1) aP.length (gate (nest+1) aY.length (n+1) (Sm.fe (nest+1) (n+1) aY)).2 (Sm.fe (nest+1) (gate (nest+1) aY.length (n+1) (Sm.fe (nest+1) (n+1) aY)).2 aP)
def Sm.fe (nest:Int) (n:Nat):List Sm→Bool×Nat
 | []=>(true,n)
 | s::l=>if !(Sm.pf nest n s).1 then(false,(Sm.pf nest n s).2)else Sm.fe nest (Sm.pf nest n s).2 l
end
def Sm.gx (nest:Int) (n:Nat) (l:List Sm):Bool×Nat:=gate nest l.length n (Sm.fe nest n l)
theorem EZ (nest:Int) (n:Nat) (s:Sm):Sm.pf nest n s =
 if decide (((n+1:Nat):Int) > 200) || s.id != ((n+1:Nat):Int) || !(dd s.labels) || !(s.fields)then(false,n+1)
 else if !(Sm.gx (nest+1) (n+1) s.aY).1 then(false,(Sm.gx (nest+1) (n+1) s.aY).2)
 else Sm.gx (nest+1) (Sm.gx (nest+1) (n+1) s.aY).2 s.aP:=by
 cases s;simp only [Sm.pf,Sm.gx];rfl
mutual
def Sm.vI:Sm→Prop
 | ⟨id,kind,labels,name,proc,x,has,args,aY,aP⟩=>Sm.mF ⟨id,kind,labels,name,proc,x,has,args,aY,aP⟩∧Sm.jM aY∧Sm.jM aP
def Sm.jM:List Sm→Prop
 | []=>True
 | s::l=>s.vI∧Sm.jM l
end
theorem Ck (s:Sm):s.vI↔s.mF∧Sm.jM s.aY∧Sm.jM s.aP:=by cases s;simp only [Sm.vI]
theorem Dn {s:Sm} : ∀ {l:List Sm},Sm.jM l→s∈l→s.vI
 | y::l,h,m=>by
  simp only [Sm.jM]at h
  rcases List.mem_cons.1 m with rfl | m
  ·exact h.1
  ·exact Dn h.2 m
mutual
theorem X8 (nest:Int) (n:Nat) : ∀ s:Sm,n≤201→(Sm.pf nest n s).2≤202∧((Sm.pf nest n s).1=true→(Sm.pf nest n s).2≤200)
 | ⟨id,kind,labels,name,proc,x,has,args,aY,aP⟩,hn=>by
  simp only [Sm.pf]
  split
  ·exact⟨by dsimp only;omega,fun h=>by cases h⟩
  rename_i hc
  simp only [Bool.or_eq_true,decide_eq_true_eq,not_or]at hc
  have zh:n+1≤200:=by omega
  have g1 : ∀ (nest:Int) (l:List Sm) (m:Nat),m≤200→(Sm.fe nest m l).2≤202∧((Sm.fe nest m l).1=true→(Sm.fe nest m l).2≤200)→
   (gate nest l.length m (Sm.fe nest m l)).2≤202∧((gate nest l.length m (Sm.fe nest m l)).1=true→(gate nest l.length m (Sm.fe nest m l)).2≤200):=by
   intro nest l m hm h
   unfold gate
   split
   ·exact⟨by dsimp only;omega,fun h=>by cases h⟩
   ·exact h
  have h1:=g1 (nest+1) aY (n+1) zh (Bc (nest+1) (n+1) aY zh)
  split
  ·exact⟨h1.1,fun h=>by cases h⟩
  rename_i Hw
  have h2:=h1.2 (by simpa using Hw)
  exact g1 (nest+1) aP _ h2 (Bc (nest+1) _ aP h2)
theorem Bc (nest:Int) (n:Nat) : ∀ l:List Sm,n≤200→(Sm.fe nest n l).2≤202∧((Sm.fe nest n l).1=true→(Sm.fe nest n l).2≤200)
 | [],hn=>by simp only [Sm.fe];exact⟨by omega,fun _=>hn⟩
 | s::l,hn=>by
  simp only [Sm.fe]
  have h1:=X8 nest n s (by omega)
  split
  ·exact⟨h1.1,fun h=>by cases h⟩
  rename_i hc
  exact Bc nest _ l (h1.2 (by simpa using hc))
end
theorem E0 {nest:Int} {n:Nat} {l:List Sm} (hn:n≤200):(Sm.gx nest n l).2≤202∧((Sm.gx nest n l).1=true→(Sm.gx nest n l).2≤200):=by
 unfold Sm.gx gate
 split
 ·exact⟨by dsimp only;omega,fun h=>by cases h⟩
 ·exact Bc nest n l hn
theorem X9 : ∀ (m:Nat) (l:List Sm),Sm.aX l≤m→Sm.aX l<4611686018427387000→Sm.jM l→∀ (nest:Int) (n:Nat),0≤nest→nest≤13→n≤200→
 aB Tryz.prog jJ [.ptr 0 0, .slice .shared 13 (l.map aU), .int .i64 nest] ⟨[[.int .i64 n]],[]⟩ (.bool (Sm.gx nest n l).1) ⟨[[.int .i64 (Sm.gx nest n l).2]],[]⟩:=by
 intro m
 induction m with
 | zero=>
  intro l h hs hf nest n h0 h13 hn
  cases l with
  | nil=>
   have d1:decide ((0:Int) > 0)=false:=rfl
   have e:Sm.gx nest n [] = (true,n):=by simp [Sm.gx,gate,Sm.fe]
   have z:decide ((0:Int)<0)=false:=rfl
   rw [e]
   refine aB.go qQ rfl fun B Q hB hQ=> ?_
   have⟨hF,hP,hZ,gA⟩:=bH
   repeat' (first
 | simp only [go_sem,hF,hP,hZ,gA,d1,z]
 | (with_reducible refine bk.qA ?_)
 | (with_reducible first | refine bw fun hc=> ?_ | refine bx fun hc=> ?_ | refine bA (fun hc=> ?_) fun hc=> ?_) <;> (try simp only [hc,bs, ↓reduceIte]at h) <;> try simp only [hc]
 | (with_reducible refine aG hQ ?_;simp only [ay,az,bF,bG,go_sem,hF,hP,hZ,gA];repeat' (first | exact Ok.out | with_reducible refine aI ?_ ?_ | (simp;done))))
  | cons s l=>simp only [Sm.aX]at h;omega
 | succ m ih=>
  intro l h hs hf nest n h0 h13 hn
  generalize hR:Sm.gx nest n l=R
  have hlen:=Sm.cP l
  unfold Sm.gx gate at hR
  have h:=hR
  refine aB.go qQ rfl fun B Q hB hQ=> ?_
  have⟨hF,hP,hZ,gA⟩:=bH
  repeat' (first
 | simp only [go_sem,hF,hP,hZ,gA]
 | (with_reducible first | refine bw fun hc=> ?_ | refine bx fun hc=> ?_ | refine bA (fun hc=> ?_) fun hc=> ?_) <;> (try simp only [hc,bs, ↓reduceIte]at h) <;> try simp only [hc]
 | (with_reducible refine aG hQ ?_;(try cases h);simp only [ay,az,bF,bG,go_sem,hF,hP,hZ,gA];repeat' (first | exact Ok.out | with_reducible refine aI ?_ ?_ | (simp;done))))
  all_goals
   have afq:l≠ []→nest≤12:=by
    intro eJ
    have:l.length≠0:=by simpa using eJ
    simp_all <;> omega
   refine cU 1 0 (bk.ind (ι:=List Sm×Nat×Nat) (fun i=>l.drop i.2.1=i.1∧Sm.fe nest i.2.2 i.1=R∧i.2.2≤200) (fun i=>i.1.length)
    (fun i=> [(0, .ptr 0 0),(2, .int .i64 nest),(16, .slice .shared 13 (l.map aU)),(17, .int .i64 (l.length:Int)),(18, .int .i64 (i.2.1:Int))]) (fun i=>⟨[[.int .i64 (i.2.2:Int)]],[]⟩) ?_ (l,0,n) ⟨rfl,h,hn⟩)
   rintro⟨rest,k,j⟩ ⟨h1,h,hj⟩ IH
   dsimp only at h1 h hj
   cases rest with
   | nil=>
    have hF:=drop_nil h1
    simp only [Sm.fe]at h
    repeat' (first
 | simp only [go_sem,hF,hP,hZ,gA]
 | (with_reducible first | refine bw fun hc=> ?_ | refine bx fun hc=> ?_ | refine bA (fun hc=> ?_) fun hc=> ?_) <;> (try simp only [hc,bs, ↓reduceIte]at h) <;> try simp only [hc]
 | (with_reducible refine aG hQ ?_;(try cases h);simp only [ay,az,bF,bG,go_sem,hF,hP,hZ,gA];repeat' (first | exact Ok.out | with_reducible refine aI ?_ ?_ | (simp;done))))
   | cons s rest=>
    obtain⟨hP,g2,hF,g4⟩:=drop_cons h1
    have hZ:k<4611686018427387904:=by omega
    have nN:=List.mem_of_getElem? hP
    have dK:=Sm.bV nN
    have awu:=afq (by rintro rfl;simp at nN)
    obtain⟨CO,hft,hfe⟩:=(Ck s).1 (Dn hf nN)
    have R6:Sm.aX s.aY<s.size∧Sm.aX s.aP<s.size:=by cases s;simp only [Sm.size];omega
    have w1:IntKind.wrap .i64 ((j:Int)+1)=((j+1:Nat):Int):=by rw [c6] <;> omega
    have w2:IntKind.wrap .i64 (nest+1)=nest+1:=c6 (by omega) (by omega)
    have c1:=fun s=>yr CO.abw CO.lab s
    have c2:=fun s=>TQ CO s
    simp only [Sm.fe,EZ]at h
    by_cases Qk:j+1≤200
    ·have r1:=E0 (nest:=nest+1) (l:=s.aY) Qk
     have c3:=fun s' ho=>(ih s.aY (by omega) (by omega) hft (nest+1) (j+1) (by omega) (by omega) Qk).jY (s:=s') (o:=0) (by simp [D.bp,D.ok,jD,Tag.ok]) rfl rfl rfl ho
     by_cases uR:(Sm.gx (nest+1) (j+1) s.aY).1=true
     ·have c4:=fun s' ho=>(ih s.aP (by omega) (by omega) hfe (nest+1) _ (by omega) (by omega) (r1.2 uR)).jY (s:=s') (o:=0) (by simp [D.bp,D.ok,jD,Tag.ok]) rfl rfl rfl ho
      have r2:=E0 (nest:=nest+1) (l:=s.aP) (r1.2 uR)
      simp only [uR]at c3
      simp only [uR,Bool.not_true,Bool.false_eq_true, ↓reduceIte]at h
      repeat' (first
 | simp only [go_sem,hF,hP,hZ,gA,w1,w2,uR]
 | (with_reducible refine CU (c1 _) ?_)
 | (with_reducible refine CU (c2 _) ?_)
 | (with_reducible refine CU (c3 _ rfl) ?_)
 | (with_reducible refine CU (c4 _ rfl) ?_)
 | (with_reducible first | refine bw fun hc=> ?_ | refine bx fun hc=> ?_ | refine bA (fun hc=> ?_) fun hc=> ?_) <;> (try simp only [hc,bs, ↓reduceIte]at h) <;> try simp only [hc]
 | (with_reducible refine aG hQ ?_;(try cases h);simp only [ay,az,bF,bG,go_sem,hF,hP,hZ,gA,w1,w2,uR];repeat' (first | exact Ok.out | with_reducible refine aI ?_ ?_ | (simp;done))))
      refine cU 1 0 (IH (rest,k+1,(Sm.gx (nest+1) (Sm.gx (nest+1) (j+1) s.aY).2 s.aP).2) ⟨g2,h,r2.2 (by assumption)⟩ (Nat.lt_succ_self _))
     ·have uR:(Sm.gx (nest+1) (j+1) s.aY).1=false:=by simpa using uR
      simp only [uR]at c3
      simp only [uR,Bool.not_false, ↓reduceIte]at h
      repeat' (first
 | simp only [go_sem,hF,hP,hZ,gA,w1,w2,uR]
 | (with_reducible refine CU (c1 _) ?_)
 | (with_reducible refine CU (c2 _) ?_)
 | (with_reducible refine CU (c3 _ rfl) ?_)
 | (with_reducible first | refine bw fun hc=> ?_ | refine bx fun hc=> ?_ | refine bA (fun hc=> ?_) fun hc=> ?_) <;> (try simp only [hc,bs, ↓reduceIte]at h) <;> try simp only [hc]
 | (with_reducible refine aG hQ ?_;(try cases h);simp only [ay,az,bF,bG,go_sem,hF,hP,hZ,gA,w1,w2,uR];repeat' (first | exact Ok.out | with_reducible refine aI ?_ ?_ | (simp;done))))
    ·have d1:decide (((j+1:Nat):Int) > 200)=true:=by simp;omega
     simp only [d1,Bool.true_or,Bool.not_false, ↓reduceIte]at h
     repeat' (first
 | simp only [go_sem,hF,hP,hZ,gA,w1,w2,d1]
 | (with_reducible refine CU (c1 _) ?_)
 | (with_reducible refine CU (c2 _) ?_)
 | (with_reducible first | refine bw fun hc=> ?_ | refine bx fun hc=> ?_ | refine bA (fun hc=> ?_) fun hc=> ?_) <;> (try simp only [hc,bs, ↓reduceIte]at h) <;> try simp only [hc]
 | (with_reducible refine aG hQ ?_;(try cases h);simp only [ay,az,bF,bG,go_sem,hF,hP,hZ,gA,w1,w2,d1];repeat' (first | exact Ok.out | with_reducible refine aI ?_ ?_ | (simp;done))))
end Go.Abs

/-! TMay4 -/

namespace Go.Abs
set_option maxRecDepth 8000
open Go.Proofs
def Pc.fe (n:Nat):List Pc→Bool
 | []=>true
 | f::l=>
  if decide ((f.params.length:Int) > 8) || decide ((f.vars.length:Int) > 16) || !(isName f.name) || !(dd f.vars) || !(dd f.fin)then false
  else if !(Pm.ep f.params)then false
  else if !(Sm.gx 1 n f.body).1 then false
  else Pc.fe (Sm.gx 1 n f.body).2 l
def Pg.E1 (p:Pg):Bool:=
 if decide ((p.globals.length:Int) > 16) || decide ((p.procs.length:Int) > 16) || !(dd p.globals)then false
 else Pc.fe 0 p.procs
structure Pg.Hg (p:Pg):Prop where
 sz:p.size<4611686018427387000
 yu : ∀ t∈p.globals,t.length<4611686018427387904
 lA : ∀ f∈p.procs,f.name.length<4611686018427387904∧(∀ t∈f.vars,t.length<4611686018427387904)∧(∀ t∈f.fin,t.length<4611686018427387904)∧∀ a∈f.params,a.name.length<4611686018427387904
 body : ∀ f∈p.procs,Sm.jM f.body
theorem Ql {p:Pg} (hf:p.Hg) (s:St):aB Tryz.prog tO [.agg (bC p)] s (.bool p.E1) s:=by
 refine aB.pure ?_ (by simp only [D.bp,D.ok,gl];rfl) rfl s
 obtain⟨dK,zi,abB,LZ⟩:=hf
 have tA:Pc.aX p.procs<4611686018427387000:=by simp only [Pg.size]at dK;omega
 have afr:p.globals.length<4611686018427387904:=by simp only [Pg.size]at dK;omega
 have av8:p.procs.length<4611686018427387904:=by have:=Pc.cP p.procs;omega
 have hg:=fun s=>yr afr zi s
 unfold S0
 generalize h:p.E1=R
 unfold Pg.E1 at h
 refine aB.go Ix rfl fun B Q hB hQ=> ?_
 have⟨hF,hP,hZ,gA⟩:=bH
 repeat' (first
 | simp only [go_sem,hF,hP,hZ,gA]
 | (with_reducible refine CU (hg _) ?_)
 | (with_reducible first | refine bw fun hc=> ?_ | refine bx fun hc=> ?_ | refine bA (fun hc=> ?_) fun hc=> ?_) <;> (try simp only [hc,bs, ↓reduceIte]at h) <;> try simp only [hc]
 | (with_reducible refine aG hQ ?_;(try cases h);simp only [ay,az,bF,bG,go_sem,hF,hP,hZ,gA];repeat' (first | exact Ok.out | with_reducible refine aI ?_ ?_ | (simp;done))))
 refine cU 2 0 (bk.ind (ι:=List Pc×Nat×Nat) (fun i=>p.procs.drop i.2.1=i.1∧Pc.fe i.2.2 i.1=R∧i.2.2≤200) (fun i=>i.1.length)
  (fun i=> [(1, .ptr 0 0),(3, .ptr 1 0),(27, .slice .shared 5 (p.procs.map bq)),(28, .int .i64 (p.procs.length:Int)),(29, .int .i64 (i.2.1:Int))]) (fun i=>⟨[bC p,[.int .i64 (i.2.2:Int)]],[]⟩) ?_ (p.procs,0,0) ⟨rfl,h,Nat.zero_le _⟩)
 rintro⟨rest,k,n⟩ ⟨h1,h,hn⟩ IH
 dsimp only at h1 h hn
 cases rest with
 | nil=>
  have hF:=drop_nil h1
  simp only [Pc.fe]at h
  repeat' (first
 | simp only [go_sem,hF,hP,hZ,gA]
 | (with_reducible first | refine bw fun hc=> ?_ | refine bx fun hc=> ?_ | refine bA (fun hc=> ?_) fun hc=> ?_) <;> (try simp only [hc,bs, ↓reduceIte]at h) <;> try simp only [hc]
 | (with_reducible refine aG hQ ?_;(try cases h);simp only [ay,az,bF,bG,go_sem,hF,hP,hZ,gA];repeat' (first | exact Ok.out | with_reducible refine aI ?_ ?_ | (simp;done))))
 | cons f rest=>
  obtain⟨hP,g2,hF,g4⟩:=drop_cons h1
  have cv:k<4611686018427387904:=by omega
  have nN:=List.mem_of_getElem? hP
  have zj:=Pc.bV nN
  simp only [Pc.size]at zj
  obtain⟨zk,hfv,hff,hfp⟩:=abB f nN
  have hnm:=Am f.name zk
  have hv:=fun s=>yr (by omega) hfv s
  have he:=fun s=>yr (by omega) hff s
  have hb:=fun s' o ho=>(X9 _ f.body (Nat.le_refl _) (by omega) (LZ f nN) 1 n (by omega) (by omega) hn).jY (s:=s') (o:=o) (by simp [D.bp,D.ok,jD,Tag.ok]) rfl rfl rfl ho
  have hle:=E0 (nest:=1) (l:=f.body) hn
  simp only [Pc.fe]at h
  repeat' (first
 | simp only [go_sem,hF,hP,hZ,gA]
 | (with_reducible refine CU (hnm _) ?_)
 | (with_reducible refine CU (hv _) ?_)
 | (with_reducible refine CU (he _) ?_)
 | (with_reducible first | refine bw fun hc=> ?_ | refine bx fun hc=> ?_ | refine bA (fun hc=> ?_) fun hc=> ?_) <;> (try simp only [hc,bs, ↓reduceIte]at h) <;> try simp only [hc]
 | (with_reducible refine aG hQ ?_;exact jS)
 | (cases h;done))
  refine cU 3 0 (bk.ind (ι:=List Pm×Nat) (fun i=>f.params.drop i.2=i.1∧(if !(Pm.ep i.1)then false else if !(Sm.gx 1 n f.body).1 then false else Pc.fe (Sm.gx 1 n f.body).2 rest)=R) (fun i=>i.1.length)
   (fun i=> [(1, .ptr 0 0),(3, .ptr 1 0),(5, .ptr 2 0),(27, .slice .shared 5 (p.procs.map bq)),(28, .int .i64 (p.procs.length:Int)),(29, .int .i64 (k:Int)),(62, .slice .shared 2 (f.params.map fK)),(63, .int .i64 (f.params.length:Int)),(64, .int .i64 (i.2:Int))]) (fun i=>⟨[bC p,[.int .i64 (n:Int)],bq f],[]⟩) ?_ (f.params,0) ⟨rfl,h⟩)
  rintro⟨NV,j⟩ ⟨j1,h⟩ Dq
  dsimp only at j1 h
  cases NV with
  | nil=>
   have hF:=drop_nil j1
   simp only [Pm.ep,Bool.not_true,Bool.false_eq_true, ↓reduceIte]at h
   repeat' (first
 | simp only [go_sem,hF,hP,hZ,gA]
 | (with_reducible refine CU (hb _ _ rfl) ?_)
 | (with_reducible first | refine bw fun hc=> ?_ | refine bx fun hc=> ?_ | refine bA (fun hc=> ?_) fun hc=> ?_) <;> (try simp only [hc,bs, ↓reduceIte]at h) <;> try simp only [hc]
 | (with_reducible refine aG hQ ?_;exact jS)
 | (cases h;done))
   refine dZ 2 0 ?_ ?_ (IH (rest,k+1,(Sm.gx 1 n f.body).2) ⟨g2,h,hle.2 (by assumption)⟩ (Nat.lt_succ_self _))
   ·(simp only [go_sem,hF,hP,hZ,gA,aM cv];try exact bO)
   ·(simp only [go_sem,hF,hP,hZ,gA,aM cv];try exact bO)
  | cons a NV=>
   obtain⟨hP,b2,hF,b4⟩:=drop_cons j1
   have Qk:j<4611686018427387904:=by omega
   have ha:=Am a.name (hfp a (List.mem_of_getElem? hP))
   simp only [Pm.ep]at h
   repeat' (first
 | simp only [go_sem,hF,hP,hZ,gA]
 | (with_reducible refine CU (ha _) ?_)
 | (with_reducible first | refine bw fun hc=> ?_ | refine bx fun hc=> ?_ | refine bA (fun hc=> ?_) fun hc=> ?_) <;> (try simp only [hc,bs, ↓reduceIte]at h) <;> try simp only [hc]
 | (with_reducible refine aG hQ ?_;exact jS)
 | (cases h;done))
   refine dZ 3 0 ?_ ?_ (Dq (NV,j+1) ⟨b2,h⟩ (Nat.lt_succ_self _))
   ·(simp only [go_sem,hF,hP,hZ,gA,aM Qk];try exact bO)
   ·(simp only [go_sem,hF,hP,hZ,gA,aM Qk];try exact bO)
end Go.Abs

/-! MayFine -/

namespace Go.Abs
theorem yv {s:aC} (h:isName s=true):s.length≤8:=by
 cases s with
 | nil=>simp
 | cons c r=>
  simp only [isName]at h
  split at h
  ·cases h
  ·rename_i hc
   simp only [Bool.or_eq_true,decide_eq_true_eq,not_or]at hc
   simp only [List.length_cons];omega
theorem oF {t:aC} : ∀ {l:List aC},dd l=true→t∈l→isName t=true
 | s::l,h,m=>by
  simp only [dd]at h
  cases hs:isName s
  ·simp [hs]at h
  ·simp [hs]at h
   rcases List.mem_cons.1 m with rfl | m
   ·exact hs
   ·exact oF h m
theorem IL {a:Ar} : ∀ {l:List Ar},Ar.ep l=true→a∈l→a.may=true
 | s::l,h,m=>by
  simp only [Ar.ep]at h
  cases hs:s.may
  ·simp [hs]at h
  ·simp [hs]at h
   rcases List.mem_cons.1 m with rfl | m
   ·exact hs
   ·exact IL h m
theorem FH {a:Pm} : ∀ {l:List Pm},Pm.ep l=true→a∈l→isName a.name=true
 | s::l,h,m=>by
  simp only [Pm.ep]at h
  cases hs:isName s.name
  ·simp [hs]at h
  ·simp [hs]at h
   rcases List.mem_cons.1 m with rfl | m
   ·exact hs
   ·exact FH h m
mutual
theorem Dr : ∀ x:Ex,x.form=true→x.texts
 | ⟨op,n,name,kids⟩,h=>by
  simp only [Ex.form]at h
  split at h
  ·cases h
  ·rename_i hc
   refine⟨?_,BN kids h⟩
   simp only [Bool.or_eq_true,Bool.and_eq_true,Bool.not_eq_true',not_or,not_and,Bool.not_eq_false]at hc
   cases hn:(name == [])
   ·have:=yv (hc.2 hn);omega
   ·simp at hn;subst hn;simp
theorem BN : ∀ l:List Ex,Ex.oP l=true→Ex.uB l
 | [],_=>trivial
 | x::l,h=>by
  simp only [Ex.oP]at h
  cases hx:x.form
  ·simp [hx]at h
  ·simp [hx]at h
   exact⟨Dr x hx,BN l h⟩
end
theorem FI {x:Ex} (h:x.may=true):x.texts:=by
 unfold Ex.may at h
 simp only [Bool.and_eq_true]at h
 exact Dr x h.2
theorem Ds {x:Ex} (h:x.none=true):x.texts:=by
 obtain⟨op,n,name,kids⟩:=x
 simp [Ex.none]at h
 obtain⟨⟨_,h1⟩,h2⟩:=h
 subst h1 h2
 exact⟨by simp,trivial⟩
mutual
theorem Qm {deep bY:Int} {aP:Bool} {out:List It} {i:It} : ∀ s:Sm,i∈gy deep bY aP out s→i∈out∨i.s.size≤s.size
 | ⟨id,kind,labels,name,proc,x,has,args,aY,e⟩,h=>by
  simp only [gy]at h
  have key:i∈out++ [(⟨⟨id,kind,labels,name,proc,x,has,args,aY,e⟩,deep,bY,aP⟩:It)]→i∈out∨i.s.size≤(⟨id,kind,labels,name,proc,x,has,args,aY,e⟩:Sm).size:=by
   intro h
   rcases List.mem_append.1 h with h | h
   ·exact .inl h
   ·simp at h;subst h;exact .inr (Nat.le_refl _)
  split at h
  ·rcases vJ e h with h | h
   ·rcases vJ aY h with h | h
    ·exact key h
    ·right;simp only [Sm.size];omega
   ·right;simp only [Sm.size];omega
  ·exact key h
theorem vJ {deep bY:Int} {aP:Bool} {out:List It} {i:It} : ∀ l:List Sm,i∈eA deep bY aP out l→i∈out∨i.s.size<Sm.aX l
 | [],h=>by simp only [eA]at h;exact .inl h
 | s::l,h=>by
  simp only [eA]at h
  split at h
  ·rcases vJ l h with h | h
   ·rcases Qm s h with h | h
    ·exact .inl h
    ·right;simp only [Sm.aX];omega
   ·right;simp only [Sm.aX];omega
  ·exact .inl h
end
theorem IM {i:It} : ∀ (l:List Pc) (out:List It),i∈allM out l→i∈out∨i.s.size<Pc.aX l
 | [],out,h=>by simp only [allM]at h;exact .inl h
 | f::l,out,h=>by
  have key:i∈out++f.flat→i∈out∨i.s.size<Pc.aX (f::l):=by
   intro h
   rcases List.mem_append.1 h with h | h
   ·exact .inl h
   ·rcases vJ _ h with h | h
    ·simp at h
    ·right;simp only [Pc.aX,Pc.size];omega
  simp only [allM]at h
  split at h
  ·exact key h
  ·rcases IM l _ h with h | h
   ·exact key h
   ·right;simp only [Pc.aX];omega
theorem Dt {i:It} : ∀ (l:List It) (n:Nat),It.ep n l=true→i∈l→i.s.one=true
 | s::l,n,h,m=>by
  simp only [It.ep]at h
  split at h
  ·cases h
  ·rename_i hc
   simp only [Bool.or_eq_true,Bool.not_eq_true',not_or,Bool.not_eq_false]at hc
   rcases List.mem_cons.1 m with rfl | m
   ·exact hc.2
   ·exact Dt l (n+1) h m
theorem IN {s:Sm} (h:s.one=true) (hs:s.size<4611686018427387000):s.mF:=by
 unfold Sm.one at h
 split at h
 ·cases h
 split at h
 ·cases h
 split at h
 ·cases h
 split at h
 ·cases h
 rename_i c1 c2 c3 c4
 simp only [Bool.or_eq_true,Bool.and_eq_true,Bool.not_eq_true',not_or,not_and,Bool.not_eq_false,decide_eq_true_eq]at c1 c2 c3 c4
 obtain⟨⟨⟨⟨⟨_,_⟩,aom⟩,cx⟩,cn⟩,_⟩:=c1
 obtain⟨c21,c22⟩:=c2
 obtain⟨⟨c31,c32⟩,c33⟩:=c3
 have nm : ∀ {t:aC},isName t=true→t.length<4611686018427387904:=fun h=>by have:=yv h;omega
 have dK:1+s.labels.length+s.x.size+Ar.aX s.args≤s.size:=by cases s;simp only [Sm.size];omega
 have tv:=Ar.cP s.args
 refine⟨fun t ht=>nm (oF aom ht),by omega, ?_, ?_,by omega, ?_,by omega,fun a ha=> ?_⟩
 ·cases hn:s.hasName
  ·cases he:(s.name == [])
   ·exact nm (c22 ⟨hn,he⟩).2
   ·simp at he;rw [he];simp
  ·exact nm (c21 hn)
 ·cases tn:s.qF
  ·rw [tn]at c31
   have:s.proc = []:=by simpa using c31
   rw [this];simp
  ·exact nm (c32 tn)
 ·cases hx:s.yf
  ·exact Ds (cn hx)
  ·exact FI (cx hx)
 ·have hm:=IL c4 ha
  have WG:=Ar.bV ha
  unfold Ar.may at hm
  split at hm
  ·simp only [Bool.and_eq_true]at hm
   exact⟨by omega,Ds hm.2,nm hm.1⟩
  ·simp only [Bool.and_eq_true,beq_iff_eq]at hm
   exact⟨by omega,FI hm.2,by rw [hm.1];simp⟩
theorem FJ {f:Pc} : ∀ {l:List Pc},Pc.lA l=true→f∈l→isName f.name=true∧dd f.vars=true∧dd f.fin=true∧Pm.ep f.params=true
 | s::l,h,m=>by
  simp only [Pc.lA]at h
  split at h
  ·cases h
  split at h
  ·cases h
  rename_i c1 c2
  simp only [Bool.or_eq_true,Bool.not_eq_true',not_or,Bool.not_eq_false]at c1 c2
  rcases List.mem_cons.1 m with rfl | m
  ·exact⟨c1.1.1.1.1,c1.1.2,c1.2,c2⟩
  ·exact FJ h m
theorem TT {p:Pg} (h:p.may=true) (hs:p.size<4611686018427387000):p.mF:=by
 unfold Pg.may at h
 split at h
 ·cases h
 split at h
 ·cases h
 split at h
 ·cases h
 rename_i c1 c2 c3
 simp only [Bool.or_eq_true,Bool.not_eq_true',not_or,Bool.not_eq_false]at c1 c2
 have nm : ∀ {t:aC},isName t=true→t.length<4611686018427387904:=fun h=>by have:=yv h;omega
 refine⟨hs,fun t ht=>nm (oF c1.2 ht),fun f hf=> ?_,fun i hi=> ?_⟩
 ·obtain⟨a,b,c,d⟩:=FJ c2 hf
  exact⟨nm a,fun t ht=>nm (oF b ht),fun t ht=>nm (oF c ht),fun t ht=>nm (FH d ht)⟩
 ·refine IN (Dt _ _ h hi) ?_
  rcases IM _ _ hi with h1 | h1
  ·simp at h1
  ·simp only [Pg.size]at hs;omega
end Go.Abs
