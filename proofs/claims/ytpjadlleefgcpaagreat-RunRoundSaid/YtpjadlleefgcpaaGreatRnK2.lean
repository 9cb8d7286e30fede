/-
  What is proved here: part 2 of the road to the claim (Codes1, Have1, Codes2, Have2, Codes3, Codes4, Have4, Codes5, Have5, Have3, MirLex, MirMay, Prs, Lex1, Lex2, RefLex1, Prs2, Ref1, Ref2, RefMay2, Flat1, Flat2, Flat3, Sl1, MirFlat2, Sl2, TMay1, TMay2, RefMay3, RefMay4, TMay3, TMay4, MayFine, MayEq, Nm1, Nm2, Nm3).
  No conditions.
-/
import Derived.Test.YtpjadlleefgcpaaGreatRnK1
import Derived.Test.YtpjadlleefgcpaaGreatProg
import Derived.KernelRfl

set_option linter.unusedSimpArgs false
set_option linter.unusedVariables false
namespace Go.Abs
abbrev Q9N:AC:= .seq (.run [.o 1 (.box bB),(.o 2 (.mv (.k (.val (.complex .f64 0 0)))))]) (.seq (.run [.o 3 (.av bq 1), .o 4 (.load cz false 1), .o 5 (.sX (.ofInt .f64) eZ eZ), .o 6 (.av bq 2), .o 7 (.load dC false 1), .o 8 (.sX (.ofInt .f64) cR cR), .o 9 (.sX .LO bV cD), .m 2 dh]) .ret)
abbrev Q9P:AC:= .run [(.o 3 (.dm [(.str [])] 1 1 [(0,(.k (.str [118])))])), .c 4 tx [(.k (.int .i64 2))],(.o 5 (.build [(.int .i64 0),(.int .i64 0),(.slice .full 0 []),(.str []),(.str []),(.int .i64 0),(.int .i64 0),(.str []),(.slice .full 0 []),(.bool false),(.slice .full 0 []),(.slice .full 0 []),(.slice .full 0 [])] [(0,(1,(.k (.int .i64 1)))),(1,(1,(.k (.int .i64 1)))),(3,(1,(.k (.str [118])))),(5,(4,eZ))])), .c 6 tx [(.k (.int .i64 3))], .o 7 (.build [(.bool false),(.str []),(.int .i64 0),(.int .i64 0),(.str []),(.slice .full 0 [])] [(2,(4,dC))]),(.o 8 (.build [(.bool false),(.str []),(.int .i64 0),(.int .i64 0),(.str []),(.slice .full 0 [])] [(0,(1,(.k (.bool true)))),(1,(1,(.k (.str [118]))))])), .o 9 (.dm [(.bool false),(.str []),(.int .i64 0),(.int .i64 0),(.str []),(.slice .full 0 [])] 6 2 [(0,cR),(1,cD)]),(.o 10 (.build [(.int .i64 0),(.int .i64 0),(.slice .full 0 []),(.str []),(.str []),(.int .i64 0),(.int .i64 0),(.str []),(.slice .full 0 []),(.bool false),(.slice .full 0 []),(.slice .full 0 []),(.slice .full 0 [])] [(0,(1,(.k (.int .i64 2)))),(1,(1,(.k (.int .i64 4)))),(3,(1,(.k (.str [103])))),(4,(1,(.k (.str [112])))),(10,(1,dh))])),(.c 11 mJ [(.k (.str [118]))]),(.o 12 (.build [(.int .i64 0),(.int .i64 0),(.slice .full 0 []),(.str []),(.str []),(.int .i64 0),(.int .i64 0),(.str []),(.slice .full 0 []),(.bool false),(.slice .full 0 []),(.slice .full 0 []),(.slice .full 0 [])] [(0,(1,(.k (.int .i64 3)))),(1,(1,(.k (.int .i64 3)))),(5,(4,cG))])),(.c 13 mJ [(.k (.str [103]))]),(.o 14 (.build [(.int .i64 0),(.int .i64 0),(.slice .full 0 []),(.str []),(.str []),(.int .i64 0),(.int .i64 0),(.str []),(.slice .full 0 []),(.bool false),(.slice .full 0 []),(.slice .full 0 []),(.slice .full 0 [])] [(0,(1,(.k (.int .i64 4)))),(1,(1,(.k (.int .i64 3)))),(5,(4,db))])), .o 15 (.dm [(.int .i64 0),(.int .i64 0),(.slice .full 0 []),(.str []),(.str []),(.int .i64 0),(.int .i64 0),(.str []),(.slice .full 0 []),(.bool false),(.slice .full 0 []),(.slice .full 0 []),(.slice .full 0 [])] 13 4 [(0,bV),(1,bR),(2,cJ),(3,cL)]),(.o 16 (.build [(.str []),(.slice .full 0 []),(.slice .full 0 []),(.slice .full 0 []),(.slice .full 0 [])] [(0,(1,(.k (.str [109,97,105,110])))),(2,(1,cz)),(3,(1,dq))])), .o 1 (.alloc [(.str []),(.slice .full 0 []),(.slice .full 0 []),(.slice .full 0 []),(.slice .full 0 [])]), .op none none (.store bq dg 5)]
abbrev Q9Q:AC:= .run [(.o 17 (.build [(.str []),(.bool false)] [(0,(1,(.k (.str [120]))))])),(.o 18 (.build [(.str []),(.bool false)] [(0,(1,(.k (.str [121])))),(1,(1,(.k (.bool true))))])), .o 19 (.dm [(.str []),(.bool false)] 2 2 [(0,dE),(1,dB)]),(.o 20 (.dm [(.str [])] 1 1 [(0,(.k (.str [101])))])),(.c 21 mJ [(.k (.str [121]))]),(.c 22 mJ [(.k (.str [120]))]), .c 23 w6 [(.k (.int .i64 8)),dY,eA],(.o 24 (.build [(.int .i64 0),(.int .i64 0),(.slice .full 0 []),(.str []),(.str []),(.int .i64 0),(.int .i64 0),(.str []),(.slice .full 0 []),(.bool false),(.slice .full 0 []),(.slice .full 0 []),(.slice .full 0 [])] [(0,(1,(.k (.int .i64 5)))),(1,(1,(.k (.int .i64 1)))),(3,(1,(.k (.str [121])))),(5,(4,eC))])),(.c 25 mJ [(.k (.str [121]))]), .c 26 tx [(.k (.int .i64 9))], .c 27 w6 [(.k (.int .i64 12)),e9,fv],(.o 28 (.build [(.int .i64 0),(.int .i64 0),(.slice .full 0 []),(.str []),(.str []),(.int .i64 0),(.int .i64 0),(.str []),(.slice .full 0 []),(.bool false),(.slice .full 0 []),(.slice .full 0 []),(.slice .full 0 [])] [(0,(1,(.k (.int .i64 7)))),(1,(1,(.k (.int .i64 10)))),(3,(1,(.k (.str [101]))))])), .o 29 (.dm [(.int .i64 0),(.int .i64 0),(.slice .full 0 []),(.str []),(.str []),(.int .i64 0),(.int .i64 0),(.str []),(.slice .full 0 []),(.bool false),(.slice .full 0 []),(.slice .full 0 []),(.slice .full 0 [])] 13 1 [(0,fZ)]),(.o 30 (.build [(.int .i64 0),(.int .i64 0),(.slice .full 0 []),(.str []),(.str []),(.int .i64 0),(.int .i64 0),(.str []),(.slice .full 0 []),(.bool false),(.slice .full 0 []),(.slice .full 0 []),(.slice .full 0 [])] [(0,(1,(.k (.int .i64 6)))),(1,(1,(.k (.int .i64 5)))),(5,(4,fG)),(11,(1,gf))])),(.c 31 mJ [(.k (.str [121]))]),(.o 32 (.build [(.int .i64 0),(.int .i64 0),(.slice .full 0 []),(.str []),(.str []),(.int .i64 0),(.int .i64 0),(.str []),(.slice .full 0 []),(.bool false),(.slice .full 0 []),(.slice .full 0 []),(.slice .full 0 [])] [(0,(1,(.k (.int .i64 8)))),(1,(1,(.k (.int .i64 9)))),(9,(1,(.k (.bool true)))),(5,(4,gF))])), .o 33 (.dm [(.int .i64 0),(.int .i64 0),(.slice .full 0 []),(.str []),(.str []),(.int .i64 0),(.int .i64 0),(.str []),(.slice .full 0 []),(.bool false),(.slice .full 0 []),(.slice .full 0 []),(.slice .full 0 [])] 13 3 [(0,eR),(1,gn),(2,gU)]),(.o 34 (.build [(.str []),(.slice .full 0 []),(.slice .full 0 []),(.slice .full 0 []),(.slice .full 0 [])] [(0,(1,(.k (.str [112])))),(1,(1,dX)),(4,(1,ez)),(3,(1,gM))])), .o 2 (.alloc [(.str []),(.slice .full 0 []),(.slice .full 0 []),(.slice .full 0 []),(.slice .full 0 [])]), .op none none (.store du iC 5)]
abbrev Q9S:AC:= .seq (.run [(.o 35 (.dm [(.str [])] 1 1 [(0,(.k (.str [103])))])), .o 36 (.load bq true 5), .o 37 (.load du true 5), .o 38 (.dm [(.str []),(.slice .full 0 []),(.slice .full 0 []),(.slice .full 0 []),(.slice .full 0 [])] 5 2 [(0,iD),(1,jc)]), .o 39 (.build [(.slice .full 0 []),(.slice .full 0 [])] [(0,(1,gV)),(1,(1,jw))]), .op none none (.store bB jq 2)]) .ret
abbrev Q9V:AC:= .seq (.run [.o 0 (.alloc [(.slice .full 0 []),(.slice .full 0 [])])]) (.seq Q9P (.seq Q9Q Q9S))
abbrev QA5:AC:= .seq (.seq (.run [.m 6 bV, .m 7 bB, .o 8 (.len cR), .o 9 (.bin .lss dC cD), .m 10 dh, .g 11 10 true (.mv bq), .g 12 10 true (.bin .leq cG (.k (.int .i64 20000))), .o 13 (.pick bR cJ (.k (.bool false)))]) (.cond db .skip (.exit 0))) (.seq (.block 1 (.run [.m 16 bB, .m 17 bV, .o 18 (.bZ dg dE 1), .o 19 (.load dB false 1), .m 20 bq, .c 21 iB [dX,ez], .m 1 dY])) (.run [.m 14 bV, .o 15 (.bin .add cL (.k (.int .i64 1))), .m 5 dq]))
abbrev QAB:AC:= .seq (.seq (.run [.o 5 (.mv (.k (.int .i64 0)))]) (.block 0 (.loop QA5))) (.seq (.run [.m 22 bq, .m 4 eA]) .ret)
abbrev QAC:AC:= .seq (.run [.o 4 (.mv (.k (.int .i64 0)))]) QAB
abbrev QAH:AC:= .cond db (.seq (.run [.o 4 (.mv (.k (.int .i64 20001)))]) .ret) .skip
abbrev QAL:AC:= .seq (.seq (.run [.m 5 bq, .o 6 (.bin .gtr bV (.k (.int .i64 20000))), .m 7 dC, .g 8 7 false (.mv bB), .g 9 7 false (.xo cD), .g 10 7 false (.mv bq), .g 11 7 false (.bin .sub (.k (.int .i64 20000)) bR), .g 12 7 false (.bin .geq dh cG), .o 13 (.pick cR (.k (.bool true)) cJ)]) QAH) (.seq (.run [.m 14 bq, .o 15 (.bin .add cL (.k (.int .i64 1))), .m 16 bB, .o 17 (.xo dg), .o 18 (.bin .add dq dE), .m 4 dB]) .ret)
abbrev QAM:AC:= .seq (.run [.o 4 (.mv (.k (.int .i64 0)))]) QAL
abbrev QAT:AC:= .par [.o 22 (.av dC 4), .o 23 (.load eA false 1), .o 24 (.av dC 3), .o 25 (.load eR false 1), .o 26 (.av dC 2), .o 27 (.load fv false 1), .o 28 (.av dC 5), .o 29 (.load fZ true 4), .m 30 bq, .c 31 lj [gf,gn], .c 32 kS [fG,gF], .c 33 iB [e9,gU], .c 34 iB [eC,gM], .m 1 iC] [(6,0),(7,0),(8,0),(9,0),(4,0),(5,1),(10,0),(2,0),(3,2),(11,0),(0,0),(1,3),(12,0),(13,0)]
abbrev QAY:AC:= .par [.o 46 (.av dC 10), .o 47 (.load lY false 1), .m 48 cR, .o 49 (.bZ nj lZ 6), .o 50 (.av l5 1), .o 51 (.load mA false 1), .o 52 (.av dC 10), .o 53 (.load lK false 1), .m 54 cR, .o 55 (.bZ mB nn 6), .o 56 (.av nF 2), .o 57 (.load pM true 4), .m 58 bq, .c 59 lj [qN,qk], .c 60 iB [lJ,og], .m 1 rJ] [(6,0),(7,0),(8,0),(9,0),(10,0),(11,0),(12,0),(13,0),(0,0),(1,1),(2,0),(3,0),(4,0),(5,1),(14,0),(15,0)]
abbrev QB2:AC:= .seq (.seq (.run [.m 35 cR, .o 36 (.av dC 10), .o 37 (.load iD false 1), .o 38 (.len jc), .o 39 (.bin .lss gV jw), .m 40 jq, .g 41 40 true (.mv bq), .g 42 40 true (.bin .leq jZ (.k (.int .i64 20000))), .o 43 (.pick jY kJ (.k (.bool false)))]) (.cond kq .skip (.exit 2))) (.seq (.block 3 QAY) (.run [.m 44 cR, .o 45 (.bin .add kK (.k (.int .i64 1))), .m 7 lX]))
abbrev QB6:AC:= .par [.o 61 (.av dC 12), .o 62 (.load tJ false 1), .o 63 (.av dC 11), .o 64 (.load tL false 1), .m 65 bq, .c 66 l9 [tM,xT], .c 67 l9 [sC,Ab], .m 1 Ac] [(2,0),(3,0),(4,0),(5,0),(0,0),(1,1),(6,0),(7,0)]
abbrev QB7:AC:= .seq (.seq (.run [.o 7 (.mv (.k (.int .i64 0)))]) (.block 2 (.loop QB2))) QB6
abbrev QBC:AC:= .seq (.block 1 (.seq (.run [.m 18 bB, .m 19 bV, .o 20 (.bZ dB dX 13), .o 21 (.load ez true 13), .o 6 (.alloc [(.int .i64 0),(.int .i64 0),(.slice .full 0 []),(.str []),(.str []),(.int .i64 0),(.int .i64 0),(.str []),(.slice .full 0 []),(.bool false),(.slice .full 0 []),(.slice .full 0 []),(.slice .full 0 [])]), .op none none (.store dC dY 13)]) (.seq QAT QB7))) (.run [.m 16 bV, .o 17 (.bin .add dg (.k (.int .i64 1))), .m 5 dE])
abbrev QBD:AC:= .seq (.seq (.run [.m 8 bV, .m 9 bB, .o 10 (.len dh), .o 11 (.bin .lss cD bR), .m 12 cG, .g 13 12 true (.mv bq), .g 14 12 true (.bin .leq db (.k (.int .i64 20000))), .o 15 (.pick cJ cL (.k (.bool false)))]) (.cond dq .skip (.exit 0))) QBC
abbrev QBJ:AC:= .seq (.seq (.run [.o 5 (.mv (.k (.int .i64 0)))]) (.block 0 (.loop QBD))) (.seq (.run [.m 68 bq, .m 4 xU]) .ret)
abbrev QBK:AC:= .seq (.run [.o 4 (.mv (.k (.int .i64 0)))]) QBJ
abbrev QBR:AC:= .par [.m 17 cz, .m 18 cz, .o 19 (.cm dB), .o 20 (.av dX 3), .o 21 (.load ez false 1), .m 22 cz, .o 23 (.cm eA), .o 24 (.av eC 2), .o 25 (.load eR false 1), .o 26 (.len e9), .o 27 (.bin .add fv (.k (.int .i64 1))), .o 28 (.dm [(.int .i64 0)] 1 1 [(0,fG)]), .o 29 (.app 1 8 dY fZ), .o 30 (.cm dE), .o 31 (.av gn 3), .op none none (.store gF gf 1)] [(1,0),(2,0),(3,0),(4,0),(5,0),(6,0),(7,0),(8,0),(9,0),(10,0),(11,0),(12,0),(0,0),(13,0),(14,0),(15,0)]
abbrev QBT:AC:= .par [.m 38 cz, .m 39 cz, .o 40 (.cm jq), .o 41 (.av jY 4), .o 42 (.load jZ false 1), .m 43 cz, .o 44 (.cm kq), .o 45 (.av kK 2), .o 46 (.load lX false 1), .o 47 (.len lY), .o 48 (.bin .add nj (.k (.int .i64 1))), .o 49 (.dm [(.int .i64 0)] 1 1 [(0,lZ)]), .o 50 (.app 1 8 kJ l5), .o 51 (.cm jw), .o 52 (.av lJ 4), .op none none (.store lK mA 1)] [(1,0),(2,0),(3,0),(4,0),(5,0),(6,0),(7,0),(8,0),(9,0),(10,0),(11,0),(12,0),(0,0),(13,0),(14,0),(15,0)]
abbrev QBU:AC:= .seq (.run [.m 32 cz, .o 33 (.av bV 3), .o 34 (.load gM false 1), .m 35 eZ,(.o 36 (.build [(.int .i64 0),(.int .i64 0),(.slice .full 0 []),(.str []),(.str []),(.int .i64 0),(.int .i64 0),(.str []),(.slice .full 0 []),(.bool false),(.slice .full 0 []),(.slice .full 0 []),(.slice .full 0 []),(.int .i64 0),(.int .i64 0),(.int .i64 0),(.int .i64 0)] [(13,(1,gV)),(15,(1,(.k (.int .i64 (-1)))))])), .c 37 lk [gU,iC,iD]]) QBT
abbrev QBZ:AC:= .seq (.block 1 (.seq (.run [.m 14 cJ, .o 15 (.bZ bR cJ 5), .o 16 (.load dq true 5), .o 5 (.alloc [(.str []),(.slice .full 0 []),(.slice .full 0 []),(.slice .full 0 []),(.slice .full 0 [])]), .m 4 cL, .op none none (.store bV dg 5)]) (.seq QBR QBU))) (.run [.o 53 (.bin .add cJ (.k (.int .i64 1))), .m 12 mB])
abbrev QC3:AC:= .block 0 (.loop (.seq (.run [.o 13 (.bin .lss cJ cG)]) (.seq (.cond db .skip (.exit 0)) QBZ)))
abbrev QC7:AC:= .seq (.seq (.run [.o 9 (.av bq 1), .o 10 (.load dh false 1), .o 11 (.len bR), .o 12 (.mv (.k (.int .i64 0)))]) QC3) (.seq (.run [.m 54 cz, .m 2 nn]) .ret)
abbrev QC9:AC:= .seq (.run [.o 1 (.box bB), .o 2 (.mv (.k .eY))]) (.seq (.run [.o 6 (.load bq true 2), .o 7 (.build [(.slice .full 0 []),(.slice .full 0 []),(.slice .full 0 []),(.slice .full 0 []),(.slice .full 0 [])] [(0,(2,dC))]), .o 8 (.box cR), .m 3 cD]) QC7)
abbrev QCC:AC:= .par [.m 22 bq, .m 23 bB, .o 24 (.cm eC), .o 25 (.av eR 0), .o 26 (.load e9 false 1), .o 27 (.cm fv), .o 28 (.av fG 0), .o 29 (.load fZ true 2), .o 30 (.av dh 0), .o 31 (.load gn false 1), .c 32 xN [gf,gF], .m 33 cz, .o 34 (.build [(.int .i64 0),(.slice .full 0 []),(.slice .full 0 []),(.int .i64 0)] [(0,(1,eA)),(1,(1,gU)),(3,(1,gM))]), .o 35 (.box iC), .m 10 gV] [(1,0),(2,0),(3,0),(4,0),(5,0),(6,0),(7,0),(8,0),(9,0),(10,0),(0,0),(11,0),(12,0),(13,0),(14,0)]
abbrev QCD:AC:= .par [.m 36 bR, .m 37 bR, .o 38 (.cm jc), .o 39 (.av jw 2), .o 40 (.load jq false 1), .m 41 bB, .o 42 (.cm jZ), .o 43 (.av kJ 1), .o 44 (.load kq false 1), .o 45 (.app 1 8 jY kK), .m 46 du, .o 47 (.app 1 8 lX lY), .o 48 (.cm iD), .o 49 (.av lZ 2), .op none none (.store l5 nj 1)] [(1,0),(2,0),(3,0),(4,0),(5,0),(6,0),(7,0),(8,0),(9,0),(10,0),(11,0),(0,0),(12,0),(13,0),(14,0)]
abbrev QCL:AC:= .seq (.cond nn .skip (.exit 0)) (.seq (.block 1 (.run [.m 55 bR, .m 56 bR, .o 57 (.cm pM), .o 58 (.av qN 2), .o 59 (.load qk false 1), .o 60 (.alloc [(.int .i64 0)]), .o 61 (.dm [.eY] 1 1 [(0,rJ)]), .o 62 (.app 1 8 og tJ), .o 63 (.cm nF), .o 64 (.av tL 2), .op none none (.store tM sC 1)])) (.run [.o 65 (.bin .add mB (.k (.int .i64 1))), .m 53 xT]))
abbrev QCM:AC:= .seq (.run [.o 54 (.bin .lss mB lK)]) QCL
abbrev QCT:AC:= .seq (.run [.m 66 bB, .m 67 bB, .o 68 (.cm Ac), .o 69 (.av xU 4), .o 70 (.load BP false 1), .m 71 bR, .o 72 (.dm [.eY] 1 1 [(0,F9)]), .o 73 (.app 1 8 BQ DQ), .o 74 (.cm Ab), .o 75 (.av Ga 4), .op none none (.store Gb DR 1)]) (.seq (.run [.m 76 bB, .o 77 (.cm DS), .o 78 (.av Gc 0), .o 79 (.load BR false 1), .m 80 bq, .c 81 qK [Jd,Je], .m 8 Jf]) .ret)
abbrev QCU:AC:= .seq (.seq (.run [.o 50 (.av dh 2), .o 51 (.load mA false 1), .o 52 (.len lJ), .o 53 (.mv (.k (.int .i64 0)))]) (.block 0 (.loop QCM))) QCT
abbrev QCY:AC:= .seq (.run [.o 8 (.mv (.k (.int .i64 0)))]) (.seq (.run [.m 11 bB, .o 12 (.cm cG), .o 13 (.av cJ 0), .o 14 (.load db false 1), .o 15 (.cm cL), .o 16 (.av dq 0), .o 17 (.av dg 1), .o 18 (.load dE false 1), .m 19 bq, .o 20 (.bZ dB dX 5), .o 21 (.load ez true 5), .o 9 (.alloc [(.str []),(.slice .full 0 []),(.slice .full 0 []),(.slice .full 0 []),(.slice .full 0 [])]), .op none none (.store dh dY 5)]) (.seq QCC (.seq QCD QCU)))
abbrev QD2:AC:= .seq (.run [.o 3 (.box bq), .o 4 (.mv (.k (.int .i64 0)))]) (.seq (.run [.m 5 bB, .o 6 (.cm bV), .o 7 (.av dC 0), .o 8 (.av cR 1), .o 9 (.load cD false 1), .o 10 (.wV 76 [cz]), .c 11 iy [dh,bR], .m 4 cG]) .ret)
abbrev QDD:AC:= .seq (.run [.o 18 (.av cR 0), .o 19 (.load dB false 1)]) (.cond dX (.seq (.run [.m 20 bV, .m 21 bB, .o 22 (.av cR 1), .o 23 (.load eA false 1), .c 24 jF [dY,eC], .o 25 (.dm [.eY] 1 1 [(0,eR)]), .o 26 (.app 1 8 ez e9), .m 5 fv]) (.exit 1)) .skip)
abbrev QDH:AC:= .seq (.run [(.o 4 (.mv (.k (.int .i64 (-1)))))]) .ret
abbrev QDO:AC:= .seq (.run [.m 28 bB, .o 29 (.av cR 2), .o 30 (.load gf true 4), .c 31 ld [fZ,gn], .m 27 gF, .o 32 (.ext fG 0), .o 33 (.ext fG 1), .m 8 gU, .m 9 gM]) (.seq (.seq (.run [.m 34 dh, .o 35 (.un .not iC)]) (.cond gV QDH .skip)) (.seq (.run [.m 36 cD, .o 10 (.alloc [(.int .i64 0)]), .op none none (.store bR iD 1)]) (.run [.m 37 bV, .o 38 (.dm [.eY] 1 1 [(0,bR)]), .o 39 (.app 1 8 jc jw), .m 5 jq])))
abbrev QDT:AC:= .seq (.block 1 (.seq (.run [.o 16 (.bZ cJ cL 6), .o 17 (.load dg true 6), .o 7 (.alloc [(.bool false),(.str []),(.int .i64 0),(.int .i64 0),(.str []),(.slice .full 0 [])]), .op none none (.store cR dE 6)]) (.seq QDD QDO))) (.run [.o 40 (.bin .add cL (.k (.int .i64 1))), .m 14 jY])
abbrev QDV:AC:= .seq (.run [.o 15 (.bin .lss cL db)]) (.seq (.cond dq .skip (.exit 0)) QDT)
abbrev QE2:AC:= .seq (.run [(.o 4 (.mv (.k (.int .i64 (-1)))))]) .ret
abbrev QE4:AC:= .cond lY (.seq (.run [.m 47 bB, .o 48 (.cm nj), .o 49 (.av lZ 6), .o 50 (.av l5 0), .op none none (.store mA (.k (.int .i64 5)) 1)]) QE2) .skip
abbrev QE7:AC:= .par [.m 55 bB, .m 56 bB, .o 57 (.cm pM), .o 58 (.av qN 0), .o 59 (.load qk false 1), .o 60 (.av cz 4), .o 61 (.load rJ false 1), .c 62 jv [og,tJ], .m 63 bV, .o 64 (.av cz 0), .o 65 (.load tM false 1), .c 66 kg [nF,sC,tL,xT], .m 4 Ab] [(1,0),(2,0),(3,0),(4,0),(5,0),(6,0),(7,0),(0,0),(8,0),(9,0),(10,1),(11,0),(12,0)]
abbrev QEA:AC:= .seq (.seq (.run [.m 41 bB, .o 42 (.cm jZ), .o 43 (.av kJ 4), .o 44 (.load kq false 1), .o 45 (.len kK), .o 46 (.bin .gtr lX (.k (.int .i64 100)))]) QE4) (.seq (.run [.m 51 bB, .o 52 (.av cz 0), .o 53 (.load lK false 1),(.c 54 fy [lJ,mB,(.k (.slice .full 0 []))])]) (.seq QE7 .ret))
abbrev QEB:AC:= .seq (.seq (.run [.o 11 (.av cz 10), .o 12 (.load cG false 1), .o 13 (.len cJ), .o 14 (.mv (.k (.int .i64 0)))]) (.block 0 (.loop QDV))) QEA
abbrev QED:AC:= .seq (.run [.o 3 (.box bq), .o 4 (.mv (.k (.int .i64 0)))]) (.seq (.run [.o 5 (.mv (.k (.slice .full 0 [])))]) QEB)
abbrev QEJ:AC:= .seq (.run [.m 10 bB, .o 11 (.av cz 0), .o 12 (.load cG false 1),(.c 13 fy [bR,cJ,(.k (.slice .full 0 []))])]) (.seq (.run [.o 4 (.mv (.k (.int .i64 0)))]) .ret)
abbrev QET:AC:= .seq (.seq (.run [.m 21 dC]) (.cond dY (.run [.m 22 bB, .o 23 (.av cz 0), .o 24 (.load eC false 1), .m 25 bV, .o 26 (.dm [(.int .i64 0)] 1 1 [(0,e9)]), .c 27 fy [eA,eR,fv]]) .skip)) (.seq (.run [.m 28 bV, .m 4 fZ]) .ret)
abbrev QEW:AC:= .seq (.run [.o 3 (.box bq), .o 4 (.mv (.k (.int .i64 0)))]) (.seq (.seq (.run [.o 7 (.av cz 9), .o 8 (.load cR false 1), .o 9 (.un .not cD)]) (.cond dh QEJ .skip)) (.seq (.run [.m 15 bB, .o 16 (.av cz 5), .o 17 (.load dg true 4), .c 18 ld [dq,dE], .m 14 dB, .o 19 (.ext cL 0), .o 20 (.ext cL 1), .m 5 dX, .m 6 ez]) QET))
abbrev QF2:AC:= .par [.m 21 bB, .o 22 (.cm dY), .o 23 (.av eA 0), .o 24 (.load eC false 1), .o 25 (.cm eR), .o 26 (.av e9 2), .o 27 (.load fv false 1), .o 28 (.av cz 16), .o 29 (.load fZ false 1), .o 30 (.bin .sub gf (.k (.int .i64 1))), .o 31 (.bZ fG gn 17), .o 32 (.av gF 15), .o 33 (.load gU false 1), .m 4 gM] [(0,0),(1,0),(2,0),(3,0),(4,0),(5,0),(6,0),(7,0),(8,0),(9,0),(10,0),(11,0),(12,0),(13,0)]
abbrev QFC:AC:= .par [.m 49 bB, .o 50 (.cm l5), .o 51 (.av mA 0), .o 52 (.load lJ false 1), .o 53 (.av cz 13), .o 54 (.load mB false 1), .o 55 (.av bV 3), .o 56 (.load nF false 1), .c 57 qq [lK,nn,pM], .m 48 qN, .o 58 (.ext lZ 0), .o 59 (.ext lZ 1), .m 6 qk, .m 7 og] [(0,0),(1,0),(2,0),(3,0),(4,0),(5,0),(6,0),(7,0),(8,0),(9,0),(10,0),(11,0),(12,0),(13,0)]
abbrev QFI:AC:= .par [.m 63 bB, .o 64 (.cm tL), .o 65 (.av tM 6), .o 66 (.av xT 2), .o 67 (.load Ab false 1), .m 68 bB, .o 69 (.cm xU), .o 70 (.av BP 2), .o 71 (.load BQ false 1), .o 72 (.len F9), .o 73 (.bin .geq Ac DQ)] [(0,0),(1,0),(2,0),(3,0),(4,0),(5,0),(6,0),(7,0),(8,0),(9,0),(10,0)]
abbrev QFL:AC:= .seq (.run [(.o 4 (.mv (.k (.int .i64 (-1)))))]) .ret
abbrev QFN:AC:= .cond DR (.seq (.run [.m 74 bB, .o 75 (.cm Ga), .o 76 (.av Gb 6), .o 77 (.av DS 0), .op none none (.store Gc (.k (.int .i64 3)) 1)]) QFL) .skip
abbrev QFP:AC:= .par [.m 78 bB, .o 79 (.cm BR), .o 80 (.av Jd 2), .o 81 (.load Je false 1), .m 82 bB, .o 83 (.cm MW), .o 84 (.av MX 6), .o 85 (.av MY 2), .o 86 (.load MZ false 1), .o 87 (.bZ Jf M3 1), .o 88 (.load M4 false 1), .m 8 M5] [(0,0),(1,0),(2,0),(3,0),(4,0),(5,0),(6,0),(7,0),(8,0),(9,0),(10,0),(11,0)]
abbrev QFX:AC:= .seq (.run [.m 89 bB, .o 90 (.cm Gd), .o 91 (.av Jg 6), .o 92 (.av M6 2), .o 93 (.load TA false 1), .o 94 (.bin .add ZL (.k (.int .i64 1))), .o 95 (.cm Gd), .o 96 (.av ZN 6), .o 97 (.av ahO 2), .op none none (.store ahP ZM 1)]) (.seq (.run [.m 98 bB, .o 99 (.av bV 3), .o 100 (.load ahR false 1), .c 101 jF [ahQ,ace], .m 102 cD, .o 103 (.cm acf), .op none none (.store ach acg 1)]) (.seq (.run [.m 104 bB, .o 105 (.av bV 0), .o 106 (.load acj false 1), .m 107 cD, .o 108 (.dm [(.int .i64 0)] 1 1 [(0,acm)]), .c 109 fy [aci,ack,aco]]) (.seq (.run [.o 110 (.av cz 15), .o 111 (.load acp false 1), .m 4 acq]) .ret)))
abbrev QG2:AC:= .cond kJ (.seq (.run [.m 44 bB, .o 45 (.av bV 0), .o 46 (.load lX false 1),(.c 47 fy [kK,lY,(.k (.slice .full 0 []))])]) (.seq QFC (.seq (.run [.m 60 dC, .m 4 rJ]) .ret))) (.seq (.run [.o 62 (.bin .eql cL (.k (.int .i64 2))), .m 61 sC]) (.cond tJ (.seq (.seq QFI QFN) (.seq QFP QFX)) .skip))
abbrev QG4:AC:= .cond iC (.seq (.run [.m 36 bB, .o 37 (.av bV 0), .o 38 (.load jc false 1),(.c 39 fy [iD,jw,(.k (.slice .full 0 []))])]) (.seq (.run [.o 40 (.av cz 16), .o 41 (.load jY false 1), .m 4 jZ]) .ret)) (.seq (.run [.o 43 (.bin .eql cL (.k (.int .i64 10))), .m 42 kq]) QG2)
abbrev QG6:AC:= .cond dq (.seq (.run [.m 17 bB, .o 18 (.av bV 0), .o 19 (.load dB false 1),(.c 20 fy [dE,dX,(.k (.slice .full 0 []))])]) (.seq QF2 .ret)) (.seq (.run [.o 35 (.bin .eql cL (.k (.int .i64 8))), .m 34 gV]) QG4)
abbrev QG8:AC:= .block 0 (.seq (.run [.o 16 (.bin .eql cL (.k (.int .i64 7))), .m 15 dg]) QG6)
abbrev QGD:AC:= .seq (.run [(.o 4 (.mv (.k (.int .i64 (-1)))))]) .ret
abbrev QGU:AC:= .seq (.seq (.run [.m 153 dh, .o 154 (.bin .neq al4 (.k (.int .i64 0)))]) (.cond al5 (.seq (.run [.o 155 (.av bV 11), .o 156 (.load al6 false 1), .o 157 (.av cz 15), .o 158 (.load al8 false 1), .c 159 rV [al7,al9], .m 4 ama]) .ret) .skip)) (.seq (.run [.o 160 (.av bV 12), .o 161 (.load amb false 1), .o 162 (.av cz 15), .o 163 (.load amd false 1), .c 164 rV [amc,ame], .m 4 amf]) .ret)
abbrev QH1:AC:= .cond amg (.seq (.run [.m 167 dh, .o 168 (.bin .neq ami (.k (.int .i64 0)))]) (.cond amj (.seq (.run [.o 169 (.av bV 11), .o 170 (.load amk false 1), .o 171 (.av bV 0), .o 172 (.load amm false 1), .c 173 rV [aml,amn], .m 4 amo]) .ret) .skip)) .skip
abbrev QH3:AC:= .cond al2 QGU (.seq (.run [.o 166 (.bin .eql HA (.k (.int .i64 6))), .m 165 amh]) QH1)
abbrev QH5:AC:= .cond alO (.run [.m 139 bB, .m 140 bB, .o 141 (.cm alR), .o 142 (.av alS 6), .o 143 (.av alT 3), .o 144 (.load alU false 1), .m 145 dh, .o 146 (.dm [(.int .i64 0)] 1 1 [(0,alW)]), .o 147 (.app 1 8 alV alX), .o 148 (.cm alQ), .o 149 (.av alZ 6), .o 150 (.av al0 3), .op none none (.store al1 alY 1)]) (.seq (.run [.o 152 (.bin .eql HA (.k (.int .i64 5))), .m 151 al3]) QH3)
abbrev QH7:AC:= .cond acG (.run [.m 131 bB, .o 132 (.av bV 3), .o 133 (.load alJ false 1), .c 134 jF [alI,alK], .m 135 dh, .o 136 (.cm alL), .op none none (.store alN alM 1)]) (.seq (.run [.o 138 (.bin .eql HA (.k (.int .i64 3))), .m 137 alP]) QH5)
abbrev QH9:AC:= .block 1 (.seq (.run [.o 130 (.bin .eql HA (.k (.int .i64 1))), .m 129 acH]) QH7)
abbrev QHF:AC:= .seq (.seq (.run [.m 119 bR, .o 120 (.un .not acy)]) (.cond acz QGD .skip)) (.seq (.run [.m 121 bB, .o 122 (.av bV 0), .o 123 (.load acB false 1), .m 124 dh, .o 125 (.dm [(.int .i64 0)] 1 1 [(0,acD)]), .c 126 fy [acA,acC,acE]]) (.seq (.seq (.run [.o 127 (.av bV 1), .o 128 (.load acF false 1)]) QH9) (.seq (.run [.o 174 (.av cz 15), .o 175 (.load amp false 1), .m 4 amq]) .ret)))
abbrev QHJ:AC:= .seq (.run [.o 3 (.box bq), .o 4 (.mv (.k (.int .i64 0)))]) (.seq (.run [.o 11 (.av cz 0), .o 12 (.load cG true 13), .o 5 (.alloc [(.int .i64 0),(.int .i64 0),(.slice .full 0 []),(.str []),(.str []),(.int .i64 0),(.int .i64 0),(.str []),(.slice .full 0 []),(.bool false),(.slice .full 0 []),(.slice .full 0 []),(.slice .full 0 [])]), .op none none (.store bV cJ 13)]) (.seq (.seq (.run [.o 13 (.av bV 1), .o 14 (.load db false 1)]) QG8) (.seq (.run [.m 113 bB, .o 114 (.av bV 5), .o 115 (.load acs true 4), .c 116 ld [acr,acu], .m 112 acv, .o 117 (.ext TB 0), .o 118 (.ext TB 1), .m 9 acw, .m 10 acx]) QHF)))
abbrev QHM:AC:= .par [.m 12 bB, .m 13 bB, .o 14 (.cm db), .o 15 (.av cL 4), .o 16 (.load dq false 1), .m 17 bB, .o 18 (.cm dE), .o 19 (.av dB 4), .o 20 (.load dX false 1), .o 21 (.len ez), .o 22 (.bin .sub dY (.k (.int .i64 1))), .o 23 (.GZ 1 dg none (some eA)), .o 24 (.cm cJ), .o 25 (.av eR 4), .op none none (.store e9 eC 1)] [(0,0),(1,0),(2,0),(3,0),(4,0),(5,0),(6,0),(7,0),(8,0),(9,0),(10,0),(11,0),(12,0),(13,0),(14,0)]
abbrev QHQ:AC:= .seq (.run [(.o 4 (.mv (.k (.int .i64 (-1)))))]) .ret
abbrev QHS:AC:= .cond fG (.seq (.run [.m 28 bB, .o 29 (.cm fZ), .o 30 (.av gf 6), .o 31 (.av gn 0), .op none none (.store gF (.k (.int .i64 1)) 1)]) QHQ) .skip
abbrev QI1:AC:= .seq (.seq (.run [.o 43 (.av dC 0), .o 44 (.av kq 3), .o 45 (.load kK false 1), .o 46 (.bin .neq lX (.k (.str [])))]) (.cond lY (.run [.m 47 bB, .o 48 (.av dC 0), .o 49 (.av lZ 3), .o 50 (.load l5 false 1), .c 51 jF [nj,mA], .m 52 bq, .o 53 (.cm lJ), .op none none (.store mB lK 1)]) .skip)) (.seq (.run [.o 54 (.av dC 15), .o 55 (.load nn false 1), .m 4 nF]) .ret)
abbrev QI3:AC:= .seq (.seq (.run [.m 26 bV, .o 27 (.bin .eql fv (.k (.int .i64 0)))]) QHS) (.seq (.run [.m 32 bB, .o 33 (.cm gU), .o 34 (.av gM 0), .o 35 (.load iC false 1), .o 36 (.cm gV), .o 37 (.av iD 2), .o 38 (.load jc false 1), .m 39 bV, .o 40 (.bin .sub jq (.k (.int .i64 1))), .o 41 (.bZ jw jY 17), .o 42 (.load jZ true 17), .o 6 (.alloc [(.int .i64 0),(.int .i64 0),(.slice .full 0 []),(.str []),(.str []),(.int .i64 0),(.int .i64 0),(.str []),(.slice .full 0 []),(.bool false),(.slice .full 0 []),(.slice .full 0 []),(.slice .full 0 []),(.int .i64 0),(.int .i64 0),(.int .i64 0),(.int .i64 0)]), .op none none (.store dC kJ 17)]) QI1)
abbrev QI6:AC:= .seq (.run [.o 4 (.mv (.k (.int .i64 0)))]) (.seq (.run [.m 7 bB, .c 8 mh [cR], .o 9 (.cm cD), .o 10 (.av dh 3), .o 11 (.load bR false 1), .m 5 cG]) (.seq QHM QI3))
abbrev QIA:AC:= .seq (.run [(.o 7 (.build [(.int .i64 0),(.int .i64 0)] [(0,(1,(.k (.int .i64 1))))])), .op none none (.store du cR 2)]) .ret
abbrev QIS:AC:= .seq (.seq (.run [.o 20 (.av cz 0), .o 21 (.load ez false 1), .o 22 (.bin .eql dY (.k (.int .i64 0)))]) (.cond eA (.run [.o 23 (.load bq true 2), .c 24 wq [eC], .op none none (.store cz eR 2)]) .skip)) (.seq (.run [.o 25 (.load cz true 2), .op none none (.store du e9 2)]) .ret)
abbrev QIT:AC:= .seq (.seq (.run [.o 15 (.av cz 0), .o 16 (.load dq false 1), .o 17 (.bin .eql dg (.k (.int .i64 0)))]) (.cond dE (.run [.o 18 (.load bq true 2), .c 19 xO [dB], .op none none (.store cz dX 2)]) .skip)) QIS
abbrev QIU:AC:= .seq (.seq (.run [.o 10 (.av cz 0), .o 11 (.load bR false 1), .o 12 (.bin .eql cG (.k (.int .i64 0)))]) (.cond cJ (.run [.o 13 (.load bq true 2), .c 14 sg [db], .op none none (.store cz cL 2)]) .skip)) QIT
abbrev QIX:AC:= .seq (.run [.o 1 (.box bB), .o 2 (.alloc [(.int .i64 0),(.int .i64 0)])]) (.seq (.seq (.run [.o 4 (.load bq true 2), .c 5 rh [eZ], .o 6 (.un .not bV)]) (.cond dC QIA .skip)) (.seq (.run [.o 8 (.load bq true 2), .c 9 nK [cD], .o 3 (.alloc [(.int .i64 0),(.int .i64 0)]), .op none none (.store cz dh 2)]) QIU))
abbrev QJ8:AC:= .par [.o 30 (.load bR true 16), .o 31 (.av cD 0), .o 32 (.load gF false 1), .op none none (.store eZ gn 16), .m 5 gU, .o 6 (.mv (.k (.bool true)))] [(0,0),(3,0),(1,0),(2,1),(4,0),(5,0)]
abbrev QJF:AC:= .seq (.block 3 (.seq (.run [.o 23 (.bZ dX dY 16), .o 24 (.load eC true 16), .o 10 (.alloc [(.int .i64 0),(.int .i64 0),(.slice .full 0 []),(.str []),(.str []),(.int .i64 0),(.int .i64 0),(.str []),(.slice .full 0 []),(.bool false),(.slice .full 0 []),(.slice .full 0 []),(.slice .full 0 []),(.int .i64 0),(.int .i64 0),(.bool false)]), .op none none (.store bR eR 16)]) (.seq (.run [.o 25 (.av bR 0), .o 26 (.av e9 0), .o 27 (.load fv false 1), .m 28 bq, .o 29 (.bin .eql fG fZ)]) (.cond gf (.seq QJ8 .ret) .skip)))) (.run [.o 33 (.bin .add dY (.k (.int .i64 1))), .m 21 gM])
abbrev QJJ:AC:= .block 2 (.loop (.seq (.run [.o 22 (.bin .lss dY ez)]) (.seq (.cond eA .skip (.exit 2)) QJF)))
abbrev QJL:AC:= .seq (.run [.o 16 (.bZ cJ cL 5), .o 17 (.load dg true 5), .o 8 (.alloc [(.str []),(.slice .full 0 []),(.slice .full 0 []),(.slice .full 0 []),(.slice .full 0 [])]), .op none none (.store cD dE 5)]) (.seq (.run [.o 18 (.load cD true 5), .c 19 vm [dB], .o 20 (.len dX), .o 21 (.mv (.k (.int .i64 0)))]) QJJ)
abbrev QJP:AC:= .seq (.cond dq .skip (.exit 0)) (.seq (.block 1 QJL) (.run [.o 34 (.bin .add cL (.k (.int .i64 1))), .m 14 iC]))
abbrev QJT:AC:= .seq (.run [.o 11 (.av du 1), .o 12 (.load cG false 1), .o 13 (.len cJ), .o 14 (.mv (.k (.int .i64 0)))]) (.block 0 (.loop (.seq (.run [.o 15 (.bin .lss cL db)]) QJP)))
abbrev QJW:AC:= .seq QJT (.seq (.run [.o 35 (.build [(.int .i64 0),(.int .i64 0),(.slice .full 0 []),(.str []),(.str []),(.int .i64 0),(.int .i64 0),(.str []),(.slice .full 0 []),(.bool false),(.slice .full 0 []),(.slice .full 0 []),(.slice .full 0 []),(.int .i64 0),(.int .i64 0),(.bool false)] []), .op none none (.store eZ gV 16), .o 5 (.mv (.k (.str []))), .o 6 (.mv (.k (.bool false)))]) .ret)
abbrev QJX:AC:= .seq (.run [.o 2 (.box bB), .o 4 (.alloc [(.int .i64 0),(.int .i64 0),(.slice .full 0 []),(.str []),(.str []),(.int .i64 0),(.int .i64 0),(.str []),(.slice .full 0 []),(.bool false),(.slice .full 0 []),(.slice .full 0 []),(.slice .full 0 []),(.int .i64 0),(.int .i64 0),(.bool false)]), .o 5 (.mv (.k (.str []))), .o 6 (.mv (.k (.bool false)))]) QJW
abbrev QJZ:AC:= .par [.m 7 bq, .o 8 (.bin .lss cR (.k (.int .i64 1))), .m 9 cD, .g 10 9 false (.av du 3), .g 11 9 false (.load bR false 1), .g 12 9 false (.len cG), .g 13 9 false (.av du 0), .g 14 9 false (.load db false 1), .d 15 9 false z6 [cL], .g 16 9 false (.bin .neq cJ dq), .o 17 (.pick dh (.k (.bool true)) dg)] [(0,0),(1,0),(2,0),(6,0),(7,0),(8,0),(3,0),(4,1),(5,0),(9,0),(10,0)]
abbrev QK2:AC:= .cond dE (.seq (.run [.o 4 (.mv (.k (.bool false)))]) .ret) .skip
abbrev QKB:AC:= .cond gn (.seq (.run [.o 32 (.av du 1), .o 33 (.load gU false 1), .o 34 (.bin .eql gM (.k (.int .i64 0))), .m 35 iC, .g 36 35 true (.av du 2), .g 37 35 true (.load iD false 1), .d 38 35 true pK [jc], .o 39 (.pick gV jw (.k (.bool false))), .m 4 jq]) .ret) .skip
abbrev QKD:AC:= .cond ez (.seq (.run [.o 22 (.av du 1), .o 23 (.load eA false 1), .o 24 (.bin .geq eC (.k (.int .i64 0))), .m 25 eR, .g 26 25 true (.av du 2), .g 27 25 true (.load fv false 1), .g 28 25 true (.bin .eql fG (.k (.str []))), .o 29 (.pick e9 fZ (.k (.bool false))), .m 4 gf]) .ret) (.seq (.run [.o 31 (.bin .eql dX (.k (.int .i64 2))), .m 30 gF]) QKB)
abbrev QKF:AC:= .block 0 (.seq (.run [.o 21 (.bin .eql dX (.k (.int .i64 1))), .m 20 dY]) QKD)
abbrev QKK:AC:= .cond nj (.seq (.run [.o 4 (.mv (.k (.bool false)))]) .ret) .skip
abbrev QKT:AC:= .cond og (.seq (.run [.o 4 (.mv (.k (.bool false)))]) .ret) .skip
abbrev QKV:AC:= .seq (.run [.o 53 (.bZ l5 lJ 4), .o 54 (.load mB true 4), .o 6 (.alloc [(.int .i64 0),(.int .i64 0),(.str []),(.slice .full 0 [])]), .op none none (.store dC nn 4)]) (.seq (.run [.o 55 (.load dC true 4), .m 56 bq, .o 57 (.bin .sub pM (.k (.int .i64 1))), .c 58 rT [nF,qN], .o 59 (.un .not qk)]) QKT)
abbrev QKZ:AC:= .seq (.cond lK .skip (.exit 1)) (.seq (.block 2 QKV) (.run [.o 60 (.bin .add lJ (.k (.int .i64 1))), .m 51 rJ]))
abbrev QL3:AC:= .seq (.run [.o 48 (.av du 3), .o 49 (.load lZ false 1), .o 50 (.len l5), .o 51 (.mv (.k (.int .i64 0)))]) (.block 1 (.loop (.seq (.run [.o 52 (.bin .lss lJ mA)]) QKZ)))
abbrev QL6:AC:= .seq QL3 (.seq (.run [.o 4 (.mv (.k (.bool true)))]) .ret)
abbrev QL7:AC:= .seq (.seq (.run [.o 40 (.av du 1), .o 41 (.load jY false 1), .o 42 (.bin .neq jZ (.k (.int .i64 0))), .m 43 kJ, .g 44 43 false (.av du 2), .g 45 43 false (.load kK false 1), .g 46 43 false (.bin .neq lX (.k (.str []))), .o 47 (.pick kq (.k (.bool true)) lY)]) QKK) QL6
abbrev QLA:AC:= .seq (.run [.o 2 (.box bB), .o 4 (.mv (.k (.bool false)))]) (.seq (.seq QJZ QK2) (.seq (.seq (.run [.o 18 (.av du 0), .o 19 (.load dB false 1)]) QKF) QL7))
abbrev QLD:AC:= .seq (.run [.o 3 (.load bq true 2),(.o 4 (.build [(.int .i64 0),(.int .i64 0),(.slice .full 0 []),(.str []),(.str []),(.int .i64 0),(.int .i64 0),(.str []),(.slice .full 0 []),(.bool false),(.slice .full 0 []),(.slice .full 0 []),(.slice .full 0 [])] [(0,(1,(.k (.int .i64 (-1)))))])), .c 5 tz [cz,eZ], .op none none (.store du bV 2)]) .ret
abbrev QLE:AC:= .seq (.run [.o 1 (.box bB), .o 2 (.alloc [(.slice .full 0 []),(.slice .full 0 [])])]) QLD
abbrev QLJ:AC:= .cond dC (.seq (.run [.o 4 (.mv (.k (.int .i64 0)))]) .ret) .skip
abbrev QLT:AC:= .seq (.seq (.run [.m 10 bB, .o 11 (.bin .lss bR (.k (.int .i64 0)))]) (.cond cG (.seq (.run [.m 12 bB, .m 13 bq, .o 14 (.bin .add cJ db), .m 4 cL]) .ret) .skip)) (.seq (.run [.m 15 bB, .m 4 dq]) .ret)
abbrev QLV:AC:= .seq (.seq (.run [.m 5 bq, .o 6 (.bin .lss bV (.k (.int .i64 1)))]) QLJ) (.seq (.run [.m 7 bB, .m 8 bq, .o 9 (.bin .rem cR cD), .m 0 dh]) QLT)
abbrev QLW:AC:= .seq (.run [.o 4 (.mv (.k (.int .i64 0)))]) QLV
abbrev QM4:AC:= .par [.o 15 (.av cz 1), .o 16 (.load dq false 1), .m 17 bV, .o 18 (.av bq 1), .o 19 (.load dB false 1), .m 20 bV, .o 21 (.bZ dX ez 5), .o 22 (.av dY 3), .o 23 (.load eA false 1), .m 24 eZ, .c 25 kF [eC,eR], .m 14 e9, .o 26 (.ext cL 0), .o 27 (.ext cL 1), .o 28 (.bZ dg dE 5), .o 29 (.av fZ 3), .op none none (.store gf fv 1), .m 4 fG] [(3,0),(4,0),(5,0),(6,0),(7,0),(8,0),(9,0),(10,0),(0,0),(1,1),(2,0),(11,0),(12,0),(14,0),(15,0),(16,0),(13,0),(17,0)]
abbrev QM9:AC:= .seq (.cond cJ .skip (.exit 0)) (.seq (.block 1 (.seq (.run [.m 13 cG, .m 5 db]) QM4)) (.run [.o 30 (.bin .add cG (.k (.int .i64 1))), .m 11 gn]))
abbrev QMA:AC:= .seq (.run [.o 12 (.bin .lss cG bR)]) QM9
abbrev QMF:AC:= .seq (.run [.o 31 (.load cz true 2), .op none none (.store du gF 2)]) .ret
abbrev QMG:AC:= .seq (.seq (.run [.o 8 (.av cz 1), .o 9 (.load cD false 1), .o 10 (.len dh), .o 11 (.mv (.k (.int .i64 0)))]) (.block 0 (.loop QMA))) QMF
abbrev QMI:AC:= .seq (.run [.o 6 (.load bq true 2), .c 7 rU [dC], .o 3 (.alloc [(.slice .full 0 []),(.slice .full 0 [])]), .op none none (.store cz cR 2)]) (.seq (.run [.o 4 (.mv (.k (.int .i64 0)))]) QMG)
abbrev QMJ:AC:= .seq (.run [.o 1 (.box bB), .o 2 (.alloc [(.slice .full 0 []),(.slice .full 0 [])])]) QMI
abbrev QMW:AC:= .seq (.run [.m 13 cz, .o 14 (.load bV true 5), .c 15 vm [cL], .o 16 (.app 16 232 db dq), .m 3 dg]) (.seq (.run [.m 17 cz, .o 18 (.len dE), .o 19 (.bin .gtr dB (.k (.int .i64 200)))]) (.cond dX (.seq (.run [.m 20 cz, .m 2 ez]) .ret) .skip))
abbrev QN0:AC:= .seq (.block 1 (.seq (.run [.o 11 (.bZ cR dh 5), .o 12 (.load cG true 5), .o 5 (.alloc [(.str []),(.slice .full 0 []),(.slice .full 0 []),(.slice .full 0 []),(.slice .full 0 [])]), .op none none (.store bV cJ 5)]) QMW)) (.run [.o 21 (.bin .add dh (.k (.int .i64 1))), .m 9 dY])
abbrev QN4:AC:= .block 0 (.loop (.seq (.run [.o 10 (.bin .lss dh cD)]) (.seq (.cond bR .skip (.exit 0)) QN0)))
abbrev QN8:AC:= .seq (.seq (.run [.o 6 (.av bq 1), .o 7 (.load dC false 1), .o 8 (.len cR), .o 9 (.mv (.k (.int .i64 0)))]) QN4) (.seq (.run [.m 22 cz, .m 2 eA]) .ret)
abbrev QNA:AC:= .seq (.run [.o 1 (.box bB), .o 2 (.mv (.k (.slice .full 0 [])))]) (.seq (.run [.o 3 (.mv (.k (.slice .full 0 [])))]) QN8)
abbrev QNI:AC:= .par [.o 18 (.av cR 11), .o 19 (.load dB false 1), .m 20 bq, .c 21 iX [dX,ez], .o 22 (.av cR 12), .o 23 (.load eA false 1), .m 24 bq, .c 25 iX [eC,eR], .o 26 (.av cD 11), .op none none (.store fv dY 1), .o 27 (.av cD 12), .op none none (.store fG e9 1)] [(0,0),(1,0),(2,0),(3,0),(4,0),(5,1),(6,0),(7,0),(8,0),(9,0),(10,0),(11,0)]
abbrev QNP:AC:= .seq (.run [.o 34 (.av dh 2), .op none none (.store iC (.k (.slice .full 0 [])) 1)]) (.seq (.run [.o 35 (.av cR 11), .o 36 (.load gV false 1), .m 37 bq, .c 38 iX [iD,jc], .o 39 (.av dh 11), .op none none (.store jq jw 1)]) (.run [.o 40 (.av cD 11), .o 41 (.load jY false 1), .o 42 (.load dh true 13), .o 43 (.dm [(.int .i64 0),(.int .i64 0),(.slice .full 0 []),(.str []),(.str []),(.int .i64 0),(.int .i64 0),(.str []),(.slice .full 0 []),(.bool false),(.slice .full 0 []),(.slice .full 0 []),(.slice .full 0 [])] 13 1 [(0,kJ)]), .o 44 (.app 13 208 jZ kq), .o 45 (.av cD 1), .op none none (.store lX (.k (.int .i64 5)) 1), .o 46 (.av cD 11), .op none none (.store lY kK 1)]))
abbrev QNS:AC:= .seq (.run [.o 28 (.av cR 0), .o 29 (.load fZ false 1), .m 30 bq, .o 31 (.bin .eql gf gn)]) (.cond gF (.seq (.run [.o 32 (.load cR true 13), .c 33 ll [gU], .o 9 (.alloc [(.int .i64 0),(.int .i64 0),(.slice .full 0 []),(.str []),(.str []),(.int .i64 0),(.int .i64 0),(.str []),(.slice .full 0 []),(.bool false),(.slice .full 0 []),(.slice .full 0 []),(.slice .full 0 [])]), .op none none (.store dh gM 13)]) QNP) .skip)
abbrev QNW:AC:= .seq (.run [.o 16 (.load cR true 13), .c 17 ll [dg], .o 8 (.alloc [(.int .i64 0),(.int .i64 0),(.slice .full 0 []),(.str []),(.str []),(.int .i64 0),(.int .i64 0),(.str []),(.slice .full 0 []),(.bool false),(.slice .full 0 []),(.slice .full 0 []),(.slice .full 0 [])]), .op none none (.store cD dE 13)]) (.seq QNI (.seq QNS (.run [.m 47 bV, .o 48 (.load cD true 13), .o 49 (.dm [(.int .i64 0),(.int .i64 0),(.slice .full 0 []),(.str []),(.str []),(.int .i64 0),(.int .i64 0),(.str []),(.slice .full 0 []),(.bool false),(.slice .full 0 []),(.slice .full 0 []),(.slice .full 0 [])] 13 1 [(0,lZ)]), .o 50 (.app 13 208 nj l5), .m 5 mA])))
abbrev QO0:AC:= .seq (.block 1 (.seq (.run [.o 14 (.bZ bR cJ 13), .o 15 (.load cL true 13), .o 7 (.alloc [(.int .i64 0),(.int .i64 0),(.slice .full 0 []),(.str []),(.str []),(.int .i64 0),(.int .i64 0),(.str []),(.slice .full 0 []),(.bool false),(.slice .full 0 []),(.slice .full 0 []),(.slice .full 0 [])]), .op none none (.store cR dq 13)]) QNW)) (.run [.o 51 (.bin .add cJ (.k (.int .i64 1))), .m 12 lJ])
abbrev QO4:AC:= .block 0 (.loop (.seq (.run [.o 13 (.bin .lss cJ cG)]) (.seq (.cond db .skip (.exit 0)) QO0)))
abbrev QO8:AC:= .seq (.seq (.run [.m 10 bB, .o 11 (.len bR), .o 12 (.mv (.k (.int .i64 0)))]) QO4) (.seq (.run [.m 52 bV, .m 4 lK]) .ret)
abbrev QOA:AC:= .seq (.run [.o 4 (.mv (.k (.slice .full 0 [])))]) (.seq (.run [.o 5 (.mv (.k (.slice .full 0 [])))]) QO8)
open Go.Proofs
theorem Lb:Has Tryz.prog zW 10 [(2,none)] Q9N:=⟨Tryz.f38,by kernel_rfl,by kernel_rfl⟩
theorem Lc:Has Tryz.prog zX 40 [(0,(some (true,2)))] Q9V:=⟨Tryz.f39,by kernel_rfl,by kernel_rfl⟩
theorem C3:Has Tryz.prog kS 23 [(4,none)] QAC:=⟨Tryz.f40,by kernel_rfl,by kernel_rfl⟩
theorem qO:Has Tryz.prog iB 19 [(4,none)] QAM:=⟨Tryz.f41,by kernel_rfl,by kernel_rfl⟩
theorem uA:Has Tryz.prog l9 69 [(4,none)] QBK:=⟨Tryz.f42,by kernel_rfl,by kernel_rfl⟩
theorem M9:Has Tryz.prog my 55 [(2,none)] QC9:=⟨Tryz.f43,by kernel_rfl,by kernel_rfl⟩
theorem BS:Has Tryz.prog kg 82 [(8,none)] QCY:=⟨Tryz.f44,by kernel_rfl,by kernel_rfl⟩
theorem C4:Has Tryz.prog jv 12 [(4,none)] QD2:=⟨Tryz.f45,by kernel_rfl,by kernel_rfl⟩
theorem BT:Has Tryz.prog qJ 67 [(4,none)] QED:=⟨Tryz.f46,by kernel_rfl,by kernel_rfl⟩
theorem AY:Has Tryz.prog qi 29 [(4,none)] QEW:=⟨Tryz.f47,by kernel_rfl,by kernel_rfl⟩
theorem jm:Has Tryz.prog sB 176 [(4,none)] QHJ:=⟨Tryz.f48,by kernel_rfl,by kernel_rfl⟩
theorem sR:Has Tryz.prog qj 56 [(4,none)] QI6:=⟨Tryz.f49,by kernel_rfl,by kernel_rfl⟩
theorem p6:Has Tryz.prog zY 26 [(2,(some (true,2)))] QIX:=⟨Tryz.f53,by kernel_rfl,by kernel_rfl⟩
theorem Ld:Has Tryz.prog zZ 36 [(4,(some (true,16))),(5,none),(6,none)] QJX:=⟨Tryz.f54,by kernel_rfl,by kernel_rfl⟩
theorem CO:Has Tryz.prog rT 61 [(4,none)] QLA:=⟨Tryz.f55,by kernel_rfl,by kernel_rfl⟩
theorem Lf:Has Tryz.prog rU 6 [(2,(some (true,2)))] QLE:=⟨Tryz.f59,by kernel_rfl,by kernel_rfl⟩
theorem DT:Has Tryz.prog BK 16 [(4,none)] QLW:=⟨Tryz.f60,by kernel_rfl,by kernel_rfl⟩
theorem HF:Has Tryz.prog wo 32 [(2,(some (true,2)))] QMJ:=⟨Tryz.f61,by kernel_rfl,by kernel_rfl⟩
theorem Na:Has Tryz.prog BL 23 [(2,none)] QNA:=⟨Tryz.f62,by kernel_rfl,by kernel_rfl⟩
theorem wN:Has Tryz.prog iX 53 [(4,none)] QOA:=⟨Tryz.f63,by kernel_rfl,by kernel_rfl⟩
abbrev QOJ:AC:= .cond db (.seq (.run [.o 2 (.mv (.k (.bool false)))]) .ret) .skip
abbrev QOO:AC:= .seq (.block 1 (.seq (.run [.o 9 (.bZ bV cR 1), .o 10 (.load dh false 1), .m 4 bR]) (.seq (.run [.m 11 eZ, .c 12 pK [cG], .o 13 (.un .not cJ)]) QOJ))) (.run [.o 14 (.bin .add cR (.k (.int .i64 1))), .m 7 cL])
abbrev QOS:AC:= .block 0 (.loop (.seq (.run [.o 8 (.bin .lss cR dC)]) (.seq (.cond cD .skip (.exit 0)) QOO)))
abbrev QOW:AC:= .seq (.seq (.run [.m 5 bB, .o 6 (.len bV), .o 7 (.mv (.k (.int .i64 0)))]) QOS) (.seq (.run [.o 2 (.mv (.k (.bool true)))]) .ret)
abbrev QOX:AC:= .seq (.run [.o 2 (.mv (.k (.bool false)))]) QOW
abbrev QP2:AC:= .cond dg (.seq (.run [.o 2 (.mv (.k (.bool false)))]) .ret) .skip
abbrev QP6:AC:= .seq (.seq (.run [.m 3 bB, .o 4 (.xo cz), .o 5 (.bin .lss eZ (.k (.int .i64 1))), .m 6 bV, .g 7 6 false (.mv bB), .g 8 6 false (.xo cR), .g 9 6 false (.bin .gtr cD (.k (.int .i64 8))), .o 10 (.pick dC (.k (.bool true)) dh), .m 11 bR, .g 12 11 false (.mv bB), .g 13 11 false (.Df cJ (.k (.int .i64 0))), .d 14 11 false tA [db], .g 15 11 false (.un .not cL), .o 16 (.pick cG (.k (.bool true)) dq)]) QP2) (.seq (.run [.m 17 bB, .c 18 DN [dE,(.k (.int .i64 0))], .m 19 bB, .o 20 (.xo dX), .o 21 (.bin .eql dB ez), .m 22 dY, .g 23 22 true (.mv bB), .d 24 22 true BM [eC], .g 25 22 true (.un .not eR), .o 26 (.pick eA e9 (.k (.bool false))), .m 2 fv]) .ret)
abbrev QP7:AC:= .seq (.run [.o 2 (.mv (.k (.bool false)))]) QP6
abbrev QPC:AC:= .cond dq (.seq (.run [.o 6 (.mv (.k (.bool false)))]) .ret) .skip
abbrev QPJ:AC:= .par [.m 29 bB, .o 30 (.cm gf), .o 31 (.av gn 0), .o 32 (.load gF false 1), .o 33 (.bin .gtr gU (.k (.int .i64 200))), .m 34 gM, .g 35 34 false (.av cD 0), .g 36 34 false (.load gV false 1), .g 37 34 false (.mv bB), .g 38 34 false (.cm jc), .g 39 34 false (.av jw 0), .g 40 34 false (.load jq false 1), .g 41 34 false (.bin .neq iD jY), .o 42 (.pick iC (.k (.bool true)) jZ), .m 43 kJ, .g 44 43 false (.av cD 2), .g 45 43 false (.load kK false 1), .d 46 43 false oP [lX], .g 47 43 false (.un .not lY), .o 48 (.pick kq (.k (.bool true)) nj), .m 49 lZ, .g 50 49 false (.load cD true 13), .d 51 49 false wu [mA], .g 52 49 false (.un .not lJ), .o 53 (.pick l5 (.k (.bool true)) lK)] [(0,0),(1,0),(2,0),(3,0),(4,0),(5,0),(6,0),(7,0),(8,0),(9,0),(10,0),(11,0),(12,0),(13,0),(14,0),(15,0),(16,0),(17,0),(18,0),(19,0),(20,0),(21,0),(22,0),(23,0),(24,0)]
abbrev QPM:AC:= .cond mB (.seq (.run [.o 6 (.mv (.k (.bool false)))]) .ret) .skip
abbrev QPR:AC:= .cond BP (.seq (.run [.o 6 (.mv (.k (.bool false)))]) .ret) .skip
abbrev QPT:AC:= .seq (.seq QPJ QPM) (.seq (.run [.m 54 bB, .o 55 (.av cD 11), .o 56 (.load nF false 1), .m 57 du, .o 58 (.bin .add qN (.k (.int .i64 1))), .c 59 lI [nn,pM,qk], .o 60 (.un .not og), .m 61 rJ, .g 62 61 false (.mv bB), .g 63 61 false (.av cD 12), .g 64 61 false (.load tL false 1), .g 65 61 false (.mv du), .g 66 61 false (.bin .add xT (.k (.int .i64 1))), .d 67 61 false lI [sC,tM,Ab], .g 68 61 false (.un .not Ac), .o 69 (.pick tJ (.k (.bool true)) xU)]) QPR)
abbrev QPV:AC:= .seq (.run [.o 20 (.bZ dg dB 13), .o 21 (.load ez true 13), .o 8 (.alloc [(.int .i64 0),(.int .i64 0),(.slice .full 0 []),(.str []),(.str []),(.int .i64 0),(.int .i64 0),(.str []),(.slice .full 0 []),(.bool false),(.slice .full 0 []),(.slice .full 0 []),(.slice .full 0 [])]), .op none none (.store cD dY 13)]) (.seq (.run [.m 22 bB, .o 23 (.cm eA), .o 24 (.av eC 0), .o 25 (.load eR false 1), .o 26 (.bin .add e9 (.k (.int .i64 1))), .o 27 (.cm eA), .o 28 (.av fG 0), .op none none (.store fZ fv 1)]) QPT)
abbrev QPZ:AC:= .seq (.cond dX .skip (.exit 0)) (.seq (.block 1 QPV) (.run [.o 70 (.bin .add dB (.k (.int .i64 1))), .m 18 BQ]))
abbrev QQ3:AC:= .seq (.run [.m 16 bq, .o 17 (.len dg), .o 18 (.mv (.k (.int .i64 0)))]) (.block 0 (.loop (.seq (.run [.o 19 (.bin .lss dB dE)]) QPZ)))
abbrev QQ6:AC:= .seq QQ3 (.seq (.run [.o 6 (.mv (.k (.bool true)))]) .ret)
abbrev QQ7:AC:= .seq (.seq (.run [.m 9 du, .o 10 (.bin .gtr dh (.k (.int .i64 12))), .m 11 bR, .g 12 11 true (.mv bq), .g 13 11 true (.len cJ), .g 14 11 true (.bin .gtr db (.k (.int .i64 0))), .o 15 (.pick cG cL (.k (.bool false)))]) QPC) QQ6
abbrev QQ8:AC:= .seq (.run [.o 6 (.mv (.k (.bool false)))]) QQ7
abbrev QQB:AC:= .seq (.run [.m 3 bB,(.o 4 (.build [(.int .i64 0),(.int .i64 0),(.str []),(.slice .full 0 [])] [(0,(1,(.k (.int .i64 1)))),(1,(1,cz))])), .op none none (.store du eZ 4)]) .ret
abbrev QQC:AC:= .seq (.run [.o 2 (.alloc [(.int .i64 0),(.int .i64 0),(.str []),(.slice .full 0 [])])]) QQB
abbrev QQF:AC:= .seq (.run [.m 3 bB,(.o 4 (.build [(.int .i64 0),(.int .i64 0),(.str []),(.slice .full 0 [])] [(0,(1,(.k (.int .i64 2)))),(2,(1,cz))])), .op none none (.store du eZ 4)]) .ret
abbrev QQG:AC:= .seq (.run [.o 2 (.alloc [(.int .i64 0),(.int .i64 0),(.str []),(.slice .full 0 [])])]) QQF
abbrev QQK:AC:= .seq (.run [.o 4 (.box bq), .o 5 (.box du), .o 6 (.alloc [(.int .i64 0),(.int .i64 0),(.str []),(.slice .full 0 [])])]) (.seq (.run [.m 7 bB, .o 8 (.load eZ true 4), .o 9 (.load bV true 4), .o 10 (.dm [(.int .i64 0),(.int .i64 0),(.str []),(.slice .full 0 [])] 4 2 [(0,cD),(1,dh)]), .o 11 (.build [(.int .i64 0),(.int .i64 0),(.str []),(.slice .full 0 [])] [(0,(1,cR)),(3,(1,bR))]), .op none none (.store dC cG 4)]) .ret)
abbrev QQV:AC:= .seq (.seq (.run [.m 10 bV, .o 11 (.av du 3), .o 12 (.load cG false 1), .o 13 (.len cJ), .o 14 (.bin .lss bR db), .m 15 cL, .g 16 15 true (.mv bq), .g 17 15 true (.bin .leq dg (.k (.int .i64 20000))), .o 18 (.pick dq dE (.k (.bool false)))]) (.cond dB .skip (.exit 0))) (.seq (.block 1 (.run [.o 21 (.av du 3), .o 22 (.load dY false 1), .m 23 bV, .o 24 (.bZ eA eC 4), .o 25 (.load eR true 4), .m 26 bq, .c 27 lj [e9,fv], .m 1 fG])) (.run [.m 19 bV, .o 20 (.bin .add dX (.k (.int .i64 1))), .m 5 ez]))
abbrev QR1:AC:= .seq (.seq (.run [.o 5 (.mv (.k (.int .i64 0)))]) (.block 0 (.loop QQV))) (.seq (.run [.m 28 bq, .m 4 fZ]) .ret)
abbrev QR3:AC:= .seq (.run [.o 2 (.box bB), .o 4 (.mv (.k (.int .i64 0)))]) (.seq (.run [.o 6 (.av du 2), .o 7 (.load dC false 1), .m 8 bq, .c 9 iB [cR,cD], .m 1 dh]) QR1)
abbrev QRG:AC:= .par [.m 37 bB, .m 38 bB, .o 39 (.cm jw), .o 40 (.av jq 2), .o 41 (.load jY false 1), .o 42 (.load dh true 17), .o 43 (.dm [(.int .i64 0),(.int .i64 0),(.slice .full 0 []),(.str []),(.str []),(.int .i64 0),(.int .i64 0),(.str []),(.slice .full 0 []),(.bool false),(.slice .full 0 []),(.slice .full 0 []),(.slice .full 0 []),(.int .i64 0),(.int .i64 0),(.int .i64 0),(.int .i64 0)] 17 1 [(0,kJ)]), .o 44 (.app 17 240 jZ kq), .o 45 (.cm jc), .o 46 (.av lX 2), .op none none (.store lY kK 1)] [(1,0),(2,0),(3,0),(4,0),(5,0),(6,0),(7,0),(0,0),(8,0),(9,0),(10,0)]
abbrev QRH:AC:= .run [.o 47 (.av bV 13), .o 48 (.load nj false 1), .m 49 cD, .o 50 (.av dh 15), .o 51 (.load mA false 1), .o 52 (.av bV 16), .o 53 (.load lK false 1), .o 54 (.build [(.int .i64 0),(.int .i64 0),(.slice .full 0 []),(.str []),(.str []),(.int .i64 0),(.int .i64 0),(.str []),(.slice .full 0 []),(.bool false),(.slice .full 0 []),(.slice .full 0 []),(.slice .full 0 []),(.int .i64 0),(.int .i64 0),(.int .i64 0),(.int .i64 0)] [(13,(1,lZ)),(14,(1,l5)),(15,(1,lJ)),(16,(1,mB))]), .o 10 (.alloc [(.int .i64 0),(.int .i64 0),(.slice .full 0 []),(.str []),(.str []),(.int .i64 0),(.int .i64 0),(.str []),(.slice .full 0 []),(.bool false),(.slice .full 0 []),(.slice .full 0 []),(.slice .full 0 []),(.int .i64 0),(.int .i64 0),(.int .i64 0),(.int .i64 0)]), .op none none (.store bR nn 17)]
abbrev QRP:AC:= .seq (.seq (.run [.o 55 (.av cR 1), .o 56 (.load nF false 1), .o 57 (.bin .eql pM (.k (.int .i64 6)))]) (.cond qN (.run [.m 58 cD, .m 59 cD, .o 60 (.av bR 15), .op none none (.store rJ qk 1), .o 61 (.av bR 16), .op none none (.store tJ og 1)]) .skip)) (.seq (.run [.m 62 bB, .o 63 (.av cR 11), .o 64 (.load tL false 1), .o 65 (.load bR true 17), .c 66 lk [sC,tM,xT]]) (.run [.m 67 bB, .o 68 (.av cR 12), .o 69 (.load xU false 1), .o 70 (.load bR true 17), .c 71 lk [Ac,BP,BQ]]))
abbrev QRS:AC:= .seq (.seq (.run [.m 27 dC, .o 28 (.bin .add fG (.k (.int .i64 1))), .m 29 bq, .o 30 (.len gf), .o 31 (.bin .lss fZ gn)]) (.cond gF (.run [.m 32 cD, .o 33 (.load cR true 13), .c 34 od [gM], .o 35 (.bin .add gU iC), .o 36 (.av dh 15), .op none none (.store iD gV 1)]) .skip)) (.seq QRG (.seq QRH QRP))
abbrev QRW:AC:= .seq (.run [.m 15 db, .o 16 (.bZ cG db 13), .o 17 (.load dg true 13), .o 7 (.alloc [(.int .i64 0),(.int .i64 0),(.slice .full 0 []),(.str []),(.str []),(.int .i64 0),(.int .i64 0),(.str []),(.slice .full 0 []),(.bool false),(.slice .full 0 []),(.slice .full 0 []),(.slice .full 0 [])]), .m 6 dq, .op none none (.store cR dE 13)]) (.seq (.run [.m 18 bB, .o 19 (.cm dB), .o 20 (.av dX 2), .o 21 (.load ez false 1), .o 22 (.len dY), .o 23 (.bin .add eA (.k (.int .i64 1))), .m 8 eC]) (.seq (.run [.o 24 (.load bV true 17), .o 9 (.alloc [(.int .i64 0),(.int .i64 0),(.slice .full 0 []),(.str []),(.str []),(.int .i64 0),(.int .i64 0),(.str []),(.slice .full 0 []),(.bool false),(.slice .full 0 []),(.slice .full 0 []),(.slice .full 0 []),(.int .i64 0),(.int .i64 0),(.int .i64 0),(.int .i64 0)]), .op none none (.store dh eR 17)]) (.seq (.run [.o 25 (.load cR true 13), .o 26 (.av dh 0), .op none none (.store fv e9 13)]) QRS)))
abbrev QS0:AC:= .seq (.cond cL .skip (.exit 0)) (.seq (.block 1 QRW) (.run [.o 72 (.bin .add db (.k (.int .i64 1))), .m 13 DQ]))
abbrev QS4:AC:= .seq (.run [.m 11 bq, .o 12 (.len cG), .o 13 (.mv (.k (.int .i64 0)))]) (.block 0 (.loop (.seq (.run [.o 14 (.bin .lss db cJ)]) QS0)))
abbrev QS5:AC:= .seq (.run [.o 5 (.box du)]) QS4
abbrev QSA:AC:= .cond dh (.seq (.run [.o 4 (.mv (.k (.slice .full 0 [])))]) .ret) .skip
abbrev QSH:AC:= .par [.o 21 (.av du 0), .o 22 (.load dY false 1), .c 23 lS [eA], .o 24 (.load dC true 5), .c 25 vn [eR], .o 26 (.app 1 16 eC e9), .m 4 fv] [(0,0),(1,0),(2,0),(3,1),(4,0),(5,0),(6,0)]
abbrev QSO:AC:= .seq (.block 1 (.seq (.run [.o 15 (.bZ cG db 5), .o 16 (.load dq true 5), .o 6 (.alloc [(.str []),(.slice .full 0 []),(.slice .full 0 []),(.slice .full 0 []),(.slice .full 0 [])]), .op none none (.store dC dg 5)]) (.seq (.run [.o 17 (.av dC 0), .o 18 (.load dE false 1), .m 19 bq, .o 20 (.bin .eql dB dX)]) (.cond ez (.seq QSH .ret) .skip)))) (.run [.o 27 (.bin .add db (.k (.int .i64 1))), .m 13 fG])
abbrev QSS:AC:= .block 0 (.loop (.seq (.run [.o 14 (.bin .lss db cJ)]) (.seq (.cond cL .skip (.exit 0)) QSO)))
abbrev QSW:AC:= .seq (.seq (.run [.o 10 (.av du 1), .o 11 (.load bR false 1), .o 12 (.len cG), .o 13 (.mv (.k (.int .i64 0)))]) QSS) (.seq (.run [.o 4 (.mv (.k (.slice .full 0 [])))]) .ret)
abbrev QSY:AC:= .seq (.run [.o 2 (.box bB), .o 4 (.mv (.k (.slice .full 0 [])))]) (.seq (.seq (.run [.o 7 (.load du true 2), .c 8 rh [cR], .o 9 (.un .not cD)]) QSA) QSW)
abbrev QT0:AC:= .par [.m 5 bB, .o 6 (.cm bV), .o 7 (.av dC 3), .o 8 (.load cR false 1), .m 9 bq, .o 10 (.bZ cD dh 1), .o 11 (.load bR false 1), .m 12 bB, .o 13 (.cm cJ), .o 14 (.av db 4), .o 15 (.load cL false 1), .m 16 bq, .o 17 (.bZ dq dg 1), .o 18 (.load dE false 1), .o 19 (.bin .lss cG dB)] [(0,0),(1,0),(2,0),(3,0),(4,0),(5,0),(6,0),(7,0),(8,0),(9,0),(10,0),(11,0),(12,0),(13,0),(14,0)]
abbrev QT6:AC:= .seq (.run [(.o 4 (.mv (.k (.int .i64 (-1)))))]) .ret
abbrev QT7:AC:= .seq (.seq QT0 (.cond dX (.seq (.run [.m 20 bB, .o 21 (.cm ez), .o 22 (.av dY 3), .o 23 (.load eA false 1), .m 24 bq, .o 25 (.bZ eC eR 1), .o 26 (.load e9 false 1), .m 4 fv]) .ret) .skip)) QT6
abbrev QT8:AC:= .seq (.run [.o 4 (.mv (.k (.int .i64 0)))]) QT7
abbrev QTK:AC:= .block 1 (.seq (.run [.m 10 cD, .m 5 bR]) (.seq (.run [.m 11 bq, .m 12 bB, .m 13 bV, .o 14 (.bZ cJ db 5), .o 15 (.load cL true 5),(.ky (some 16) none 11 [dq])]) (.cond dg (.seq (.run [.m 17 bV, .m 4 dE]) .ret) .skip)))
abbrev QTN:AC:= .seq (.cond dh .skip (.exit 0)) (.seq QTK (.run [.o 18 (.bin .add cD (.k (.int .i64 1))), .m 8 dB]))
abbrev QTR:AC:= .seq (.run [.m 6 bB, .o 7 (.len dC), .o 8 (.mv (.k (.int .i64 0)))]) (.block 0 (.loop (.seq (.run [.o 9 (.bin .lss cD cR)]) QTN)))
abbrev QTT:AC:= .seq (.run [(.o 4 (.mv (.k (.int .i64 (-1)))))]) .ret
abbrev QTV:AC:= .seq (.run [.o 4 (.mv (.k (.int .i64 0)))]) (.seq QTR QTT)
abbrev QTZ:AC:= .seq (.run [.o 2 (.box bB), .o 3 (.mv (.k (.bool false)))]) (.seq (.run [.o 4 (.av du 0), .o 5 (.load eZ false 1), .o 6 (.load bq false 1), .o 7 (.bin .eql bV dC), .m 3 cR]) .ret)
abbrev QU2:AC:= .par [.m 8 bV, .o 9 (.cm cD), .o 10 (.av dh 2), .o 11 (.load bR false 1), .m 12 bV, .o 13 (.cm cJ), .o 14 (.av db 1), .o 15 (.load cL false 1), .m 16 bq, .c 17 ig [dq,dg], .o 18 (.bZ cG dE 1), .o 19 (.load dB false 1), .m 4 dX] [(4,0),(5,0),(6,0),(7,0),(8,0),(9,0),(0,0),(1,0),(2,0),(3,1),(10,0),(11,0),(12,0)]
abbrev QU5:AC:= .seq (.run [.o 4 (.mv (.k .eY))]) (.seq (.run [.m 6 bB, .c 7 mh [dC], .m 5 cR]) (.seq QU2 .ret))
abbrev QUD:AC:= .par [.m 30 bB, .m 31 bB, .o 32 (.cm gF), .o 33 (.av gU 5), .o 34 (.load gM false 1), .m 35 cD, .o 36 (.cm gV), .o 37 (.load iD false 1), .o 38 (.dm [(.int .i64 0)] 1 1 [(0,jc)]), .o 39 (.app 1 8 iC jw), .o 40 (.cm gn), .o 41 (.av jY 5), .op none none (.store jZ jq 1)] [(1,0),(2,0),(3,0),(4,0),(5,0),(6,0),(7,0),(8,0),(9,0),(0,0),(10,0),(11,0),(12,0)]
abbrev QUI:AC:= .seq (.cond fG .skip (.exit 0)) (.seq (.block 1 (.seq (.run [.o 28 (.bZ eR fv 1), .o 29 (.load fZ false 1), .m 8 gf]) QUD)) (.run [.o 42 (.bin .add fv (.k (.int .i64 1))), .m 26 kJ]))
abbrev QUJ:AC:= .seq (.run [.o 27 (.bin .lss fv e9)]) QUI
abbrev QUN:AC:= .par [.o 44 (.load cz true 4), .m 45 dC, .o 46 (.cm lX), .o 47 (.av lY 1), .o 48 (.load nj false 1), .m 49 bB, .o 50 (.cm l5), .o 51 (.av mA 5), .o 52 (.load lJ false 1), .c 53 yV [kK,lZ,lK], .m 43 mB, .o 54 (.ext kq 0), .o 55 (.ext kq 1), .m 9 nn, .m 10 nF] [(0,0),(1,0),(2,0),(3,0),(4,0),(5,0),(6,0),(7,0),(8,0),(9,0),(10,0),(11,0),(12,0),(13,0),(14,0)]
abbrev QUR:AC:= .seq (.run [.m 56 bR, .o 57 (.un .not pM)]) (.cond qN (.run [.m 58 bB, .o 59 (.cm qk), .o 60 (.av og 6), .o 61 (.av rJ 0), .op none none (.store tJ (.k (.int .i64 4)) 1)]) .skip)
abbrev QUV:AC:= .seq QUN (.seq QUR (.seq (.run [.m 62 dh, .m 63 bR, .m 4 sC, .m 5 tL]) .ret))
abbrev QUW:AC:= .seq (.seq (.run [.m 21 dC, .o 22 (.cm dY), .o 23 (.av eA 2), .o 24 (.load eC false 1), .o 25 (.len eR), .o 26 (.mv (.k (.int .i64 0)))]) (.block 0 (.loop QUJ))) QUV
abbrev QUX:AC:= .seq (.run [.m 13 bB, .m 14 bB, .o 15 (.cm cL), .o 16 (.av dq 5), .o 17 (.load dg false 1),(.o 18 (.GZ 1 dE none (some (.k (.int .i64 0))))), .o 19 (.cm db), .o 20 (.av dX 5), .op none none (.store ez dB 1)]) QUW
abbrev QUZ:AC:= .seq (.run [.o 3 (.box bq), .o 4 (.mv (.k (.int .i64 0))), .o 5 (.mv (.k (.bool false)))]) (.seq (.run [.m 11 bB, .c 12 mh [cG], .m 6 cJ]) QUX)
abbrev QV3:AC:= .seq (.run [.m 6 bB, .o 7 (.cm dC), .o 8 (.av cR 3), .o 9 (.load cD false 1), .m 10 bq, .c 11 oQ [dh,bR]]) (.cond cG (.run [.m 12 bB, .m 13 bB, .o 14 (.cm db), .o 15 (.av cL 6), .o 16 (.av dq 4), .o 17 (.load dg false 1), .m 18 bq, .m 19 du, .o 20 (.build [(.int .i64 0),(.slice .full 0 [])] [(0,(1,dB)),(1,(1,dX))]), .o 21 (.dm [(.int .i64 0),(.slice .full 0 [])] 2 1 [(0,ez)]), .o 22 (.app 2 32 dE dY), .o 23 (.cm cJ), .o 24 (.av eC 6), .o 25 (.av eR 4), .op none none (.store e9 eA 1)]) .skip)
abbrev QVC:AC:= .cond eA (.seq (.run [.o 23 (.av dh 0), .o 24 (.av eC 0), .o 25 (.load eR false 1), .m 6 e9, .o 7 (.mv (.k (.bool true)))]) .ret) .skip
abbrev QVH:AC:= .seq (.block 1 (.seq (.run [.o 16 (.bZ cJ cL 17), .o 17 (.load dg true 17), .o 9 (.alloc [(.int .i64 0),(.int .i64 0),(.slice .full 0 []),(.str []),(.str []),(.int .i64 0),(.int .i64 0),(.str []),(.slice .full 0 []),(.bool false),(.slice .full 0 []),(.slice .full 0 []),(.slice .full 0 []),(.int .i64 0),(.int .i64 0),(.int .i64 0),(.int .i64 0)]), .op none none (.store dh dE 17)]) (.seq (.run [.o 18 (.av dh 0), .o 19 (.av dB 2), .o 20 (.load dX false 1), .m 21 du, .c 22 cT [ez,dY]]) QVC))) (.run [.o 26 (.bin .add cL (.k (.int .i64 1))), .m 14 fv])
abbrev QVL:AC:= .block 0 (.loop (.seq (.run [.o 15 (.bin .lss cL db)]) (.seq (.cond dq .skip (.exit 0)) QVH)))
abbrev QVP:AC:= .seq (.run [(.o 6 (.mv (.k (.int .i64 (-1))))), .o 7 (.mv (.k (.bool true)))]) .ret
abbrev QVU:AC:= .seq (.seq (.run [.m 27 bB, .o 28 (.cm fG), .o 29 (.av fZ 0), .o 30 (.av gf 1), .o 31 (.load gn false 1), .m 32 bq, .o 33 (.bZ gF gU 5), .o 34 (.av gM 4), .o 35 (.load iC false 1), .m 36 du, .c 37 cT [gV,iD]]) (.cond jc QVP .skip)) (.seq (.run [.o 6 (.mv (.k (.int .i64 0))), .o 7 (.mv (.k (.bool false)))]) .ret)
abbrev QVV:AC:= .seq (.seq (.run [.m 10 bB, .m 11 bq, .c 12 iY [bR,cG], .o 13 (.len cJ), .o 14 (.mv (.k (.int .i64 0)))]) QVL) QVU
abbrev QVW:AC:= .seq (.run [.o 6 (.mv (.k (.int .i64 0))), .o 7 (.mv (.k (.bool false)))]) QVV
abbrev QW1:AC:= .cond cR (.seq (.run [.m 8 bB, .o 9 (.bZ cD (.k (.int .i64 0)) 13), .o 10 (.av dh 0), .o 11 (.load bR false 1), .m 4 cG]) .ret) .skip
abbrev QW5:AC:= .seq (.seq (.run [.m 5 bB, .o 6 (.len bV), .o 7 (.bin .gtr dC (.k (.int .i64 0)))]) QW1) (.seq (.run [.m 12 bq, .m 4 cJ]) .ret)
abbrev QW6:AC:= .seq (.run [.o 4 (.mv (.k (.int .i64 0)))]) QW5
abbrev QW8:AC:= .par [.m 3 bB, .o 4 (.cm cz), .o 5 (.av eZ 4), .o 6 (.load bV false 1), .m 7 bB, .o 8 (.cm cR), .o 9 (.av cD 4), .o 10 (.load dh false 1), .o 11 (.len bR), .o 12 (.bin .sub cG (.k (.int .i64 1))), .o 13 (.bZ dC cJ 1), .o 14 (.load db false 1), .m 2 cL] [(0,0),(1,0),(2,0),(3,0),(4,0),(5,0),(6,0),(7,0),(8,0),(9,0),(10,0),(11,0),(12,0)]
abbrev QWA:AC:= .seq (.run [.o 2 (.mv (.k .eY))]) (.seq QW8 .ret)
abbrev QWE:AC:= .seq (.run [.o 1 (.box bB), .o 2 (.mv (.k (.slice .full 0 [])))]) (.seq (.run [.o 3 (.av bq 3), .o 4 (.load cz false 1),(.c 5 oe [eZ,(.k (.int .i64 1)),(.k (.int .i64 0)),(.k (.bool false)),(.k (.slice .full 0 []))]), .m 2 bV]) .ret)
abbrev QWI:AC:= .seq (.run [(.o 16 (.build [(.int .i64 0),(.int .i64 0)] [(0,(1,(.k (.int .i64 1))))])), .op none none (.store du dg 2)]) .ret
abbrev QWU:AC:= .seq (.block 1 (.seq (.run [.o 22 (.bZ dB ez 5), .o 23 (.load eA true 5), .o 5 (.alloc [(.str []),(.slice .full 0 []),(.slice .full 0 []),(.slice .full 0 []),(.slice .full 0 [])]), .op none none (.store bV eC 5)]) (.run [.m 24 cz, .o 25 (.av bV 0), .o 26 (.load e9 false 1), .o 27 (.dm [(.str [])] 1 1 [(0,fv)]), .o 28 (.app 1 16 eR fG), .m 3 fZ]))) (.run [.o 29 (.bin .add ez (.k (.int .i64 1))), .m 20 gf])
abbrev QWY:AC:= .block 0 (.loop (.seq (.run [.o 21 (.bin .lss ez dX)]) (.seq (.cond dY .skip (.exit 0)) QWU)))
abbrev QX3:AC:= .seq (.run [(.o 53 (.build [(.int .i64 0),(.int .i64 0)] [(0,(1,(.k (.int .i64 5))))])), .op none none (.store du mB 2)]) .ret
abbrev QXE:AC:= .seq (.run [(.o 73 (.build [(.int .i64 0),(.int .i64 0)] [(0,(1,(.k (.int .i64 5))))])), .op none none (.store du DR 2)]) .ret
abbrev QXN:AC:= .seq (.run [.o 89 (.av cJ 0), .o 90 (.av Gd 0), .o 91 (.load Jg false 1),(.o 92 (.build [(.int .i64 0),(.int .i64 0)] [(0,(1,(.k (.int .i64 5)))),(1,(1,M6))])), .op none none (.store du TA 2)]) .ret
abbrev QXT:AC:= .seq (.block 5 (.seq (.run [.o 80 (.bZ DS BR 17), .o 81 (.load Je true 17), .o 12 (.alloc [(.int .i64 0),(.int .i64 0),(.slice .full 0 []),(.str []),(.str []),(.int .i64 0),(.int .i64 0),(.str []),(.slice .full 0 []),(.bool false),(.slice .full 0 []),(.slice .full 0 []),(.slice .full 0 []),(.int .i64 0),(.int .i64 0),(.int .i64 0),(.int .i64 0)]), .op none none (.store cJ Jf 17)]) (.seq (.run [.o 82 (.load bq true 2), .o 83 (.load dh true 5), .m 84 cz, .o 85 (.av cJ 0), .o 86 (.load MZ true 13), .c 87 sh [MW,MX,MY,M3], .o 88 (.un .not M4)]) (.cond M5 QXN .skip)))) (.run [.o 93 (.bin .add BR (.k (.int .i64 1))), .m 78 ZL])
abbrev QXX:AC:= .block 4 (.loop (.seq (.run [.o 79 (.bin .lss BR Gc)]) (.seq (.cond Jd .skip (.exit 4)) QXT)))
abbrev QXZ:AC:= .seq (.seq (.run [.m 66 bR, .c 67 pZ [Ab], .m 68 Ac, .g 69 68 false (.mv bR), .g 70 68 false (.wV 130 [bq]), .d 71 68 false ij [BP,BQ], .o 72 (.pick xU (.k (.bool true)) F9)]) (.cond DQ QXE .skip)) (.seq (.run [.m 74 cR, .m 75 cD, .c 76 iY [Ga,Gb], .o 77 (.len DS), .o 78 (.mv (.k (.int .i64 0)))]) QXX)
abbrev QY4:AC:= .seq (.block 3 (.seq (.run [.m 61 og, .o 62 (.bZ qN og 5), .o 63 (.load sC true 5), .o 9 (.alloc [(.str []),(.slice .full 0 []),(.slice .full 0 []),(.slice .full 0 []),(.slice .full 0 [])]), .m 8 tJ, .op none none (.store dh tL 5)]) (.seq (.run [.o 64 (.load dh true 5), .c 65 vn [tM], .m 10 xT]) QXZ))) (.run [.o 94 (.bin .add og (.k (.int .i64 1))), .m 59 ZM])
abbrev QY8:AC:= .block 2 (.loop (.seq (.run [.o 60 (.bin .lss og qk)]) (.seq (.cond rJ .skip (.exit 2)) QY4)))
abbrev QYC:AC:= .seq (.seq (.run [.o 56 (.av bq 1), .o 57 (.load pM false 1), .o 58 (.len qN), .o 59 (.mv (.k (.int .i64 0)))]) QY8) (.seq (.run [.o 95 (.build [(.int .i64 0),(.int .i64 0)] []), .op none none (.store du ZN 2)]) .ret)
abbrev QYE:AC:= .seq (.seq (.run [.o 32 (.av bq 0), .o 33 (.load gU false 1), .c 34 pZ [gM], .m 35 iC, .g 36 35 false (.mv cz), .d 37 35 false pZ [iD], .o 38 (.pick gV (.k (.bool true)) jc), .m 39 jw, .g 40 39 false (.mv dC), .g 41 39 false (.bin .lss jY (.k (.int .i64 0))), .o 42 (.pick jq (.k (.bool true)) jZ), .m 43 kJ, .g 44 43 false (.av bq 1), .g 45 43 false (.load kK false 1), .g 46 43 false (.mv dC), .g 47 43 false (.bZ lX lY 5), .g 48 43 false (.av nj 1), .g 49 43 false (.load lZ false 1), .g 50 43 false (.len l5), .g 51 43 false (.bin .gtr mA (.k (.int .i64 0))), .o 52 (.pick kq (.k (.bool true)) lJ)]) (.cond lK QX3 .skip)) (.seq (.run [.o 54 (.load bq true 2), .c 55 my [nn], .m 7 nF]) QYC)
abbrev QYG:AC:= .seq (.seq (.run [.o 17 (.av bq 1), .o 18 (.load dE false 1), .o 19 (.len dB), .o 20 (.mv (.k (.int .i64 0)))]) QWY) (.seq (.run [.m 30 cz,(.c 31 ig [gn,(.k (.str [109,97,105,110]))]), .m 6 gF]) QYE)
abbrev QYI:AC:= .seq (.seq (.run [.o 13 (.load bq true 2), .c 14 rh [db], .o 15 (.un .not cL)]) (.cond dq QWI .skip)) (.seq (.run [.o 3 (.mv (.k (.slice .full 0 [])))]) QYG)
abbrev QYJ:AC:= .seq (.run [.o 1 (.box bB), .o 2 (.alloc [(.int .i64 0),(.int .i64 0)])]) QYI
abbrev QYN:AC:= .seq (.run [(.o 9 (.build [(.int .i64 0),(.int .i64 0)] [(0,(1,(.k (.int .i64 1))))])), .op none none (.store du dh 2)]) .ret
abbrev QYW:AC:= .seq (.run [.o 31 (.av eZ 0), .o 32 (.av gF 0), .o 33 (.load gU false 1),(.o 34 (.build [(.int .i64 0),(.int .i64 0)] [(0,(1,(.k (.int .i64 6)))),(1,(1,gM))])), .op none none (.store du iC 2)]) .ret
abbrev QYZ:AC:= .seq (.run [.o 18 (.bZ cL dg 17), .o 19 (.load dB true 17), .o 4 (.alloc [(.int .i64 0),(.int .i64 0),(.slice .full 0 []),(.str []),(.str []),(.int .i64 0),(.int .i64 0),(.str []),(.slice .full 0 []),(.bool false),(.slice .full 0 []),(.slice .full 0 []),(.slice .full 0 []),(.int .i64 0),(.int .i64 0),(.int .i64 0),(.int .i64 0)]), .op none none (.store eZ dX 17)]) (.seq (.run [.o 20 (.av eZ 0), .o 21 (.av ez 1), .o 22 (.load dY false 1), .o 23 (.bin .eql eA (.k (.int .i64 4))), .m 24 eC, .g 25 24 true (.load bq true 2), .g 26 24 true (.av eZ 0), .g 27 24 true (.load fv true 13), .d 28 24 true xP [e9,fG], .g 29 24 true (.un .not fZ), .o 30 (.pick eR gf (.k (.bool false)))]) (.cond gn QYW .skip))
abbrev QZ3:AC:= .seq (.cond dE .skip (.exit 0)) (.seq (.block 1 QYZ) (.run [.o 35 (.bin .add dg (.k (.int .i64 1))), .m 16 gV]))
abbrev QZ7:AC:= .seq (.run [.o 10 (.load bq true 2), .c 11 my [bR], .o 12 (.cm cG), .o 13 (.av cJ 2), .o 14 (.load db false 1), .o 15 (.len cL), .o 16 (.mv (.k (.int .i64 0)))]) (.block 0 (.loop (.seq (.run [.o 17 (.bin .lss dg dq)]) QZ3)))
abbrev QZB:AC:= .seq (.seq (.run [.o 5 (.load bq true 2), .c 6 nK [bV], .o 7 (.De dC 0 false 1), .o 8 (.bin .neq cR (.k (.int .i64 0)))]) (.cond cD QYN .skip)) (.seq QZ7 (.seq (.run [.o 36 (.build [(.int .i64 0),(.int .i64 0)] []), .op none none (.store du iD 2)]) .ret))
abbrev QZC:AC:= .seq (.run [.o 1 (.box bB), .o 2 (.alloc [(.int .i64 0),(.int .i64 0)])]) QZB
abbrev QZH:AC:= .seq (.run [(.o 14 (.build [(.int .i64 0),(.int .i64 0)] [(0,(1,(.k (.int .i64 1))))])), .op none none (.store du cL 2)]) .ret
abbrev QZX:AC:= .seq (.run [.o 47 (.av dh 0), .o 48 (.av nj 0), .o 49 (.load lZ false 1),(.o 50 (.build [(.int .i64 0),(.int .i64 0)] [(0,(1,(.k (.int .i64 7)))),(1,(1,l5))])), .op none none (.store du mA 2)]) .ret
abbrev apC:AC:= .seq (.run [.m 32 dC, .o 33 (.av dh 0), .o 34 (.av gM 2), .o 35 (.load iC false 1), .c 36 rW [gU,gV], .m 31 iD, .o 37 (.ext gF 0), .o 38 (.ext gF 1), .m 6 jc, .m 7 jw]) (.seq (.run [.m 39 cR, .o 40 (.un .not jq), .m 41 jY, .g 42 41 false (.mv cz), .g 43 41 false (.load dh true 17), .d 44 41 false xQ [kJ,kq], .g 45 41 false (.un .not kK), .o 46 (.pick jZ (.k (.bool true)) lX)]) (.cond lY QZX .skip))
abbrev apD:AC:= .seq (.block 3 (.seq (.run [.o 29 (.bZ e9 fG 17), .o 30 (.load gf true 17), .o 9 (.alloc [(.int .i64 0),(.int .i64 0),(.slice .full 0 []),(.str []),(.str []),(.int .i64 0),(.int .i64 0),(.str []),(.slice .full 0 []),(.bool false),(.slice .full 0 []),(.slice .full 0 []),(.slice .full 0 []),(.int .i64 0),(.int .i64 0),(.int .i64 0),(.int .i64 0)]), .op none none (.store dh gn 17)]) apC)) (.run [.o 51 (.bin .add fG (.k (.int .i64 1))), .m 27 lJ])
abbrev apE:AC:= .block 2 (.loop (.seq (.run [.o 28 (.bin .lss fG fv)]) (.seq (.cond fZ .skip (.exit 2)) apD)))
abbrev apG:AC:= .seq (.run [(.o 61 (.build [(.int .i64 0),(.int .i64 0)] [(0,(1,(.k (.int .i64 7))))])), .op none none (.store du tJ 2)]) .ret
abbrev apH:AC:= .seq (.seq (.run [.m 23 cz, .m 24 eZ, .c 25 iY [eC,eR], .o 26 (.len e9), .o 27 (.mv (.k (.int .i64 0)))]) apE) (.seq (.run [.m 53 dC, .o 54 (.av bV 4), .o 55 (.load nn false 1), .c 56 rW [mB,nF], .m 52 pM, .o 57 (.ext lK 0), .o 58 (.ext lK 1), .m 7 qk]) (.seq (.run [.m 59 cR, .o 60 (.un .not og)]) (.cond rJ apG .skip)))
abbrev apI:AC:= .seq (.run [.o 6 (.mv (.k (.slice .full 0 [])))]) (.seq (.run [.o 7 (.mv (.k (.bool true)))]) apH)
abbrev apJ:AC:= .seq (.block 1 (.seq (.run [.m 20 dB, .o 21 (.bZ dg dB 5), .o 22 (.load dY true 5), .o 5 (.alloc [(.str []),(.slice .full 0 []),(.slice .full 0 []),(.slice .full 0 []),(.slice .full 0 [])]), .m 4 ez, .op none none (.store bV eA 5)]) apI)) (.run [.o 62 (.bin .add dB (.k (.int .i64 1))), .m 18 sC])
abbrev apK:AC:= .block 0 (.loop (.seq (.run [.o 19 (.bin .lss dB dE)]) (.seq (.cond dX .skip (.exit 0)) apJ)))
abbrev apL:AC:= .seq (.seq (.run [.o 15 (.av bq 1), .o 16 (.load dq false 1), .o 17 (.len dg), .o 18 (.mv (.k (.int .i64 0)))]) apK) (.seq (.run [.o 63 (.build [(.int .i64 0),(.int .i64 0)] []), .op none none (.store du tL 2)]) .ret)
abbrev apN:AC:= .seq (.run [.o 10 (.load bq true 2), .c 11 tB [bR], .m 3 cG]) (.seq (.seq (.run [.m 12 cz, .o 13 (.JQ false cJ (.k .eY))]) (.cond db QZH .skip)) apL)
abbrev apO:AC:= .seq (.run [.o 1 (.box bB), .o 2 (.alloc [(.int .i64 0),(.int .i64 0)])]) apN
abbrev apP:AC:= .seq (.run [(.o 12 (.build [(.int .i64 0),(.int .i64 0)] [(0,(1,(.k (.int .i64 1))))])), .op none none (.store du cJ 2)]) .ret
abbrev apQ:AC:= .par [.m 21 cz, .o 22 (.av bV 0), .o 23 (.load eA false 1), .o 24 (.load bq true 2), .o 25 (.av bV 0), .o 26 (.load e9 false 1), .c 27 tC [eR,fv], .op none none (.Bp dY eC fG)] [(3,0),(4,0),(5,0),(6,0),(0,0),(1,0),(2,1),(7,0)]
abbrev apR:AC:= .seq (.block 1 (.seq (.run [.o 19 (.bZ dq dE 5), .o 20 (.load dX true 5), .o 5 (.alloc [(.str []),(.slice .full 0 []),(.slice .full 0 []),(.slice .full 0 []),(.slice .full 0 [])]), .op none none (.store bV ez 5)]) apQ)) (.run [.o 28 (.bin .add dE (.k (.int .i64 1))), .m 17 fZ])
abbrev apS:AC:= .block 0 (.loop (.seq (.run [.o 18 (.bin .lss dE dg)]) (.seq (.cond dB .skip (.exit 0)) apR)))
abbrev apT:AC:= .seq (.run [.o 54 (.av cR 0), .o 55 (.av nn 0), .o 56 (.load nF false 1),(.o 57 (.build [(.int .i64 0),(.int .i64 0)] [(0,(1,(.k (.int .i64 8)))),(1,(1,pM))])), .op none none (.store du qN 2)]) .ret
abbrev apU:AC:= .seq (.run [.o 37 (.bZ gM gV 17), .o 38 (.load jc true 17), .o 7 (.alloc [(.int .i64 0),(.int .i64 0),(.slice .full 0 []),(.str []),(.str []),(.int .i64 0),(.int .i64 0),(.str []),(.slice .full 0 []),(.bool false),(.slice .full 0 []),(.slice .full 0 []),(.slice .full 0 []),(.int .i64 0),(.int .i64 0),(.int .i64 0),(.int .i64 0)]), .op none none (.store cR jw 17)]) (.seq (.run [.o 39 (.av cR 0), .o 40 (.av jq 1), .o 41 (.load jY false 1), .o 42 (.bin .eql jZ (.k (.int .i64 4))), .m 43 kJ, .g 44 43 true (.av cR 0), .g 45 43 true (.load kK true 13), .g 46 43 true (.mv cz), .g 47 43 true (.av cR 0), .g 48 43 true (.av nj 4), .g 49 43 true (.load lZ false 1), .g 50 43 true (.yD lY l5 (.slice .full 0 [])), .d 51 43 true uP [lX,mA], .g 52 43 true (.un .not lJ), .o 53 (.pick kq lK (.k (.bool false)))]) (.cond mB apT .skip))
abbrev apV:AC:= .seq (.cond iD .skip (.exit 2)) (.seq (.block 3 apU) (.run [.o 58 (.bin .add gV (.k (.int .i64 1))), .m 35 qk]))
abbrev apW:AC:= .seq (.run [.o 29 (.load bq true 2), .c 30 my [gf], .o 31 (.cm gn), .o 32 (.av gF 2), .o 33 (.load gU false 1), .o 34 (.len gM), .o 35 (.mv (.k (.int .i64 0)))]) (.block 2 (.loop (.seq (.run [.o 36 (.bin .lss gV iC)]) apV)))
abbrev apX:AC:= .seq (.seq (.run [.o 14 (.av bq 1), .o 15 (.load cL false 1), .o 16 (.len dq), .o 17 (.mv (.k (.int .i64 0)))]) apS) (.seq apW (.seq (.run [.o 59 (.build [(.int .i64 0),(.int .i64 0)] []), .op none none (.store du og 2)]) .ret))
abbrev apY:AC:= .seq (.seq (.run [.o 8 (.load bq true 2), .c 9 sg [cD], .o 10 (.De dh 0 false 1), .o 11 (.bin .neq bR (.k (.int .i64 0)))]) (.cond cG apP .skip)) (.seq (.run [.op (some 13) none .wW, .m 3 db]) apX)
abbrev apZ:AC:= .seq (.run [.o 1 (.box bB), .o 2 (.alloc [(.int .i64 0),(.int .i64 0)])]) apY
abbrev ap0:AC:= .cond dE (.seq (.run [.o 2 (.mv (.k (.int .i64 2)))]) .ret) .skip
abbrev ap1:AC:= .cond bR (.seq (.run [.o 2 (.mv (.k (.int .i64 1)))]) .ret) (.seq (.run [.m 18 bB, .o 19 (.bin .geq dB (.k (.int .i64 5))), .m 20 dX, .g 21 20 true (.mv bB), .g 22 20 true (.bin .leq dY (.k (.int .i64 17))), .o 23 (.pick ez eA (.k (.bool false))), .m 17 eC]) ap0)
abbrev ap2:AC:= .cond cz (.seq (.run [.o 2 (.mv (.k (.int .i64 0)))]) .ret) (.seq (.run [.m 11 bB, .o 12 (.bin .eql cG (.k (.int .i64 3))), .m 13 cJ, .g 14 13 false (.mv bB), .g 15 13 false (.bin .eql cL (.k (.int .i64 4))), .o 16 (.pick db (.k (.bool true)) dq), .m 10 dg]) ap1)
abbrev ap3:AC:= .block 0 (.seq (.run [.m 4 bB, .o 5 (.bin .eql eZ (.k (.int .i64 1))), .m 6 bV, .g 7 6 false (.mv bB), .g 8 6 false (.bin .eql cR (.k (.int .i64 2))), .o 9 (.pick dC (.k (.bool true)) cD), .m 3 dh]) ap2)
abbrev ap4:AC:= .seq (.run [(.o 2 (.mv (.k (.int .i64 (-1)))))]) .ret
abbrev ap5:AC:= .seq (.run [.o 2 (.mv (.k (.int .i64 0)))]) (.seq ap3 ap4)
abbrev ap6:AC:= .par [.o 20 (.av cR 0), .o 21 (.load ez false 1), .o 22 (.av cR 2), .o 23 (.load eA false 1), .c 24 oR [eC], .o 25 (.av cR 4), .o 26 (.load e9 false 1), .c 27 oR [fv], .o 28 (.av cR 3), .o 29 (.load fZ false 1), .o 30 (.load cz true 13), .c 31 pL [gf,gn], .o 32 (.build [(.str []),(.slice .full 0 []),(.slice .full 0 []),(.slice .full 0 []),(.slice .full 0 [])] [(0,(1,dY)),(2,(1,eR)),(4,(1,fG)),(3,(1,gF))]), .o 8 (.alloc [(.str []),(.slice .full 0 []),(.slice .full 0 []),(.slice .full 0 []),(.slice .full 0 [])]), .op none none (.store cD gU 5)] [(2,0),(3,0),(4,0),(5,0),(6,1),(7,0),(8,0),(9,2),(10,2),(11,0),(13,0),(0,0),(1,4),(12,0),(14,0)]
abbrev ap7:AC:= .seq (.run [.o 18 (.bZ cL dg 5), .o 19 (.load dB true 5), .o 7 (.alloc [(.str []),(.slice .full 0 []),(.slice .full 0 []),(.slice .full 0 []),(.slice .full 0 [])]), .op none none (.store cR dX 5)]) (.seq ap6 (.seq (.run [.o 33 (.av cD 1), .o 34 (.load gM false 1), .o 35 (.av cR 1), .o 36 (.load gV false 1), .o 37 (.app 2 24 iC iD), .o 38 (.av cD 1), .op none none (.store jw jc 1)]) (.run [.o 39 (.av bV 1), .o 40 (.load jq false 1), .o 41 (.load cD true 5), .o 42 (.dm [(.str []),(.slice .full 0 []),(.slice .full 0 []),(.slice .full 0 []),(.slice .full 0 [])] 5 1 [(0,jZ)]), .o 43 (.app 5 112 jY kJ), .o 44 (.av bV 1), .op none none (.store kK kq 1)])))
abbrev ap8:AC:= .seq (.cond dE .skip (.exit 0)) (.seq (.block 1 ap7) (.run [.o 45 (.bin .add dg (.k (.int .i64 1))), .m 16 lX]))
abbrev ZO:AC:= .seq (.run [.o 17 (.bin .lss dg dq)]) ap8
abbrev ZP:AC:= .seq (.run [.o 46 (.load bV true 2), .op none none (.store eZ lY 2)]) .ret
abbrev ap9:AC:= .seq (.seq (.run [.o 13 (.av du 1), .o 14 (.load db false 1), .o 15 (.len cL), .o 16 (.mv (.k (.int .i64 0)))]) (.block 0 (.loop ZO))) ZP
abbrev aqa:AC:= .seq (.run [.o 2 (.box bB), .o 3 (.box bq), .o 4 (.alloc [(.slice .full 0 []),(.slice .full 0 [])])]) (.seq (.run [.o 9 (.av du 0), .o 10 (.load dh false 1), .c 11 oR [bR], .o 12 (.build [(.slice .full 0 []),(.slice .full 0 [])] [(0,(1,cG))]), .o 5 (.alloc [(.slice .full 0 []),(.slice .full 0 [])]), .op none none (.store bV cJ 2)]) ap9)
open Go.Proofs
theorem Jh:Has Tryz.prog oP 15 [(2,none)] QOX:=⟨Tryz.f64,by kernel_rfl,by kernel_rfl⟩
theorem oT:Has Tryz.prog pK 27 [(2,none)] QP7:=⟨Tryz.f65,by kernel_rfl,by kernel_rfl⟩
theorem tO:Has Tryz.prog lI 71 [(6,none)] QQ8:=⟨Tryz.f66,by kernel_rfl,by kernel_rfl⟩
theorem Nb:Has Tryz.prog tx 5 [(2,(some (true,4)))] QQC:=⟨Tryz.f68,by kernel_rfl,by kernel_rfl⟩
theorem Lg:Has Tryz.prog mJ 5 [(2,(some (true,4)))] QQG:=⟨Tryz.f69,by kernel_rfl,by kernel_rfl⟩
theorem Nc:Has Tryz.prog w6 12 [(6,(some (true,4)))] QQK:=⟨Tryz.f70,by kernel_rfl,by kernel_rfl⟩
theorem DU:Has Tryz.prog lj 29 [(4,none)] QR3:=⟨Tryz.f71,by kernel_rfl,by kernel_rfl⟩
theorem DV:Has Tryz.prog lk 73 [] QS5:=⟨Tryz.f72,by kernel_rfl,by kernel_rfl⟩
theorem Ji:Has Tryz.prog xN 28 [(4,none)] QSY:=⟨Tryz.f73,by kernel_rfl,by kernel_rfl⟩
theorem BU:Has Tryz.prog qK 27 [(4,none)] QT8:=⟨Tryz.f74,by kernel_rfl,by kernel_rfl⟩
theorem um:Has Tryz.prog iy 19 [(4,none)] QTV:=⟨Tryz.f75,by kernel_rfl,by kernel_rfl⟩
theorem AZ:Has Tryz.prog nw 8 [(3,none)] QTZ:=⟨Tryz.f76,by kernel_rfl,by kernel_rfl⟩
theorem A0:Has Tryz.prog jF 20 [(4,none)] QU5:=⟨Tryz.f77,by kernel_rfl,by kernel_rfl⟩
theorem A1:Has Tryz.prog ld 64 [(4,none),(5,none)] QUZ:=⟨Tryz.f78,by kernel_rfl,by kernel_rfl⟩
theorem A2:Has Tryz.prog fy 26 [] QV3:=⟨Tryz.f79,by kernel_rfl,by kernel_rfl⟩
theorem Fg:Has Tryz.prog qq 38 [(6,none),(7,none)] QVW:=⟨Tryz.f80,by kernel_rfl,by kernel_rfl⟩
theorem CP:Has Tryz.prog rV 13 [(4,none)] QW6:=⟨Tryz.f81,by kernel_rfl,by kernel_rfl⟩
theorem C5:Has Tryz.prog mh 15 [(2,none)] QWA:=⟨Tryz.f82,by kernel_rfl,by kernel_rfl⟩
theorem Lh:Has Tryz.prog vm 6 [(2,none)] QWE:=⟨Tryz.f85,by kernel_rfl,by kernel_rfl⟩
theorem yW:Has Tryz.prog nK 96 [(2,(some (true,2)))] QYJ:=⟨Tryz.f95,by kernel_rfl,by kernel_rfl⟩
theorem yX:Has Tryz.prog sg 37 [(2,(some (true,2)))] QZC:=⟨Tryz.f96,by kernel_rfl,by kernel_rfl⟩
theorem A3:Has Tryz.prog xO 64 [(2,(some (true,2)))] apO:=⟨Tryz.f97,by kernel_rfl,by kernel_rfl⟩
theorem yY:Has Tryz.prog wq 60 [(2,(some (true,2)))] apZ:=⟨Tryz.f98,by kernel_rfl,by kernel_rfl⟩
theorem Li:Has Tryz.prog z6 24 [(2,none)] ap5:=⟨Tryz.f99,by kernel_rfl,by kernel_rfl⟩
theorem Nd:Has Tryz.prog tz 47 [(4,(some (true,2)))] aqa:=⟨Tryz.f101,by kernel_rfl,by kernel_rfl⟩
abbrev aqb:AC:= .seq (.run [.m 20 bq, .o 21 (.av dh 0), .op none none (.store dY ez 1)]) (.seq (.run [.o 23 (.av cD 11), .o 24 (.load eC false 1), .m 25 bq, .c 26 kF [eR,e9], .m 22 fv, .o 27 (.ext eA 0), .o 28 (.ext eA 1), .o 29 (.av dh 11), .op none none (.store gf fG 1), .m 1 fZ]) (.seq (.run [.o 31 (.av cD 12), .o 32 (.load gF false 1), .m 33 bq, .c 34 kF [gU,gM], .m 30 iC, .o 35 (.ext gn 0), .o 36 (.ext gn 1), .o 37 (.av dh 12), .op none none (.store jc gV 1), .m 1 iD]) (.run [.m 38 dC, .o 39 (.load dh true 13), .o 40 (.dm [(.int .i64 0),(.int .i64 0),(.slice .full 0 []),(.str []),(.str []),(.int .i64 0),(.int .i64 0),(.str []),(.slice .full 0 []),(.bool false),(.slice .full 0 []),(.slice .full 0 []),(.slice .full 0 [])] 13 1 [(0,jq)]), .o 41 (.app 13 208 jw jY), .m 6 jZ])))
abbrev aqc:AC:= .seq (.run [.o 14 (.bZ bR cJ 13), .o 15 (.load cL true 13), .o 8 (.alloc [(.int .i64 0),(.int .i64 0),(.slice .full 0 []),(.str []),(.str []),(.int .i64 0),(.int .i64 0),(.str []),(.slice .full 0 []),(.bool false),(.slice .full 0 []),(.slice .full 0 []),(.slice .full 0 [])]), .op none none (.store cD dq 13)]) (.seq (.run [.m 16 bq, .o 17 (.bin .add dg (.k (.int .i64 1))), .m 1 dE]) (.seq (.run [.o 18 (.load cD true 13), .c 19 ll [dB], .o 9 (.alloc [(.int .i64 0),(.int .i64 0),(.slice .full 0 []),(.str []),(.str []),(.int .i64 0),(.int .i64 0),(.str []),(.slice .full 0 []),(.bool false),(.slice .full 0 []),(.slice .full 0 []),(.slice .full 0 [])]), .op none none (.store dh dX 13)]) aqb))
abbrev aqd:AC:= .seq (.cond db .skip (.exit 0)) (.seq (.block 1 aqc) (.run [.o 42 (.bin .add cJ (.k (.int .i64 1))), .m 12 kJ]))
abbrev aqe:AC:= .seq (.run [.m 10 bB, .o 11 (.len bR), .o 12 (.mv (.k (.int .i64 0)))]) (.block 0 (.loop (.seq (.run [.o 13 (.bin .lss cJ cG)]) aqd)))
abbrev aqf:AC:= .seq (.run [.o 4 (.mv (.k (.slice .full 0 []))), .o 5 (.mv (.k (.int .i64 0)))]) (.seq (.run [.o 6 (.mv (.k (.slice .full 0 [])))]) (.seq aqe (.seq (.run [.m 43 dC, .m 44 bq, .m 4 kq, .m 5 kK]) .ret)))
abbrev aqg:AC:= .par [.o 6 (.av bq 0), .o 7 (.load dC false 1), .o 8 (.av bq 1), .o 9 (.load cD false 1), .o 10 (.av bq 2), .o 11 (.load bR false 1), .c 12 oR [cG], .o 13 (.av bq 3), .o 14 (.load db false 1), .o 15 (.av bq 4), .o 16 (.load dq false 1), .o 17 (.av bq 5), .o 18 (.load dE true 4), .c 19 kG [dB], .o 20 (.av bq 9), .o 21 (.load ez false 1), .o 22 (.build [(.int .i64 0),(.int .i64 0),(.slice .full 0 []),(.str []),(.str []),(.int .i64 0),(.int .i64 0),(.str []),(.slice .full 0 []),(.bool false),(.slice .full 0 []),(.slice .full 0 []),(.slice .full 0 [])] [(0,(1,cR)),(1,(1,dh)),(2,(1,cJ)),(3,(1,cL)),(4,(1,dg)),(5,(4,dX)),(9,(1,dY))]), .o 3 (.alloc [(.int .i64 0),(.int .i64 0),(.slice .full 0 []),(.str []),(.str []),(.int .i64 0),(.int .i64 0),(.str []),(.slice .full 0 []),(.bool false),(.slice .full 0 []),(.slice .full 0 []),(.slice .full 0 [])]), .op none none (.store cz eA 13)] [(4,0),(5,0),(6,0),(11,0),(12,1),(13,0),(17,0),(0,0),(1,3),(2,0),(3,3),(7,0),(8,3),(9,0),(10,3),(14,0),(15,3),(16,0),(18,0)]
abbrev aqh:AC:= .par [.o 30 (.av cz 10), .o 31 (.load gn false 1), .o 32 (.av bV 0), .o 33 (.load gU false 1), .o 34 (.av bV 1), .o 35 (.load iC false 1), .o 36 (.av bV 2), .o 37 (.load iD true 4), .c 38 kG [jc], .o 39 (.build [(.bool false),(.str []),(.int .i64 0),(.int .i64 0),(.str []),(.slice .full 0 [])] [(0,(1,gM)),(1,(1,gV)),(2,(4,jw))]), .o 40 (.dm [(.bool false),(.str []),(.int .i64 0),(.int .i64 0),(.str []),(.slice .full 0 [])] 6 1 [(0,jq)]), .o 41 (.app 6 80 gF jY), .o 42 (.av cz 10), .op none none (.store kJ jZ 1)] [(6,0),(7,0),(8,0),(0,0),(1,1),(2,0),(3,1),(4,0),(5,1),(9,0),(10,0),(11,0),(12,0),(13,0)]
abbrev aqi:AC:= .seq (.block 1 (.seq (.run [.o 28 (.bZ eR fv 6), .o 29 (.load fZ true 6), .o 5 (.alloc [(.bool false),(.str []),(.int .i64 0),(.int .i64 0),(.str []),(.slice .full 0 [])]), .op none none (.store bV gf 6)]) aqh)) (.run [.o 43 (.bin .add fv (.k (.int .i64 1))), .m 26 kq])
abbrev aqj:AC:= .block 0 (.loop (.seq (.run [.o 27 (.bin .lss fv e9)]) (.seq (.cond fG .skip (.exit 0)) aqi)))
abbrev aqk:AC:= .seq (.seq (.run [.o 23 (.av bq 10), .o 24 (.load eC false 1), .o 25 (.len eR), .o 26 (.mv (.k (.int .i64 0)))]) aqj) (.seq (.run [.o 44 (.load cz true 13), .op none none (.store du kK 13)]) .ret)
abbrev aql:AC:= .seq (.run [.o 1 (.box bB), .o 2 (.alloc [(.int .i64 0),(.int .i64 0),(.slice .full 0 []),(.str []),(.str []),(.int .i64 0),(.int .i64 0),(.str []),(.slice .full 0 []),(.bool false),(.slice .full 0 []),(.slice .full 0 []),(.slice .full 0 [])])]) (.seq aqg aqk)
abbrev aqm:AC:= .seq (.run [.o 2 (.mv (.k (.bool false)))]) (.seq (.run [.m 3 bB, .o 4 (.bin .geq cz (.k (.int .u8 97))), .m 5 eZ, .g 6 5 true (.mv bB), .g 7 5 true (.bin .leq dC (.k (.int .u8 122))), .o 8 (.pick bV cR (.k (.bool false))), .m 2 cD]) .ret)
abbrev aqn:AC:= .seq (.seq (.run [.m 5 bq, .m 6 bB, .o 7 (.xo dC), .o 8 (.bin .lss bV cR), .m 9 cD, .g 10 9 true (.mv bB), .g 11 9 true (.mv bq), .g 12 9 true (.Df bR cG), .d 13 9 true tA [cJ], .g 14 9 true (.mv db), .g 15 14 false (.mv bB), .g 16 14 false (.mv bq), .g 17 14 false (.Df dq dg), .d 18 14 false z7 [dE], .g 19 9 true (.pick cL (.k (.bool true)) dB), .o 20 (.pick dh dX (.k (.bool false)))]) (.cond ez .skip (.exit 0))) (.block 1 (.run [.m 21 bq, .o 22 (.bin .add dY (.k (.int .i64 1))), .m 1 eA]))
abbrev aqo:AC:= .seq (.run [.o 4 (.mv (.k (.int .i64 0)))]) (.seq (.block 0 (.loop aqn)) (.seq (.run [.m 23 bq, .m 4 eC]) .ret))
abbrev aqp:AC:= .seq (.run [.o 16 (.bin .eql cz (.k (.str [114,101,97,100]))), .m 4 dg]) (.cond eZ .skip (.run [.o 17 (.bin .eql cz (.k (.str [112,114,105,110,116]))), .m 4 dE]))
abbrev aqq:AC:= .cond eZ .skip (.seq (.run [.o 15 (.bin .eql cz (.k (.str [103,111,116,111]))), .m 4 dq]) (.cond eZ .skip aqp))
abbrev aqr:AC:= .cond eZ .skip (.seq (.run [.o 14 (.bin .eql cz (.k (.str [114,101,116,117,114,110]))), .m 4 cL]) aqq)
abbrev aqs:AC:= .cond eZ .skip (.seq (.run [.o 13 (.bin .eql cz (.k (.str [99,111,110,116,105,110,117,101]))), .m 4 db]) aqr)
abbrev aqt:AC:= .cond eZ .skip (.seq (.run [.o 12 (.bin .eql cz (.k (.str [98,114,101,97,107]))), .m 4 cJ]) aqs)
abbrev aqu:AC:= .cond eZ .skip (.seq (.run [.o 11 (.bin .eql cz (.k (.str [119,104,105,108,101]))), .m 4 cG]) aqt)
abbrev aqv:AC:= .cond eZ .skip (.seq (.run [.o 10 (.bin .eql cz (.k (.str [101,108,115,101]))), .m 4 bR]) aqu)
abbrev aqw:AC:= .cond eZ .skip (.seq (.run [.o 9 (.bin .eql cz (.k (.str [105,102]))), .m 4 dh]) aqv)
abbrev aqx:AC:= .cond eZ .skip (.seq (.run [.o 8 (.bin .eql cz (.k (.str [114,101,102]))), .m 4 cD]) aqw)
abbrev aqy:AC:= .cond eZ .skip (.seq (.run [.o 7 (.bin .eql cz (.k (.str [118,97,114]))), .m 4 cR]) aqx)
abbrev aqz:AC:= .cond eZ .skip (.seq (.run [.o 6 (.bin .eql cz (.k (.str [112,114,111,99]))), .m 4 dC]) aqy)
abbrev aqA:AC:= .cond eZ (.seq (.run [.o 2 (.mv (.k (.bool true)))]) .ret) .skip
abbrev aqB:AC:= .seq (.seq (.run [.o 5 (.bin .eql cz (.k (.str [103,108,111,98,97,108]))), .m 4 bV]) aqz) aqA
abbrev aqC:AC:= .seq (.seq (.run [.m 3 bB]) (.block 0 aqB)) (.seq (.run [.o 2 (.mv (.k (.bool false)))]) .ret)
abbrev aqD:AC:= .seq (.run [.o 2 (.mv (.k (.bool false)))]) aqC
abbrev aqE:AC:= .par [.o 10 (.av bq 9), .o 11 (.load bR false 1), .o 3 (.mv (.k (.bool false))), .o 4 (.mv (.k (.bool false))), .o 5 (.mv (.k (.bool false))), .m 6 cG, .o 7 (.mv (.k (.bool false))), .o 8 (.mv (.k (.bool false)))] [(0,0),(1,0),(2,0),(3,0),(4,0),(5,0),(6,0),(7,0)]
abbrev aqF:AC:= .seq (.run [.o 20 (.bin .eql dg (.k (.int .i64 2))), .m 19 ez]) (.cond dX .skip (.run [.o 21 (.bin .eql dg (.k (.int .i64 10))), .m 19 dY]))
abbrev aqG:AC:= .seq (.run [.o 38 (.bin .eql dg (.k (.int .i64 7))), .m 37 jw]) (.cond jc .skip (.run [.o 39 (.bin .eql dg (.k (.int .i64 8))), .m 37 jq]))
abbrev aqH:AC:= .cond jc .skip (.seq (.run [.o 2 (.mv (.k (.bool false)))]) .ret)
abbrev aqI:AC:= .seq (.run [.o 34 (.bin .eql dg (.k (.int .i64 9))), .m 33 iC]) (.cond gM (.run [.o 35 (.av bq 9), .o 36 (.load gV false 1), .m 5 iD, .o 6 (.mv (.k (.bool false)))]) (.seq aqG aqH))
abbrev aqJ:AC:= .seq (.run [.o 32 (.bin .eql dg (.k (.int .i64 6))), .m 31 gU]) (.cond gF (.run [.o 5 (.mv (.k (.bool true))), .o 7 (.mv (.k (.bool true)))]) aqI)
abbrev aqK:AC:= .seq (.run [.o 30 (.bin .eql dg (.k (.int .i64 5))), .m 29 gn]) (.cond gf (.run [.o 5 (.mv (.k (.bool true))), .o 7 (.mv (.k (.bool true))), .o 8 (.mv (.k (.bool true)))]) aqJ)
abbrev aqL:AC:= .seq (.run [.o 25 (.bin .eql dg (.k (.int .i64 4))), .m 24 e9]) (.cond eR (.run [.o 26 (.av bq 3), .o 27 (.load fv false 1), .o 28 (.bin .neq fG (.k (.str []))), .m 3 fZ, .o 4 (.mv (.k (.bool true)))]) aqK)
abbrev aqM:AC:= .seq (.run [.o 23 (.bin .eql dg (.k (.int .i64 3))), .m 22 eC]) (.cond eA (.run [.o 5 (.mv (.k (.bool true)))]) aqL)
abbrev aqN:AC:= .seq aqF (.cond dX (.run [.o 3 (.mv (.k (.bool true)))]) aqM)
abbrev aqO:AC:= .seq (.run [.o 18 (.bin .eql dg (.k (.int .i64 1))), .m 17 dB]) (.cond dE (.run [.o 3 (.mv (.k (.bool true))), .o 5 (.mv (.k (.bool true)))]) aqN)
abbrev aqP:AC:= .run [.m 40 dC, .m 41 jY, .g 42 41 false (.mv cR), .g 43 41 false (.un .not kJ), .g 44 41 false (.mv kq), .g 45 44 true (.av bq 11), .g 46 44 true (.load lX false 1), .g 47 44 true (.len lY), .g 48 44 true (.bin .gtr nj (.k (.int .i64 0))), .g 49 41 false (.pick kK lZ (.k (.bool false))), .o 50 (.pick jZ (.k (.bool true)) l5), .m 51 mA, .g 52 51 false (.mv cD), .g 53 51 false (.un .not lK), .g 54 51 false (.mv mB), .g 55 54 true (.av bq 12), .g 56 54 true (.load nF false 1), .g 57 54 true (.len pM), .g 58 54 true (.bin .gtr qN (.k (.int .i64 0))), .g 59 51 false (.pick nn qk (.k (.bool false))), .o 60 (.pick lJ (.k (.bool true)) og), .m 61 rJ, .g 62 61 false (.mv dh), .g 63 61 false (.un .not sC), .g 64 61 false (.mv tL), .g 65 64 true (.av bq 10), .g 66 64 true (.load xT false 1), .g 67 64 true (.len Ab), .g 68 64 true (.bin .gtr Ac (.k (.int .i64 0))), .g 69 61 false (.pick tM xU (.k (.bool false))), .o 70 (.pick tJ (.k (.bool true)) BP)]
abbrev aqQ:AC:= .cond BQ (.seq (.run [.o 2 (.mv (.k (.bool false)))]) .ret) .skip
abbrev aqR:AC:= .cond Gd (.seq (.run [.o 2 (.mv (.k (.bool false)))]) .ret) .skip
abbrev ahY:AC:= .seq (.seq (.run [.o 71 (.av bq 3), .o 72 (.load F9 false 1), .m 73 cz, .c 74 qL [DQ,DR], .o 75 (.un .not Ga), .m 76 Gb, .g 77 76 false (.av bq 4), .g 78 76 false (.load Gc false 1), .g 79 76 false (.mv eZ), .d 80 76 false qL [BR,Jd], .g 81 76 false (.un .not Je), .o 82 (.pick DS (.k (.bool true)) Jf), .m 83 MW, .g 84 83 false (.av bq 5), .g 85 83 false (.load MY true 4), .g 86 83 false (.mv bV), .d 87 83 false tD [MZ,M3], .g 88 83 false (.un .not M4), .o 89 (.pick MX (.k (.bool true)) M5)]) aqR) (.seq (.run [.o 90 (.av bq 10), .o 91 (.load Jg false 1), .c 92 wv [M6], .m 2 TA]) .ret)
abbrev ahZ:AC:= .seq (.seq aqP aqQ) ahY
abbrev ZQ:AC:= .seq (.seq (.run [.o 15 (.av bq 1), .o 16 (.load dq false 1)]) (.block 0 aqO)) ahZ
abbrev ah0:AC:= .seq (.run [.o 12 (.av bq 1), .o 13 (.load cJ false 1), .o 14 (.bin .eql db (.k (.int .i64 4))), .m 9 cL]) ZQ
abbrev ah1:AC:= .seq aqE ah0
abbrev aqS:AC:= .seq (.run [.o 1 (.box bB), .o 2 (.mv (.k (.bool false)))]) ah1
abbrev aqT:AC:= .seq (.block 1 (.seq (.run [.o 13 (.bZ dh cG 13), .o 14 (.load db true 13), .o 5 (.alloc [(.int .i64 0),(.int .i64 0),(.slice .full 0 []),(.str []),(.str []),(.int .i64 0),(.int .i64 0),(.str []),(.slice .full 0 []),(.bool false),(.slice .full 0 []),(.slice .full 0 []),(.slice .full 0 [])]), .op none none (.store bV cL 13)]) (.run [.m 15 cz, .o 16 (.load bV true 13), .c 17 od [dg], .o 18 (.bin .add dq dE), .m 3 dB]))) (.run [.o 19 (.bin .add cG (.k (.int .i64 1))), .m 11 dX])
abbrev aqU:AC:= .block 0 (.loop (.seq (.run [.o 12 (.bin .lss cG bR)]) (.seq (.cond cJ .skip (.exit 0)) aqT)))
abbrev aqV:AC:= .seq (.block 3 (.seq (.run [.o 25 (.bZ dY eC 13), .o 26 (.load e9 true 13), .o 7 (.alloc [(.int .i64 0),(.int .i64 0),(.slice .full 0 []),(.str []),(.str []),(.int .i64 0),(.int .i64 0),(.str []),(.slice .full 0 []),(.bool false),(.slice .full 0 []),(.slice .full 0 []),(.slice .full 0 [])]), .op none none (.store cR fv 13)]) (.run [.m 27 cz, .o 28 (.load cR true 13), .c 29 od [fZ], .o 30 (.bin .add fG gf), .m 3 gn]))) (.run [.o 31 (.bin .add eC (.k (.int .i64 1))), .m 23 gF])
abbrev aqW:AC:= .block 2 (.loop (.seq (.run [.o 24 (.bin .lss eC eA)]) (.seq (.cond eR .skip (.exit 2)) aqV)))
abbrev aqX:AC:= .seq (.seq (.run [.o 20 (.av bq 12), .o 21 (.load ez false 1), .o 22 (.len dY), .o 23 (.mv (.k (.int .i64 0)))]) aqW) (.seq (.run [.m 32 cz, .m 2 gU]) .ret)
abbrev aqY:AC:= .seq (.seq (.run [.o 8 (.av bq 11), .o 9 (.load cD false 1), .o 10 (.len dh), .o 11 (.mv (.k (.int .i64 0)))]) aqU) aqX
abbrev aqZ:AC:= .seq (.run [.o 1 (.box bB), .o 2 (.mv (.k (.int .i64 0)))]) (.seq (.run [.o 3 (.mv (.k (.int .i64 1)))]) aqY)
abbrev aq0:AC:= .cond eZ (.seq (.run [.o 2 (.mv (.k (.slice .full 0 [])))]) .ret) .skip
abbrev aq1:AC:= .seq (.run [.o 2 (.mv (.k (.slice .full 0 [])))]) (.seq (.seq (.run [.m 3 bB, .nil (some 4) none false cz]) aq0) (.seq (.run [.o 5 (.dm [(.str [])] 1 0 []), .m 6 bB, .o 7 (.app 1 16 bV dC), .m 2 cR]) .ret))
abbrev aq2:AC:= .seq (.block 1 (.seq (.run [.o 11 (.bZ cR dh 2), .o 12 (.load cG true 2), .o 5 (.alloc [(.str []),(.bool false)]), .op none none (.store bV cJ 2)]) (.run [.m 13 cz, .o 14 (.av bV 0), .o 15 (.load cL false 1), .o 16 (.dm [(.str [])] 1 1 [(0,dq)]), .o 17 (.app 1 16 db dg), .m 3 dE]))) (.run [.o 18 (.bin .add dh (.k (.int .i64 1))), .m 9 dB])
abbrev aq3:AC:= .block 0 (.loop (.seq (.run [.o 10 (.bin .lss dh cD)]) (.seq (.cond bR .skip (.exit 0)) aq2)))
abbrev aq4:AC:= .seq (.seq (.run [.o 6 (.av bq 1), .o 7 (.load dC false 1), .o 8 (.len cR), .o 9 (.mv (.k (.int .i64 0)))]) aq3) (.seq (.run [.m 19 cz, .o 20 (.av bq 2), .o 21 (.load ez false 1), .o 22 (.app 1 16 dX dY), .m 2 eA]) .ret)
abbrev aq5:AC:= .seq (.run [.o 1 (.box bB), .o 2 (.mv (.k (.slice .full 0 [])))]) (.seq (.run [.o 3 (.mv (.k (.slice .full 0 [])))]) aq4)
abbrev aq6:AC:= .block 1 (.seq (.run [.m 10 cD, .m 5 bR]) (.seq (.run [.m 11 bq, .m 12 bB, .m 13 bV, .o 14 (.bZ cJ db 1), .o 15 (.load cL false 1), .o 16 (.bin .eql cG dq)]) (.cond dg (.seq (.run [.m 17 bV, .m 4 dE]) .ret) .skip)))
abbrev aq7:AC:= .seq (.cond dh .skip (.exit 0)) (.seq aq6 (.run [.o 18 (.bin .add cD (.k (.int .i64 1))), .m 8 dB]))
abbrev aq8:AC:= .seq (.run [.m 6 bB, .o 7 (.len dC), .o 8 (.mv (.k (.int .i64 0)))]) (.block 0 (.loop (.seq (.run [.o 9 (.bin .lss cD cR)]) aq7)))
abbrev aq9:AC:= .seq (.run [(.o 4 (.mv (.k (.int .i64 (-1)))))]) .ret
abbrev ara:AC:= .seq (.run [.o 4 (.mv (.k (.int .i64 0)))]) (.seq aq8 aq9)
abbrev arb:AC:= .cond bR (.seq (.run [.o 6 (.mv (.k (.int .i64 0))), .o 7 (.mv (.k (.bool false)))]) .ret) .skip
abbrev arc:AC:= .seq (.run [.o 3 (.box bB), .o 6 (.mv (.k (.int .i64 0))), .o 7 (.mv (.k (.bool false)))]) (.seq (.seq (.run [.o 8 (.load cz true 4), .c 9 oO [cD], .o 10 (.un .not dh)]) arb) (.seq (.run [.o 11 (.load cz true 4), .m 12 bq, .m 13 du, .c 14 mK [cG,cJ,db], .o 15 (.ext cL 0), .o 16 (.ext cL 1), .m 6 dq, .m 7 dg]) .ret))
abbrev ard:AC:= .seq (.run [.o 4 (.mv (.k (.bool false)))]) (.seq (.run [.m 5 bB, .m 6 bq, .c 7 qM [bV,dC], .o 8 (.bin .geq cR (.k (.int .i64 0))), .m 4 cD]) .ret)
abbrev arf:AC:= .par [.m 5 bB, .o 6 (.cm bV), .o 7 (.av dC 2), .o 8 (.load cR false 1), .m 9 bB, .o 10 (.cm dh), .o 11 (.av bR 3), .o 12 (.load cG false 1), .m 13 bq, .o 14 (.bZ cJ db 1), .o 15 (.load cL false 1), .o 16 (.bin .sub dq (.k (.int .i64 1))), .m 17 bB, .o 18 (.cm dE), .o 19 (.av dB 4), .o 20 (.load dX false 1), .m 21 bq, .o 22 (.bZ ez dY 1), .o 23 (.load eA false 1), .o 24 (.bin .sub eC (.k (.int .i64 1))), .o 25 (.GZ 17 cD (some dg) (some eR)), .m 4 e9] [(0,0),(1,0),(2,0),(3,0),(4,0),(5,0),(6,0),(7,0),(8,0),(9,0),(10,0),(11,0),(12,0),(13,0),(14,0),(15,0),(16,0),(17,0),(18,0),(19,0),(20,0),(21,0)]
abbrev arh:AC:= .seq (.run [.o 4 (.mv (.k (.slice .full 0 [])))]) (.seq arf .ret)
abbrev ari:AC:= .seq (.run [.o 4 (.mv (.k (.bool false)))]) (.seq (.run [.m 5 bB, .m 6 bq, .c 7 ig [bV,dC], .o 8 (.bin .geq cR (.k (.int .i64 0))), .m 4 cD]) .ret)
abbrev arj:AC:= .run [.m 23 eZ, .m 24 bB, .m 25 cG, .o 26 (.bZ eR e9 13), .o 27 (.load fv true 13), .m 28 bq, .m 29 du, .m 30 cz, .o 31 (.build [(.int .i64 0),(.int .i64 0),(.slice .full 0 []),(.str []),(.str []),(.int .i64 0),(.int .i64 0),(.str []),(.slice .full 0 []),(.bool false),(.slice .full 0 []),(.slice .full 0 []),(.slice .full 0 []),(.int .i64 0),(.int .i64 0),(.bool false)] [(0,(13,fG)),(13,(1,fZ)),(14,(1,gf)),(15,(1,gn))]), .o 32 (.dm [(.int .i64 0),(.int .i64 0),(.slice .full 0 []),(.str []),(.str []),(.int .i64 0),(.int .i64 0),(.str []),(.slice .full 0 []),(.bool false),(.slice .full 0 []),(.slice .full 0 []),(.slice .full 0 []),(.int .i64 0),(.int .i64 0),(.bool false)] 16 1 [(0,gF)]), .o 33 (.app 16 232 eC gU), .m 4 gM]
abbrev ark:AC:= .par [.m 36 bB, .m 37 cG, .o 38 (.bZ iD jc 13), .o 39 (.av jw 11), .o 40 (.load jq false 1), .m 41 bq, .o 42 (.bin .add jZ (.k (.int .i64 1))), .m 43 bB, .m 44 cG, .o 45 (.bZ kq kK 13), .o 46 (.av lX 0), .o 47 (.load lY false 1), .m 48 eZ, .c 49 oe [jY,kJ,nj,(.k (.bool false)),lZ], .m 4 l5] [(0,0),(1,0),(2,0),(3,0),(4,0),(5,0),(6,0),(7,0),(8,0),(9,0),(10,0),(11,0),(12,0),(13,0),(14,0)]
abbrev arl:AC:= .par [.m 50 bB, .m 51 cG, .o 52 (.bZ mA lJ 13), .o 53 (.av lK 12), .o 54 (.load mB false 1), .m 55 bq, .o 56 (.bin .add nF (.k (.int .i64 1))), .m 57 bB, .m 58 cG, .o 59 (.bZ qN qk 13), .o 60 (.av og 0), .o 61 (.load rJ false 1), .m 62 eZ, .c 63 oe [nn,pM,tJ,(.k (.bool true)),sC], .m 4 tL] [(0,0),(1,0),(2,0),(3,0),(4,0),(5,0),(6,0),(7,0),(8,0),(9,0),(10,0),(11,0),(12,0),(13,0),(14,0)]
abbrev arn:AC:= .seq arj (.seq (.run [.m 34 bq, .o 35 (.bin .leq iC (.k (.int .i64 12)))]) (.cond gV (.seq ark arl) .skip))
abbrev aro:AC:= .seq (.seq (.run [.m 12 cG, .m 13 bB, .o 14 (.len db), .o 15 (.bin .lss cJ cL), .m 16 dq, .g 17 16 true (.mv eZ), .g 18 16 true (.len dE), .g 19 16 true (.bin .leq dB (.k (.int .i64 200))), .o 20 (.pick dg dX (.k (.bool false)))]) (.cond ez .skip (.exit 0))) (.seq (.block 1 arn) (.run [.m 21 cG, .o 22 (.bin .add dY (.k (.int .i64 1))), .m 11 eA]))
abbrev arp:AC:= .seq (.seq (.run [.o 11 (.mv (.k (.int .i64 0)))]) (.block 0 (.loop aro))) (.seq (.run [.m 64 eZ, .m 10 tM]) .ret)
abbrev arq:AC:= .seq (.run [.o 10 (.mv (.k (.slice .full 0 [])))]) arp
abbrev art:AC:= .cond dg (.seq (.run [.o 2 (.mv (.k (.bool true)))]) .ret) .skip
abbrev aru:AC:= .block 1 (.seq (.run [.m 9 cR, .o 10 (.bZ bV cR 1), .o 11 (.load bR false 1), .m 3 dh, .m 4 cG]) (.seq (.run [.m 12 bB, .m 13 cz, .o 14 (.GZ 1 cJ none (some db)), .m 15 eZ, .c 16 cT [cL,dq]]) art))
abbrev arv:AC:= .seq (.cond cD .skip (.exit 0)) (.seq aru (.run [.o 17 (.bin .add cR (.k (.int .i64 1))), .m 7 dE]))
abbrev arw:AC:= .seq (.run [.m 5 bB, .o 6 (.len bV), .o 7 (.mv (.k (.int .i64 0)))]) (.block 0 (.loop (.seq (.run [.o 8 (.bin .lss cR dC)]) arv)))
abbrev arx:AC:= .seq arw (.seq (.run [.o 2 (.mv (.k (.bool false)))]) .ret)
abbrev ary:AC:= .seq (.run [.o 2 (.mv (.k (.bool false)))]) arx
abbrev arz:AC:= .seq (.run [.o 4 (.mv (.k (.bool false)))]) (.seq (.run [.m 5 bB, .m 6 bq, .c 7 mz [bV,dC], .o 8 (.bin .geq cR (.k (.int .i64 0))), .m 4 cD]) .ret)
abbrev arA:AC:= .seq (.run [.o 3 (.mv (.k (.bool false)))]) (.seq (.run [.o 4 (.av bq 0), .o 5 (.load eZ false 1), .m 6 bB, .c 7 cT [bV,dC], .m 3 cR]) .ret)
abbrev arB:AC:= .cond eA (.seq (.run [.o 8 (.mv (.k (.bool false)))]) .ret) .skip
abbrev arC:AC:= .seq (.run [.o 16 (.bZ cJ cL 1), .o 17 (.load dg false 1), .m 10 dE]) (.seq (.run [.o 18 (.load eZ true 2), .o 19 (.load bV true 5), .m 20 bR, .c 21 xR [dB,dX,ez], .o 22 (.bin .eql dY (.k (.int .i64 0)))]) arB)
abbrev arD:AC:= .seq (.cond dq .skip (.exit 0)) (.seq (.block 1 arC) (.run [.o 23 (.bin .add cL (.k (.int .i64 1))), .m 14 eC]))
abbrev arE:AC:= .seq (.run [.o 11 (.load cR true 13), .c 12 tF [cG], .o 13 (.len cJ), .o 14 (.mv (.k (.int .i64 0)))]) (.block 0 (.loop (.seq (.run [.o 15 (.bin .lss cL db)]) arD)))
abbrev arG:AC:= .seq arE (.seq (.run [.o 24 (.av cR 1), .o 25 (.load eR false 1), .o 26 (.bin .neq e9 (.k (.int .i64 4))), .m 27 fv, .g 28 27 false (.av cR 4), .g 29 27 false (.load fZ false 1), .g 30 27 false (.bin .neq gf (.k (.str [109,97,105,110]))), .g 31 27 false (.mv gn), .g 32 31 true (.mv du), .g 33 31 true (.av cR 4), .g 34 31 true (.load gM false 1), .d 35 31 true cT [gU,iC], .g 36 27 false (.pick gF gV (.k (.bool false))), .o 37 (.pick fG (.k (.bool true)) iD), .m 8 jc]) .ret)
abbrev arH:AC:= .seq (.run [.o 4 (.box bB), .o 5 (.box bq), .o 7 (.box cz), .o 8 (.mv (.k (.bool false)))]) arG
abbrev arI:AC:= .cond dh (.seq (.run [.o 4 (.mv (.k (.bool false)))]) .ret) .skip
abbrev arJ:AC:= .seq (.run [.o 15 (.bZ cG db 5), .o 16 (.load dq true 5), .o 6 (.alloc [(.str []),(.slice .full 0 []),(.slice .full 0 []),(.slice .full 0 []),(.slice .full 0 [])]), .op none none (.store dC dg 5)]) (.seq (.run [.o 17 (.av dC 0), .o 18 (.load dE false 1), .o 19 (.av cz 4), .o 20 (.load dX false 1), .o 21 (.bin .eql dB ez)]) (.cond dY (.seq (.run [.o 22 (.av dC 1), .o 23 (.load eA false 1), .o 24 (.av cz 10), .o 25 (.load eR false 1), .c 26 xS [eC,e9], .m 4 fv]) .ret) .skip))
abbrev arK:AC:= .seq (.cond cL .skip (.exit 0)) (.seq (.block 1 arJ) (.run [.o 27 (.bin .add db (.k (.int .i64 1))), .m 13 fG]))
abbrev arL:AC:= .seq (.run [.o 10 (.av du 1), .o 11 (.load bR false 1), .o 12 (.len cG), .o 13 (.mv (.k (.int .i64 0)))]) (.block 0 (.loop (.seq (.run [.o 14 (.bin .lss db cJ)]) arK)))
abbrev arM:AC:= .seq arL (.seq (.run [.o 4 (.mv (.k (.bool false)))]) .ret)
abbrev arN:AC:= .seq (.seq (.run [.o 7 (.av cz 1), .o 8 (.load cR false 1), .o 9 (.bin .neq cD (.k (.int .i64 4)))]) arI) arM
abbrev arO:AC:= .seq (.run [.o 2 (.box bB), .o 3 (.box bq), .o 4 (.mv (.k (.bool false)))]) arN
abbrev arP:AC:= .seq (.run [.o 3 (.load bq true 2), .c 4 nK [cz], .o 5 (.De eZ 0 false 1), .o 6 (.bin .neq bV (.k (.int .i64 0)))]) (.cond dC (.seq (.run [.o 2 (.mv (.k .eY))]) .ret) .skip)
abbrev arQ:AC:= .seq (.run [.o 1 (.box bB), .o 2 (.mv (.k .eY))]) (.seq arP (.seq (.run [.o 7 (.load bq true 2), .c 8 my [cR], .m 2 cD]) .ret))
abbrev arR:AC:= .cond dg (.seq (.run [.m 17 bB, .m 4 dE, .o 5 (.mv (.k (.bool false)))]) .ret) .skip
abbrev arS:AC:= .block 1 (.seq (.run [.o 12 (.bZ cD bR 1), .o 13 (.load cJ false 1), .m 7 db]) (.seq (.seq (.run [.m 14 bB, .m 15 cR, .c 16 cT [cL,dq]]) arR) (.run [.m 18 bB, .m 19 cR, .o 20 (.dm [(.str [])] 1 1 [(0,dX)]), .o 21 (.app 1 16 dB ez), .m 0 dY])))
abbrev arT:AC:= .seq (.cond cG .skip (.exit 0)) (.seq arS (.run [.o 22 (.bin .add bR (.k (.int .i64 1))), .m 10 eA]))
abbrev arU:AC:= .seq (.run [.m 8 bq, .o 9 (.len cD), .o 10 (.mv (.k (.int .i64 0)))]) (.block 0 (.loop (.seq (.run [.o 11 (.bin .lss bR dh)]) arT)))
abbrev arV:AC:= .seq arU (.seq (.run [.m 23 bB, .m 4 eC, .o 5 (.mv (.k (.bool true)))]) .ret)
abbrev arW:AC:= .seq (.run [.o 4 (.mv (.k (.slice .full 0 []))), .o 5 (.mv (.k (.bool false)))]) arV
abbrev arX:AC:= .seq (.run [.o 11 (.bin .eql dh (.k (.int .i64 7))), .m 10 cG]) (.cond bR .skip (.run [.o 12 (.bin .eql dh (.k (.int .i64 8))), .m 10 cJ]))
abbrev arY:AC:= .cond bR (.seq (.run [.o 13 (.av cz 16), .o 14 (.load db false 1), .o 15 (.bin .neq cL (.k (.int .i64 0))), .m 4 dq]) .ret) (.seq (.run [.o 17 (.bin .eql dh (.k (.int .i64 10))), .m 16 dE]) (.cond dg (.seq (.run [.m 19 bB, .o 20 (.av cz 13), .o 21 (.load ez false 1), .o 22 (.av cz 0), .o 23 (.av eA 3), .o 24 (.load eC false 1), .c 25 qq [dX,dY,eR], .m 18 e9, .o 26 (.ext dB 0), .o 27 (.ext dB 1), .m 5 fv, .m 6 fG]) (.seq (.run [.m 28 dC, .m 4 fZ]) .ret)) .skip))
abbrev arZ:AC:= .seq (.seq (.run [.o 7 (.av cz 0), .o 8 (.av cR 1), .o 9 (.load cD false 1)]) (.block 0 (.seq arX arY))) (.seq (.run [.o 4 (.mv (.k (.bool true)))]) .ret)
abbrev ar1:AC:= .seq (.run [.o 3 (.box bq), .o 4 (.mv (.k (.bool false)))]) arZ
abbrev ar2:AC:= .cond dg (.seq (.run [.o 4 (.mv (.k (.slice .full 0 [])))]) .ret) .skip
abbrev ar3:AC:= .seq (.run [.o 43 (.bZ jq jZ 1), .o 44 (.load kq false 1), .m 12 kK]) (.seq (.run [.o 45 (.av du 0), .o 46 (.load lX false 1), .m 47 cJ, .c 48 cT [lY,nj]]) (.cond lZ (.run [.m 49 dC, .m 50 cJ, .o 51 (.dm [(.str [])] 1 1 [(0,mA)]), .o 52 (.app 1 16 l5 lJ), .m 6 lK]) .skip))
abbrev ar4:AC:= .seq (.cond kJ .skip (.exit 4)) (.seq (.block 5 ar3) (.run [.o 53 (.bin .add jZ (.k (.int .i64 1))), .m 41 mB]))
abbrev ar5:AC:= .seq (.run [.o 37 (.av bR 0), .o 38 (.load jc true 13), .c 39 tF [jw], .o 40 (.len jq), .o 41 (.mv (.k (.int .i64 0)))]) (.block 4 (.loop (.seq (.run [.o 42 (.bin .lss jZ jY)]) ar4)))
abbrev ar6:AC:= .seq (.block 3 (.seq (.run [.o 35 (.bZ gF gM 17), .o 36 (.load gV true 17), .o 10 (.alloc [(.int .i64 0),(.int .i64 0),(.slice .full 0 []),(.str []),(.str []),(.int .i64 0),(.int .i64 0),(.str []),(.slice .full 0 []),(.bool false),(.slice .full 0 []),(.slice .full 0 []),(.slice .full 0 []),(.int .i64 0),(.int .i64 0),(.int .i64 0),(.int .i64 0)]), .op none none (.store bR iD 17)]) ar5)) (.run [.o 54 (.bin .add gM (.k (.int .i64 1))), .m 33 nn])
abbrev ar7:AC:= .block 2 (.loop (.seq (.run [.o 34 (.bin .lss gM gU)]) (.seq (.cond iC .skip (.exit 2)) ar6)))
abbrev ar8:AC:= .seq (.run [.o 25 (.bZ dY eC 1), .o 26 (.load e9 false 1), .m 8 fv]) (.seq (.run [.m 27 bV, .m 28 bV, .m 29 cD, .c 30 jv [fZ,gf], .c 31 iY [fG,gn], .o 32 (.len gF), .o 33 (.mv (.k (.int .i64 0)))]) ar7)
abbrev ar9:AC:= .seq (.cond eR .skip (.exit 0)) (.seq (.block 1 ar8) (.run [.o 55 (.bin .add eC (.k (.int .i64 1))), .m 23 nF]))
abbrev asa:AC:= .seq (.run [.m 19 bV, .m 20 bq, .c 21 z8 [dX,ez], .o 22 (.len dY), .o 23 (.mv (.k (.int .i64 0)))]) (.block 0 (.loop (.seq (.run [.o 24 (.bin .lss eC eA)]) ar9)))
abbrev asb:AC:= .seq (.run [.o 17 (.load du true 2), .c 18 my [dE], .m 5 dB]) (.seq (.run [.o 6 (.mv (.k (.slice .full 0 [])))]) (.seq asa (.seq (.run [.m 56 dC, .c 57 kH [pM]]) (.seq (.run [.m 58 dC, .c 59 kZ [qk], .m 4 og]) .ret))))
abbrev asc:AC:= .seq (.run [.o 2 (.box bB), .o 4 (.mv (.k (.slice .full 0 [])))]) (.seq (.seq (.run [.o 13 (.load du true 2), .m 14 bq, .c 15 wx [db,cL], .o 16 (.un .not dq)]) ar2) asb)
abbrev asd:AC:= .cond iC (.seq (.run [.o 4 (.mv (.k (.bool false)))]) .ret) .skip
abbrev ase:AC:= .seq (.seq (.run [.m 18 bV, .o 19 (.av cR 1), .o 20 (.load dX false 1), .c 21 cT [dB,ez], .m 22 dY, .g 23 22 false (.av cR 1), .g 24 22 false (.load eC false 1), .g 25 22 false (.av du 3), .g 26 22 false (.load e9 false 1), .g 27 22 false (.bin .eql eR fv), .o 28 (.pick eA (.k (.bool true)) fG), .m 29 fZ, .g 30 29 false (.mv bq), .g 31 29 false (.av cR 1), .g 32 29 false (.load gF false 1), .d 33 29 false cT [gn,gU], .o 34 (.pick gf (.k (.bool true)) gM)]) asd) (.run [.m 35 bV, .o 36 (.av cR 1), .o 37 (.load iD false 1), .o 38 (.dm [(.str [])] 1 1 [(0,jc)]), .o 39 (.app 1 16 gV jw), .m 5 jq])
abbrev asf:AC:= .block 1 (.seq (.run [.o 13 (.bZ dh cG 6), .o 14 (.load db true 6), .o 7 (.alloc [(.bool false),(.str []),(.int .i64 0),(.int .i64 0),(.str []),(.slice .full 0 [])]), .op none none (.store cR cL 6)]) (.seq (.seq (.run [.o 15 (.av cR 0), .o 16 (.load dq false 1), .o 17 (.un .not dg)]) (.cond dE (.exit 1) .skip)) ase))
abbrev asg:AC:= .seq (.cond cJ .skip (.exit 0)) (.seq asf (.run [.o 40 (.bin .add cG (.k (.int .i64 1))), .m 11 jY]))
abbrev ash:AC:= .seq (.run [.o 8 (.av du 10), .o 9 (.load cD false 1), .o 10 (.len dh), .o 11 (.mv (.k (.int .i64 0)))]) (.block 0 (.loop (.seq (.run [.o 12 (.bin .lss cG bR)]) asg)))
abbrev asi:AC:= .seq ash (.seq (.run [.o 4 (.mv (.k (.bool true)))]) .ret)
abbrev asj:AC:= .seq (.run [.o 2 (.box bB), .o 4 (.mv (.k (.bool false)))]) (.seq (.run [.o 5 (.mv (.k (.slice .full 0 [])))]) asi)
abbrev asm:AC:= .seq (.run [.o 2 (.mv (.k (.slice .full 0 [])))]) (.seq (.run [.o 3 (.mv (.k (.slice .full 0 [])))]) (.seq (.run [.m 4 cz, .m 5 bB, .o 6 (.app 1 16 eZ bV), .m 2 dC]) .ret))
abbrev asn:AC:= .par [.o 24 (.av cR 11), .o 25 (.load eR false 1), .o 26 (.load cz true 13), .c 27 pL [e9,fv], .o 28 (.av cR 12), .o 29 (.load fZ false 1), .o 30 (.load cz true 13), .c 31 pL [gf,gn], .o 32 (.av cD 11), .op none none (.store gU fG 1), .o 33 (.av cD 12), .op none none (.store gM gF 1)] [(0,0),(1,0),(2,0),(3,0),(4,0),(5,1),(6,1),(7,0),(8,0),(9,0),(10,0),(11,0)]
abbrev aso:AC:= .seq (.run [.o 15 (.load cR true 13), .c 16 ll [dq], .o 8 (.alloc [(.int .i64 0),(.int .i64 0),(.slice .full 0 []),(.str []),(.str []),(.int .i64 0),(.int .i64 0),(.str []),(.slice .full 0 []),(.bool false),(.slice .full 0 []),(.slice .full 0 []),(.slice .full 0 [])]), .op none none (.store cD dg 13)]) (.seq (.seq (.run [.o 17 (.av cR 0), .o 18 (.load dE false 1), .o 19 (.av cz 0), .o 20 (.load dX false 1), .o 21 (.bin .eql dB ez)]) (.cond dY (.run [.o 22 (.load cz true 13), .c 23 ll [eA], .op none none (.store cD eC 13)]) .skip)) (.seq asn (.run [.m 34 bV, .o 35 (.load cD true 13), .o 36 (.dm [(.int .i64 0),(.int .i64 0),(.slice .full 0 []),(.str []),(.str []),(.int .i64 0),(.int .i64 0),(.str []),(.slice .full 0 []),(.bool false),(.slice .full 0 []),(.slice .full 0 []),(.slice .full 0 [])] 13 1 [(0,gV)]), .o 37 (.app 13 208 iC iD), .m 5 jc])))
abbrev asp:AC:= .seq (.block 1 (.seq (.run [.o 13 (.bZ dh cG 13), .o 14 (.load db true 13), .o 7 (.alloc [(.int .i64 0),(.int .i64 0),(.slice .full 0 []),(.str []),(.str []),(.int .i64 0),(.int .i64 0),(.str []),(.slice .full 0 []),(.bool false),(.slice .full 0 []),(.slice .full 0 []),(.slice .full 0 [])]), .op none none (.store cR cL 13)]) aso)) (.run [.o 38 (.bin .add cG (.k (.int .i64 1))), .m 11 jw])
abbrev asq:AC:= .block 0 (.loop (.seq (.run [.o 12 (.bin .lss cG bR)]) (.seq (.cond cJ .skip (.exit 0)) asp)))
abbrev asr:AC:= .seq (.seq (.run [.m 9 bB, .o 10 (.len dh), .o 11 (.mv (.k (.int .i64 0)))]) asq) (.seq (.run [.m 39 bV, .m 4 jq]) .ret)
abbrev ass:AC:= .seq (.run [.o 3 (.box bq), .o 4 (.mv (.k (.slice .full 0 [])))]) (.seq (.run [.o 5 (.mv (.k (.slice .full 0 [])))]) asr)
abbrev ast:AC:= .par [.o 18 (.av cz 3), .o 19 (.load dB false 1), .o 20 (.av bq 3), .o 21 (.load ez false 1), .m 22 eZ, .o 23 (.bZ dY eA 4), .o 24 (.load eC true 4), .c 25 kG [eR], .o 26 (.dm [(.int .i64 0),(.int .i64 0),(.str []),(.slice .full 0 [])] 4 1 [(0,e9)]), .o 27 (.app 4 56 dX fv), .o 28 (.av cz 3), .op none none (.store fZ fG 1)] [(2,0),(3,0),(4,0),(5,0),(6,0),(7,0),(0,0),(1,1),(8,0),(9,0),(10,0),(11,0)]
abbrev asu:AC:= .seq (.cond dg .skip (.exit 0)) (.seq (.block 1 (.seq (.run [.m 17 dq, .m 4 dE]) ast)) (.run [.o 29 (.bin .add dq (.k (.int .i64 1))), .m 15 gf]))
abbrev asv:AC:= .seq (.run [.o 12 (.av bq 3), .o 13 (.load cJ false 1), .o 14 (.len db), .o 15 (.mv (.k (.int .i64 0)))]) (.block 0 (.loop (.seq (.run [.o 16 (.bin .lss dq cL)]) asu)))
abbrev asw:AC:= .seq (.run [.o 1 (.box bB), .o 2 (.alloc [(.int .i64 0),(.int .i64 0),(.str []),(.slice .full 0 [])])]) (.seq (.run [.o 5 (.av bq 0), .o 6 (.load bV false 1), .o 7 (.av bq 1), .o 8 (.load cR false 1), .o 9 (.av bq 2), .o 10 (.load dh false 1), .o 11 (.build [(.int .i64 0),(.int .i64 0),(.str []),(.slice .full 0 [])] [(0,(1,dC)),(1,(1,cD)),(2,(1,bR))]), .o 3 (.alloc [(.int .i64 0),(.int .i64 0),(.str []),(.slice .full 0 [])]), .op none none (.store cz cG 4)]) (.seq asv (.seq (.run [.o 30 (.load cz true 4), .op none none (.store du gn 4)]) .ret)))
abbrev asx:AC:= .seq (.run [.o 2 (.mv (.k (.bool false)))]) (.seq (.run [.m 3 bB, .o 4 (.bin .geq cz (.k (.int .u8 48))), .m 5 eZ, .g 6 5 true (.mv bB), .g 7 5 true (.bin .leq dC (.k (.int .u8 57))), .o 8 (.pick bV cR (.k (.bool false))), .m 2 cD]) .ret)
abbrev asy:AC:= .seq (.run [.o 4 (.mv (.k (.bool false)))]) (.seq (.run [.m 5 bq, .m 6 bV, .g 7 6 true (.mv bB), .d 8 6 true pK [cR], .o 9 (.pick dC cD (.k (.bool false))), .m 10 dh, .g 11 10 false (.mv bq), .g 12 10 false (.un .not cG), .g 13 10 false (.mv cJ), .g 14 13 true (.mv bB), .g 15 13 true (.bin .eql cL (.k (.str []))), .g 16 10 false (.pick db dq (.k (.bool false))), .o 17 (.pick bR (.k (.bool true)) dg), .m 4 dE]) .ret)
abbrev asz:AC:= .seq (.run [.o 2 (.box bB), .o 4 (.mv (.k (.bool false)))]) (.seq (.run [.m 5 bq, .m 6 bV, .g 7 6 true (.load du true 4), .d 8 6 true oO [cR], .o 9 (.pick dC cD (.k (.bool false))), .m 10 dh, .g 11 10 false (.mv bq), .g 12 10 false (.un .not cG), .g 13 10 false (.mv cJ), .g 14 13 true (.load du true 4), .d 15 13 true Aa [cL], .g 16 10 false (.pick db dq (.k (.bool false))), .o 17 (.pick bR (.k (.bool true)) dg), .m 4 dE]) .ret)
abbrev asA:AC:= .cond e9 (.seq (.run [.o 2 (.mv (.k (.bool false)))]) .ret) .skip
abbrev asB:AC:= .seq (.run [.o 9 (.bZ bV cR 6), .o 10 (.load dh true 6), .o 4 (.alloc [(.bool false),(.str []),(.int .i64 0),(.int .i64 0),(.str []),(.slice .full 0 [])]), .op none none (.store eZ bR 6)]) (.seq (.run [.o 11 (.av eZ 1), .o 12 (.load cG false 1), .o 13 (.av eZ 0), .o 14 (.load db false 1), .c 15 qL [cJ,cL], .o 16 (.un .not dq), .m 17 dg, .g 18 17 false (.av eZ 2), .g 19 17 false (.load dB true 4), .g 20 17 false (.av eZ 0), .g 21 17 false (.load ez false 1), .g 22 17 false (.un .not dY), .d 23 17 false tD [dX,eA], .g 24 17 false (.un .not eC), .o 25 (.pick dE (.k (.bool true)) eR)]) asA)
abbrev asC:AC:= .seq (.cond cD .skip (.exit 0)) (.seq (.block 1 asB) (.run [.o 26 (.bin .add cR (.k (.int .i64 1))), .m 7 fv]))
abbrev asD:AC:= .seq (.run [.m 5 bB, .o 6 (.len bV), .o 7 (.mv (.k (.int .i64 0)))]) (.block 0 (.loop (.seq (.run [.o 8 (.bin .lss cR dC)]) asC)))
abbrev asE:AC:= .seq asD (.seq (.run [.o 2 (.mv (.k (.bool true)))]) .ret)
abbrev asF:AC:= .seq (.run [.o 2 (.mv (.k (.bool false)))]) asE
abbrev asG:AC:= .cond gF (.seq (.run [.m 32 du, .m 33 cD, .o 34 (.bZ gU gM 1), .o 35 (.load iC false 1), .m 6 gV, .o 7 (.mv (.k (.bool true)))]) .ret) .skip
abbrev asH:AC:= .seq (.run [.m 20 bq, .o 21 (.av cz 2), .o 22 (.load dY false 1), .c 23 ig [ez,eA], .m 8 eC]) (.seq (.run [.m 24 cD, .o 25 (.bin .geq eR (.k (.int .i64 0))), .m 26 e9, .g 27 26 true (.mv cD), .g 28 26 true (.mv du), .g 29 26 true (.len fZ), .g 30 26 true (.bin .lss fG gf), .o 31 (.pick fv gn (.k (.bool false)))]) asG)
abbrev asI:AC:= .seq asH (.seq (.run [.o 6 (.mv (.k (.int .i64 0))), .o 7 (.mv (.k (.bool true)))]) .ret)
abbrev asJ:AC:= .cond cL (.seq (.run [.o 16 (.av cz 1), .o 17 (.load dg false 1), .m 6 dE, .o 7 (.mv (.k (.bool true)))]) .ret) (.seq (.run [.o 19 (.bin .eql db (.k (.int .i64 2))), .m 18 dX]) (.cond dB asI .skip))
abbrev asK:AC:= .block 0 (.seq (.run [.o 15 (.bin .eql db (.k (.int .i64 1))), .m 14 dq]) asJ)
abbrev asL:AC:= .cond nj (.seq (.run [.o 6 (.mv (.k (.int .i64 0))), .o 7 (.mv (.k (.bool false)))]) .ret) .skip
abbrev asM:AC:= .cond xT (.seq (.run [.o 6 (.mv (.k (.int .i64 0))), .o 7 (.mv (.k (.bool true)))]) .ret) .skip
abbrev asN:AC:= .cond DQ (.seq (.run [.o 6 (.mv (.k (.int .i64 1))), .o 7 (.mv (.k (.bool true)))]) .ret) .skip
abbrev asO:AC:= .cond MY (.seq (.run [.o 6 (.mv (.k (.int .i64 0))), .o 7 (.mv (.k (.bool false)))]) .ret) .skip
abbrev asP:AC:= .seq (.seq (.run [.o 66 (.av cz 0), .o 67 (.load Ab false 1), .o 68 (.bin .eql Ac (.k (.int .i64 17))), .m 69 xU, .g 70 69 true (.mv dh), .d 71 69 true tG [BQ], .o 72 (.pick BP F9 (.k (.bool false)))]) asN) (.seq (.run [.o 74 (.av cz 3), .o 75 (.load Ga false 1), .o 76 (.bZ Gb (.k (.int .i64 1)) 4), .o 77 (.load DS true 4), .m 78 bq, .m 79 du, .c 80 mK [Gc,BR,Jd], .m 73 Je, .o 81 (.ext DR 0), .o 82 (.ext DR 1), .m 11 Jf, .m 10 MW]) (.seq (.seq (.run [.m 83 bR, .o 84 (.un .not MX)]) asO) (.seq (.run [.o 85 (.av cz 0), .o 86 (.load MZ false 1), .m 87 dh, .m 88 cG, .c 89 BO [M3,M4,M5], .o 90 (.ext Gd 0), .o 91 (.ext Gd 1), .m 6 Jg, .m 7 M6]) .ret)))
abbrev asQ:AC:= .seq (.seq (.run [.o 58 (.av cz 0), .o 59 (.load qk false 1), .o 60 (.bin .eql og (.k (.int .i64 16))), .m 61 rJ, .g 62 61 true (.mv dh), .d 63 61 true tG [sC], .g 64 61 true (.un .not tL), .o 65 (.pick tJ tM (.k (.bool false)))]) asM) asP
abbrev asR:AC:= .seq (.seq (.run [.o 48 (.av cz 3), .o 49 (.load lZ false 1), .o 50 (.len l5), .o 51 (.bin .eql mA (.k (.int .i64 1)))]) (.cond lJ (.seq (.run [.o 52 (.av cz 0), .o 53 (.load lK false 1), .m 54 dh, .c 55 BN [mB,nn], .o 56 (.ext nF 0), .o 57 (.ext nF 1), .m 6 pM, .m 7 qN]) .ret) .skip)) asQ
abbrev asS:AC:= .seq (.seq (.run [.o 12 (.av cz 0), .o 13 (.load cJ false 1)]) asK) (.seq (.run [.o 37 (.av cz 3), .o 38 (.load jc false 1), .o 39 (.bZ jw (.k (.int .i64 0)) 4), .o 40 (.load jq true 4), .m 41 bq, .m 42 du, .c 43 mK [jY,jZ,kJ], .m 36 kq, .o 44 (.ext iD 0), .o 45 (.ext iD 1), .m 9 kK, .m 10 lX]) (.seq (.seq (.run [.m 46 bR, .o 47 (.un .not lY)]) asL) asR))
abbrev asT:AC:= .seq (.run [.o 3 (.box bB), .o 6 (.mv (.k (.int .i64 0))), .o 7 (.mv (.k (.bool false)))]) asS
abbrev asU:AC:= .block 1 (.seq (.run [.m 10 cD, .m 5 bR]) (.seq (.run [.m 11 bq, .m 12 bB, .m 13 bV, .o 14 (.bZ cJ db 1), .o 15 (.load cL false 1), .o 16 (.bin .eql cG dq)]) (.cond dg (.seq (.run [.m 17 bV, .m 4 dE]) .ret) .skip)))
abbrev asV:AC:= .seq (.cond dh .skip (.exit 0)) (.seq asU (.run [.o 18 (.bin .add cD (.k (.int .i64 1))), .m 8 dB]))
abbrev asW:AC:= .seq (.run [.m 6 bB, .o 7 (.len dC), .o 8 (.mv (.k (.int .i64 0)))]) (.block 0 (.loop (.seq (.run [.o 9 (.bin .lss cD cR)]) asV)))
abbrev asX:AC:= .seq (.run [(.o 4 (.mv (.k (.int .i64 (-1)))))]) .ret
abbrev asY:AC:= .seq (.run [.o 4 (.mv (.k (.int .i64 0)))]) (.seq asW asX)
abbrev asZ:AC:= .block 1 (.seq (.run [.m 10 cD, .m 5 bR]) (.seq (.run [.m 11 bq, .m 12 bB, .m 13 bV, .o 14 (.bZ cJ db 1), .o 15 (.load cL false 1),(.ky (some 16) none 11 [dq])]) (.cond dg (.seq (.run [.m 17 bV, .m 4 dE]) .ret) .skip)))
abbrev as0:AC:= .seq (.cond dh .skip (.exit 0)) (.seq asZ (.run [.o 18 (.bin .add cD (.k (.int .i64 1))), .m 8 dB]))
abbrev as1:AC:= .seq (.run [.m 6 bB, .o 7 (.len dC), .o 8 (.mv (.k (.int .i64 0)))]) (.block 0 (.loop (.seq (.run [.o 9 (.bin .lss cD cR)]) as0)))
abbrev as2:AC:= .seq (.run [(.o 4 (.mv (.k (.int .i64 (-1)))))]) .ret
abbrev as3:AC:= .seq (.run [.o 4 (.mv (.k (.int .i64 0)))]) (.seq as1 as2)
abbrev as4:AC:= .seq (.seq (.run [.o 31 (.av bV 0), .o 32 (.load gF false 1)]) (.cond gU (.run [.m 33 cz, .o 34 (.av bV 1), .o 35 (.load iC false 1), .o 36 (.dm [(.str [])] 1 1 [(0,gV)]), .o 37 (.app 1 16 gM iD), .m 3 jc]) .skip)) (.run [.m 38 cz, .o 39 (.av bV 2), .o 40 (.load jq true 4), .c 41 tH [jY], .o 42 (.app 1 16 jw jZ), .m 3 kJ])
abbrev as5:AC:= .seq (.block 1 (.seq (.run [.o 29 (.bZ e9 fG 6), .o 30 (.load gf true 6), .o 5 (.alloc [(.bool false),(.str []),(.int .i64 0),(.int .i64 0),(.str []),(.slice .full 0 [])]), .op none none (.store bV gn 6)]) as4)) (.run [.o 43 (.bin .add fG (.k (.int .i64 1))), .m 27 kq])
abbrev as6:AC:= .block 0 (.loop (.seq (.run [.o 28 (.bin .lss fG fv)]) (.seq (.cond fZ .skip (.exit 0)) as5)))
abbrev as7:AC:= .seq (.seq (.run [.o 24 (.av bq 10), .o 25 (.load eR false 1), .o 26 (.len e9), .o 27 (.mv (.k (.int .i64 0)))]) as6) (.seq (.run [.m 44 cz, .m 2 kK]) .ret)
abbrev as8:AC:= .seq (.seq (.run [.o 6 (.av bq 1), .o 7 (.load dC false 1), .o 8 (.bin .neq cR (.k (.int .i64 10))), .m 9 cD, .g 10 9 true (.av bq 3), .g 11 9 true (.load bR false 1), .g 12 9 true (.bin .neq cG (.k (.str []))), .o 13 (.pick dh cJ (.k (.bool false)))]) (.cond db (.run [.m 14 cz, .o 15 (.av bq 3), .o 16 (.load dq false 1), .o 17 (.dm [(.str [])] 1 1 [(0,dg)]), .o 18 (.app 1 16 cL dE), .m 3 dB]) .skip)) (.seq (.run [.m 19 cz, .o 20 (.av bq 5), .o 21 (.load ez true 4), .c 22 tH [dY], .o 23 (.app 1 16 dX eA), .m 3 eC]) as7)
abbrev as9:AC:= .seq (.run [.o 1 (.box bB), .o 2 (.mv (.k (.slice .full 0 [])))]) (.seq (.run [.o 3 (.mv (.k (.slice .full 0 [])))]) as8)
abbrev ata:AC:= .cond eC (.seq (.run [.o 6 (.mv (.k (.int .i64 3)))]) .ret) .skip
abbrev atb:AC:= .cond fG (.seq (.run [.o 6 (.mv (.k (.int .i64 2)))]) .ret) .skip
abbrev atc:AC:= .seq (.seq (.run [.o 16 (.av cD 0), .o 17 (.load dg false 1), .m 18 du, .o 19 (.bin .eql dE dB), .m 20 dX, .g 21 20 true (.av cD 1), .g 22 20 true (.load dY false 1), .o 23 (.pick ez eA (.k (.bool false)))]) ata) (.seq (.run [.o 24 (.av cD 0), .o 25 (.load eR false 1), .m 26 du, .o 27 (.bin .eql e9 fv)]) atb)
abbrev atd:AC:= .seq (.block 1 (.seq (.run [.o 14 (.bZ bR cJ 2), .o 15 (.load cL true 2), .o 8 (.alloc [(.str []),(.bool false)]), .op none none (.store cD dq 2)]) atc)) (.run [.o 28 (.bin .add cJ (.k (.int .i64 1))), .m 12 fZ])
abbrev ate:AC:= .block 0 (.loop (.seq (.run [.o 13 (.bin .lss cJ cG)]) (.seq (.cond db .skip (.exit 0)) atd)))
abbrev atf:AC:= .cond gU (.seq (.run [.o 6 (.mv (.k (.int .i64 4)))]) .ret) .skip
abbrev atg:AC:= .cond iD (.seq (.run [.o 6 (.mv (.k (.int .i64 1)))]) .ret) .skip
abbrev ath:AC:= .seq (.seq (.run [.o 33 (.av cz 0), .o 34 (.load gM false 1), .m 35 du, .c 36 cT [iC,gV]]) atg) (.seq (.run [.o 6 (.mv (.k (.int .i64 0)))]) .ret)
abbrev ati:AC:= .seq (.seq (.run [.o 9 (.av eZ 1), .o 10 (.load dh false 1), .o 11 (.len bR), .o 12 (.mv (.k (.int .i64 0)))]) ate) (.seq (.seq (.run [.o 29 (.av eZ 2), .o 30 (.load gf false 1), .m 31 du, .c 32 cT [gn,gF]]) atf) ath)
abbrev atj:AC:= .seq (.run [.o 3 (.box bB), .o 4 (.box bq), .o 6 (.mv (.k (.int .i64 0)))]) ati
abbrev atk:AC:= .cond cG (.seq (.run [.o 4 (.mv (.k (.bool false)))]) .ret) .skip
abbrev atl:AC:= .par [.o 19 (.av dC 1), .o 20 (.load dX false 1), .m 21 bq, .m 22 bV, .o 23 (.bZ dY eA 6), .o 24 (.av eC 0), .o 25 (.load eR false 1), .o 26 (.JP true ez e9)] [(0,0),(1,0),(2,0),(3,0),(4,0),(5,0),(6,0),(7,0)]
abbrev atm:AC:= .cond fv (.seq (.run [.o 4 (.mv (.k (.bool false)))]) .ret) .skip
abbrev atn:AC:= .seq (.block 1 (.seq (.run [.m 16 cL, .o 17 (.bZ cJ cL 2), .o 18 (.load dE true 2), .o 6 (.alloc [(.str []),(.bool false)]), .m 5 dg, .op none none (.store dC dB 2)]) (.seq atl atm))) (.run [.o 27 (.bin .add cL (.k (.int .i64 1))), .m 14 fG])
abbrev ato:AC:= .block 0 (.loop (.seq (.run [.o 15 (.bin .lss cL db)]) (.seq (.cond dq .skip (.exit 0)) atn)))
abbrev atp:AC:= .seq (.seq (.run [.m 12 bB, .o 13 (.len cJ), .o 14 (.mv (.k (.int .i64 0)))]) ato) (.seq (.run [.o 4 (.mv (.k (.bool true)))]) .ret)
abbrev atq:AC:= .seq (.run [.o 4 (.mv (.k (.bool false)))]) (.seq (.seq (.run [.m 7 bB, .o 8 (.len cR), .m 9 bq, .o 10 (.len dh), .o 11 (.bin .neq cD bR)]) atk) atp)
abbrev atr:AC:= .seq (.run [.o 2 (.box bB), .o 3 (.box bq), .o 4 (.mv (.k (.bool false)))]) (.seq (.run [.o 5 (.load du true 2), .c 6 nK [bV], .o 7 (.De dC 0 false 1), .o 8 (.bin .eql cR (.k (.int .i64 0))), .m 9 cD, .g 10 9 true (.av du 1), .g 11 9 true (.load bR false 1), .g 12 9 true (.wV 191 [cz]), .d 13 9 true iZ [cG,cJ], .o 14 (.pick dh db (.k (.bool false))), .m 4 cL]) .ret)
abbrev att:AC:= .seq (.run [.o 26 (.bZ eA eR 1), .o 27 (.load fv false 1), .m 8 fG]) (.seq (.run [.m 28 bV, .m 29 cD, .c 30 cT [fZ,gf], .o 31 (.un .not gn)]) (.cond gF (.run [.m 32 bV, .m 33 cD, .o 34 (.dm [(.str [])] 1 1 [(0,gM)]), .o 35 (.app 1 16 gU iC), .m 5 gV]) .skip))
abbrev atu:AC:= .seq (.cond e9 .skip (.exit 2)) (.seq (.block 3 att) (.run [.o 36 (.bin .add eR (.k (.int .i64 1))), .m 24 iD]))
abbrev atv:AC:= .seq (.run [.m 17 bB, .m 18 bV, .m 19 dC, .o 20 (.bZ dB dX 1), .o 21 (.load ez false 1), .c 22 wy [dE,dY], .o 23 (.len eA), .o 24 (.mv (.k (.int .i64 0)))]) (.block 2 (.loop (.seq (.run [.o 25 (.bin .lss eR eC)]) atu)))
abbrev atw:AC:= .seq (.seq (.run [.m 11 dC, .m 12 bV, .o 13 (.len cJ), .o 14 (.bin .lss cG db)]) (.cond cL .skip (.exit 0))) (.seq (.block 1 atv) (.run [.m 15 dC, .o 16 (.bin .add dq (.k (.int .i64 1))), .m 6 dg]))
abbrev ah2:AC:= .seq (.run [.m 39 bV, .m 4 jq]) .ret
abbrev atx:AC:= .seq (.seq (.run [.o 6 (.mv (.k (.int .i64 0)))]) (.block 0 (.loop atw))) (.seq (.run [.m 37 bV, .c 38 kH [jc]]) ah2)
abbrev aty:AC:= .seq (.run [.o 4 (.mv (.k (.slice .full 0 [])))]) (.seq (.run [.m 9 bq, .o 10 (.dm [(.str [])] 1 1 [(0,dh)]), .m 5 bR]) atx)
abbrev atz:AC:= .seq (.run [.o 1 (.box bB), .o 2 (.mv (.k (.bool false)))]) (.seq (.run [.o 3 (.av bq 0), .o 4 (.load cz false 1), .o 5 (.bin .eql eZ (.k (.int .i64 0))), .m 6 bV, .g 7 6 true (.av bq 1), .g 8 6 true (.load cR false 1), .g 9 6 true (.bin .eql cD (.k (.int .i64 0))), .o 10 (.pick dC dh (.k (.bool false))), .m 11 bR, .g 12 11 true (.av bq 2), .g 13 11 true (.load cJ false 1), .g 14 11 true (.bin .eql db (.k (.str []))), .o 15 (.pick cG cL (.k (.bool false))), .m 16 dq, .g 17 16 true (.av bq 3), .g 18 16 true (.load dE false 1), .g 19 16 true (.len dB), .g 20 16 true (.bin .eql dX (.k (.int .i64 0))), .o 21 (.pick dg ez (.k (.bool false))), .m 2 dY]) .ret)
abbrev atA:AC:= .cond cG (.seq (.run [.m 13 bq, .o 14 (.bin .eql db (.k (.int .i64 0))), .c 15 kI [cL], .m 4 dq, .o 5 (.mv (.k (.bool true)))]) .ret) .skip
abbrev atB:AC:= .cond cR (.seq (.run [.m 9 bq, .o 10 (.bin .sub (.k (.int .i64 0)) dh), .m 4 bR, .o 5 (.mv (.k (.bool true)))]) .ret) (.seq (.run [.o 12 (.bin .eql dC (.k (.int .i64 4))), .m 11 cJ]) atA)
abbrev atC:AC:= .block 0 (.seq (.run [.o 8 (.bin .eql dC (.k (.int .i64 3))), .m 7 cD]) atB)
abbrev atD:AC:= .seq (.seq (.run [.m 6 bB]) atC) (.seq (.run [.o 4 (.mv (.k (.int .i64 0))), .o 5 (.mv (.k (.bool false)))]) .ret)
abbrev atE:AC:= .seq (.run [.o 4 (.mv (.k (.int .i64 0))), .o 5 (.mv (.k (.bool false)))]) atD
abbrev atF:AC:= .seq (.run [.o 2 (.mv (.k (.bool false)))]) (.seq (.run [.m 3 bB, .o 4 (.bin .neq cz (.k (.int .i64 0))), .m 2 eZ]) .ret)
abbrev atG:AC:= .seq (.run [.o 25 (.bin .eql cD (.k (.int .i64 6))), .m 24 e9]) (.cond eR .skip (.run [.o 26 (.bin .eql cD (.k (.int .i64 7))), .m 24 fv]))
abbrev atH:AC:= .cond kJ (.seq (.run [.m 44 bq, .o 45 (.bin .neq kK (.k (.int .i64 0))), .m 46 lX, .g 47 46 false (.mv du), .g 48 46 false (.bin .neq nj (.k (.int .i64 0))), .o 49 (.pick lY (.k (.bool true)) lZ), .c 50 kI [l5], .m 6 mA, .o 7 (.mv (.k (.bool true)))]) .ret) .skip
abbrev atI:AC:= .cond gM (.seq (.run [.m 35 bq, .o 36 (.bin .neq gV (.k (.int .i64 0))), .m 37 iD, .g 38 37 true (.mv du), .g 39 37 true (.bin .neq jw (.k (.int .i64 0))), .o 40 (.pick jc jq (.k (.bool false))), .c 41 kI [jY], .m 6 jZ, .o 7 (.mv (.k (.bool true)))]) .ret) (.seq (.run [.o 43 (.bin .eql cD (.k (.int .i64 17))), .m 42 kq]) atH)
abbrev atJ:AC:= .cond eR (.seq (.run [.m 27 bB, .m 28 bq, .m 29 du, .c 30 wz [fG,fZ,gf], .o 31 (.ext gn 0), .o 32 (.ext gn 1), .m 6 gF, .m 7 gU]) .ret) (.seq (.run [.o 34 (.bin .eql cD (.k (.int .i64 16))), .m 33 iC]) atI)
abbrev atK:AC:= .cond dX (.seq (.run [.m 21 bq, .m 22 du, .o 23 (.bin .mul dY eA), .m 6 eC, .o 7 (.mv (.k (.bool true)))]) .ret) (.seq atG atJ)
abbrev atL:AC:= .cond cL (.seq (.run [.m 16 bq, .m 17 du, .o 18 (.bin .sub dg dE), .m 6 dB, .o 7 (.mv (.k (.bool true)))]) .ret) (.seq (.run [.o 20 (.bin .eql cD (.k (.int .i64 5))), .m 19 ez]) atK)
abbrev atM:AC:= .cond dh (.seq (.run [.m 11 bq, .m 12 du, .o 13 (.bin .add cG cJ), .m 6 db, .o 7 (.mv (.k (.bool true)))]) .ret) (.seq (.run [.o 15 (.bin .eql cD (.k (.int .i64 9))), .m 14 dq]) atL)
abbrev atN:AC:= .block 0 (.seq (.run [.o 10 (.bin .eql cD (.k (.int .i64 8))), .m 9 bR]) atM)
abbrev atO:AC:= .seq (.run [.o 6 (.mv (.k (.int .i64 0))), .o 7 (.mv (.k (.bool false)))]) (.seq (.seq (.run [.m 8 bB]) atN) (.seq (.run [.m 51 bB, .m 52 bq, .m 53 du, .c 54 uQ [lJ,lK,mB], .o 55 (.ext nn 0), .o 56 (.ext nn 1), .m 6 nF, .m 7 pM]) .ret))
abbrev atP:AC:= .cond bV (.seq (.run [.o 2 (.mv (.k (.slice .full 0 [])))]) .ret) .skip
abbrev atQ:AC:= .seq (.seq (.run [.o 3 (.load bq true 4), .c 4 oO [cz], .o 5 (.un .not eZ)]) atP) (.seq (.run [.o 6 (.load bq true 4),(.c 7 jO [dC,(.k (.slice .full 0 []))]), .m 2 cR]) .ret)
abbrev atS:AC:= .seq (.run [.o 1 (.box bB), .o 2 (.mv (.k (.slice .full 0 [])))]) atQ
abbrev atT:AC:= .seq (.run [.o 4 (.mv (.k (.bool false)))]) (.seq (.run [.m 5 bB, .m 6 bq, .c 7 iy [bV,dC], .o 8 (.bin .geq cR (.k (.int .i64 0))), .m 4 cD]) .ret)
abbrev atU:AC:= .seq (.run [.o 2 (.box bB), .o 3 (.mv (.k (.bool false)))]) (.seq (.run [.o 4 (.av du 0), .o 5 (.load eZ false 1), .o 6 (.load bq false 1), .o 7 (.bin .eql bV dC), .m 3 cR]) .ret)
abbrev atV:AC:= .seq (.run [.o 16 (.bZ cJ cL 17), .o 17 (.load dg true 17), .o 7 (.alloc [(.int .i64 0),(.int .i64 0),(.slice .full 0 []),(.str []),(.str []),(.int .i64 0),(.int .i64 0),(.str []),(.slice .full 0 []),(.bool false),(.slice .full 0 []),(.slice .full 0 []),(.slice .full 0 []),(.int .i64 0),(.int .i64 0),(.int .i64 0),(.int .i64 0)]), .op none none (.store cR dE 17)]) (.seq (.run [.o 18 (.av cR 0), .o 19 (.av dB 1), .o 20 (.load dX false 1), .o 21 (.bin .eql ez (.k (.int .i64 4)))]) (.cond dY (.run [.m 22 bV, .o 23 (.av cR 0), .o 24 (.av eC 4), .o 25 (.load eR false 1), .o 26 (.dm [(.str [])] 1 1 [(0,e9)]), .o 27 (.app 1 16 eA fv), .m 5 fG]) .skip))
abbrev atW:AC:= .seq (.cond dq .skip (.exit 0)) (.seq (.block 1 atV) (.run [.o 28 (.bin .add cL (.k (.int .i64 1))), .m 14 fZ]))
abbrev atX:AC:= .seq (.run [.m 8 bB, .m 9 bB, .m 10 bq, .c 11 jv [dh,bR], .c 12 iY [cD,cG], .o 13 (.len cJ), .o 14 (.mv (.k (.int .i64 0)))]) (.block 0 (.loop (.seq (.run [.o 15 (.bin .lss cL db)]) atW)))
abbrev atY:AC:= .seq (.run [.o 4 (.mv (.k (.slice .full 0 [])))]) (.seq (.run [.o 5 (.mv (.k (.slice .full 0 [])))]) (.seq atX (.seq (.run [.m 29 bV, .c 30 kH [gf]]) (.seq (.run [.m 31 bV, .c 32 kZ [gF], .m 4 gU]) .ret))))
open Go.Proofs
theorem BV:Has Tryz.prog qM 19 [(4,none)] asY:=⟨Tryz.f146,by kernel_rfl,by kernel_rfl⟩
theorem vQ:Has Tryz.prog mz 19 [(4,none)] as3:=⟨Tryz.f167,by kernel_rfl,by kernel_rfl⟩
theorem Jj:Has Tryz.prog tF 45 [(2,none)] as9:=⟨Tryz.f168,by kernel_rfl,by kernel_rfl⟩
theorem Jk:Has Tryz.prog xR 37 [(6,none)] atj:=⟨Tryz.f169,by kernel_rfl,by kernel_rfl⟩
theorem A4:Has Tryz.prog xS 28 [(4,none)] atq:=⟨Tryz.f170,by kernel_rfl,by kernel_rfl⟩
theorem yZ:Has Tryz.prog wx 15 [(4,none)] atr:=⟨Tryz.f171,by kernel_rfl,by kernel_rfl⟩
theorem Lj:Has Tryz.prog z8 40 [(4,none)] aty:=⟨Tryz.f172,by kernel_rfl,by kernel_rfl⟩
theorem Ll:Has Tryz.prog Aa 22 [(2,none)] atz:=⟨Tryz.f175,by kernel_rfl,by kernel_rfl⟩
theorem Nf:Has Tryz.prog BN 16 [(4,none),(5,none)] atE:=⟨Tryz.f176,by kernel_rfl,by kernel_rfl⟩
theorem Jl:Has Tryz.prog tG 5 [(2,none)] atF:=⟨Tryz.f177,by kernel_rfl,by kernel_rfl⟩
theorem Ng:Has Tryz.prog BO 57 [(6,none),(7,none)] atO:=⟨Tryz.f178,by kernel_rfl,by kernel_rfl⟩
theorem A5:Has Tryz.prog tH 8 [(2,none)] atS:=⟨Tryz.f189,by kernel_rfl,by kernel_rfl⟩
theorem sD:Has Tryz.prog iZ 9 [(4,none)] atT:=⟨Tryz.f190,by kernel_rfl,by kernel_rfl⟩
theorem Fh:Has Tryz.prog qt 8 [(3,none)] atU:=⟨Tryz.f191,by kernel_rfl,by kernel_rfl⟩
theorem HG:Has Tryz.prog wy 33 [(4,none)] atY:=⟨Tryz.f192,by kernel_rfl,by kernel_rfl⟩
abbrev atZ:AC:= .cond cz (.seq (.run [.o 2 (.mv (.k (.int .i64 1)))]) .ret) .skip
abbrev at0:AC:= .seq (.seq (.run [.m 3 bB]) atZ) (.seq (.run [.o 2 (.mv (.k (.int .i64 0)))]) .ret)
abbrev at1:AC:= .seq (.run [.o 2 (.mv (.k (.int .i64 0)))]) at0
abbrev at2:AC:= .cond dh (.seq (.run [.o 6 (.mv (.k (.int .i64 0))), .o 7 (.mv (.k (.bool false)))]) .ret) .skip
abbrev at3:AC:= .cond db (.seq (.run [.o 6 (.mv (.k (.int .i64 0))), .o 7 (.mv (.k (.bool true)))]) .ret) .skip
abbrev at4:AC:= .cond dq (.seq (.run [.m 16 bq, .m 6 dg, .o 7 (.mv (.k (.bool true)))]) .ret) .skip
abbrev at5:AC:= .seq (.run [.m 14 bq,(.o 15 (.bin .eql cL (.k (.int .i64 (-9223372036854775808)))))]) at4
abbrev at6:AC:= .seq at5 (.seq (.run [.m 17 bq, .o 18 (.bin .sub (.k (.int .i64 0)) dE), .m 6 dB, .o 7 (.mv (.k (.bool true)))]) .ret)
abbrev at7:AC:= .seq (.seq (.run [.m 12 bB, .o 13 (.bin .eql cJ (.k (.int .i64 7)))]) at3) at6
abbrev at8:AC:= .seq (.run [.m 10 du,(.o 11 (.bin .eql bR (.k (.int .i64 (-1)))))]) (.cond cG at7 .skip)
abbrev at9:AC:= .cond ez (.seq (.run [.m 21 bq, .m 22 du, .o 23 (.bin .rem dY eA), .m 6 eC, .o 7 (.mv (.k (.bool true)))]) .ret) .skip
abbrev aua:AC:= .seq (.seq (.run [.m 19 bB, .o 20 (.bin .eql dX (.k (.int .i64 7)))]) at9) (.seq (.run [.m 24 bq, .m 25 du, .o 26 (.bin .quo eR e9), .m 6 fv, .o 7 (.mv (.k (.bool true)))]) .ret)
abbrev aub:AC:= .seq (.seq (.run [.m 8 du, .o 9 (.bin .eql cD (.k (.int .i64 0)))]) at2) (.seq at8 aua)
abbrev auc:AC:= .seq (.run [.o 6 (.mv (.k (.int .i64 0))), .o 7 (.mv (.k (.bool false)))]) aub
abbrev aud:AC:= .cond jq (.seq (.run [.m 41 bq, .m 42 du, .o 43 (.bin .neq jZ kJ), .c 44 kI [kq], .m 6 kK, .o 7 (.mv (.k (.bool true)))]) .ret) .skip
abbrev aue:AC:= .cond gM (.seq (.run [.m 35 bq, .m 36 du, .o 37 (.bin .eql gV iD), .c 38 kI [jc], .m 6 jw, .o 7 (.mv (.k (.bool true)))]) .ret) (.seq (.run [.o 40 (.bin .eql cD (.k (.int .i64 15))), .m 39 jY]) aud)
abbrev auf:AC:= .cond fG (.seq (.run [.m 29 bq, .m 30 du, .o 31 (.bin .geq gf gn), .c 32 kI [gF], .m 6 gU, .o 7 (.mv (.k (.bool true)))]) .ret) (.seq (.run [.o 34 (.bin .eql cD (.k (.int .i64 14))), .m 33 iC]) aue)
abbrev aug:AC:= .cond dY (.seq (.run [.m 23 bq, .m 24 du, .o 25 (.bin .gtr eC eR), .c 26 kI [e9], .m 6 fv, .o 7 (.mv (.k (.bool true)))]) .ret) (.seq (.run [.o 28 (.bin .eql cD (.k (.int .i64 13))), .m 27 fZ]) auf)
abbrev auh:AC:= .cond dq (.seq (.run [.m 17 bq, .m 18 du, .o 19 (.bin .leq dE dB), .c 20 kI [dX], .m 6 ez, .o 7 (.mv (.k (.bool true)))]) .ret) (.seq (.run [.o 22 (.bin .eql cD (.k (.int .i64 12))), .m 21 eA]) aug)
abbrev aui:AC:= .cond dh (.seq (.run [.m 11 bq, .m 12 du, .o 13 (.bin .lss cG cJ), .c 14 kI [db], .m 6 cL, .o 7 (.mv (.k (.bool true)))]) .ret) (.seq (.run [.o 16 (.bin .eql cD (.k (.int .i64 11))), .m 15 dg]) auh)
abbrev auj:AC:= .block 0 (.seq (.run [.o 10 (.bin .eql cD (.k (.int .i64 10))), .m 9 bR]) aui)
abbrev auk:AC:= .seq (.seq (.run [.m 8 bB]) auj) (.seq (.run [.o 6 (.mv (.k (.int .i64 0))), .o 7 (.mv (.k (.bool false)))]) .ret)
abbrev aul:AC:= .seq (.run [.o 6 (.mv (.k (.int .i64 0))), .o 7 (.mv (.k (.bool false)))]) auk
abbrev aum:AC:= .seq (.block 1 (.seq (.run [.o 27 (.bZ eC e9 4), .o 28 (.load fG true 4), .o 6 (.alloc [(.int .i64 0),(.int .i64 0),(.str []),(.slice .full 0 [])]), .op none none (.store dC fZ 4)]) (.run [.o 29 (.load dC true 4), .m 30 bq, .c 31 jO [gf,gn], .m 1 gF]))) (.run [.o 32 (.bin .add e9 (.k (.int .i64 1))), .m 25 gU])
abbrev aun:AC:= .block 0 (.loop (.seq (.run [.o 26 (.bin .lss e9 eR)]) (.seq (.cond fv .skip (.exit 0)) aum)))
abbrev auo:AC:= .seq (.seq (.run [.o 22 (.av du 3), .o 23 (.load eA false 1), .o 24 (.len eC), .o 25 (.mv (.k (.int .i64 0)))]) aun) (.seq (.run [.m 33 bq, .m 4 gM]) .ret)
abbrev aup:AC:= .seq (.seq (.run [.o 7 (.av du 0), .o 8 (.load cR false 1), .o 9 (.bin .eql cD (.k (.int .i64 2))), .m 10 dh, .g 11 10 true (.mv bq), .g 12 10 true (.av du 2), .g 13 10 true (.load cJ false 1), .d 14 10 true cT [cG,db], .g 15 10 true (.un .not cL), .o 16 (.pick bR dq (.k (.bool false)))]) (.cond dg (.run [.m 17 bq, .o 18 (.av du 2), .o 19 (.load dB false 1), .o 20 (.dm [(.str [])] 1 1 [(0,dX)]), .o 21 (.app 1 16 dE ez), .m 1 dY]) .skip)) auo
abbrev auq:AC:= .seq (.run [.o 2 (.box bB), .o 4 (.mv (.k (.slice .full 0 [])))]) aup
open Go.Proofs
theorem Nh:Has Tryz.prog kI 4 [(2,none)] at1:=⟨Tryz.f195,by kernel_rfl,by kernel_rfl⟩
theorem za:Has Tryz.prog wz 27 [(6,none),(7,none)] auc:=⟨Tryz.f196,by kernel_rfl,by kernel_rfl⟩
theorem Gg:Has Tryz.prog uQ 45 [(6,none),(7,none)] aul:=⟨Tryz.f197,by kernel_rfl,by kernel_rfl⟩
theorem tP:Has Tryz.prog jO 34 [(4,none)] auq:=⟨Tryz.f207,by kernel_rfl,by kernel_rfl⟩
open Go.Proofs
theorem Fi:Has Tryz.prog kF 45 [(4,none),(5,none)] aqf:=⟨Tryz.f102,by kernel_rfl,by kernel_rfl⟩
theorem Gh:Has Tryz.prog ll 45 [(2,(some (true,13)))] aql:=⟨Tryz.f103,by kernel_rfl,by kernel_rfl⟩
theorem Jm:Has Tryz.prog tA 9 [(2,none)] aqm:=⟨Tryz.f104,by kernel_rfl,by kernel_rfl⟩
theorem PC:Has Tryz.prog DN 24 [(4,none)] aqo:=⟨Tryz.f105,by kernel_rfl,by kernel_rfl⟩
theorem Ni:Has Tryz.prog BM 18 [(2,none)] aqD:=⟨Tryz.f106,by kernel_rfl,by kernel_rfl⟩
theorem HH:Has Tryz.prog wu 93 [(2,none)] aqS:=⟨Tryz.f107,by kernel_rfl,by kernel_rfl⟩
theorem Lm:Has Tryz.prog od 33 [(2,none)] aqZ:=⟨Tryz.f108,by kernel_rfl,by kernel_rfl⟩
theorem rC:Has Tryz.prog lS 8 [(2,none)] aq1:=⟨Tryz.f109,by kernel_rfl,by kernel_rfl⟩
theorem Ln:Has Tryz.prog vn 23 [(2,none)] aq5:=⟨Tryz.f110,by kernel_rfl,by kernel_rfl⟩
theorem yz:Has Tryz.prog ig 19 [(4,none)] ara:=⟨Tryz.f111,by kernel_rfl,by kernel_rfl⟩
theorem FB:Has Tryz.prog yV 17 [(6,none),(7,none)] arc:=⟨Tryz.f112,by kernel_rfl,by kernel_rfl⟩
theorem yA:Has Tryz.prog oQ 9 [(4,none)] ard:=⟨Tryz.f113,by kernel_rfl,by kernel_rfl⟩
theorem Fj:Has Tryz.prog iY 26 [(4,none)] arh:=⟨Tryz.f114,by kernel_rfl,by kernel_rfl⟩
theorem wA:Has Tryz.prog cT 9 [(4,none)] ari:=⟨Tryz.f115,by kernel_rfl,by kernel_rfl⟩
theorem CQ:Has Tryz.prog oe 65 [(10,none)] arq:=⟨Tryz.f120,by kernel_rfl,by kernel_rfl⟩
theorem HI:Has Tryz.prog pZ 18 [(2,none)] ary:=⟨Tryz.f128,by kernel_rfl,by kernel_rfl⟩
theorem tQ:Has Tryz.prog ij 9 [(4,none)] arz:=⟨Tryz.f129,by kernel_rfl,by kernel_rfl⟩
theorem Fk:Has Tryz.prog qs 8 [(3,none)] arA:=⟨Tryz.f130,by kernel_rfl,by kernel_rfl⟩
theorem HJ:Has Tryz.prog sh 38 [(8,none)] arH:=⟨Tryz.f131,by kernel_rfl,by kernel_rfl⟩
theorem A6:Has Tryz.prog xP 28 [(4,none)] arO:=⟨Tryz.f132,by kernel_rfl,by kernel_rfl⟩
theorem A7:Has Tryz.prog tB 9 [(2,none)] arQ:=⟨Tryz.f133,by kernel_rfl,by kernel_rfl⟩
theorem Lo:Has Tryz.prog rW 24 [(4,none),(5,none)] arW:=⟨Tryz.f134,by kernel_rfl,by kernel_rfl⟩
theorem ri:Has Tryz.prog xQ 29 [(4,none)] ar1:=⟨Tryz.f135,by kernel_rfl,by kernel_rfl⟩
theorem wO:Has Tryz.prog tC 60 [(4,none)] asc:=⟨Tryz.f136,by kernel_rfl,by kernel_rfl⟩
theorem Gi:Has Tryz.prog uP 41 [(4,none)] asj:=⟨Tryz.f137,by kernel_rfl,by kernel_rfl⟩
theorem A8:Has Tryz.prog oR 7 [(2,none)] asm:=⟨Tryz.f138,by kernel_rfl,by kernel_rfl⟩
theorem Nj:Has Tryz.prog pL 40 [(4,none)] ass:=⟨Tryz.f139,by kernel_rfl,by kernel_rfl⟩
theorem Fl:Has Tryz.prog kG 31 [(2,(some (true,4)))] asw:=⟨Tryz.f140,by kernel_rfl,by kernel_rfl⟩
theorem Lp:Has Tryz.prog z7 9 [(2,none)] asx:=⟨Tryz.f141,by kernel_rfl,by kernel_rfl⟩
theorem Jn:Has Tryz.prog qL 18 [(4,none)] asy:=⟨Tryz.f142,by kernel_rfl,by kernel_rfl⟩
theorem Jo:Has Tryz.prog tD 18 [(4,none)] asz:=⟨Tryz.f143,by kernel_rfl,by kernel_rfl⟩
theorem HK:Has Tryz.prog wv 27 [(2,none)] asF:=⟨Tryz.f144,by kernel_rfl,by kernel_rfl⟩
theorem qd:Has Tryz.prog mK 92 [(6,none),(7,none)] asT:=⟨Tryz.f145,by kernel_rfl,by kernel_rfl⟩
def DW (c:UInt8):Bool:=decide ((c.toNat:Int)≥97) && decide ((c.toNat:Int)≤122)
def HL (c:UInt8):Bool:=decide ((c.toNat:Int)≥48) && decide ((c.toNat:Int)≤57)
def isB (c:UInt8):Bool:=(c.toNat:Int)==32 ||(c.toNat:Int)==9 ||(c.toNat:Int)==10 ||(c.toNat:Int)==13
def qP:aK→Nat
 | []=>0
 |c::r=>if DW c ||HL c then qP r+1 else 0
def ah3:aK→Nat
 | []=>0
 |c::r=>if HL c then ah3 r+1 else 0
def TC:aK→Nat
 | []=>0
 |c::r=>if(c.toNat:Int) != 10 then TC r+1 else 0
def isWord (s:aK):Bool:=
 s == [103,108,111,98,97,108] ||s == [112,114,111,99] ||s == [118,97,114] ||s == [114,101,102] ||s == [105,102] ||s == [101,108,115,101] ||s == [119,104,105,108,101] ||s == [98,114,101,97,107] ||s == [99,111,110,116,105,110,117,101] ||s == [114,101,116,117,114,110] ||s == [103,111,116,111] ||s == [114,101,97,100] ||s == [112,114,105,110,116]
def amr (s:aK):Bool:=s == [61,61] ||s == [33,61] ||s == [60,61] ||s == [62,61] ||s == [38,38] ||s == [124,124]
def acI (c:UInt8):Bool:=
 (c.toNat:Int)==40 ||(c.toNat:Int)==41 ||(c.toNat:Int)==123 ||(c.toNat:Int)==125 ||(c.toNat:Int)==44 ||(c.toNat:Int)==59 ||(c.toNat:Int)==58 ||(c.toNat:Int)==61 ||
 (c.toNat:Int)==33 ||(c.toNat:Int)==60 ||(c.toNat:Int)==62 ||(c.toNat:Int)==43 ||(c.toNat:Int)==45 ||(c.toNat:Int)==42 ||(c.toNat:Int)==47 ||(c.toNat:Int)==37
def acJ:aK→Nat
 | []=>0
 | [c]=>if acI c then 1 else 0
 |c::d::_=>if amr [c,d]then 2 else if acI c then 1 else 0
def bj:Int→aK→Option Int
 |n,[]=>some n
 |n,c::r=>if n > (9223372036854775807 - ((c.toNat:Int) - 48)) / 10 then none else bj (n*10+((c.toNat:Int) - 48)) r
def aur (pos:Nat):aK→rz ⊕ Int
 | []=> .inr 2
 | c::r=>
  if DW c then
   let s:=(c::r).take (qP (c::r))
   if s.length > 8 then .inr 4 else .inl ⟨if isWord s then 3 else 1,s,0,pos⟩
  else if HL c then
   let s:=(c::r).take (ah3 (c::r))
   if s.length > 1∧(c.toNat:Int)=48 then .inr 2 else
   match bj 0 s with
   |some n=> .inl ⟨2,s,n,pos⟩
   |none=> .inr 4
  else
   if acJ (c::r)=0 then .inr 2 else .inl ⟨4,(c::r).take (acJ (c::r)),0,pos⟩
def TD:Nat→Nat→aK→List rz→List rz×Int×Int
 | 0,_,_,_=>([],0,0)
 |_+1,pos,[],out=>(out++ [⟨0,[],0,pos⟩],0,0)
 | n+1,pos,c::r,out=>
  if isB c then TD n (pos+1) r out
  else if(c.toNat:Int)==35 then TD n (pos+TC (c::r)) ((c::r).drop (TC (c::r))) out
  else match aur pos (c::r)with
   | .inr e=>([],e,pos)
   | .inl t=>if out.length=2000 then([],4,pos)else TD n (pos+t.text.length) ((c::r).drop t.text.length) (out++ [t])
def A9 (text:aK):List rz×Int×Int:=if text.length > 100000 then([],4,0)else TD (text.length+1) 0 text []
def EO:aK→Bool
 | []=>true
 |c::r=>if !(DW c) && !(HL c)then false else EO r
def isName:aK→Bool
 | []=>false
 |c::r=>if decide (((r.length+1:Nat):Int) > 8) || !(DW c)then false else if EO r then !(isWord (c::r))else false
def p7 (op:Int):Int:=if op==1 ||op==2 then 0 else if op==3 ||op==4 then 1 else if decide (op≥5) && decide (op≤17)then 2 else -1
mutual
def Ex.form:Ex→Bool
 |⟨op,n,name,kids⟩=>
  if p7 op != (kids.length:Int) ||(op != 1 && n != 0) ||decide (n<0) || !((op==2) == !(name == [])) ||(!(name == []) && !(isName name))then false else Ex.vq kids
def Ex.vq:List Ex→Bool
 | []=>true
 |x::l=>if !(Ex.form x)then false else Ex.vq l
end
mutual
def Ex.texts:Ex→Prop
 |⟨_,_,name,kids⟩=>name.length<4611686018427387904∧Ex.xW kids
def Ex.xW:List Ex→Prop
 | []=>True
 |x::l=>x.texts∧Ex.xW l
end
theorem Ex.HM {x:Ex} : ∀ {l:List Ex},Ex.xW l→x∈l→x.texts
 |y::l,h,m=>by
  rcases List.mem_cons.1 m with rfl|m
  ·exact h.1
  ·exact Ex.HM h.2 m
theorem Ex.Wl {op n:Int} {name:aK} {kids:List Ex} (h:Ex.texts ⟨op,n,name,kids⟩) {y:Ex} (m:y∈kids):y.texts:=Ex.HM h.2 m
def Ex.may (x:Ex):Bool:=decide (((min x.depth 21:Nat):Int)≤20) && x.form
def Ex.none (x:Ex):Bool:=x.op==0 && x.n==0 && x.name == [] && (x.kids.length:Int)==0
def fh:List aK→Bool
 | []=>true
 |s::l=>if !(isName s)then false else fh l
def Ar.may (a:Ar):Bool:=if a.ref then isName a.name && a.x.none else a.name == [] && a.x.may
def Ar.gL:List Ar→Bool
 | []=>true
 |a::l=>if !(a.may)then false else Ar.gL l
def Sm.Gj (s:Sm):Bool:=s.kind==1 ||s.kind==3 ||s.kind==5 ||s.kind==6 ||(s.kind==9 && s.has)
def Sm.hasName (s:Sm):Bool:=s.kind==1 ||s.kind==2 ||s.kind==10
def Sm.Ba (s:Sm):Bool:=s.kind==4
def Sm.one (s:Sm):Bool:=
 if decide (s.kind<1) ||decide (s.kind > 10) || !(fh s.labels) ||(s.Gj && !(s.x.may)) ||(!(s.Gj) && !(s.x.none)) ||(s.has && s.kind != 9)then false
 else if(s.hasName && !(isName s.name)) ||(!(s.hasName) && !(s.name == []) && !(s.Ba && isName s.name))then false
 else if !(s.Ba == !(s.proc == [])) ||(s.Ba && !(isName s.proc)) ||(!(s.Ba) && decide ((s.args.length:Int) > 0))then false
 else if !(Ar.gL s.args)then false
 else((s.aO.length:Int)==0 ||s.kind==5 ||s.kind==6) && ((s.aN.length:Int)==0 ||s.kind==5)
structure It where
 s:Sm
 deep:Int
 cW:Int
 aN:Bool
mutual
def jP (deep cW:Int) (aN:Bool) (out:List It):Sm→List It
 |⟨id,kind,labels,name,proc,x,has,args,aO,e⟩=>
  if decide (deep≤12)then eW (deep+1) id true (eW (deep+1) id false (out++ [⟨⟨id,kind,labels,name,proc,x,has,args,aO,e⟩,deep,cW,aN⟩]) aO) e
  else out++ [⟨⟨id,kind,labels,name,proc,x,has,args,aO,e⟩,deep,cW,aN⟩]
def eW (deep cW:Int) (aN:Bool) (out:List It):List Sm→List It
 | []=>out
 |s::l=>if decide ((out.length:Int)≤200)then eW deep cW aN (jP deep cW aN out s) l else out
end
def Pc.flat (f:Pc):List It:=eW 1 0 false [] f.body
def allM (out:List It):List Pc→List It
 | []=>out
 |f::l=>if decide (((out++f.flat).length:Int) > 200)then out++f.flat else allM (out++f.flat) l
def Pg.all (p:Pg):List It:=allM [] p.procs
def Pm.gL:List Pm→Bool
 | []=>true
 |a::l=>if !(isName a.name)then false else Pm.gL l
def Pc.ja:List Pc→Bool
 | []=>true
 |f::l=>
  if !(isName f.name) ||decide ((f.params.length:Int) > 8) ||decide ((f.vars.length:Int) > 16) || !(fh f.vars) || !(fh f.fin)then false
  else if !(Pm.gL f.params)then false else Pc.ja l
def It.gL (n:Nat):List It→Bool
 | []=>true
 |i::l=>if i.s.id != ((n+1:Nat):Int) ||decide (i.deep > 12) || !(i.s.one)then false else It.gL (n+1) l
def Pg.may (p:Pg):Bool:=
 if decide ((p.globals.length:Int) > 16) ||decide ((p.procs.length:Int) > 16) || !(fh p.globals)then false
 else if !(Pc.ja p.procs)then false
 else if decide ((p.all.length:Int) > 200)then false else It.gL 0 p.all
open Go.Proofs
@[go_sem] def aCn (r:Rd):List D:= [.slice .shared 4 (r.l.map lb), .int .i64 r.i, .int .i64 r.code, .int .i64 r.MV, .int .i64 r.n]
set_option maxRecDepth 8000
open Go.Proofs
theorem uR (c:UInt8) (s:St):aH Tryz.prog tA [.int .u8 (c.toNat:Int)] s (.bool (DW c)) s:=by
 refine aH.pure ?_ rfl rfl s
 generalize h:DW c=b
 unfold DW at h
 unfold S0
 refine aH.go Jm rfl fun B Q hB hQ=>?_
 have⟨hD,gA,gB,gC⟩:=bP
 repeat' (first
 |simp only[go_sem,hD,gA,gB,gC]
 |(with_reducible first|refine dU fun hc=>?_|refine dV fun hc=>?_|refine dW (fun hc=>?_) fun hc=>?_)<;>(try simp only[hc,bs,↓reduceIte]at h)<;>try simp only[hc]
 |(with_reducible refine aF hQ ?_;exact kC))
theorem Jp (c:UInt8) (s:St):aH Tryz.prog z7 [.int .u8 (c.toNat:Int)] s (.bool (HL c)) s:=by
 refine aH.pure ?_ rfl rfl s
 generalize h:HL c=b
 unfold HL at h
 unfold S0
 refine aH.go Lp rfl fun B Q hB hQ=>?_
 have⟨hD,gA,gB,gC⟩:=bP
 repeat' (first
 |simp only[go_sem,hD,gA,gB,gC]
 |(with_reducible first|refine dU fun hc=>?_|refine dV fun hc=>?_|refine dW (fun hc=>?_) fun hc=>?_)<;>(try simp only[hc,bs,↓reduceIte]at h)<;>try simp only[hc]
 |(with_reducible refine aF hQ ?_;exact kC))
theorem ah4 (t:aK) (s:St):aH Tryz.prog BM [.str t] s (.bool (isWord t)) s:=by
 refine aH.pure ?_ rfl rfl s
 generalize h:isWord t=b
 unfold isWord at h
 unfold S0
 refine aH.go Ni rfl fun B Q hB hQ=>?_
 have⟨hD,gA,gB,gC⟩:=bP
 repeat' (first
 |simp only[go_sem,hD,gA,gB,gC]
 |(with_reducible first|refine dU fun hc=>?_|refine dV fun hc=>?_|refine dW (fun hc=>?_) fun hc=>?_)<;>(try simp only[hc,bs,↓reduceIte]at h)<;>try simp only[hc]
 |(with_reducible refine aF hQ ?_;exact kC))
theorem ams {text:aK} {pos:Nat} (hl:text.length<4611686018427387904) (s:St):aH Tryz.prog DN [.str text, .int .i64 (pos:Int)] s (.int .i64 ((pos+qP (text.drop pos):Nat):Int)) s:=by
 refine aH.pure ?_ rfl rfl s
 unfold S0
 refine aH.go PC rfl fun B Q hB hQ=>?_
 have⟨hD,gA,gB,gC⟩:=bP
 repeat' (first
 |simp only[go_sem,hD,gA,gB,gC]
 |(with_reducible refine aF hQ ?_;exact aP))
 refine fz 0 0 (bo.ind (ι:=aK×Nat) (fun i=>text.drop i.2=i.1∧i.2+qP i.1=pos+qP (text.drop pos)) (fun i=>i.1.length)
  (fun i=> [(0, .str text),(1, .int .i64 (i.2:Int))]) (fun i=>⟨[],[]⟩) ?_ (text.drop pos,pos) ⟨rfl,rfl⟩)
 rintro⟨rest,k⟩ ⟨h1,h2⟩ IH
 dsimp only at h1 h2
 cases rest with
 |nil=>
  have hD:=drop_nil h1
  simp only[qP,Nat.add_zero]at h2
  rw[← h2]at hQ
  repeat' (first
 |simp only[go_sem,hD,gA,gB,gC]
 |(with_reducible refine aF hQ ?_;exact aP))
 | cons c rest=>
  obtain⟨gA,g2,hD,g4⟩:=drop_cons h1
  have gB:k<4611686018427387904:=by omega
  cases hb:(DW c ||HL c)
  ·simp only [qP,hb,Bool.false_eq_true, ↓reduceIte,Nat.add_zero]at h2
   rw[← h2]at hQ
   simp only[Bool.or_eq_false_iff]at hb
   repeat' (first
 |simp only[go_sem,hD,gA,gB,gC,hb.1,hb.2]
 |(with_reducible refine CU (uR _ _) ?_)
 |(with_reducible refine CU (Jp _ _) ?_)
 | (with_reducible refine aF hQ ?_;exact aP))
  ·simp only [qP,hb, ↓reduceIte]at h2
   cases Mj:DW c
   ·rw [Mj,Bool.false_or]at hb
    repeat' (first
 |simp only[go_sem,hD,gA,gB,gC,hb,Mj]
 |(with_reducible refine CU (uR _ _) ?_)
 |(with_reducible refine CU (Jp _ _) ?_)
 | (with_reducible refine aF hQ ?_;exact aP))
    refine fz 0 0 (IH (rest,k+1) ⟨g2,by dsimp only;omega⟩ (Nat.lt_succ_self _))
   ·repeat' (first
 |simp only[go_sem,hD,gA,gB,gC,Mj]
 |(with_reducible refine CU (uR _ _) ?_)
 |(with_reducible refine CU (Jp _ _) ?_)
 | (with_reducible refine aF hQ ?_;exact aP))
    refine fz 0 0 (IH (rest,k+1) ⟨g2,by dsimp only;omega⟩ (Nat.lt_succ_self _))
def aAT (s:aK):Int×Bool:=match bj 0 s with|some n=>(n,true)|none=>(0,false)
open Go.Proofs
def aus (f:Int×Int):List D:= [.int .i64 f.1, .int .i64 f.2]
def amt (text:aK) (out:List rz) (pos:Nat):Tm:= [(0, .str text),(3, .ptr 0 0),(4, .slice (.tok 0) 4 (out.map lb)),(5, .ptr 1 0),(6, .int .i64 (pos:Int))]
def amu (out:List rz):St:=⟨[[.int .i64 0, .int .i64 0],[.junk, .junk, .junk, .junk]],[some out.length]⟩
attribute [go_sem] amt amu aus
end Go.Abs
namespace Go.Abs
set_option maxRecDepth 8000
open Go.Proofs
def avn (s:aK):Bool:=
 [103,108,111,98,97,108] == s || [112,114,111,99] == s || [118,97,114] == s || [114,101,102] == s || [105,102] == s || [101,108,115,101] == s || [119,104,105,108,101] == s || [98,114,101,97,107] == s || [99,111,110,116,105,110,117,101] == s || [114,101,116,117,114,110] == s || [103,111,116,111] == s || [114,101,97,100] == s || [112,114,105,110,116] == s
def OpR (p:Int×Int):Prop:=0≤p.2∧p.2≤6
@[go_sem] def aCo (z:D) (r:Rd):List D:= [.slice .shared 4 (r.l.map lb), .int .i64 r.i, .int .i64 r.code, .int .i64 r.MV,z]
class Cell (z:D):Prop where
 ok:D.ok 0 0 z=true
 fg : ∀ n m,D.fg n m z=z
instance (n:Int):Cell (.int .i64 n):=⟨rfl,fun _ _=>rfl⟩
instance:Cell .junk:=⟨rfl,fun _ _=>rfl⟩
theorem aez (z:D) [h:Cell z] (n m:Nat):D.fg n m z=z:=h.fg n m
attribute [go_sem] aez
def Rd.isO (text:aK) (r:Rd):Option Bool:=if r.good then r.is text else some false
end Go.Abs
namespace Go.Abs
open Go.Proofs
def ah5 (s:aK):Int×Int:=
 if [42] == s then(6,5)else if [47] == s then(6,6)else if [37] == s then(6,7)else if [43] == s then(5,8)else if [45] == s then(5,9)
 else if [60] == s then(4,10)else if [60,61] == s then(4,11)else if [62] == s then(4,12)else if [62,61] == s then(4,13)
 else if [61,61] == s then(3,14)else if [33,61] == s then(3,15)else if [38,38] == s then(2,16)else if [124,124] == s then(1,17)else(0,0)
def BZ (p:Int×Int):Prop:=(p.2==0)=(p.1==0)
set_option maxRecDepth 8000
open Go.Proofs
structure Sm.wB (s:Sm):Prop where
 lL : ∀ t∈s.labels,t.length<4611686018427387904
 Nk:s.labels.length<4611686018427387904
 name:s.name.length<4611686018427387904
 proc:s.proc.length<4611686018427387904
 x:s.x.size<4611686018427387904
 xt:s.x.texts
 Jq:s.args.length<4611686018427387904
 arg : ∀ a∈s.args,a.x.size<4611686018427387904∧a.x.texts∧a.name.length<4611686018427387904
section
variable {v:Sm} {B:ic} {Q:Exit→Tm→St→Prop} {p:Bool}
end
theorem aH.goS {P:Program} {f:FuncId} {nt:Nat} {res:List (Nat×Option (Bool×Nat))} {body:AC} {args:List D} {s:St} {d:D} {s':St} (h0:Has P f nt res body) (hl:Nat.ble args.length nt=true)
 (h : ∀ (B:ic) (Q:Exit→Tm→St→Prop),B.s=s→rH s.aj.length s.az.length res d s'=Q→Sem P B nt body Q (ow 0 args) s):aH P f args s d s':=by
 obtain⟨fn,hf,hc⟩:=h0
 exact aH.intro ⟨fn,hf,hc⟩ (Nat.le_of_ble_eq_true hl) fun B hB=>h B _ hB rfl
end Go.Abs
namespace Go.Abs
set_option maxRecDepth 8000
open Go.Proofs
def dM (i:Im):List D:= [.int .i64 i.s.id, .int .i64 i.s.kind, .slice .shared 1 (i.s.labels.map encStr), .str i.s.name, .str i.s.proc,
 .int .i64 i.s.x.op, .int .i64 i.s.x.n, .str i.s.x.name, .slice .shared 4 (i.s.x.kids.map bW), .bool i.s.has, .slice .shared 6 (i.s.args.map fi), .slice .shared 13 (i.s.aO.map a8), .slice .shared 13 (i.s.aN.map a8), .int .i64 i.proc, .int .i64 i.up, .int .i64 i.next, .int .i64 i.loop]
def cB (n:Int):List D:= [.int .i64 n]
theorem TE (i:Im):D.bF 0 0 (dM i)=true:=by simp[dM,D.bF,D.ok,Tag.ok,fK,abT,LF,kY]
theorem LH (l:List Im):D.jg 0 0 (l.map dM)=true:=jh TE l
theorem acK (n m:Nat) (l:List Im):D.lR n m (l.map dM)=l.map dM:=nI TE n m l
theorem amv (n m:Nat) (i:Im):D.iF n m (dM i)=dM i:=jk n m _ (TE i)
theorem amw (x:Im):(dM x).length=17:=nd rfl
theorem aeA (x:Im):List.take 17 (dM x)=dM x:=nd rfl
theorem ah6 (x:Im):List.drop 17 (dM x) = []:=nd rfl
theorem ah7 (x:Im):List.take 13 (dM x)=a8 x.s:=by simp only[dM,cy];rfl
theorem ZS (x:Im):(dM x)[0]? = some (.int .i64 x.s.id):=nd rfl
theorem ZT (x:Im):(dM x)[1]? = some (.int .i64 x.s.kind):=nd rfl
theorem ZU (x:Im):(dM x)[4]? = some (.str x.s.proc):=nd rfl
theorem Wm (x:Im):(dM x)[13]? = some (.int .i64 x.proc):=nd rfl
theorem Wn (x:Im):(dM x)[14]? = some (.int .i64 x.up):=nd rfl
theorem Wo (x:Im):(dM x)[15]? = some (.int .i64 x.next):=nd rfl
theorem Wp (x:Im):(dM x)[16]? = some (.int .i64 x.loop):=nd rfl
theorem TF (s:Sm) (a b c d:Int):dM ⟨s,a,b,c,d⟩ = [.int .i64 s.id, .int .i64 s.kind, .slice .shared 1 (s.labels.map encStr), .str s.name, .str s.proc,
 .int .i64 s.x.op, .int .i64 s.x.n, .str s.x.name, .slice .shared 4 (s.x.kids.map bW), .bool s.has, .slice .shared 6 (s.args.map fi), .slice .shared 13 (s.aO.map a8), .slice .shared 13 (s.aN.map a8), .int .i64 a, .int .i64 b, .int .i64 c, .int .i64 d]:=nd rfl
theorem acL (n:Int):D.bF 0 0 (cB n)=true:=rfl
theorem jr (l:List Int):D.jg 0 0 (l.map cB)=true:=jh acL l
theorem Wq (n m:Nat) (l:List Int):D.lR n m (l.map cB)=l.map cB:=nI acL n m l
attribute [go_sem] acK amv amw aeA ah6 ah7 ZS ZT ZU Wm Wn Wo Wp Wq cB
theorem ah8 : ∀ n,n<1000000000→∀ v:Sm,v.size≤n→aH Tryz.prog od [.agg (a8 v)] S0 (.int .i64 (v.kE:Int)) S0:=by
 intro n
 induction n with
 |zero=>intro _ v h;obtain⟨_,_,_,_,_,_,_,_,_,_⟩:=v;simp only[Sm.size]at h;omega
 |succ n ih=>
 intro hn v hv
 have dL:Sm.aS v.aO≤n∧Sm.aS v.aN≤n∧v.kE=1+Sm.jJ v.aO+Sm.jJ v.aN:=by
  obtain⟨_,_,_,_,_,_,_,_,_,_⟩:=v
  simp only[Sm.size]at hv;exact⟨by dsimp only;omega,by dsimp only;omega,rfl⟩
 obtain⟨h1,h2,h3⟩:=dL
 have c1:=pz v.aO
 have c2:=pz v.aN
 have l1:=Sm.dr v.aO
 have l2:=Sm.dr v.aN
 have hk : ∀ y,y∈v.aO∨y∈v.aN→∀ s,aH Tryz.prog od [.agg (a8 y)] s (.int .i64 (y.kE:Int)) s:=fun y hy s=>
  (ih (by omega) y (by rcases hy with hy|hy<;>(have:=Sm.cu hy;omega))).pure (by simp only[D.bF,D.ok,pJ];rfl) rfl s
 rw[h3]
 unfold S0
 refine aH.go Lm rfl fun B Q hB hQ=>?_
 have⟨hD,gA,gB,gC⟩:=bP
 repeat' (first
 |simp only[go_sem,hD,gA,gB,gC]
 |(with_reducible refine aF hQ ?_;exact aP))
 refine fz 1 0 (bo.ind (ι:=List Sm×Nat×Nat) (fun i=>v.aO.drop i.2.1=i.1∧i.2.2+Sm.jJ i.1=1+Sm.jJ v.aO) (fun i=>i.1.length)
  (fun i=> [(1, .ptr 0 0),(3, .int .i64 (i.2.2:Int)),(9, .slice .shared 13 (v.aO.map a8)),(10, .int .i64 (v.aO.length:Int)),(11, .int .i64 (i.2.1:Int))]) (fun i=>⟨[a8 v],[]⟩) ?_ (v.aO,0,1) ⟨rfl,rfl⟩)
 rintro⟨rest,k,c⟩ ⟨g1,g2⟩ IH
 dsimp only at g1 g2
 cases rest with
 |cons y rest=>
  obtain⟨gA,g3,hD,g4⟩:=drop_cons g1
  have hy:=hk y (.inl (List.mem_of_getElem? gA))
  simp only[Sm.jJ]at g2
  have wP:=F7 y
  have Fs:=Sm.cu (List.mem_of_getElem? gA)
  have w1:IntKind.wrap .i64 ((k:Int)+1)=((k+1:Nat):Int):=by rw[eB]<;>omega
  have w2:IntKind.wrap .i64 ((c:Int)+(y.kE:Int))=((c+y.kE:Nat):Int):=by rw[eB]<;>omega
  repeat' (first
 |simp only[go_sem,hD,gA,gB,gC,w1,w2]
 |(with_reducible refine CU (hy _) ?_)
 |(with_reducible refine aF hQ ?_;exact aP))
  refine fz 1 0 (IH (rest,k+1,c+y.kE) ⟨g3,by dsimp only;omega⟩ (Nat.lt_succ_self _))
 |nil=>
  have hD:=drop_nil g1
  simp only[Sm.jJ,Nat.add_zero]at g2
  subst g2
  repeat' (first
 |simp only[go_sem,hD,gA,gB,gC]
 | (with_reducible refine aF hQ ?_;exact aP))
  refine fz 1 0 (bo.ind (ι:=List Sm×Nat×Nat) (fun i=>v.aN.drop i.2.1=i.1∧i.2.2+Sm.jJ i.1=1+Sm.jJ v.aO+Sm.jJ v.aN) (fun i=>i.1.length)
   (fun i=> [(1, .ptr 0 0),(3, .int .i64 (i.2.2:Int)),(21, .slice .shared 13 (v.aN.map a8)),(22, .int .i64 (v.aN.length:Int)),(23, .int .i64 (i.2.1:Int))]) (fun i=>⟨[a8 v],[]⟩) ?_ (v.aN,0,1+Sm.jJ v.aO) ⟨rfl,rfl⟩)
  rintro⟨rest,k,c⟩ ⟨g1,g2⟩ IH
  dsimp only at g1 g2
  cases rest with
  |cons y rest=>
   obtain⟨gA,g3,hD,g4⟩:=drop_cons g1
   have hy:=hk y (.inr (List.mem_of_getElem? gA))
   simp only[Sm.jJ]at g2
   have wP:=F7 y
   have Fs:=Sm.cu (List.mem_of_getElem? gA)
   have w1:IntKind.wrap .i64 ((k:Int)+1)=((k+1:Nat):Int):=by rw[eB]<;>omega
   have w2:IntKind.wrap .i64 ((c:Int)+(y.kE:Int))=((c+y.kE:Nat):Int):=by rw[eB]<;>omega
   repeat' (first
 |simp only[go_sem,hD,gA,gB,gC,w1,w2]
 |(with_reducible refine CU (hy _) ?_)
 | (with_reducible refine aF hQ ?_;exact aP))
   refine fz 1 0 (IH (rest,k+1,c+y.kE) ⟨g3,by dsimp only;omega⟩ (Nat.lt_succ_self _))
  |nil=>
   have hD:=drop_nil g1
   simp only[Sm.jJ,Nat.add_zero]at g2
   subst g2
   repeat' (first
 |simp only[go_sem,hD,gA,gB,gC]
 |(with_reducible refine aF hQ ?_;exact aP))
theorem ah9 {v:Sm} (h:v.size<1000000000) (s:St):aH Tryz.prog od [.agg (a8 v)] s (.int .i64 (v.kE:Int)) s:=
 (ah8 v.size h v (Nat.le_refl _)).pure (by simp only[D.bF,D.ok,pJ];rfl) rfl s
end Go.Abs
namespace Go.Abs
set_option maxRecDepth 8000
open Go.Proofs
abbrev jQ (g ps:D) (L:List Im) (lo hi:List Int):List D:= [g,ps, .slice (.tok 0) 17 (L.map dM), .slice (.tok 1) 1 (lo.map cB), .slice (.tok 2) 1 (hi.map cB)]
abbrev ZV (proc up next loop:Int):List D:= [.int .i64 0, .int .i64 0, .slice .full 0 [], .str [], .str [], .int .i64 0, .int .i64 0, .str [], .slice .full 0 [], .bool false, .slice .full 0 [], .slice .full 0 [], .slice .full 0 [], .int .i64 proc, .int .i64 up, .int .i64 next, .int .i64 loop]
theorem aH.amx {P:Program} {f:Nat} {args:List D} {g ps:D} {L L':List Im} {lo hi J0 iH:List Int} {a b c a' b' c':Option Nat}
 (h:aH P f (.ptr 0 0::args) ⟨[jQ g ps L lo hi],[a,b,c]⟩ (.tuple []) ⟨[jQ g ps L' J0 iH],[a',b',c']⟩)
 (ha:D.bF 0 0 args=true) (hg:D.ok 0 0 g=true) (hp:D.ok 0 0 ps=true)
 {s:St} {o:Nat} (ho:s.aj[o]? = some (jQ g ps L lo hi)) (ht:s.az = [a,b,c]):aH P f (.ptr o 0::args) s (.tuple []) ⟨s.aj.set o (jQ g ps L' J0 iH),[a',b',c']⟩:=by
 have hr : ∀ (L:List Im) (lo hi:List Int),D.fc [o] [0,1,2] (jQ g ps L lo hi)=jQ g ps L lo hi:=fun L lo hi=>by
  simp[D.fc,D.cO,Tag.cO,sA _ _ _ hg,sA _ _ _ hp,ke _ _ _ (LH L),ke _ _ _ (jr lo),ke _ _ _ (jr hi)]
 have hk : ∀ (L:List Im) (lo hi:List Int),D.bF 1 3 (jQ g ps L lo hi)=true:=fun L lo hi=>by
  simp[D.bF,D.ok,Tag.ok,I8 (Nat.zero_le 1) (Nat.zero_le 3) _ hg,I8 (Nat.zero_le 1) (Nat.zero_le 3) _ hp,oa (Nat.zero_le 1) (Nat.zero_le 3) _ (LH L),oa (Nat.zero_le 1) (Nat.zero_le 3) _ (jr lo),oa (Nat.zero_le 1) (Nat.zero_le 3) _ (jr hi)]
 refine bS.frame [o] [0,1,2] h (by simp) (by decide) (by simpa using (List.getElem?_eq_some_iff.1 ho).1) (by rw[ht];simp) rfl (fun i o' ds e1 e2=>?_) rfl (fun i t' e1=>?_)
  (by simp[D.fc,D.cO,fW _ _ _ ha])
  (by simp[D.bF,D.ok,jt (Nat.zero_le 1) (Nat.zero_le 3) _ ha]) ?_
 ·cases i with
  |zero=>simp only[List.getElem?_cons_zero,Option.some.injEq]at e1 e2;subst e1;subst e2;exact⟨by rw[hr];exact ho,hk L lo hi⟩
  |succ i=>simp at e1
 ·rw [ht]
  match i,e1 with
  | 0,e1=>simp at e1;subst e1;rfl
  | 1,e1=>simp at e1;subst e1;rfl
  | 2,e1=>simp at e1;subst e1;rfl
  |i+3,e1=>simp at e1
 ·rintro _ _ ⟨rfl,rfl⟩
  refine⟨by simp[D.back,D.cO,D.fc], ?_⟩
  have:=hr L' J0 iH
  simp[St.back,lF,kR,this,ht]
abbrev acM (N:Nat):Prop:=∀ (l:List Sm) (proc up next loop:Int) (out:List Im) (g ps:D) (lo hi:List Int) (b c:Option Nat),Sm.aS l<N→out.length+Sm.jJ l<1000000000→D.ok 0 0 g=true→D.ok 0 0 ps=true→
 ∀ {s:St} {o:Nat},s.aj[o]? = some (jQ g ps out lo hi)→s.az = [some out.length,b,c]→
 aH Tryz.prog lk [.ptr o 0, .slice .shared 13 (l.map a8), .agg (ZV proc up next loop)] s (.tuple []) ⟨s.aj.set o (jQ g ps (Im.rows proc up next loop out l) lo hi),[some (Im.rows proc up next loop out l).length,b,c]⟩
theorem amy {N:Nat} (ih:acM N) {l:List Sm} {proc up next loop:Int} {out:List Im} {g ps:D} {lo hi:List Int} {b c:Option Nat} (hs:Sm.aS l<N+1) (hc:out.length+Sm.jJ l<1000000000) (hg:D.ok 0 0 g=true) (hp:D.ok 0 0 ps=true) (hN:N<1000000000) :
 aH Tryz.prog lk [.ptr 0 0, .slice .shared 13 (l.map a8), .agg (ZV proc up next loop)] ⟨[jQ g ps out lo hi],[some out.length,b,c]⟩ (.tuple []) ⟨[jQ g ps (Im.rows proc up next loop out l) lo hi],[some (Im.rows proc up next loop out l).length,b,c]⟩:=by
 obtain⟨R,hR⟩ : ∃ R,R=Im.rows proc up next loop out l:=⟨_,rfl⟩
 have hlR:R.length=out.length+Sm.jJ l:=by rw[hR,iQ]
 rw[← hR]
 have k1 : ∀ n m,D.fg n m g=g:=fun n m=>Tj n m _ hg
 have k2 : ∀ n m,D.fg n m ps=ps:=fun n m=>Tj n m _ hp
 refine aH.go DV rfl fun B Q hB hQ=>?_
 have⟨hD,gA,gB,gC⟩:=bP
 repeat' (first
 |simp only[go_sem,hD,gA,gB,gC,k1,k2]
 |(with_reducible first|refine dU fun hc=>?_|refine dV fun hc=>?_|refine dW (fun hc=>?_) fun hc=>?_)<;>(try simp only[hc,bs,↓reduceIte]at h)<;>try simp only[hc]
 |(with_reducible refine aF hQ ?_;simp only[cZ,da,eK,eO,go_sem,hD,gA,gB,gC,k1,k2];try exact iI))
 refine eQ 2 3 ?_ ?_ (bo.ind (ι:=List Sm×Nat×List Im) (fun i=>l.drop i.2.1=i.1∧Im.rows proc up next loop i.2.2 i.1=R∧i.2.2.length+Sm.jJ i.1=out.length+Sm.jJ l) (fun i=>i.1.length)
  (fun i=> [(0, .ptr 0 0),(1, .slice .shared 13 (l.map a8)),(5, .ptr 1 0),(11, .slice .shared 13 (l.map a8)),(12, .int .i64 (l.length:Int)),(13, .int .i64 (i.2.1:Int))]) (fun i=>⟨[jQ g ps i.2.2 lo hi,ZV proc up next loop],[some i.2.2.length,b,c]⟩) ?_ (l,0,out) ⟨rfl,hR.symm,rfl⟩)
 ·(simp only[go_sem,hD,gA,gB,gC,k1,k2];try exact bQ)
 ·(simp only[go_sem,hD,gA,gB,gC,k1,k2];try exact bQ)
 rintro⟨rest,k,dc⟩ ⟨h1,h2,h3⟩ IH
 dsimp only at h1 h2 h3
 have hlen:l.length<1000000000:=by have:=Sm.dr l;omega
 cases rest with
 |nil=>
  have hD:=drop_nil h1
  simp only[Im.rows]at h2
  subst h2
  repeat' (first
 |simp only[go_sem,hD,gA,gB,gC,k1,k2]
 |(with_reducible first|refine dU fun hc=>?_|refine dV fun hc=>?_|refine dW (fun hc=>?_) fun hc=>?_)<;>(try simp only[hc,bs,↓reduceIte]at h)<;>try simp only[hc]
 |(with_reducible refine aF hQ ?_;simp only[cZ,da,eK,eO,go_sem,hD,gA,gB,gC,k1,k2];try exact iI))
 | cons v rest=>
  obtain⟨gA,g2,hD,g4⟩:=drop_cons h1
  have cd:k<4611686018427387904:=by omega
  have hv:=Sm.cu (List.mem_of_getElem? gA)
  have pW:Sm.aS v.aO<N∧Sm.aS v.aN<N∧v.kE=1+Sm.jJ v.aO+Sm.jJ v.aN:=by
   obtain⟨_,_,_,_,_,_,_,_,_,_⟩:=v
   simp only[Sm.size]at hv
   exact⟨by dsimp only;omega,by dsimp only;omega,rfl⟩
  obtain⟨AH,Mh,hv3⟩:=pW
  simp only[Sm.jJ]at h3
  simp only[Im.rows,Im.ahr]at h2
  have gB:(dc.length+1)*241≤bp:=by unfold bp;omega
  have Qk:IntKind.wrap .i64 ((dc.length:Int)+1)=(dc.length:Int)+1:=eB (by omega) (by omega)
  have sS:IntKind.wrap .i64 ((k:Int)+1)=((k+1:Nat):Int):=by rw[eB]<;>omega
  have hw3:IntKind.wrap .i64 ((dc.length:Int)+1+(v.kE:Int))=(dc.length:Int)+1+(v.kE:Int):=eB (by omega) (by omega)
  have dL:=fun s=>ah9 (v:=v) (by omega) s
  simp only[cy]at dL
  have Dv:rest.length=l.length - (k+1):=by rw[← g2,List.length_drop]
  by_cases aCp:k+1<l.length
  ·have d1:decide (((k+1:Nat):Int)<(l.length:Int))=true:=by simp;omega
   have e1:(rest.length=0)=False:=by simp;intro h;rw[h]at Dv;simp at Dv;omega
   by_cases Wr:v.kind=6
   ·have d2:(v.kind==6)=true:=by simp [Wr]
    simp only[e1,d2,↓reduceIte,Bool.false_eq_true]at h2
    have f1:=fun {s:St} {o:Nat}=>@ih v.aO proc ((dc.length:Int)+1) ((dc.length:Int)+1) ((dc.length:Int)+1) (dc++ [⟨v,proc,up,((dc.length:Int)+1+(v.kE:Int)),loop⟩]) g ps lo hi b c AH (by simp;omega) hg hp s o
    have f2:=fun {s:St} {o:Nat}=>@ih v.aN proc ((dc.length:Int)+1) ((dc.length:Int)+1) ((dc.length:Int)+1) _ g ps lo hi b c Mh (by rw[iQ proc ((dc.length:Int)+1) ((dc.length:Int)+1) ((dc.length:Int)+1) (dc++ [⟨v,proc,up,((dc.length:Int)+1+(v.kE:Int)),loop⟩]) v.aO];simp;omega) hg hp s o
    have hl:(Im.rows proc ((dc.length:Int)+1) ((dc.length:Int)+1) ((dc.length:Int)+1) (Im.rows proc ((dc.length:Int)+1) ((dc.length:Int)+1) ((dc.length:Int)+1) (dc++ [⟨v,proc,up,((dc.length:Int)+1+(v.kE:Int)),loop⟩]) v.aO) v.aN).length=dc.length+v.kE:=by rw[iQ,iQ];simp;omega
    simp only[jQ,List.map_append,List.map_cons,List.map_nil,TF,List.length_append,List.length_cons,List.length_nil]at f1
    repeat' (first
 |simp only[go_sem,hD,gA,gB,gC,k1,k2,Qk,sS,hw3,d1,d2,cy]
 |(with_reducible refine CU (dL _) ?_)
 |(with_reducible refine CU (f1 (by with_unfolding_all rfl) (by with_unfolding_all rfl)) ?_)
 |(with_reducible refine CU (f2 (by with_unfolding_all rfl) (by with_unfolding_all rfl)) ?_)
 | (with_reducible refine aF hQ ?_;exact aP))
    refine eQ 2 3 ?_ ?_ (IH (rest,k+1,_) ⟨g2,h2,by dsimp only;rw[hl];omega⟩ (Nat.lt_succ_self _))
    ·(simp only[go_sem,hD,gA,gB,gC,sS,k1,k2];try exact bQ)
    ·(simp only[go_sem,hD,gA,gB,gC,sS,k1,k2];try exact bQ)
   ·have d2:(v.kind==6)=false:=by simp [Wr]
    simp only[e1,d2,↓reduceIte,Bool.false_eq_true]at h2
    have f1:=fun {s:St} {o:Nat}=>@ih v.aO proc ((dc.length:Int)+1) ((dc.length:Int)+1+(v.kE:Int)) loop (dc++ [⟨v,proc,up,((dc.length:Int)+1+(v.kE:Int)),loop⟩]) g ps lo hi b c AH (by simp;omega) hg hp s o
    have f2:=fun {s:St} {o:Nat}=>@ih v.aN proc ((dc.length:Int)+1) ((dc.length:Int)+1+(v.kE:Int)) loop _ g ps lo hi b c Mh (by rw[iQ proc ((dc.length:Int)+1) ((dc.length:Int)+1+(v.kE:Int)) loop (dc++ [⟨v,proc,up,((dc.length:Int)+1+(v.kE:Int)),loop⟩]) v.aO];simp;omega) hg hp s o
    have hl:(Im.rows proc ((dc.length:Int)+1) ((dc.length:Int)+1+(v.kE:Int)) loop (Im.rows proc ((dc.length:Int)+1) ((dc.length:Int)+1+(v.kE:Int)) loop (dc++ [⟨v,proc,up,((dc.length:Int)+1+(v.kE:Int)),loop⟩]) v.aO) v.aN).length=dc.length+v.kE:=by rw[iQ,iQ];simp;omega
    simp only[jQ,List.map_append,List.map_cons,List.map_nil,TF,List.length_append,List.length_cons,List.length_nil]at f1
    repeat' (first
 |simp only[go_sem,hD,gA,gB,gC,k1,k2,Qk,sS,hw3,d1,d2,cy]
 |(with_reducible refine CU (dL _) ?_)
 |(with_reducible refine CU (f1 (by with_unfolding_all rfl) (by with_unfolding_all rfl)) ?_)
 |(with_reducible refine CU (f2 (by with_unfolding_all rfl) (by with_unfolding_all rfl)) ?_)
 | (with_reducible refine aF hQ ?_;exact aP))
    refine eQ 2 3 ?_ ?_ (IH (rest,k+1,_) ⟨g2,h2,by dsimp only;rw[hl];omega⟩ (Nat.lt_succ_self _))
    ·(simp only[go_sem,hD,gA,gB,gC,sS,k1,k2];try exact bQ)
    ·(simp only[go_sem,hD,gA,gB,gC,sS,k1,k2];try exact bQ)
  ·have d1:decide (((k+1:Nat):Int)<(l.length:Int))=false:=by simp;omega
   have e1:(rest.length=0)=True:=by simp only[eq_iff_iff,iff_true];omega
   by_cases Wr:v.kind=6
   ·have d2:(v.kind==6)=true:=by simp [Wr]
    simp only[e1,d2,↓reduceIte,Bool.false_eq_true]at h2
    have f1:=fun {s:St} {o:Nat}=>@ih v.aO proc ((dc.length:Int)+1) ((dc.length:Int)+1) ((dc.length:Int)+1) (dc++ [⟨v,proc,up,next,loop⟩]) g ps lo hi b c AH (by simp;omega) hg hp s o
    have f2:=fun {s:St} {o:Nat}=>@ih v.aN proc ((dc.length:Int)+1) ((dc.length:Int)+1) ((dc.length:Int)+1) _ g ps lo hi b c Mh (by rw[iQ proc ((dc.length:Int)+1) ((dc.length:Int)+1) ((dc.length:Int)+1) (dc++ [⟨v,proc,up,next,loop⟩]) v.aO];simp;omega) hg hp s o
    have hl:(Im.rows proc ((dc.length:Int)+1) ((dc.length:Int)+1) ((dc.length:Int)+1) (Im.rows proc ((dc.length:Int)+1) ((dc.length:Int)+1) ((dc.length:Int)+1) (dc++ [⟨v,proc,up,next,loop⟩]) v.aO) v.aN).length=dc.length+v.kE:=by rw[iQ,iQ];simp;omega
    simp only[jQ,List.map_append,List.map_cons,List.map_nil,TF,List.length_append,List.length_cons,List.length_nil]at f1
    repeat' (first
 |simp only[go_sem,hD,gA,gB,gC,k1,k2,Qk,sS,hw3,d1,d2,cy]
 |(with_reducible refine CU (dL _) ?_)
 |(with_reducible refine CU (f1 (by with_unfolding_all rfl) (by with_unfolding_all rfl)) ?_)
 |(with_reducible refine CU (f2 (by with_unfolding_all rfl) (by with_unfolding_all rfl)) ?_)
 | (with_reducible refine aF hQ ?_;exact aP))
    refine eQ 2 3 ?_ ?_ (IH (rest,k+1,_) ⟨g2,h2,by dsimp only;rw[hl];omega⟩ (Nat.lt_succ_self _))
    ·(simp only[go_sem,hD,gA,gB,gC,sS,k1,k2];try exact bQ)
    ·(simp only[go_sem,hD,gA,gB,gC,sS,k1,k2];try exact bQ)
   ·have d2:(v.kind==6)=false:=by simp [Wr]
    simp only[e1,d2,↓reduceIte,Bool.false_eq_true]at h2
    have f1:=fun {s:St} {o:Nat}=>@ih v.aO proc ((dc.length:Int)+1) next loop (dc++ [⟨v,proc,up,next,loop⟩]) g ps lo hi b c AH (by simp;omega) hg hp s o
    have f2:=fun {s:St} {o:Nat}=>@ih v.aN proc ((dc.length:Int)+1) next loop _ g ps lo hi b c Mh (by rw[iQ proc ((dc.length:Int)+1) next loop (dc++ [⟨v,proc,up,next,loop⟩]) v.aO];simp;omega) hg hp s o
    have hl:(Im.rows proc ((dc.length:Int)+1) next loop (Im.rows proc ((dc.length:Int)+1) next loop (dc++ [⟨v,proc,up,next,loop⟩]) v.aO) v.aN).length=dc.length+v.kE:=by rw[iQ,iQ];simp;omega
    simp only[jQ,List.map_append,List.map_cons,List.map_nil,TF,List.length_append,List.length_cons,List.length_nil]at f1
    repeat' (first
 |simp only[go_sem,hD,gA,gB,gC,k1,k2,Qk,sS,hw3,d1,d2,cy]
 |(with_reducible refine CU (dL _) ?_)
 |(with_reducible refine CU (f1 (by with_unfolding_all rfl) (by with_unfolding_all rfl)) ?_)
 |(with_reducible refine CU (f2 (by with_unfolding_all rfl) (by with_unfolding_all rfl)) ?_)
 | (with_reducible refine aF hQ ?_;exact aP))
    refine eQ 2 3 ?_ ?_ (IH (rest,k+1,_) ⟨g2,h2,by dsimp only;rw[hl];omega⟩ (Nat.lt_succ_self _))
    ·(simp only[go_sem,hD,gA,gB,gC,sS,k1,k2];try exact bQ)
    ·(simp only[go_sem,hD,gA,gB,gC,sS,k1,k2];try exact bQ)
theorem aeB : ∀ N,N<1000000000→acM N:=by
 intro N
 induction N with
 |zero=>exact fun _ l proc up next loop out g ps lo hi b c h=>absurd h (Nat.not_lt_zero _)
 |succ N ih=>
  intro h l proc up next loop out g ps lo hi b c hs hc hg hp s o ho ht
  exact(amy (ih (by omega)) hs hc hg hp (by omega)).amx (by simp[D.bF,D.ok,Tag.ok,kY,D.jg]) hg hp ho ht
def gp (p:Pg):List D:= [.slice .shared 1 (p.globals.map encStr), .slice .shared 5 (p.procs.map bJ), .slice .shared 17 (p.bb.L.map dM), .slice .shared 1 (p.bb.lo.map cB), .slice .shared 1 (p.bb.hi.map cB)]
theorem qQ (p:Pg):gp p = [.slice .shared 1 (p.globals.map encStr), .slice .shared 5 (p.procs.map bJ), .slice .shared 17 (p.bb.L.map dM), .slice .shared 1 (p.bb.lo.map cB), .slice .shared 1 (p.bb.hi.map cB)]:=nd rfl
theorem wC (p:Pg):D.bF 0 0 (gp p)=true:=by simp[gp,D.bF,D.ok,Tag.ok,fK,yU,LH,jr]
theorem Nl (p:Pg):bK p = [.slice .shared 1 (p.globals.map encStr), .slice .shared 5 (p.procs.map bJ)]:=nd rfl
theorem amz {p:Pg} (hs:Pc.aS p.procs<1000000000):aH Tryz.prog my [.agg (bK p)] S0 (.ptr 1 0) ⟨[bK p,jQ (.slice .shared 1 (p.globals.map encStr)) (.slice .shared 5 (p.procs.map bJ)) p.bb.L p.bb.lo p.bb.hi],[some p.bb.L.length,some p.bb.lo.length,some p.bb.hi.length]⟩:=by
 have hlen:p.procs.length<1000000000:=by have:=Pc.dr p.procs;omega
 obtain⟨R,hR⟩ : ∃ R,R=p.bb:=⟨_,rfl⟩
 have hR':=hR
 unfold Pg.bb at hR'
 unfold S0
 rw[Nl, ← hR]
 refine aH.Wd 2 3 (Nat.zero_le _) (Nat.zero_le _) M9 rfl fun B Q hB hQ=>?_
 have⟨hD,gA,gB,gC⟩:=bP
 repeat' (first
 |simp only[go_sem,hD,gA,gB,gC,Nl]
 |(with_reducible refine aF hQ ?_;exact aP))
 refine bo.BI 1 2 17 rfl rfl ?_
 simp only[go_sem,hD,gA,gB,gC]
 refine bo.BI 1 3 1 rfl rfl ?_
 simp only[go_sem,hD,gA,gB,gC]
 refine bo.BI 1 4 1 rfl rfl ?_
 simp only[go_sem,hD,gA,gB,gC]
 refine eQ 2 3 ?_ ?_ (bo.ind (ι:=List Pc×Nat×Sh×Nat×Nat) (fun i=>p.procs.drop i.2.1=i.1∧Sh.go i.2.1 i.2.2.1 i.1=R∧i.2.2.1.L.length+Pc.aS i.1≤Pc.aS p.procs∧i.2.2.1.lo.length=i.2.1∧i.2.2.1.hi.length=i.2.1∧i.2.2.2.1=i.2.2.1.lo.length∧i.2.2.2.2=i.2.2.1.hi.length) (fun i=>i.1.length)
  (fun i=> [(1, .ptr 0 0),(3, .ptr 1 0),(10, .slice .shared 5 (p.procs.map bJ)),(11, .int .i64 (p.procs.length:Int)),(12, .int .i64 (i.2.1:Int))]) (fun i=>⟨[[.slice .shared 1 (p.globals.map encStr), .slice .shared 5 (p.procs.map bJ)],jQ (.slice .shared 1 (p.globals.map encStr)) (.slice .shared 5 (p.procs.map bJ)) i.2.2.1.L i.2.2.1.lo i.2.2.1.hi],[some i.2.2.1.L.length,some i.2.2.2.1,some i.2.2.2.2]⟩) ?_ (p.procs,0,⟨[],[],[]⟩,0,0) ⟨rfl,hR'.symm,by simp,rfl,rfl,rfl,rfl⟩)
 ·(simp only[go_sem,hD,gA,gB,gC,jQ];try exact bQ)
 ·(simp only[go_sem,hD,gA,gB,gC,jQ];try exact bQ)
 rintro⟨rest,k,h,n1,n2⟩ ⟨h1,h2,h3,h4,h5,h6,h7⟩ IH
 dsimp only at h1 h2 h3 h4 h5 h6 h7
 subst h6 h7
 cases rest with
 |nil=>
  have hD:=drop_nil h1
  simp only[Sh.go]at h2
  rw[← h2]at hQ
  repeat' (first
 |simp only[go_sem,hD,gA,gB,gC,jQ]
 |(with_reducible refine aF hQ ?_;exact aP))
 |cons f rest=>
  obtain⟨gA,g2,hD,g4⟩:=drop_cons h1
  have cd:k<4611686018427387904:=by omega
  simp only[Pc.aS,Pc.size]at h3
  simp only[Sh.go]at h2
  have c1:=pz f.body
  have gB:(h.lo.length+1)*9≤bp:=by unfold bp;omega
  have aut:(h.hi.length+1)*9≤bp:=by unfold bp;omega
  have Qk:IntKind.wrap .i64 ((h.L.length:Int)+1)=(h.L.length:Int)+1:=eB (by omega) (by omega)
  have hl:(Im.rows (k:Int) 0 (-1) 0 h.L f.body).length=h.L.length+Sm.jJ f.body:=iQ ..
  have sS:IntKind.wrap .i64 (((Im.rows (k:Int) 0 (-1) 0 h.L f.body).length:Int)+1)=((Im.rows (k:Int) 0 (-1) 0 h.L f.body).length:Int)+1:=eB (by omega) (by omega)
  have hr:=fun {s:St} {o:Nat}=>@aeB (Sm.aS f.body+1) (by omega) f.body (k:Int) 0 (-1) 0 h.L (.slice .shared 1 (p.globals.map encStr)) (.slice .shared 5 (p.procs.map bJ)) (h.lo++ [(h.L.length:Int)+1]) h.hi (some (h.lo.length+1)) (some h.hi.length) (Nat.lt_succ_self _) (by omega) (by simp[D.ok,Tag.ok,fK]) (by simp[D.ok,Tag.ok,yU]) s o
  simp only[jQ,List.map_append,List.map_cons,List.map_nil,cB]at hr
  repeat' (first
 |simp only[go_sem,hD,gA,gB,gC,Qk,sS,aut,jQ]
 |(with_reducible refine CU (hr (by with_unfolding_all rfl) (by with_unfolding_all rfl)) ?_)
 |(with_reducible refine aF hQ ?_;exact aP))
  refine eQ 2 3 ?_ ?_ (IH (rest,k+1,⟨Im.rows (k:Int) 0 (-1) 0 h.L f.body,h.lo++ [(h.L.length:Int)+1],h.hi++ [((Im.rows (k:Int) 0 (-1) 0 h.L f.body).length:Int)+1]⟩,_,_) ⟨g2,h2,by dsimp only;rw[hl];omega,by simp[h4],by simp[h5],by simp,by simp⟩ (Nat.lt_succ_self _))
  ·(simp only[go_sem,hD,gA,gB,gC,jQ,aM cd,List.map_append,List.map_cons,List.map_nil,cB];try exact bQ)
  ·(simp only[go_sem,hD,gA,gB,gC,jQ,aM cd,List.map_append,List.map_cons,List.map_nil,cB];try exact bQ)
theorem EP {p:Pg} (hs:Pc.aS p.procs<1000000000) (s:St):aH Tryz.prog my [.agg (bK p)] s (.dN (gp p) 0) s:=by
 refine aH.pure ?_ (by simp only[D.bF,D.ok,iP];rfl) (by simp only[D.ok,wC]) s
 have h:=(amz hs).Dd (n:=0) (m:=0) rfl (Nat.le_refl _) (Nat.zero_le _) (Nat.le_refl _)
 simpa[D.iF,D.fg,Tag.fg,MS,abU,acK,Wq,St.cut,gp,S0]using h
def j7 (x:aK) (k:Int):List aK→Int
 | []=> -1
 |s::l=>if x==s then k else j7 x (k+1) l
def fH (l:List aK) (x:aK):Bool:=decide (j7 x 0 l≥0)
def mC {α:Type} (b:α→Bool) (k:Int):List α→Int
 | []=> -1
 |s::l=>if b s then k else mC b (k+1) l
theorem Ql (x:aK) : ∀ (l:List aK) (k:Int),0≤k→(j7 x k l≥0↔x∈l)
 | [],k,h=>by simp[j7]
 | s::l,k,h=>by
  by_cases e:x=s
  ·simp[j7,e];omega
  ·have e':(x==s)=false:=by simp [e]
   simp only[j7,e',Bool.false_eq_true,if_false,List.mem_cons,e,false_or]
   exact Ql x l (k+1) (by omega)
theorem fx (l:List aK) (x:aK):fH l x=true↔x∈l:=by
 simp only[fH,decide_eq_true_eq];exact Ql x l 0 (Int.le_refl 0)
theorem Jr {α:Type} (b:α→Bool) : ∀ (l:List α) (k:Int),0≤k→(mC b k l≥0↔l.any b=true)
 | [],k,h=>by simp[mC]
 | s::l,k,h=>by
  by_cases e:b s=true
  ·simp[mC,e];omega
  ·have e':b s=false:=by simpa using e
   simp only[mC,e',Bool.false_eq_true,if_false,List.any_cons,Bool.or_eq_true,false_or]
   exact Jr b l (k+1) (by omega)
theorem ER {l:List aK} (hl:l.length<4611686018427387904) (x:aK) (s:St):aH Tryz.prog ig [.slice .shared 1 (l.map encStr), .str x] s (.int .i64 (j7 x 0 l)) s:=by
 refine aH.pure ?_ (by simp[D.bF,D.ok,Tag.ok,fK]) rfl s
 generalize h:j7 x 0 l=p
 unfold S0
 refine aH.go yz rfl fun B Q hB hQ=>?_
 have⟨hD,gA,gB,gC⟩:=bP
 repeat' (first
 |simp only[go_sem,hD,gA,gB,gC]
 |(with_reducible first|refine dU fun hc=>?_|refine dV fun hc=>?_|refine dW (fun hc=>?_) fun hc=>?_)<;>(try simp only[hc,bs,↓reduceIte]at h)<;>try simp only[hc]
 |(with_reducible refine aF hQ ?_;exact kC))
 refine fz 0 0 (bo.ind (ι:=List aK×Nat) (fun i=>l.drop i.2=i.1∧j7 x (i.2:Int) i.1=p) (fun i=>i.1.length)
  (fun i=> [(0, .slice .shared 1 (l.map encStr)),(1, .str x),(7, .int .i64 (l.length:Int)),(8, .int .i64 (i.2:Int))]) (fun i=>⟨[],[]⟩) ?_ (l,0) ⟨rfl,h⟩)
 rintro⟨rest,k⟩ ⟨h1,h⟩ IH
 dsimp only at h1 h
 cases rest with
 |nil=>
  have hD:=drop_nil h1
  simp only[j7]at h
  repeat' (first
 |simp only[go_sem,hD,gA,gB,gC]
 |(with_reducible first|refine dU fun hc=>?_|refine dV fun hc=>?_|refine dW (fun hc=>?_) fun hc=>?_)<;>(try simp only[hc,bs,↓reduceIte]at h)<;>try simp only[hc]
 |(with_reducible refine aF hQ ?_;exact kC))
 |cons a rest=>
  obtain⟨gA,g2,hD,g4⟩:=drop_cons h1
  have cd:k<4611686018427387904:=by omega
  simp only[j7]at h
  repeat' (first
 |simp only[go_sem,hD,gA,gB,gC]
 |(with_reducible first|refine dU fun hc=>?_|refine dV fun hc=>?_|refine dW (fun hc=>?_) fun hc=>?_)<;>(try simp only[hc,bs,↓reduceIte]at h)<;>try simp only[hc]
 |(with_reducible refine aF hQ ?_;exact kC))
  refine eQ 0 0 ?_ ?_ (IH (rest,k+1) ⟨g2,h⟩ (Nat.lt_succ_self _))
  ·(simp only[go_sem,hD,gA,gB,gC,aM cd];try exact bQ)
  ·(simp only[go_sem,hD,gA,gB,gC,aM cd];try exact bQ)
theorem tR {l:List aK} (hl:l.length<4611686018427387904) (x:aK) (s:St):aH Tryz.prog cT [.slice .shared 1 (l.map encStr), .str x] s (.bool (fH l x)) s:=by
 refine aH.pure ?_ (by simp[D.bF,D.ok,Tag.ok,fK]) rfl s
 have hi:=fun s=>ER hl x s
 unfold S0
 refine aH.go wA rfl fun B Q hB hQ=>?_
 have⟨hD,gA,gB,gC⟩:=bP
 repeat' (first
 |simp only[go_sem,hD,gA,gB,gC,fH]
 |(with_reducible refine CU (hi _) ?_)
 |(with_reducible first|refine dU fun hc=>?_|refine dV fun hc=>?_|refine dW (fun hc=>?_) fun hc=>?_)<;>(try simp only[hc,bs,↓reduceIte]at h)<;>try simp only[hc]
 |(with_reducible refine aF hQ ?_;simp only[cZ,da,eK,eO,go_sem,hD,gA,gB,gC,fH];try exact iI))
theorem aH.wk1 {P:Program} {f:Nat} {d d':D} {r:List D} {s s':St} {x:D} (h:aH P f (d'::r) s x s') (hw:Wk d d'):aH P f (d::r) s x s':=bS.sy (.cons hw (kv.refl r)) h
theorem kL {l:List aK} (hl:l.length<4611686018427387904) (x:aK) (g:Tag) (s:St):aH Tryz.prog cT [.slice g 1 (l.map encStr), .str x] s (.bool (fH l x)) s:=
 (tR hl x s).wk1 (Wk.shared _ _ _)
theorem Nn (x:aK) (z:Nat) (g:Tag) (s:St):aH Tryz.prog cT [.slice g z [], .str x] s (.bool false) s:=
 (tR (l:= []) (by simp) x s).wk1 (Wk.nil _ _ _)
theorem DX {l:List aK} (hl:l.length<4611686018427387904) {f:Nat} {row:List D} {b:aK→Bool} (wQ:D.bF 0 0 row=true) (he:enters Tryz.prog f=true)
 (hb : ∀ x∈l,aH Tryz.prog f ([.str x]++ [.ptr 0 0]) ⟨[row],[]⟩ (.bool (b x)) ⟨[row],[]⟩) :
 aH Tryz.prog mz [.slice .shared 1 (l.map encStr), .ix f [.ptr 0 0]] ⟨[row],[]⟩ (.int .i64 (mC b 0 l)) ⟨[row],[]⟩:=by
 generalize h:mC b 0 l=p
 have k1 : ∀ n m,D.iF n m row=row:=fun n m=>jk n m _ wQ
 refine aH.go vQ rfl fun B Q hB hQ=>?_
 have⟨hD,gA,gB,gC⟩:=bP
 repeat' (first
 |simp only[go_sem,hD,gA,gB,gC,k1]
 |(with_reducible first|refine dU fun hc=>?_|refine dV fun hc=>?_|refine dW (fun hc=>?_) fun hc=>?_)<;>(try simp only[hc,bs,↓reduceIte]at h)<;>try simp only[hc]
 |(with_reducible refine aF hQ ?_;(try cases h);simp only[cZ,da,eK,eO,go_sem,hD,gA,gB,gC,k1];try exact iI))
 refine eQ 1 0 ?_ ?_ (bo.ind (ι:=List aK×Nat) (fun i=>l.drop i.2=i.1∧mC b (i.2:Int) i.1=p) (fun i=>i.1.length)
  (fun i=> [(0, .slice .shared 1 (l.map encStr)),(1, .ix f [.ptr 0 0]),(7, .int .i64 (l.length:Int)),(8, .int .i64 (i.2:Int))]) (fun i=>⟨[row],[]⟩) ?_ (l,0) ⟨rfl,h⟩)
 ·(simp only[go_sem,hD,gA,gB,gC,k1];try exact bQ)
 ·(simp only[go_sem,hD,gA,gB,gC,k1];try exact bQ)
 rintro⟨rest,k⟩ ⟨h1,h⟩ IH
 dsimp only at h1 h
 cases rest with
 |nil=>
  have hD:=drop_nil h1
  simp only[mC]at h
  repeat' (first
 |simp only[go_sem,hD,gA,gB,gC,k1]
 |(with_reducible first|refine dU fun hc=>?_|refine dV fun hc=>?_|refine dW (fun hc=>?_) fun hc=>?_)<;>(try simp only[hc,bs,↓reduceIte]at h)<;>try simp only[hc]
 |(with_reducible refine aF hQ ?_;(try cases h);simp only[cZ,da,eK,eO,go_sem,hD,gA,gB,gC,k1];try exact iI))
 |cons a rest=>
  obtain⟨gA,g2,hD,g4⟩:=drop_cons h1
  have cd:k<4611686018427387904:=by omega
  have hba:=hb a (List.mem_of_getElem? gA)
  simp only[mC]at h
  repeat' (first
 |simp only[go_sem,hD,gA,gB,gC,k1]
 |(with_reducible refine CV.use (he) (hba) ?_)
 |(with_reducible first|refine dU fun hc=>?_|refine dV fun hc=>?_|refine dW (fun hc=>?_) fun hc=>?_)<;>(try simp only[hc,bs,↓reduceIte]at h)<;>try simp only[hc]
 |(with_reducible refine aF hQ ?_;(try cases h);simp only[cZ,da,eK,eO,go_sem,hD,gA,gB,gC,k1];try exact iI))
  refine eQ 1 0 ?_ ?_ (IH (rest,k+1) ⟨g2,h⟩ (Nat.lt_succ_self _))
  ·(simp only[go_sem,hD,gA,gB,gC,k1,aM cd];try exact bQ)
  ·(simp only[go_sem,hD,gA,gB,gC,k1,aM cd];try exact bQ)
theorem DY {P:Program} {g f:Nat} {row:List D} {rows:List (List D)} {z:Nat} {d:D} (h:aH P g [.slice .shared z rows, .ix f [.ptr 0 0]] ⟨[row],[]⟩ d ⟨[row],[]⟩) (wQ:D.bF 0 0 row=true) (hw:D.jg 0 0 rows=true) (hd:D.ok 0 0 d=true) {s:St} {o:Nat} (ho:s.aj[o]? = some row) :
 aH P g [.slice .shared z rows, .ix f [.ptr o 0]] s d s:=by
 refine bS.frame [o] [] h (by simp) List.nodup_nil (by simpa using (List.getElem?_eq_some_iff.1 ho).1) (by simp) rfl (fun i o' ds e1 e2=>?_) rfl (by simp) (by simp[D.fc,D.cO,Tag.cO,ke _ _ _ hw])
  (by simp[D.bF,D.ok,Tag.ok,oa (Nat.zero_le 1) (Nat.le_refl 0) _ hw]) ?_
 ·cases i with
  |zero=>simp at e1 e2;subst e1;subst e2;exact⟨by rw[fW _ _ _ wQ];exact ho,jt (Nat.zero_le 1) (Nat.le_refl 0) _ wQ⟩
  |succ i=>simp at e1
 ·rintro _ _ ⟨rfl,rfl⟩
  refine⟨sA _ _ _ hd, ?_⟩
  have:s.aj.set o row=s.aj:=by
   apply List.ext_getElem?
   intro i
   rw[List.getElem?_set]
   split
   ·rename_i e;subst e;rw [ho];split
    ·rfl
    ·rename_i hh;exact absurd (List.getElem?_eq_some_iff.1 ho).1 hh
   ·rfl
  simp[St.back,lF,fW _ _ _ wQ,this]
theorem Bb {l:List aK} (hl:l.length<4611686018427387904) {f:Nat} {row:List D} {b:aK→Bool} (wQ:D.bF 0 0 row=true) (he:enters Tryz.prog f=true)
 (hb : ∀ x∈l,aH Tryz.prog f ([.str x]++ [.ptr 0 0]) ⟨[row],[]⟩ (.bool (b x)) ⟨[row],[]⟩) :
 aH Tryz.prog ij [.slice .shared 1 (l.map encStr), .ix f [.ptr 0 0]] ⟨[row],[]⟩ (.bool (l.any b)) ⟨[row],[]⟩:=by
 have k1 : ∀ n m,D.iF n m row=row:=fun n m=>jk n m _ wQ
 have hi:=DX hl wQ he hb
 have e:decide (mC b 0 l≥0)=l.any b:=by
  have:=Jr b l 0 (Int.le_refl 0)
  cases hh:l.any b<;>simp_all
 refine aH.go tQ rfl fun B Q hB hQ=>?_
 have⟨hD,gA,gB,gC⟩:=bP
 repeat' (first
 |simp only[go_sem,hD,gA,gB,gC,k1,e]
 |(with_reducible refine CU (hi) ?_)
 |(with_reducible first|refine dU fun hc=>?_|refine dV fun hc=>?_|refine dW (fun hc=>?_) fun hc=>?_)<;>(try simp only[hc,bs,↓reduceIte]at h)<;>try simp only[hc]
 |(with_reducible refine aF hQ ?_;simp only[cZ,da,eK,eO,go_sem,hD,gA,gB,gC,k1,e];try exact iI))
theorem Bc {l:List aK} (hl:l.length<4611686018427387904) {f:Nat} {row:List D} {b:aK→Bool} (wQ:D.bF 0 0 row=true) (he:enters Tryz.prog f=true)
 (hb : ∀ x∈l,aH Tryz.prog f ([.str x]++ [.ptr 0 0]) ⟨[row],[]⟩ (.bool (b x)) ⟨[row],[]⟩) {s:St} {o:Nat} (ho:s.aj[o]? = some row) :
 aH Tryz.prog ij [.slice .shared 1 (l.map encStr), .ix f [.ptr o 0]] s (.bool (l.any b)) s:=
 DY (Bb hl wQ he hb) wQ (fK l) rfl ho
theorem xX {l:List Pc} (hl:l.length<4611686018427387904) {f:Nat} {row:List D} {b:Pc→Bool} (wQ:D.bF 0 0 row=true) (he:enters Tryz.prog f=true)
 (hb : ∀ x∈l,aH Tryz.prog f ([.agg (bJ x)]++ [.ptr 0 0]) ⟨[row],[]⟩ (.bool (b x)) ⟨[row],[]⟩) :
 aH Tryz.prog iy [.slice .shared 5 (l.map bJ), .ix f [.ptr 0 0]] ⟨[row],[]⟩ (.int .i64 (mC b 0 l)) ⟨[row],[]⟩:=by
 generalize h:mC b 0 l=p
 have k1 : ∀ n m,D.iF n m row=row:=fun n m=>jk n m _ wQ
 refine aH.go um rfl fun B Q hB hQ=>?_
 have⟨hD,gA,gB,gC⟩:=bP
 repeat' (first
 |simp only[go_sem,hD,gA,gB,gC,k1]
 |(with_reducible first|refine dU fun hc=>?_|refine dV fun hc=>?_|refine dW (fun hc=>?_) fun hc=>?_)<;>(try simp only[hc,bs,↓reduceIte]at h)<;>try simp only[hc]
 |(with_reducible refine aF hQ ?_;(try cases h);simp only[cZ,da,eK,eO,go_sem,hD,gA,gB,gC,k1];try exact iI))
 refine eQ 1 0 ?_ ?_ (bo.ind (ι:=List Pc×Nat) (fun i=>l.drop i.2=i.1∧mC b (i.2:Int) i.1=p) (fun i=>i.1.length)
  (fun i=> [(0, .slice .shared 5 (l.map bJ)),(1, .ix f [.ptr 0 0]),(7, .int .i64 (l.length:Int)),(8, .int .i64 (i.2:Int))]) (fun i=>⟨[row],[]⟩) ?_ (l,0) ⟨rfl,h⟩)
 ·(simp only[go_sem,hD,gA,gB,gC,k1];try exact bQ)
 ·(simp only[go_sem,hD,gA,gB,gC,k1];try exact bQ)
 rintro⟨rest,k⟩ ⟨h1,h⟩ IH
 dsimp only at h1 h
 cases rest with
 |nil=>
  have hD:=drop_nil h1
  simp only[mC]at h
  repeat' (first
 |simp only[go_sem,hD,gA,gB,gC,k1]
 |(with_reducible first|refine dU fun hc=>?_|refine dV fun hc=>?_|refine dW (fun hc=>?_) fun hc=>?_)<;>(try simp only[hc,bs,↓reduceIte]at h)<;>try simp only[hc]
 |(with_reducible refine aF hQ ?_;(try cases h);simp only[cZ,da,eK,eO,go_sem,hD,gA,gB,gC,k1];try exact iI))
 |cons a rest=>
  obtain⟨gA,g2,hD,g4⟩:=drop_cons h1
  have cd:k<4611686018427387904:=by omega
  have hba:=hb a (List.mem_of_getElem? gA)
  simp only[mC]at h
  repeat' (first
 |simp only[go_sem,hD,gA,gB,gC,k1]
 |(with_reducible refine CV.use (he) (hba) ?_)
 |(with_reducible first|refine dU fun hc=>?_|refine dV fun hc=>?_|refine dW (fun hc=>?_) fun hc=>?_)<;>(try simp only[hc,bs,↓reduceIte]at h)<;>try simp only[hc]
 |(with_reducible refine aF hQ ?_;(try cases h);simp only[cZ,da,eK,eO,go_sem,hD,gA,gB,gC,k1];try exact iI))
  refine eQ 1 0 ?_ ?_ (IH (rest,k+1) ⟨g2,h⟩ (Nat.lt_succ_self _))
  ·(simp only[go_sem,hD,gA,gB,gC,k1,aM cd];try exact bQ)
  ·(simp only[go_sem,hD,gA,gB,gC,k1,aM cd];try exact bQ)
theorem C6 {l:List Pc} (hl:l.length<4611686018427387904) {f:Nat} {row:List D} {b:Pc→Bool} (wQ:D.bF 0 0 row=true) (he:enters Tryz.prog f=true)
 (hb : ∀ x∈l,aH Tryz.prog f ([.agg (bJ x)]++ [.ptr 0 0]) ⟨[row],[]⟩ (.bool (b x)) ⟨[row],[]⟩) :
 aH Tryz.prog iZ [.slice .shared 5 (l.map bJ), .ix f [.ptr 0 0]] ⟨[row],[]⟩ (.bool (l.any b)) ⟨[row],[]⟩:=by
 have k1 : ∀ n m,D.iF n m row=row:=fun n m=>jk n m _ wQ
 have hi:=xX hl wQ he hb
 have e:decide (mC b 0 l≥0)=l.any b:=by
  have:=Jr b l 0 (Int.le_refl 0)
  cases hh:l.any b<;>simp_all
 refine aH.go sD rfl fun B Q hB hQ=>?_
 have⟨hD,gA,gB,gC⟩:=bP
 repeat' (first
 |simp only[go_sem,hD,gA,gB,gC,k1,e]
 |(with_reducible refine CU (hi) ?_)
 |(with_reducible first|refine dU fun hc=>?_|refine dV fun hc=>?_|refine dW (fun hc=>?_) fun hc=>?_)<;>(try simp only[hc,bs,↓reduceIte]at h)<;>try simp only[hc]
 |(with_reducible refine aF hQ ?_;simp only[cZ,da,eK,eO,go_sem,hD,gA,gB,gC,k1,e];try exact iI))
mutual
def Sm.pre:Sm→List Sm
 |⟨id,kind,labels,name,pc,x,has,args,aO,aN⟩=>⟨id,kind,labels,name,pc,x,has,args,aO,aN⟩::(Sm.bH aO++Sm.bH aN)
def Sm.bH:List Sm→List Sm
 | []=> []
 |s::l=>s.pre++Sm.bH l
end
def Pg.pre (p:Pg):List Sm:=(p.procs.map fun f=>Sm.bH f.body).flatten
theorem Sm.np (s:Sm):s.pre=s::(Sm.bH s.aO++Sm.bH s.aN):=by cases s;simp only[Sm.pre]
mutual
theorem aeC (proc up next loop:Int) (out:List Im) : ∀ s:Sm,∃ e:List Im,Im.one proc up next loop out s=out++e∧e.map Im.s=s.pre
 |⟨id,kind,labels,name,pc,x,has,args,aO,aN⟩=>by
  simp only[Im.one,Sm.pre]
  obtain⟨e1,h1,k1⟩:=BW proc ((out.length:Int)+1) (if kind==6 then(out.length:Int)+1 else next) (if kind==6 then(out.length:Int)+1 else loop) (out++ [⟨⟨id,kind,labels,name,pc,x,has,args,aO,aN⟩,proc,up,next,loop⟩]) aO
  obtain⟨e2,h2,k2⟩:=BW proc ((out.length:Int)+1) (if kind==6 then(out.length:Int)+1 else next) (if kind==6 then(out.length:Int)+1 else loop) (Im.rows proc ((out.length:Int)+1) (if kind==6 then(out.length:Int)+1 else next) (if kind==6 then(out.length:Int)+1 else loop) (out++ [⟨⟨id,kind,labels,name,pc,x,has,args,aO,aN⟩,proc,up,next,loop⟩]) aO) aN
  refine⟨⟨⟨id,kind,labels,name,pc,x,has,args,aO,aN⟩,proc,up,next,loop⟩::(e1++e2), ?_, ?_⟩
  ·rw[h2,h1];simp
  ·simp[k1,k2]
theorem BW (proc up next loop:Int) (out:List Im) : ∀ l:List Sm,∃ e:List Im,Im.rows proc up next loop out l=out++e∧e.map Im.s=Sm.bH l
 | []=>⟨[],by simp[Im.rows],rfl⟩
 |s::l=>by
  simp only[Im.rows,Sm.bH]
  obtain⟨e1,h1,k1⟩:=aeC proc up (if l.length=0 then next else(out.length:Int)+1+(s.kE:Int)) loop out s
  obtain⟨e2,h2,k2⟩:=BW proc up next loop (Im.one proc up (if l.length=0 then next else(out.length:Int)+1+(s.kE:Int)) loop out s) l
  refine⟨e1++e2, ?_,by simp[k1,k2]⟩
  rw[h2,h1];simp
end
theorem Ws : ∀ (l:List Pc) (n:Nat) (h:Sh),h.lo.length=n→h.hi.length=n→
 ∃ e lo hi,Sh.go n h l = ⟨h.L++e,h.lo++lo,h.hi++hi⟩∧e.map Im.s=(l.map fun f=>Sm.bH f.body).flatten∧lo.length=l.length∧hi.length=l.length∧
  ∀ (i:Nat) (f:Pc),l[i]? = some f→∃ a b e' PW:List Im,lo[i]? = some (((h.L++a).length:Int)+1)∧hi[i]? = some (((h.L++a++b).length:Int)+1)∧b.map Im.s=Sm.bH f.body∧e=a++b++e'
 | [],n,h,hl,hh=>⟨[],[],[],by simp[Sh.go],rfl,rfl,rfl,fun i f h=>by simp at h⟩
 | f::l,n,h,hl,hh=>by
  simp only[Sh.go]
  obtain⟨e1,h1,k1⟩:=BW (n:Int) 0 (-1) 0 h.L f.body
  obtain⟨e2,lo,hi,h2,k2,h3,h4,h5⟩:=Ws l (n+1) ⟨Im.rows (n:Int) 0 (-1) 0 h.L f.body,h.lo++ [(h.L.length:Int)+1],h.hi++ [((Im.rows (n:Int) 0 (-1) 0 h.L f.body).length:Int)+1]⟩ (by simp[hl]) (by simp[hh])
  refine⟨e1++e2,((h.L.length:Int)+1)::lo,(((Im.rows (n:Int) 0 (-1) 0 h.L f.body).length:Int)+1)::hi, ?_,by simp[k1,k2],by simp[h3],by simp[h4],fun i g iH=>?_⟩
  ·rw[h2,h1];simp
  ·cases i with
   |zero=>
    simp only[List.getElem?_cons_zero,Option.some.injEq]at iH
    subst iH
    exact⟨[],e1,e2,[],by simp,by rw[h1];simp,k1,by simp⟩
   |succ i=>
    simp only[List.getElem?_cons_succ]at iH
    obtain⟨a,b,e',PW,g1,g2,g3,g4⟩:=h5 i g iH
    refine⟨e1++a,b,e',PW, ?_, ?_,g3,by rw[g4];simp⟩
    ·rw[List.getElem?_cons_succ,g1,h1];simp
    ·rw[List.getElem?_cons_succ,g2,h1];simp
theorem kW (p:Pg):p.bb.L.map Im.s=p.pre∧∀ (i:Nat) (f:Pc),p.procs[i]? = some f→∃ a b e:List Im,p.bb.lo[i]? = some ((a.length:Int)+1)∧p.bb.hi[i]? = some (((a++b).length:Int)+1)∧b.map Im.s=Sm.bH f.body∧p.bb.L=a++b++e:=by
 obtain⟨e,lo,hi,h1,h2,h3,h4,h5⟩:=Ws p.procs 0 ⟨[],[],[]⟩ rfl rfl
 unfold Pg.bb
 rw[h1]
 refine⟨by simpa[Pg.pre]using h2,fun i f hf=>?_⟩
 obtain⟨a,b,e',_,g1,g2,g3,g4⟩:=h5 i f hf
 exact⟨a,b,e',by simpa using g1,by simpa using g2,g3,by simpa using g4⟩
def Pg.at (p:Pg) (name:aK):Int:=mC (fun f:Pc=>f.name==name) 0 p.procs
theorem aeD (name:aK) (f:Pc):aH Tryz.prog nw ([.agg (bJ f)]++ [.ptr 0 0]) ⟨[[.str name]],[]⟩ (.bool (f.name==name)) ⟨[[.str name]],[]⟩:=by
 show aH Tryz.prog nw [.agg (bJ f), .ptr 0 0] _ _ _
 refine aH.go AZ rfl fun B Q hB hQ=>?_
 have⟨hD,gA,gB,gC⟩:=bP
 repeat' (first
 |simp only[go_sem,hD,gA,gB,gC]
 |(with_reducible refine aF hQ ?_;exact aP))
theorem HN {p:Pg} (hs:p.procs.length<4611686018427387904) (name:aK) (s:St):aH Tryz.prog jv [.dN (gp p) 0, .str name] s (.int .i64 (p.at name)) s:=by
 refine aH.pure ?_ (by simp[D.bF,D.ok,wC]) rfl s
 have hi:=fun {s:St} {o:Nat} (ho:s.aj[o]? = some [.str name])=>DY (xX (l:=p.procs) (f:=nw) (row:= [.str name]) (b:=fun f:Pc=>f.name==name) hs rfl (by with_unfolding_all rfl) (fun x _=>aeD name x)) rfl (yU _) rfl ho
 have iH:=fun {s:St} {o:Nat} (ho:s.aj[o]? = some [.str name])=>(show aH Tryz.prog iy [.slice .shared 5 (p.procs.map bJ), .ix 76 [.ptr o 0]] s (.int .i64 (p.at name)) s from hi ho)
 unfold S0
 rw[qQ]
 refine aH.go C4 rfl fun B Q hB hQ=>?_
 have⟨hD,gA,gB,gC⟩:=bP
 repeat' (first
 |simp only[go_sem,hD,gA,gB,gC]
 |(with_reducible refine CU (iH (by with_unfolding_all rfl)) ?_)
 |(with_reducible refine aF hQ ?_;exact aP))
theorem Wt : ∀ (l:List Pc) (n:Nat) (h:Sh),(Sh.go n h l).L.length≤h.L.length+Pc.aS l
 | [],n,h=>by simp[Sh.go]
 |f::l,n,h=>by
  simp only[Sh.go]
  refine Nat.le_trans (Wt l _ _) ?_
  have:=iQ (n:Int) 0 (-1) 0 h.L f.body
  have:=pz f.body
  simp only[Pc.aS,Pc.size];omega
theorem qR (p:Pg):p.bb.L.length≤Pc.aS p.procs:=by have:=Wt p.procs 0 ⟨[],[],[]⟩;simpa[Pg.bb]using this
theorem aib {p:Pg} {i:Nat} (hs:Pc.aS p.procs<1000000000) {a b e:List Im} (h1:p.bb.lo[i]? = some ((a.length:Int)+1)) (h2:p.bb.hi[i]? = some (((a++b).length:Int)+1)) (h4:p.bb.L=a++b++e) (s:St) :
 aH Tryz.prog iY [.dN (gp p) 0, .int .i64 (i:Int)] s (.slice .shared 17 (b.map dM)) s:=by
 refine aH.pure ?_ (by simp[D.bF,D.ok,wC]) (by simp[D.ok,Tag.ok,LH]) s
 have hL:p.bb.L.length<1000000000:=Nat.lt_of_le_of_lt (qR p) hs
 have l1:(i:Int)<(p.bb.lo.length:Int):=by have:=(List.getElem?_eq_some_iff.1 h1).1;omega
 have l2:(i:Int)<(p.bb.hi.length:Int):=by have:=(List.getElem?_eq_some_iff.1 h2).1;omega
 have hab:a.length+b.length≤p.bb.L.length:=by rw[h4];simp
 have w1:IntKind.wrap .i64 ((a.length:Int)+1 - 1)=(a.length:Int):=by rw[show(a.length:Int)+1 - 1=(a.length:Int) by omega];exact eB (by omega) (by omega)
 have w2:IntKind.wrap .i64 (((a.length+b.length:Nat):Int)+1 - 1)=((a.length+b.length:Nat):Int):=by rw[show((a.length+b.length:Nat):Int)+1 - 1=((a.length+b.length:Nat):Int) by omega];exact eB (by omega) (by omega)
 have c1:((a.length:Int)≤((a.length+b.length:Nat):Int))=True:=by simp only[eq_iff_iff,iff_true];omega
 have c2:(((a.length+b.length:Nat):Int)≤(p.bb.L.length:Int))=True:=by simp only[eq_iff_iff,iff_true];omega
 have hb:List.drop a.length (List.take (a.length+b.length) (List.map dM p.bb.L))=List.map dM b:=by rw[h4];simp[List.map_append,List.take_append,List.drop_append]
 unfold S0
 rw[qQ]
 refine aH.go Fj rfl fun B Q hB hQ=>?_
 have⟨hD,gA,gB,gC⟩:=bP
 repeat' (first
 |simp only[go_sem,hD,gA,gB,gC,h1,h2,List.length_append,w1,w2,c1,c2,or_true,true_and,and_self,ite_self,Int.toNat_natCast,hb]
 |(with_reducible first|refine dU fun hc=>?_|refine dV fun hc=>?_|refine dW (fun hc=>?_) fun hc=>?_)<;>(try simp only[hc,bs,↓reduceIte]at h)<;>try simp only[hc]
 |(with_reducible refine aF hQ ?_;(try cases h);simp only[cZ,da,eK,eO,go_sem,hD,gA,gB,gC,h1,h2,List.length_append,w1,w2,c1,c2,or_true,true_and,and_self,ite_self,Int.toNat_natCast,hb];try exact iI)
 |(cases h;done))
theorem ZW {p:Pg} {i:Nat} {f:Pc} (hf:p.procs[i]? = some f) (hs:Pc.aS p.procs<1000000000) : ∃ it:List Im,it.map Im.s=Sm.bH f.body∧∀ s,aH Tryz.prog iY [.dN (gp p) 0, .int .i64 (i:Int)] s (.slice .shared 17 (it.map dM)) s:=by
 obtain⟨a,b,e,h1,h2,h3,h4⟩:=(kW p).2 i f hf
 exact⟨b,h3,aib hs h1 h2 h4⟩
theorem Kd {r:aK} : EO r=true↔qP r=r.length:=by
 induction r with
 |nil=>simp[EO,qP]
 |cons c r ih=>
  simp only[EO,qP]
  cases h1:DW c<;>cases h2:HL c<;>simp[ih]
theorem DZ (t:aK) (hl:t.length<4611686018427387904) (s:St):aH Tryz.prog pK [.str t] s (.bool (isName t)) s:=by
 refine aH.pure ?_ rfl rfl s
 have hr:=fun s=>ams (pos:=0) hl s
 simp only[List.drop_zero,Nat.zero_add]at hr
 unfold S0
 cases t with
 |nil=>
  have z:decide (((0:Nat):Int)<1)=true:=rfl
  have z':decide ((0:Int)<1)=true:=rfl
  have e:isName [] = false:=rfl
  rw[e]
  refine aH.go oT rfl fun B Q hB hQ=>?_
  have⟨hD,gA,gB,gC⟩:=bP
  repeat' (first
 |simp only[go_sem,hD,gA,gB,gC,z,z']
 |(with_reducible refine aF hQ ?_;exact aP))
 | cons c r=>
  have l1:decide (((r.length+1:Nat):Int)<1)=false:=by simp;omega
  generalize h:isName (c::r)=p
  simp only[isName]at h
  cases hL:DW c
  ·simp only [hL,Bool.not_false,Bool.or_true, ↓reduceIte]at h
   subst h
   by_cases c8:decide (((r.length+1:Nat):Int) > 8)=true
   ·refine aH.go oT rfl fun B Q hB hQ=> ?_
    have⟨hD,gA,gB,gC⟩:=bP
    repeat' (first
 |simp only[go_sem,hD,gA,gB,gC,l1,c8]
 | (with_reducible refine aF hQ ?_;exact aP))
   ·have c8:decide (((r.length+1:Nat):Int) > 8)=false:=by simpa using c8
    refine aH.go oT rfl fun B Q hB hQ=>?_
    have⟨hD,gA,gB,gC⟩:=bP
    repeat' (first
 |simp only[go_sem,hD,gA,gB,gC,l1,c8,hL]
 |(with_reducible refine CU (uR _ _) ?_)
 | (with_reducible refine aF hQ ?_;exact aP))
  ·simp only [hL,Bool.not_true,Bool.or_false]at h
   by_cases c8:decide (((r.length+1:Nat):Int) > 8)=true
   ·simp only [c8, ↓reduceIte]at h
    subst h
    refine aH.go oT rfl fun B Q hB hQ=>?_
    have⟨hD,gA,gB,gC⟩:=bP
    repeat' (first
 |simp only[go_sem,hD,gA,gB,gC,l1,c8]
 | (with_reducible refine aF hQ ?_;exact aP))
   ·have c8:decide (((r.length+1:Nat):Int) > 8)=false:=by simpa using c8
    simp only[c8,Bool.false_eq_true,↓reduceIte]at h
    have ew:qP (c::r)=qP r+1:=by simp[qP,hL]
    cases hn:EO r
    ·simp only [hn,Bool.false_eq_true, ↓reduceIte]at h
     have:qP r≠r.length:=fun e=>by rw[Kd.2 e]at hn;cases hn
     have e:(((qP (c::r):Nat):Int)==((r.length+1:Nat):Int))=false:=by rw[ew];simp;omega
     subst h
     refine aH.go oT rfl fun B Q hB hQ=>?_
     have⟨hD,gA,gB,gC⟩:=bP
     repeat' (first
 |simp only[go_sem,hD,gA,gB,gC,l1,c8,hL,e]
 |(with_reducible refine CU (uR _ _) ?_)
 |(with_reducible refine CU (hr _) ?_)
 | (with_reducible refine aF hQ ?_;exact aP))
    ·simp only [hn, ↓reduceIte]at h
     have:=Kd.1 hn
     have e:(((qP (c::r):Nat):Int)==((r.length+1:Nat):Int))=true:=by rw[ew];simp;omega
     subst h
     refine aH.go oT rfl fun B Q hB hQ=>?_
     have⟨hD,gA,gB,gC⟩:=bP
     repeat' (first
 |simp only[go_sem,hD,gA,gB,gC,l1,c8,hL,e]
 |(with_reducible refine CU (uR _ _) ?_)
 |(with_reducible refine CU (hr _) ?_)
 |(with_reducible refine CU (ah4 _ _) ?_)
 |(with_reducible refine aF hQ ?_;exact aP))
theorem Qm (op:Int) (s:St):aH Tryz.prog z6 [.int .i64 op] s (.int .i64 (p7 op)) s:=by
 refine aH.pure ?_ rfl rfl s
 unfold S0
 generalize h:p7 op=p
 unfold p7 at h
 refine aH.go Li rfl fun B Q hB hQ=>?_
 have⟨hD,gA,gB,gC⟩:=bP
 repeat' (first
 |simp only[go_sem,hD,gA,gB,gC]
 |(with_reducible first|refine dU fun hc=>?_|refine dV fun hc=>?_|refine dW (fun hc=>?_) fun hc=>?_)<;>(try simp only[hc,bs,↓reduceIte]at h)<;>try simp only[hc]
 |(with_reducible refine aF hQ ?_;exact kC))
theorem BX {l:List aK} (hl:l.length<4611686018427387904) (hs : ∀ t∈l,t.length<4611686018427387904) (s:St):aH Tryz.prog oP [.slice .shared 1 (l.map encStr)] s (.bool (fh l)) s:=by
 refine aH.pure ?_ (by simp[D.bF,D.ok,fK,Tag.ok]) rfl s
 unfold S0
 generalize h:fh l=p
 refine aH.go Jh rfl fun B Q hB hQ=>?_
 have⟨hD,gA,gB,gC⟩:=bP
 repeat' (first
 |simp only[go_sem,hD,gA,gB,gC]
 |(with_reducible first|refine dU fun hc=>?_|refine dV fun hc=>?_|refine dW (fun hc=>?_) fun hc=>?_)<;>(try simp only[hc,bs,↓reduceIte]at h)<;>try simp only[hc]
 |(with_reducible refine aF hQ ?_;exact kC))
 refine fz 0 0 (bo.ind (ι:=List aK×Nat) (fun i=>l.drop i.2=i.1∧fh i.1=p) (fun i=>i.1.length)
  (fun i=> [(5, .slice .shared 1 (l.map encStr)),(6, .int .i64 (l.length:Int)),(7, .int .i64 (i.2:Int))]) (fun i=>⟨[],[]⟩) ?_ (l,0) ⟨rfl,h⟩)
 rintro⟨rest,k⟩ ⟨h1,h⟩ IH
 dsimp only at h1 h
 cases rest with
 |nil=>
  have hD:=drop_nil h1
  simp only[fh]at h
  repeat' (first
 |simp only[go_sem,hD,gA,gB,gC]
 |(with_reducible first|refine dU fun hc=>?_|refine dV fun hc=>?_|refine dW (fun hc=>?_) fun hc=>?_)<;>(try simp only[hc,bs,↓reduceIte]at h)<;>try simp only[hc]
 |(with_reducible refine aF hQ ?_;exact kC))
 |cons t rest=>
  obtain⟨gA,g2,hD,g4⟩:=drop_cons h1
  have gB:k<4611686018427387904:=by omega
  have hn:=DZ t (hs t (List.mem_of_getElem? gA))
  simp only[fh]at h
  repeat' (first
 |simp only[go_sem,hD,gA,gB,gC]
 |(with_reducible refine CU (hn _) ?_)
 |(with_reducible first|refine dU fun hc=>?_|refine dV fun hc=>?_|refine dW (fun hc=>?_) fun hc=>?_)<;>(try simp only[hc,bs,↓reduceIte]at h)<;>try simp only[hc]
 |(with_reducible refine aF hQ ?_;exact kC))
  refine fz 0 0 (IH (rest,k+1) ⟨g2,h⟩ (Nat.lt_succ_self _))
mutual
def Ex.dp (left:Int):Ex→Bool
 |⟨op,n,name,kids⟩=>
  if decide (left<1) ||(kids.length:Int) != p7 op then false
  else if op==1 then decide (n≥0) && name == []
  else if op==2 then n==0 && isName name
  else if n != 0 || !(name == [])then false
  else Ex.D0 (left - 1) kids
def Ex.D0 (left:Int):List Ex→Bool
 | []=>true
 |x::l=>if !(Ex.dp left x)then false else Ex.D0 left l
end
theorem aeE : ∀ (m:Nat) (x:Ex),x.size≤m→x.size<4611686018427387904→x.texts→∀ left:Int,0≤left→left≤100→∀ s:St,aH Tryz.prog rT [.agg (bW x), .int .i64 left] s (.bool (x.dp left)) s:=by
 intro m
 induction m with
 |zero=>rintro⟨op,v,name,kids⟩ h;simp only[Ex.size]at h;omega
 | succ m ih=>
  rintro⟨op,v,name,kids⟩ h hx ht left h0 ZX s
  refine aH.pure ?_ (by simp[D.bF,D.ok,lH]) rfl s
  have hlen:kids.length<4611686018427387904:=by simp only[Ex.size]at hx;have:=Ex.dr kids;omega
  have hn:=DZ name ht.1
  generalize hp:Ex.dp left ⟨op,v,name,kids⟩=p
  simp only[Ex.dp]at hp
  unfold S0
  by_cases vR:left<1
  ·have d1:decide (left<1)=true:=by simpa using vR
   simp only[d1,Bool.true_or,↓reduceIte]at hp
   subst hp
   refine aH.go CO rfl fun B Q hB hQ=>?_
   have⟨hD,gA,gB,gC⟩:=bP
   repeat' (first
 |simp only[go_sem,hD,gA,gB,gC,d1]
 |(with_reducible refine CU (Qm _ _) ?_)
 |(with_reducible refine CU (hn _) ?_)
 | (with_reducible refine aF hQ ?_;exact aP))
  ·have d1:decide (left<1)=false:=by simpa using vR
   have w1:IntKind.wrap .i64 (left - 1)=left - 1:=eB (by omega) (by omega)
   have hk : ∀ y∈kids,∀ s,aH Tryz.prog rT [.agg (bW y), .int .i64 (left - 1)] s (.bool (y.dp (left - 1))) s:=fun y hy s=>
    ih y (by simp only[Ex.size]at h;have:=Ex.cu hy;omega) (by simp only[Ex.size]at hx;have:=Ex.cu hy;omega) (Ex.Wl ht hy) (left - 1) (by omega) (by omega) s
   simp only[d1,Bool.false_or]at hp
   have h:=hp
   clear hp
   refine aH.go CO rfl fun B Q hB hQ=>?_
   have⟨hD,gA,gB,gC⟩:=bP
   repeat' (first
 |simp only[go_sem,hD,gA,gB,gC,d1]
 |(with_reducible refine CU (Qm _ _) ?_)
 |(with_reducible refine CU (hn _) ?_)
 |(with_reducible first|refine dU fun hc=>?_|refine dV fun hc=>?_|refine dW (fun hc=>?_) fun hc=>?_)<;>(try simp only[hc,bs,↓reduceIte]at h)<;>try simp only[hc]
 | (with_reducible refine aF hQ ?_;(try cases h);simp only [cZ,da,eK,eO,go_sem,hD,gA,gB,gC,d1];repeat' (first | exact Ok.out | with_reducible refine jD ?_ ?_ | (simp;done))))
   all_goals
    refine fz 1 0 (bo.ind (ι:=List Ex×Nat) (fun i=>kids.drop i.2=i.1∧Ex.D0 (left - 1) i.1=p) (fun i=>i.1.length)
     (fun i=> [(1, .int .i64 left),(49, .slice .shared 4 (kids.map bW)),(50, .int .i64 (kids.length:Int)),(51, .int .i64 (i.2:Int))]) (fun i=>⟨[bW ⟨op,v,name,kids⟩],[]⟩) ?_ (kids,0) ⟨rfl,h⟩)
    rintro⟨rest,k⟩ ⟨h1,h⟩ IH
    dsimp only at h1 h
    cases rest with
    |nil=>
     have hD:=drop_nil h1
     simp only[Ex.D0]at h
     repeat' (first
 |simp only[go_sem,hD,gA,gB,gC]
 |(with_reducible first|refine dU fun hc=>?_|refine dV fun hc=>?_|refine dW (fun hc=>?_) fun hc=>?_)<;>(try simp only[hc,bs,↓reduceIte]at h)<;>try simp only[hc]
 |(with_reducible refine aF hQ ?_;exact kC)
 | (cases h;done))
    |cons y rest=>
     obtain⟨gA,g2,hD,g4⟩:=drop_cons h1
     have hy:=hk y (List.mem_of_getElem? gA)
     have gB:k<4611686018427387904:=by omega
     simp only[Ex.D0]at h
     repeat' (first
 |simp only[go_sem,hD,gA,gB,gC,w1]
 |(with_reducible refine CU (hy _) ?_)
 |(with_reducible first|refine dU fun hc=>?_|refine dV fun hc=>?_|refine dW (fun hc=>?_) fun hc=>?_)<;>(try simp only[hc,bs,↓reduceIte]at h)<;>try simp only[hc]
 |(with_reducible refine aF hQ ?_;(try cases h);simp only[cZ,da,eK,eO,go_sem,hD,gA,gB,gC,w1];try exact iI))
     refine fz 1 0 (IH (rest,k+1) ⟨g2,h⟩ (Nat.lt_succ_self _))
theorem BY {x:Ex} (hx:x.size<4611686018427387904) (ht:x.texts) (s:St):aH Tryz.prog oO [.agg (bW x)] s (.bool (x.dp 20)) s:=by
 refine aH.pure ?_ (by simp[D.bF,D.ok,lH]) rfl s
 have hd:=fun s=>aeE _ x (Nat.le_refl _) hx ht 20 (by omega) (by omega) s
 unfold S0
 refine aH.go Ge rfl fun B Q hB hQ=>?_
 have⟨hD,gA,gB,gC⟩:=bP
 repeat' (first
 |simp only[go_sem,hD,gA,gB,gC]
 |(with_reducible refine CU (hd _) ?_)
 |(with_reducible refine aF hQ ?_;exact aP))
theorem aeF (x:Ex) (s:St):aH Tryz.prog Aa [.agg (bW x)] s (.bool x.none) s:=by
 refine aH.pure ?_ (by simp[D.bF,D.ok,lH]) rfl s
 unfold S0
 generalize h:Ex.none x=p
 unfold Ex.none at h
 refine aH.go Ll rfl fun B Q hB hQ=>?_
 have⟨hD,gA,gB,gC⟩:=bP
 repeat' (first
 |simp only[go_sem,hD,gA,gB,gC]
 |(with_reducible first|refine dU fun hc=>?_|refine dV fun hc=>?_|refine dW (fun hc=>?_) fun hc=>?_)<;>(try simp only[hc,bs,↓reduceIte]at h)<;>try simp only[hc]
 |(with_reducible refine aF hQ ?_;exact kC))
def vS (t:aK) (is:Bool):Bool:=(is && isName t) ||(!is && t == [])
theorem Gk (t:aK) (is:Bool) (hl:t.length<4611686018427387904) (s:St):aH Tryz.prog qL [.str t, .bool is] s (.bool (vS t is)) s:=by
 refine aH.pure ?_ rfl rfl s
 have hn:=DZ t hl
 unfold S0
 generalize h:vS t is=p
 unfold vS at h
 refine aH.go Jn rfl fun B Q hB hQ=>?_
 have⟨hD,gA,gB,gC⟩:=bP
 repeat' (first
 |simp only[go_sem,hD,gA,gB,gC]
 |(with_reducible refine CU (hn _) ?_)
 |(with_reducible first|refine dU fun hc=>?_|refine dV fun hc=>?_|refine dW (fun hc=>?_) fun hc=>?_)<;>(try simp only[hc,bs,↓reduceIte]at h)<;>try simp only[hc]
 |(with_reducible refine aF hQ ?_;exact kC))
def xY (x:Ex) (is:Bool):Bool:=(is && x.dp 20) ||(!is && x.none)
theorem Qn {x:Ex} (is:Bool) (hx:x.size<4611686018427387904) (ht:x.texts) (s:St):aH Tryz.prog tD [.agg (bW x), .bool is] s (.bool (xY x is)) s:=by
 refine aH.pure ?_ (by simp[D.bF,D.ok,lH]) rfl s
 have hm:=BY hx ht
 unfold S0
 generalize h:xY x is=p
 unfold xY at h
 refine aH.go Jo rfl fun B Q hB hQ=>?_
 have⟨hD,gA,gB,gC⟩:=bP
 repeat' (first
 |simp only[go_sem,hD,gA,gB,gC]
 |(with_reducible refine CU (hm _) ?_)
 |(with_reducible refine CU (aeF _ _) ?_)
 |(with_reducible first|refine dU fun hc=>?_|refine dV fun hc=>?_|refine dW (fun hc=>?_) fun hc=>?_)<;>(try simp only[hc,bs,↓reduceIte]at h)<;>try simp only[hc]
 |(with_reducible refine aF hQ ?_;exact kC))
def rj:List Ar→Bool
 | []=>true
 |a::l=>if !(vS a.name a.ref) || !(xY a.x !a.ref)then false else rj l
theorem ZY {l:List Ar} (hl:l.length<4611686018427387904) (hs : ∀ a∈l,a.x.size<4611686018427387904∧a.x.texts∧a.name.length<4611686018427387904) (s:St) :
 aH Tryz.prog wv [.slice .shared 6 (l.map fi)] s (.bool (rj l)) s:=by
 refine aH.pure ?_ (by simp[D.bF,D.ok,LF,Tag.ok]) rfl s
 unfold S0
 generalize h:rj l=p
 refine aH.go HK rfl fun B Q hB hQ=>?_
 have⟨hD,gA,gB,gC⟩:=bP
 repeat' (first
 |simp only[go_sem,hD,gA,gB,gC]
 |(with_reducible first|refine dU fun hc=>?_|refine dV fun hc=>?_|refine dW (fun hc=>?_) fun hc=>?_)<;>(try simp only[hc,bs,↓reduceIte]at h)<;>try simp only[hc]
 |(with_reducible refine aF hQ ?_;exact kC))
 refine fz 0 0 (bo.ind (ι:=List Ar×Nat) (fun i=>l.drop i.2=i.1∧rj i.1=p) (fun i=>i.1.length)
  (fun i=> [(5, .slice .shared 6 (l.map fi)),(6, .int .i64 (l.length:Int)),(7, .int .i64 (i.2:Int))]) (fun i=>⟨[],[]⟩) ?_ (l,0) ⟨rfl,h⟩)
 rintro⟨rest,k⟩ ⟨h1,h⟩ IH
 dsimp only at h1 h
 cases rest with
 |nil=>
  have hD:=drop_nil h1
  simp only[rj]at h
  repeat' (first
 |simp only[go_sem,hD,gA,gB,gC]
 |(with_reducible first|refine dU fun hc=>?_|refine dV fun hc=>?_|refine dW (fun hc=>?_) fun hc=>?_)<;>(try simp only[hc,bs,↓reduceIte]at h)<;>try simp only[hc]
 |(with_reducible refine aF hQ ?_;exact kC))
 |cons a rest=>
  obtain⟨gA,g2,hD,g4⟩:=drop_cons h1
  have gB:k<4611686018427387904:=by omega
  obtain⟨a1,a2,a3⟩:=hs a (List.mem_of_getElem? gA)
  have hn:=fun b s=>Gk a.name b a3 s
  have hw:=fun b s=>Qn b a1 a2 s
  simp only[rj]at h
  repeat' (first
 |simp only[go_sem,hD,gA,gB,gC]
 |(with_reducible refine CU (hn _ _) ?_)
 |(with_reducible refine CU (hw _ _) ?_)
 |(with_reducible first|refine dU fun hc=>?_|refine dV fun hc=>?_|refine dW (fun hc=>?_) fun hc=>?_)<;>(try simp only[hc,bs,↓reduceIte]at h)<;>try simp only[hc]
 |(with_reducible refine aF hQ ?_;exact kC))
  refine fz 0 0 (IH (rest,k+1) ⟨g2,h⟩ (Nat.lt_succ_self _))
def Sm.flags (s:Sm):Option (Bool×Bool×Bool×Bool×Bool×Bool):=
 if s.kind==1 then some (true,false,true,s.has,false,false)
 else if s.kind==2 ||s.kind==10 then some (true,false,false,s.has,false,false)
 else if s.kind==3 then some (false,false,true,s.has,false,false)
 else if s.kind==4 then some (!(s.name == []),true,false,s.has,false,false)
 else if s.kind==5 then some (false,false,true,s.has,true,true)
 else if s.kind==6 then some (false,false,true,s.has,true,false)
 else if s.kind==9 then some (false,false,s.has,false,false,false)
 else if s.kind==7 ||s.kind==8 then some (false,false,false,s.has,false,false)
 else none
def Sm.LI (s:Sm) (nm pr x:Bool):Bool:=if !(vS s.name nm) || !(vS s.proc pr) || !(xY s.x x)then false else rj s.args
def Sm.LJ (s:Sm) (f:Bool×Bool×Bool×Bool×Bool×Bool):Bool:=
 if f.2.2.2.1 ||(!f.2.2.2.2.1 && decide ((s.aO.length:Int) > 0)) ||(!f.2.2.2.2.2 && decide ((s.aN.length:Int) > 0)) ||(!(s.kind==4) && decide ((s.args.length:Int) > 0))then false
 else s.LI f.1 f.2.1 f.2.2.1
def Sm.fields (s:Sm):Bool:=match s.flags with
 |none=>false
 |some f=>s.LJ f
section
variable {v:Sm} {B:ic} {Q:Exit→Tm→St→Prop} {p:Bool}
theorem ZZ {nm pr x:Bool} (hf:v.wB) (hB:B.s = ⟨[],[]⟩) (hQ:rH 0 0 [(2,none)] (.bool p) ⟨[],[]⟩=Q) (h:v.LI nm pr x=p) :
 Sem Tryz.prog B 93 ahY Q [(1, .ptr 0 0),(3, .bool nm),(4, .bool pr),(5, .bool x)] ⟨[a8 v],[]⟩:=by
 have h1:=fun b s=>Gk v.name b hf.name s
 have h2:=fun b s=>Gk v.proc b hf.proc s
 have h3:=fun b s=>Qn b hf.x hf.xt s
 have h4:=fun s=>ZY hf.Jq hf.arg s
 unfold Sm.LI at h
 have⟨hD,gA,gB,gC⟩:=bP
 refine jC ?_
 repeat' (first
 |simp only[go_sem,hD,gA,gB,gC]
 |(with_reducible refine CU (h1 _ _) ?_)
 |(with_reducible refine CU (h2 _ _) ?_)
 |(with_reducible refine CU (h3 _ _) ?_)
 |(with_reducible refine CU (h4 _) ?_)
 |(with_reducible first|refine dU fun hc=>?_|refine dV fun hc=>?_|refine dW (fun hc=>?_) fun hc=>?_)<;>(try simp only[hc,bs,↓reduceIte]at h)<;>try simp only[hc]
 |(with_reducible refine aF hQ ?_;exact kC))
theorem Z0 {nm pr x has th ot ar:Bool} (hf:v.wB) (hB:B.s = ⟨[],[]⟩) (hQ:rH 0 0 [(2,none)] (.bool p) ⟨[],[]⟩=Q) (e:(v.kind==4)=ar) (h:v.LJ (nm,pr,x,has,th,ot)=p) :
 Sem Tryz.prog B 93 ahZ Q [(1, .ptr 0 0),(3, .bool nm),(4, .bool pr),(5, .bool x),(6, .bool has),(7, .bool th),(8, .bool ot),(9, .bool ar)] ⟨[a8 v],[]⟩:=by
 simp only[Sm.LJ,e]at h
 have⟨hD,gA,gB,gC⟩:=bP
 refine Sem.oM ?_
 repeat' (first
 |simp only[go_sem,hD,gA,gB,gC]
 |(with_reducible first|refine dU fun hc=>?_|refine dV fun hc=>?_|refine dW (fun hc=>?_) fun hc=>?_)<;>(try simp only[hc,bs,↓reduceIte]at h)<;>try simp only[hc]
 |(with_reducible refine aF hQ ?_;(try cases h);simp only[cZ,da,eK,eO,go_sem,hD,gA,gB,gC];repeat' (first|exact Ok.out|with_reducible refine jD ?_ ?_|(simp;done))))
 all_goals
  refine Sem.re _ _ 1 0 (by rw[hB];exact FA rfl) (by rw[hB];exact FA rfl) ?_ ?_ (ZZ hf hB hQ h)
  ·(simp only[go_sem,hD,gA,gB,gC];repeat' (first|exact Ok.out|with_reducible refine jD ?_ ?_))
  ·(simp only[go_sem,hD,gA,gB,gC];repeat' (first|exact Ok.out|with_reducible refine jD ?_ ?_))
theorem Z1 {ar:Bool} (hf:v.wB) (hB:B.s = ⟨[],[]⟩) (hQ:rH 0 0 [(2,none)] (.bool p) ⟨[],[]⟩=Q) (e:(v.kind==4)=ar) (h:v.fields=p) :
 Sem Tryz.prog B 93 ZQ Q [(1, .ptr 0 0),(3, .bool false),(4, .bool false),(5, .bool false),(6, .bool v.has),(7, .bool false),(8, .bool false),(9, .bool ar)] ⟨[a8 v],[]⟩:=by
 simp only[Sm.fields,Sm.flags]at h
 have⟨hD,gA,gB,gC⟩:=bP
 refine Sem.oM ?_
 repeat' (first
 |simp only[go_sem,hD,gA,gB,gC]
 |(with_reducible first|refine dU fun hc=>?_|refine dV fun hc=>?_|refine dW (fun hc=>?_) fun hc=>?_)<;>(try simp only[hc,bs,↓reduceIte]at h)<;>try simp only[hc]
 |(with_reducible refine aF hQ ?_;(try cases h);simp only[cZ,da,eK,eO,go_sem,hD,gA,gB,gC];repeat' (first|exact Ok.out|with_reducible refine jD ?_ ?_|(simp;done))))
 all_goals
  refine Sem.re _ _ 1 0 (by rw[hB];exact FA rfl) (by rw[hB];exact FA rfl) ?_ ?_ (Z0 hf hB hQ e h)
  ·(simp only[go_sem,hD,gA,gB,gC];repeat' (first|exact Ok.out|with_reducible refine jD ?_ ?_))
  ·(simp only[go_sem,hD,gA,gB,gC];repeat' (first|exact Ok.out|with_reducible refine jD ?_ ?_))
end
theorem Z2 {v:Sm} (hf:v.wB) (s:St):aH Tryz.prog wu [.agg (a8 v)] s (.bool v.fields) s:=by
 refine aH.pure ?_ (by simp[D.bF,D.ok,pJ]) rfl s
 unfold S0
 refine aH.goS HH rfl fun B Q hB hQ=>?_
 have⟨hD,gA,gB,gC⟩:=bP
 refine Sem.seq (b:=ah1) (jC ?_)
 repeat' (first
 |simp only[go_sem,hD,gA,gB,gC]
 |(with_reducible refine aF hQ ?_;exact aP))
 refine Sem.seq (b:=ah0) (jC ?_)
 repeat' (first
 |simp only[go_sem,hD,gA,gB,gC]
 |(with_reducible refine aF hQ ?_;exact aP))
 refine Sem.seq (b:=ZQ) (jC ?_)
 repeat' (first
 |simp only[go_sem,hD,gA,gB,gC]
 |(with_reducible refine aF hQ ?_;exact aP))
 refine Sem.re _ _ 1 0 (by rw[hB];exact FA rfl) (by rw[hB];exact FA rfl) ?_ ?_ (Z1 hf hB hQ rfl rfl)
 ·(simp only[go_sem,hD,gA,gB,gC];repeat' (first|exact Ok.out|with_reducible refine jD ?_ ?_))
 ·(simp only[go_sem,hD,gA,gB,gC];repeat' (first|exact Ok.out|with_reducible refine jD ?_ ?_))
end Go.Abs
namespace Go.Abs
set_option maxRecDepth 8000
open Go.Proofs
def gx (i:It):List D:= [.int .i64 i.s.id, .int .i64 i.s.kind, .slice .shared 1 (i.s.labels.map encStr), .str i.s.name, .str i.s.proc,
 .int .i64 i.s.x.op, .int .i64 i.s.x.n, .str i.s.x.name, .slice .shared 4 (i.s.x.kids.map bW), .bool i.s.has, .slice .shared 6 (i.s.args.map fi), .slice .shared 13 (i.s.aO.map a8), .slice .shared 13 (i.s.aN.map a8), .int .i64 i.deep, .int .i64 i.cW, .bool i.aN]
theorem TH (i:It):D.bF 0 0 (gx i)=true:=by simp[gx,D.bF,D.ok,Tag.ok,fK,abT,LF,kY]
theorem HP (l:List It):D.jg 0 0 (l.map gx)=true:=jh TH l
theorem amA (n m:Nat) (l:List It):D.lR n m (l.map gx)=l.map gx:=nI TH n m l
theorem amB (n m:Nat) (i:It):D.iF n m (gx i)=gx i:=jk n m _ (TH i)
theorem amC (x:It):(gx x).length=16:=nd rfl
theorem No (x:It):List.take 13 (gx x)=a8 x.s:=by simp only[gx,cy];rfl
theorem Z3 (x:It):(gx x)[0]? = some (.int .i64 x.s.id):=nd rfl
theorem Wu (x:It):(gx x)[13]? = some (.int .i64 x.deep):=nd rfl
theorem Js (s:Sm) (d n:Int) (e:Bool):gx ⟨s,d,n,e⟩ = [.int .i64 s.id, .int .i64 s.kind, .slice .shared 1 (s.labels.map encStr), .str s.name, .str s.proc,
 .int .i64 s.x.op, .int .i64 s.x.n, .str s.x.name, .slice .shared 4 (s.x.kids.map bW), .bool s.has, .slice .shared 6 (s.args.map fi), .slice .shared 13 (s.aO.map a8), .slice .shared 13 (s.aN.map a8), .int .i64 d, .int .i64 n, .bool e]:=nd rfl
attribute [go_sem] amA amB amC No Z3 Wu
theorem Np (deep cW:Int) (aN:Bool) (out:List It) (s:Sm) :
 jP deep cW aN out s=if decide (deep≤12)then eW (deep+1) s.id true (eW (deep+1) s.id false (out++ [⟨s,deep,cW,aN⟩]) s.aO) s.aN else out++ [⟨s,deep,cW,aN⟩]:=by
 cases s;simp only[jP]
mutual
theorem Wv (deep cW:Int) (aN:Bool) (out:List It) (h:out.length≤200) : ∀ s:Sm,(jP deep cW aN out s).length≤201
 |⟨id,kind,labels,name,proc,x,has,args,aO,e⟩=>by
  simp only[jP]
  have h1:(out++ [(⟨⟨id,kind,labels,name,proc,x,has,args,aO,e⟩,deep,cW,aN⟩:It)]).length≤201:=by simp;omega
  split
  ·exact mL _ _ _ _ (mL _ _ _ _ h1 aO) e
  ·exact h1
theorem mL (deep cW:Int) (aN:Bool) (out:List It) (h:out.length≤201) : ∀ l:List Sm,(eW deep cW aN out l).length≤201
 | []=>by simpa only[eW]using h
 | s::l=>by
  simp only[eW]
  split
  ·rename_i hc
   simp only[decide_eq_true_eq]at hc
   exact mL deep cW aN _ (Wv _ _ _ _ (by omega) s) l
  ·exact h
end
abbrev Ww (N:Nat):Prop:=∀ (l:List Sm) (deep cW:Int) (aN:Bool) (out:List It),Sm.aS l<N→0≤deep→deep≤13→out.length≤201→∀ {s:St} {t:Nat},s.az[t]? = some (some out.length)→
 aH Tryz.prog oe [.slice .shared 13 (l.map a8), .int .i64 deep, .int .i64 cW, .bool aN, .slice (.tok t) 16 (out.map gx)] s (.slice (.tok t) 16 ((eW deep cW aN out l).map gx)) ⟨s.aj,s.az.set t (some (eW deep cW aN out l).length)⟩
theorem aic {N:Nat} (hN:N<4611686018427387904) (ih:Ww N) {l:List Sm} {deep cW:Int} {aN:Bool} {out:List It} (hs:Sm.aS l<N+1) (zb:0≤deep) (hd:deep≤13) (ho:out.length≤201) :
 aH Tryz.prog oe [.slice .shared 13 (l.map a8), .int .i64 deep, .int .i64 cW, .bool aN, .slice (.tok 0) 16 (out.map gx)] ⟨[],[some out.length]⟩ (.slice (.tok 0) 16 ((eW deep cW aN out l).map gx)) ⟨[],[some (eW deep cW aN out l).length]⟩:=by
 generalize hR:eW deep cW aN out l=R
 refine aH.go CQ rfl fun B Q hB hQ=>?_
 have⟨hD,gA,gB,gC⟩:=bP
 repeat' (first
 |simp only[go_sem,hD,gA,gB,gC]
 |(with_reducible refine aF hQ ?_;exact aP))
 refine fz 0 1 (bo.ind (ι:=List Sm×Nat×List It×Nat) (fun i=>l.drop i.2.1=i.1∧eW deep cW aN i.2.2.1 i.1=R∧i.2.2.1.length≤201∧i.2.2.2=i.2.2.1.length) (fun i=>i.1.length)
  (fun i=> [(0, .slice .shared 13 (l.map a8)),(1, .int .i64 deep),(2, .int .i64 cW),(3, .bool aN),(4, .slice (.tok 0) 16 (i.2.2.1.map gx)),(11, .int .i64 (i.2.1:Int))]) (fun i=>⟨[],[some i.2.2.2]⟩) ?_ (l,0,out,out.length) ⟨rfl,hR,ho,rfl⟩)
 rintro⟨rest,k,out,n⟩ ⟨h1,h2,h3,h4⟩ IH
 dsimp only at h1 h2 h3 h4
 subst h4
 have hlen:l.length<4611686018427387904:=by have:=Sm.dr l;omega
 cases rest with
 |nil=>
  have hD:=drop_nil h1
  simp only[eW]at h2
  subst h2
  repeat' (first
 |simp only[go_sem,hD,gA,gB,gC]
 |(with_reducible refine aF hQ ?_;exact aP))
 | cons v rest=>
  obtain⟨gA,g2,hD,g4⟩:=drop_cons h1
  have cd:k<4611686018427387904:=by omega
  have hv:=Sm.cu (List.mem_of_getElem? gA)
  have pW:Sm.aS v.aO<N∧Sm.aS v.aN<N:=by
   obtain⟨_,_,_,_,_,_,_,_,_,_⟩:=v
   simp only[Sm.size]at hv ⊢;omega
  simp only[eW]at h2
  by_cases hc:out.length≤200
  ·have c1:decide ((out.length:Int)≤200)=true:=by simp;omega
   simp only[c1,↓reduceIte,Np]at h2
   have gB:(out.length+1)*233≤bp:=by unfold bp;omega
   have ku:(out++ [(⟨v,deep,cW,aN⟩:It)]).length≤201:=by simp;omega
   have hw:IntKind.wrap .i64 (deep+1)=deep+1:=eB (by omega) (by omega)
   by_cases auu:deep≤12
   ·have c2:decide (deep≤12)=true:=by simp;omega
    simp only[c2,↓reduceIte]at h2
    have f1:=fun {s:St} {t:Nat} (ht:s.az[t]? = some (some (out++ [(⟨v,deep,cW,aN⟩:It)]).length))=>ih v.aO (deep+1) v.id false _ pW.1 (by omega) (by omega) ku ht
    have f2:=fun {s:St} {t:Nat} (ht:s.az[t]? = some (some (eW (deep+1) v.id false (out++ [(⟨v,deep,cW,aN⟩:It)]) v.aO).length))=>ih v.aN (deep+1) v.id true _ pW.2 (by omega) (by omega) (mL _ _ _ _ ku _) ht
    simp only[List.map_append,List.map_cons,List.map_nil,Js,List.length_append,List.length_cons,List.length_nil]at f1
    repeat' (first
 |simp only[go_sem,hD,gA,gB,gC,c1,c2,hw,cy]
 |(with_reducible refine CU (f1 (by with_unfolding_all rfl)) ?_)
 |(with_reducible refine CU (f2 (by with_unfolding_all rfl)) ?_)
 | (with_reducible refine aF hQ ?_;exact aP))
    refine eQ 0 1 ?_ ?_ (IH (rest,k+1,_,_) ⟨g2,h2,mL _ _ _ _ (mL _ _ _ _ ku _) _,rfl⟩ (Nat.lt_succ_self _))
    ·(simp only[go_sem,hD,gA,gB,gC,aM cd];try exact bQ)
    ·(simp only[go_sem,hD,gA,gB,gC,aM cd];try exact bQ)
   ·have c2:decide (deep≤12)=false:=by simp;omega
    simp only[c2,Bool.false_eq_true,↓reduceIte]at h2
    repeat' (first
 |simp only[go_sem,hD,gA,gB,gC,c1,c2,cy]
 | (with_reducible refine aF hQ ?_;exact aP))
    refine eQ 0 1 ?_ ?_ (IH (rest,k+1,out++ [⟨v,deep,cW,aN⟩],out.length+1) ⟨g2,h2,ku,by simp⟩ (Nat.lt_succ_self _))
    ·(simp only[go_sem,hD,gA,gB,gC,aM cd,Js,List.map_append,List.map_cons,List.map_nil];try exact bQ)
    ·(simp only[go_sem,hD,gA,gB,gC,aM cd,Js,List.map_append,List.map_cons,List.map_nil];try exact bQ)
  ·have c1:decide ((out.length:Int)≤200)=false:=by simp;omega
   simp only[c1,Bool.false_eq_true,↓reduceIte]at h2
   subst h2
   repeat' (first
 |simp only[go_sem,hD,gA,gB,gC,c1]
 |(with_reducible refine aF hQ ?_;exact aP))
theorem Z4 : ∀ N,N<4611686018427387904→Ww N:=by
 intro N
 induction N with
 |zero=>exact fun _ l deep cW aN out h=>absurd h (Nat.not_lt_zero _)
 |succ N ih=>
  intro h l deep cW aN out hs zb hd ho s t ht
  exact(aic (by omega) (ih (by omega)) hs zb hd ho).agq (pre:= [_,_,_,_]) (post:= []) (by simp[D.bF,D.ok,Tag.ok,kY]) rfl (HP out) (HP _) ht
theorem Z5 {l:List Sm} (hs:Sm.aS l<4611686018427387000) (s:St) :
 aH Tryz.prog oe [.slice .shared 13 (l.map a8), .int .i64 1, .int .i64 0, .bool false, .slice .full 0 []] s (.slice .shared 16 ((eW 1 0 false [] l).map gx)) s:=by
 refine aH.pure ?_ (by simp[D.bF,D.ok,Tag.ok,kY,D.jg]) (by simp[D.ok,Tag.ok,HP]) s
 obtain⟨N,hN⟩ : ∃ N,N=Sm.aS l:=⟨_,rfl⟩
 have ih:=Z4 N (by omega)
 replace hs:Sm.aS l<N+1∧N<4611686018427387000:=by omega
 obtain⟨hs,hN⟩:=hs
 generalize hR:eW 1 0 false [] l=R
 obtain⟨deep,TI⟩ : ∃ d:Int,d=1:=⟨_,rfl⟩
 obtain⟨cW,Z6⟩ : ∃ d:Int,d=0:=⟨_,rfl⟩
 obtain⟨aN,xZ⟩ : ∃ d:Bool,d=false:=⟨_,rfl⟩
 rw[← TI, ← Z6, ← xZ]at hR
 rw[← TI, ← Z6, ← xZ]
 have zb:0≤deep:=by omega
 have hd:deep≤13:=by omega
 clear TI Z6 xZ
 have ho:([] : List It).length≤201:=Nat.zero_le _
 unfold S0
 refine aH.go CQ rfl fun B Q hB hQ=>?_
 have⟨hD,gA,gB,gC⟩:=bP
 repeat' (first
 |simp only[go_sem,hD,gA,gB,gC]
 |(with_reducible refine aF hQ ?_;exact aP))
 refine bo.qI 4 16 rfl ?_
 simp only[go_sem,hD,gA,gB,gC]
 refine fz 0 1 (bo.ind (ι:=List Sm×Nat×List It×Nat) (fun i=>l.drop i.2.1=i.1∧eW deep cW aN i.2.2.1 i.1=R∧i.2.2.1.length≤201∧i.2.2.2=i.2.2.1.length) (fun i=>i.1.length)
  (fun i=> [(0, .slice .shared 13 (l.map a8)),(1, .int .i64 deep),(2, .int .i64 cW),(3, .bool aN),(4, .slice (.tok 0) 16 (i.2.2.1.map gx)),(11, .int .i64 (i.2.1:Int))]) (fun i=>⟨[],[some i.2.2.2]⟩) ?_ (l,0,[],0) ⟨rfl,hR,ho,rfl⟩)
 rintro⟨rest,k,out,n⟩ ⟨h1,h2,h3,h4⟩ IH
 dsimp only at h1 h2 h3 h4
 subst h4
 have hlen:l.length<4611686018427387904:=by have:=Sm.dr l;omega
 cases rest with
 |nil=>
  have hD:=drop_nil h1
  simp only[eW]at h2
  subst h2
  repeat' (first
 |simp only[go_sem,hD,gA,gB,gC]
 |(with_reducible refine aF hQ ?_;exact aP))
 | cons v rest=>
  obtain⟨gA,g2,hD,g4⟩:=drop_cons h1
  have cd:k<4611686018427387904:=by omega
  have hv:=Sm.cu (List.mem_of_getElem? gA)
  have pW:Sm.aS v.aO<N∧Sm.aS v.aN<N:=by
   obtain⟨_,_,_,_,_,_,_,_,_,_⟩:=v
   simp only[Sm.size]at hv ⊢;omega
  simp only[eW]at h2
  by_cases hc:out.length≤200
  ·have c1:decide ((out.length:Int)≤200)=true:=by simp;omega
   simp only[c1,↓reduceIte,Np]at h2
   have gB:(out.length+1)*233≤bp:=by unfold bp;omega
   have ku:(out++ [(⟨v,deep,cW,aN⟩:It)]).length≤201:=by simp;omega
   have hw:IntKind.wrap .i64 (deep+1)=deep+1:=eB (by omega) (by omega)
   by_cases auu:deep≤12
   ·have c2:decide (deep≤12)=true:=by simp;omega
    simp only[c2,↓reduceIte]at h2
    have f1:=fun {s:St} {t:Nat} (ht:s.az[t]? = some (some (out++ [(⟨v,deep,cW,aN⟩:It)]).length))=>ih v.aO (deep+1) v.id false _ pW.1 (by omega) (by omega) ku ht
    have f2:=fun {s:St} {t:Nat} (ht:s.az[t]? = some (some (eW (deep+1) v.id false (out++ [(⟨v,deep,cW,aN⟩:It)]) v.aO).length))=>ih v.aN (deep+1) v.id true _ pW.2 (by omega) (by omega) (mL _ _ _ _ ku _) ht
    simp only[List.map_append,List.map_cons,List.map_nil,Js,List.length_append,List.length_cons,List.length_nil]at f1
    repeat' (first
 |simp only[go_sem,hD,gA,gB,gC,c1,c2,hw,cy]
 |(with_reducible refine CU (f1 (by with_unfolding_all rfl)) ?_)
 |(with_reducible refine CU (f2 (by with_unfolding_all rfl)) ?_)
 | (with_reducible refine aF hQ ?_;exact aP))
    refine eQ 0 1 ?_ ?_ (IH (rest,k+1,_,_) ⟨g2,h2,mL _ _ _ _ (mL _ _ _ _ ku _) _,rfl⟩ (Nat.lt_succ_self _))
    ·(simp only[go_sem,hD,gA,gB,gC,aM cd];try exact bQ)
    ·(simp only[go_sem,hD,gA,gB,gC,aM cd];try exact bQ)
   ·have c2:decide (deep≤12)=false:=by simp;omega
    simp only[c2,Bool.false_eq_true,↓reduceIte]at h2
    repeat' (first
 |simp only[go_sem,hD,gA,gB,gC,c1,c2,cy]
 | (with_reducible refine aF hQ ?_;exact aP))
    refine eQ 0 1 ?_ ?_ (IH (rest,k+1,out++ [⟨v,deep,cW,aN⟩],out.length+1) ⟨g2,h2,ku,by simp⟩ (Nat.lt_succ_self _))
    ·(simp only[go_sem,hD,gA,gB,gC,aM cd,Js,List.map_append,List.map_cons,List.map_nil];try exact bQ)
    ·(simp only[go_sem,hD,gA,gB,gC,aM cd,Js,List.map_append,List.map_cons,List.map_nil];try exact bQ)
  ·have c1:decide ((out.length:Int)≤200)=false:=by simp;omega
   simp only[c1,Bool.false_eq_true,↓reduceIte]at h2
   subst h2
   repeat' (first
 |simp only[go_sem,hD,gA,gB,gC,c1]
 |(with_reducible refine aF hQ ?_;exact aP))
theorem Wx {f:Pc} (hs:Sm.aS f.body<4611686018427387000) (s:St):aH Tryz.prog vm [.agg (bJ f)] s (.slice .shared 16 (f.flat.map gx)) s:=by
 refine aH.pure ?_ (by simp only[D.bF,D.ok,zQ];rfl) (by simp[D.ok,Tag.ok,HP]) s
 have h:=fun s=>Z5 hs s
 unfold S0
 refine aH.go Lh rfl fun B Q hB hQ=>?_
 have⟨hD,gA,gB,gC⟩:=bP
 repeat' (first
 |simp only[go_sem,hD,gA,gB,gC,Pc.flat]
 |(with_reducible refine CU (h _) ?_)
 |(with_reducible first|refine dU fun hc=>?_|refine dV fun hc=>?_|refine dW (fun hc=>?_) fun hc=>?_)<;>(try simp only[hc,bs,↓reduceIte]at h)<;>try simp only[hc]
 |(with_reducible refine aF hQ ?_;simp only[cZ,da,eK,eO,go_sem,hD,gA,gB,gC,Pc.flat];try exact iI))
end Go.Abs
namespace Go.Abs
set_option maxRecDepth 8000
open Go.Proofs
theorem Pc.Nq (f:Pc):f.flat.length≤201:=mL _ _ _ _ (Nat.zero_le _) _
theorem amD {p:Pg} (hs:Pc.aS p.procs<4611686018427387000) (s:St):aH Tryz.prog BL [.agg (bK p)] s (.slice .shared 16 (p.all.map gx)) s:=by
 refine aH.pure ?_ (by simp only[D.bF,D.ok,iP];rfl) (by simp[D.ok,Tag.ok,HP]) s
 have hlen:p.procs.length<4611686018427387904:=by have:=Pc.dr p.procs;omega
 generalize hR:p.all=R
 unfold Pg.all at hR
 unfold S0
 refine aH.go Na rfl fun B Q hB hQ=>?_
 have⟨hD,gA,gB,gC⟩:=bP
 repeat' (first
 |simp only[go_sem,hD,gA,gB,gC]
 |(with_reducible refine aF hQ ?_;exact aP))
 refine bo.qI 3 16 rfl ?_
 simp only[go_sem,hD,gA,gB,gC]
 refine fz 1 1 (bo.ind (ι:=List Pc×Nat×List It×Nat) (fun i=>p.procs.drop i.2.1=i.1∧allM i.2.2.1 i.1=R∧i.2.2.1.length≤200∧i.2.2.2=i.2.2.1.length) (fun i=>i.1.length)
  (fun i=> [(1, .ptr 0 0),(3, .slice (.tok 0) 16 (i.2.2.1.map gx)),(7, .slice .shared 5 (p.procs.map bJ)),(8, .int .i64 (p.procs.length:Int)),(9, .int .i64 (i.2.1:Int))]) (fun i=>⟨[bK p],[some i.2.2.2]⟩) ?_ (p.procs,0,[],0) ⟨rfl,hR,Nat.zero_le _,rfl⟩)
 rintro⟨rest,k,out,n⟩ ⟨h1,h,h3,h4⟩ IH
 dsimp only at h1 h h3 h4
 subst h4
 cases rest with
 |nil=>
  have hD:=drop_nil h1
  simp only[allM]at h
  subst h
  repeat' (first
 |simp only[go_sem,hD,gA,gB,gC]
 |(with_reducible refine aF hQ ?_;exact aP))
 |cons f rest=>
  obtain⟨gA,g2,hD,g4⟩:=drop_cons h1
  have cd:k<4611686018427387904:=by omega
  have hf:=Pc.cu (List.mem_of_getElem? gA)
  have hb:Sm.aS f.body<4611686018427387000:=by simp only[Pc.size]at hf;omega
  have ib:=fun s=>Wx hb s
  have aCB:=f.Nq
  have gB:(out.length+f.flat.length)*233≤bp:=by unfold bp;omega
  simp only[allM,List.length_append]at h
  have fP:=fun(o:List (List D))=>pI (size:=16) (bytes:=232) (t:=0) (rows:=out.map gx) (new:=f.flat.map gx) (g:= .shared) (s:=⟨o,[some out.length]⟩) (by simpa using gB) (by simp)
  repeat' (first
 |simp only[go_sem,hD,gA,gB,gC,fP]
 |(with_reducible refine CU (ib _) ?_)
 |(with_reducible first|refine dU fun hc=>?_|refine dV fun hc=>?_|refine dW (fun hc=>?_) fun hc=>?_)<;>(try simp only[hc,bs,↓reduceIte]at h)<;>try simp only[hc]
 |(with_reducible refine aF hQ ?_;(try cases h);simp only[cZ,da,eK,eO,go_sem,hD,gA,gB,gC,fP];try exact iI))
  refine eQ 1 1 ?_ ?_ (IH (rest,k+1,out++f.flat,out.length+f.flat.length) ⟨g2,h,by rename_i hc;simp only[decide_eq_false_iff_not]at hc;simp only[List.length_append];omega,by simp⟩ (Nat.lt_succ_self _))
  ·(simp only[go_sem,hD,gA,gB,gC,aM cd];try exact bQ)
  ·(simp only[go_sem,hD,gA,gB,gC,aM cd];try exact bQ)
structure Pg.wB (p:Pg):Prop where
 sz:p.size<4611686018427387000
 sE : ∀ t∈p.globals,t.length<4611686018427387904
 ja : ∀ f∈p.procs,f.name.length<4611686018427387904∧(∀ t∈f.vars,t.length<4611686018427387904)∧(∀ t∈f.fin,t.length<4611686018427387904)∧∀ a∈f.params,a.name.length<4611686018427387904
 items : ∀ i∈p.all,i.s.wB
def gate (nest:Int) (len n:Nat) (r:Bool×Nat):Bool×Nat:=if decide (nest > 12) && decide ((len:Int) > 0)then(false,n)else r
mutual
def Sm.rK (nest:Int) (n:Nat):Sm→Bool×Nat
 |⟨id,kind,labels,name,proc,x,has,args,aO,aN⟩=>
  if decide (((n+1:Nat):Int) > 200) ||id != ((n+1:Nat):Int) || !(fh labels) || !(Sm.fields ⟨id,kind,labels,name,proc,x,has,args,aO,aN⟩)then(false,n+1)
  else if !(gate (nest+1) aO.length (n+1) (Sm.fV (nest+1) (n+1) aO)).1 then(false,(gate (nest+1) aO.length (n+1) (Sm.fV (nest+1) (n+1) aO)).2)
  else gate (nest+1) aN.length (gate (nest+1) aO.length (n+1) (Sm.fV (nest+1) (n+1) aO)).2 (Sm.fV (nest+1) (gate (nest+1) aO.length (n+1) (Sm.fV (nest+1) (n+1) aO)).2 aN)
def Sm.fV (nest:Int) (n:Nat):List Sm→Bool×Nat
 | []=>(true,n)
 |s::l=>if !(Sm.rK nest n s).1 then(false,(Sm.rK nest n s).2)else Sm.fV nest (Sm.rK nest n s).2 l
end
def Sm.iJ (nest:Int) (n:Nat) (l:List Sm):Bool×Nat:=gate nest l.length n (Sm.fV nest n l)
theorem Jt (nest:Int) (n:Nat) (s:Sm):Sm.rK nest n s =
 if decide (((n+1:Nat):Int) > 200) ||s.id != ((n+1:Nat):Int) || !(fh s.labels) || !(s.fields)then(false,n+1)
 else if !(Sm.iJ (nest+1) (n+1) s.aO).1 then(false,(Sm.iJ (nest+1) (n+1) s.aO).2)
 else Sm.iJ (nest+1) (Sm.iJ (nest+1) (n+1) s.aO).2 s.aN:=by
 cases s;simp only[Sm.rK,Sm.iJ];rfl
mutual
def Sm.mD:Sm→Prop
 |⟨id,kind,labels,name,proc,x,has,args,aO,aN⟩=>Sm.wB ⟨id,kind,labels,name,proc,x,has,args,aO,aN⟩∧Sm.gj aO∧Sm.gj aN
def Sm.gj:List Sm→Prop
 | []=>True
 |s::l=>s.mD∧Sm.gj l
end
theorem Gl (s:Sm):s.mD↔s.wB∧Sm.gj s.aO∧Sm.gj s.aN:=by cases s;simp only[Sm.mD]
theorem HQ {s:Sm} : ∀ {l:List Sm},Sm.gj l→s∈l→s.mD
 |y::l,h,m=>by
  simp only[Sm.gj]at h
  rcases List.mem_cons.1 m with rfl|m
  ·exact h.1
  ·exact HQ h.2 m
mutual
theorem aeG (nest:Int) (n:Nat) : ∀ s:Sm,n≤201→(Sm.rK nest n s).2≤202∧((Sm.rK nest n s).1=true→(Sm.rK nest n s).2≤200)
 | ⟨id,kind,labels,name,proc,x,has,args,aO,aN⟩,hn=>by
  simp only[Sm.rK]
  split
  ·exact⟨by dsimp only;omega,fun h=>by cases h⟩
  rename_i hc
  simp only[Bool.or_eq_true,decide_eq_true_eq,not_or]at hc
  have CS:n+1≤200:=by omega
  have g1 : ∀ (nest:Int) (l:List Sm) (m:Nat),m≤200→(Sm.fV nest m l).2≤202∧((Sm.fV nest m l).1=true→(Sm.fV nest m l).2≤200)→
   (gate nest l.length m (Sm.fV nest m l)).2≤202∧((gate nest l.length m (Sm.fV nest m l)).1=true→(gate nest l.length m (Sm.fV nest m l)).2≤200):=by
   intro nest l m hm h
   unfold gate
   split
   ·exact⟨by dsimp only;omega,fun h=>by cases h⟩
   ·exact h
  have h1:=g1 (nest+1) aO (n+1) CS (ES (nest+1) (n+1) aO CS)
  split
  ·exact⟨h1.1,fun h=>by cases h⟩
  rename_i L4
  have h2:=h1.2 (by simpa using L4)
  exact g1 (nest+1) aN _ h2 (ES (nest+1) _ aN h2)
theorem ES (nest:Int) (n:Nat) : ∀ l:List Sm,n≤200→(Sm.fV nest n l).2≤202∧((Sm.fV nest n l).1=true→(Sm.fV nest n l).2≤200)
 | [],hn=>by simp only[Sm.fV];exact⟨by omega,fun _=>hn⟩
 |s::l,hn=>by
  simp only[Sm.fV]
  have h1:=aeG nest n s (by omega)
  split
  ·exact⟨h1.1,fun h=>by cases h⟩
  rename_i hc
  exact ES nest _ l (h1.2 (by simpa using hc))
end
theorem Ju {nest:Int} {n:Nat} {l:List Sm} (hn:n≤200):(Sm.iJ nest n l).2≤202∧((Sm.iJ nest n l).1=true→(Sm.iJ nest n l).2≤200):=by
 unfold Sm.iJ gate
 split
 ·exact⟨by dsimp only;omega,fun h=>by cases h⟩
 ·exact ES nest n l hn
theorem aeH : ∀ (m:Nat) (l:List Sm),Sm.aS l≤m→Sm.aS l<4611686018427387000→Sm.gj l→∀ (nest:Int) (n:Nat),0≤nest→nest≤13→n≤200→
 aH Tryz.prog lI [.ptr 0 0, .slice .shared 13 (l.map a8), .int .i64 nest] ⟨[[.int .i64 n]],[]⟩ (.bool (Sm.iJ nest n l).1) ⟨[[.int .i64 (Sm.iJ nest n l).2]],[]⟩:=by
 intro m
 induction m with
 | zero=>
  intro l h hs hf nest n h0 h13 hn
  cases l with
  |nil=>
   have d1:decide ((0:Int) > 0)=false:=rfl
   have e:Sm.iJ nest n [] = (true,n):=by simp[Sm.iJ,gate,Sm.fV]
   have z:decide ((0:Int)<0)=false:=rfl
   rw[e]
   refine aH.go tO rfl fun B Q hB hQ=>?_
   have⟨hD,gA,gB,gC⟩:=bP
   repeat' (first
 |simp only[go_sem,hD,gA,gB,gC,d1,z]
 |(with_reducible refine bo.kj ?_)
 |(with_reducible first|refine dU fun hc=>?_|refine dV fun hc=>?_|refine dW (fun hc=>?_) fun hc=>?_)<;>(try simp only[hc,bs,↓reduceIte]at h)<;>try simp only[hc]
 |(with_reducible refine aF hQ ?_;exact aP))
  |cons s l=>simp only[Sm.aS]at h;omega
 |succ m ih=>
  intro l h hs hf nest n h0 h13 hn
  generalize hR:Sm.iJ nest n l=R
  have hlen:=Sm.dr l
  unfold Sm.iJ gate at hR
  have h:=hR
  refine aH.go tO rfl fun B Q hB hQ=>?_
  have⟨hD,gA,gB,gC⟩:=bP
  repeat' (first
 |simp only[go_sem,hD,gA,gB,gC]
 |(with_reducible first|refine dU fun hc=>?_|refine dV fun hc=>?_|refine dW (fun hc=>?_) fun hc=>?_)<;>(try simp only[hc,bs,↓reduceIte]at h)<;>try simp only[hc]
 | (with_reducible refine aF hQ ?_;(try cases h);simp only [cZ,da,eK,eO,go_sem,hD,gA,gB,gC];repeat' (first | exact Ok.out | with_reducible refine jD ?_ ?_ | (simp;done))))
  all_goals
   have amE:l≠ []→nest≤12:=by
    intro fu
    have:l.length≠0:=by simpa using fu
    simp_all<;>omega
   refine fz 1 0 (bo.ind (ι:=List Sm×Nat×Nat) (fun i=>l.drop i.2.1=i.1∧Sm.fV nest i.2.2 i.1=R∧i.2.2≤200) (fun i=>i.1.length)
    (fun i=> [(0, .ptr 0 0),(2, .int .i64 nest),(16, .slice .shared 13 (l.map a8)),(17, .int .i64 (l.length:Int)),(18, .int .i64 (i.2.1:Int))]) (fun i=>⟨[[.int .i64 (i.2.2:Int)]],[]⟩) ?_ (l,0,n) ⟨rfl,h,hn⟩)
   rintro⟨rest,k,j⟩ ⟨h1,h,hj⟩ IH
   dsimp only at h1 h hj
   cases rest with
   |nil=>
    have hD:=drop_nil h1
    simp only[Sm.fV]at h
    repeat' (first
 |simp only[go_sem,hD,gA,gB,gC]
 |(with_reducible first|refine dU fun hc=>?_|refine dV fun hc=>?_|refine dW (fun hc=>?_) fun hc=>?_)<;>(try simp only[hc,bs,↓reduceIte]at h)<;>try simp only[hc]
 | (with_reducible refine aF hQ ?_;exact kC))
   | cons s rest=>
    obtain⟨gA,g2,hD,g4⟩:=drop_cons h1
    have gB:k<4611686018427387904:=by omega
    have iO:=List.mem_of_getElem? gA
    have dL:=Sm.cu iO
    have aCC:=amE (by rintro rfl;simp at iO)
    obtain⟨Hd,hft,hfe⟩:=(Gl s).1 (HQ hf iO)
    have Yo:Sm.aS s.aO<s.size∧Sm.aS s.aN<s.size:=by cases s;simp only[Sm.size];omega
    have w1:IntKind.wrap .i64 ((j:Int)+1)=((j+1:Nat):Int):=by rw[eB]<;>omega
    have w2:IntKind.wrap .i64 (nest+1)=nest+1:=eB (by omega) (by omega)
    have c1:=fun s=>BX Hd.Nk Hd.lL s
    have c2:=fun s=>Z2 Hd s
    simp only[Sm.fV,Jt]at h
    by_cases Wy:j+1≤200
    ·have r1:=Ju (nest:=nest+1) (l:=s.aO) Wy
     have c3:=fun s' ho=>(ih s.aO (by omega) (by omega) hft (nest+1) (j+1) (by omega) (by omega) Wy).Yu (s:=s') (o:=0) (by simp[D.bF,D.ok,kY,Tag.ok]) rfl rfl rfl ho
     by_cases vP:(Sm.iJ (nest+1) (j+1) s.aO).1=true
     ·have c4:=fun s' ho=>(ih s.aN (by omega) (by omega) hfe (nest+1) _ (by omega) (by omega) (r1.2 vP)).Yu (s:=s') (o:=0) (by simp [D.bF,D.ok,kY,Tag.ok]) rfl rfl rfl ho
      have r2:=Ju (nest:=nest+1) (l:=s.aN) (r1.2 vP)
      simp only[vP]at c3
      simp only[vP,Bool.not_true,Bool.false_eq_true,↓reduceIte]at h
      repeat' (first
 |simp only[go_sem,hD,gA,gB,gC,w1,w2,vP]
 |(with_reducible refine CU (c1 _) ?_)
 |(with_reducible refine CU (c2 _) ?_)
 |(with_reducible refine CU (c3 _ rfl) ?_)
 |(with_reducible refine CU (c4 _ rfl) ?_)
 |(with_reducible first|refine dU fun hc=>?_|refine dV fun hc=>?_|refine dW (fun hc=>?_) fun hc=>?_)<;>(try simp only[hc,bs,↓reduceIte]at h)<;>try simp only[hc]
 |(with_reducible refine aF hQ ?_;(try cases h);simp only[cZ,da,eK,eO,go_sem,hD,gA,gB,gC,w1,w2,vP];try exact iI))
      refine fz 1 0 (IH (rest,k+1,(Sm.iJ (nest+1) (Sm.iJ (nest+1) (j+1) s.aO).2 s.aN).2) ⟨g2,h,r2.2 (by assumption)⟩ (Nat.lt_succ_self _))
     ·have vP:(Sm.iJ (nest+1) (j+1) s.aO).1=false:=by simpa using vP
      simp only[vP]at c3
      simp only[vP,Bool.not_false,↓reduceIte]at h
      repeat' (first
 |simp only[go_sem,hD,gA,gB,gC,w1,w2,vP]
 |(with_reducible refine CU (c1 _) ?_)
 |(with_reducible refine CU (c2 _) ?_)
 |(with_reducible refine CU (c3 _ rfl) ?_)
 |(with_reducible first|refine dU fun hc=>?_|refine dV fun hc=>?_|refine dW (fun hc=>?_) fun hc=>?_)<;>(try simp only[hc,bs,↓reduceIte]at h)<;>try simp only[hc]
 | (with_reducible refine aF hQ ?_;(try cases h);simp only [cZ,da,eK,eO,go_sem,hD,gA,gB,gC,w1,w2,vP];try exact iI))
    ·have d1:decide (((j+1:Nat):Int) > 200)=true:=by simp;omega
     simp only[d1,Bool.true_or,Bool.not_false,↓reduceIte]at h
     repeat' (first
 |simp only[go_sem,hD,gA,gB,gC,w1,w2,d1]
 |(with_reducible refine CU (c1 _) ?_)
 |(with_reducible refine CU (c2 _) ?_)
 |(with_reducible first|refine dU fun hc=>?_|refine dV fun hc=>?_|refine dW (fun hc=>?_) fun hc=>?_)<;>(try simp only[hc,bs,↓reduceIte]at h)<;>try simp only[hc]
 |(with_reducible refine aF hQ ?_;(try cases h);simp only[cZ,da,eK,eO,go_sem,hD,gA,gB,gC,w1,w2,d1];try exact iI))
def Pc.fV (n:Nat):List Pc→Bool
 | []=>true
 |f::l=>
  if decide ((f.params.length:Int) > 8) ||decide ((f.vars.length:Int) > 16) || !(isName f.name) || !(fh f.vars) || !(fh f.fin)then false
  else if !(Pm.gL f.params)then false
  else if !(Sm.iJ 1 n f.body).1 then false
  else Pc.fV (Sm.iJ 1 n f.body).2 l
def Pg.Jv (p:Pg):Bool:=
 if decide ((p.globals.length:Int) > 16) ||decide ((p.procs.length:Int) > 16) || !(fh p.globals)then false
 else Pc.fV 0 p.procs
structure Pg.ET (p:Pg):Prop where
 sz:p.size<4611686018427387000
 sE : ∀ t∈p.globals,t.length<4611686018427387904
 ja : ∀ f∈p.procs,f.name.length<4611686018427387904∧(∀ t∈f.vars,t.length<4611686018427387904)∧(∀ t∈f.fin,t.length<4611686018427387904)∧∀ a∈f.params,a.name.length<4611686018427387904
 body : ∀ f∈p.procs,Sm.gj f.body
theorem HR {p:Pg} (hf:p.ET) (s:St):aH Tryz.prog rh [.agg (bK p)] s (.bool p.Jv) s:=by
 refine aH.pure ?_ (by simp only[D.bF,D.ok,iP];rfl) rfl s
 obtain⟨dL,sT,aid,EG⟩:=hf
 have p8:Pc.aS p.procs<4611686018427387000:=by simp only[Pg.size]at dL;omega
 have amF:p.globals.length<4611686018427387904:=by simp only[Pg.size]at dL;omega
 have aCq:p.procs.length<4611686018427387904:=by have:=Pc.dr p.procs;omega
 have hg:=fun s=>BX amF sT s
 unfold S0
 generalize h:p.Jv=R
 unfold Pg.Jv at h
 refine aH.go M8 rfl fun B Q hB hQ=>?_
 have⟨hD,gA,gB,gC⟩:=bP
 repeat' (first
 |simp only[go_sem,hD,gA,gB,gC]
 |(with_reducible refine CU (hg _) ?_)
 |(with_reducible first|refine dU fun hc=>?_|refine dV fun hc=>?_|refine dW (fun hc=>?_) fun hc=>?_)<;>(try simp only[hc,bs,↓reduceIte]at h)<;>try simp only[hc]
 |(with_reducible refine aF hQ ?_;exact kC))
 refine fz 2 0 (bo.ind (ι:=List Pc×Nat×Nat) (fun i=>p.procs.drop i.2.1=i.1∧Pc.fV i.2.2 i.1=R∧i.2.2≤200) (fun i=>i.1.length)
  (fun i=> [(1, .ptr 0 0),(3, .ptr 1 0),(27, .slice .shared 5 (p.procs.map bJ)),(28, .int .i64 (p.procs.length:Int)),(29, .int .i64 (i.2.1:Int))]) (fun i=>⟨[bK p,[.int .i64 (i.2.2:Int)]],[]⟩) ?_ (p.procs,0,0) ⟨rfl,h,Nat.zero_le _⟩)
 rintro⟨rest,k,n⟩ ⟨h1,h,hn⟩ IH
 dsimp only at h1 h hn
 cases rest with
 |nil=>
  have hD:=drop_nil h1
  simp only[Pc.fV]at h
  repeat' (first
 |simp only[go_sem,hD,gA,gB,gC]
 |(with_reducible first|refine dU fun hc=>?_|refine dV fun hc=>?_|refine dW (fun hc=>?_) fun hc=>?_)<;>(try simp only[hc,bs,↓reduceIte]at h)<;>try simp only[hc]
 |(with_reducible refine aF hQ ?_;exact kC))
 |cons f rest=>
  obtain⟨gA,g2,hD,g4⟩:=drop_cons h1
  have cd:k<4611686018427387904:=by omega
  have iO:=List.mem_of_getElem? gA
  have CT:=Pc.cu iO
  simp only[Pc.size]at CT
  obtain⟨CW,hfv,hff,Wz⟩:=aid f iO
  have hnm:=DZ f.name CW
  have hv:=fun s=>BX (by omega) hfv s
  have he:=fun s=>BX (by omega) hff s
  have hb:=fun s' o ho=>(aeH _ f.body (Nat.le_refl _) (by omega) (EG f iO) 1 n (by omega) (by omega) hn).Yu (s:=s') (o:=o) (by simp[D.bF,D.ok,kY,Tag.ok]) rfl rfl rfl ho
  have hle:=Ju (nest:=1) (l:=f.body) hn
  simp only[Pc.fV]at h
  repeat' (first
 |simp only[go_sem,hD,gA,gB,gC]
 |(with_reducible refine CU (hnm _) ?_)
 |(with_reducible refine CU (hv _) ?_)
 |(with_reducible refine CU (he _) ?_)
 |(with_reducible first|refine dU fun hc=>?_|refine dV fun hc=>?_|refine dW (fun hc=>?_) fun hc=>?_)<;>(try simp only[hc,bs,↓reduceIte]at h)<;>try simp only[hc]
 |(with_reducible refine aF hQ ?_;exact kC)
 | (cases h;done))
  refine fz 3 0 (bo.ind (ι:=List Pm×Nat) (fun i=>f.params.drop i.2=i.1∧(if !(Pm.gL i.1)then false else if !(Sm.iJ 1 n f.body).1 then false else Pc.fV (Sm.iJ 1 n f.body).2 rest)=R) (fun i=>i.1.length)
   (fun i=> [(1, .ptr 0 0),(3, .ptr 1 0),(5, .ptr 2 0),(27, .slice .shared 5 (p.procs.map bJ)),(28, .int .i64 (p.procs.length:Int)),(29, .int .i64 (k:Int)),(62, .slice .shared 2 (f.params.map iV)),(63, .int .i64 (f.params.length:Int)),(64, .int .i64 (i.2:Int))]) (fun i=>⟨[bK p,[.int .i64 (n:Int)],bJ f],[]⟩) ?_ (f.params,0) ⟨rfl,h⟩)
  rintro⟨TJ,j⟩ ⟨j1,h⟩ D1
  dsimp only at j1 h
  cases TJ with
  |nil=>
   have hD:=drop_nil j1
   simp only[Pm.gL,Bool.not_true,Bool.false_eq_true,↓reduceIte]at h
   repeat' (first
 |simp only[go_sem,hD,gA,gB,gC]
 |(with_reducible refine CU (hb _ _ rfl) ?_)
 |(with_reducible first|refine dU fun hc=>?_|refine dV fun hc=>?_|refine dW (fun hc=>?_) fun hc=>?_)<;>(try simp only[hc,bs,↓reduceIte]at h)<;>try simp only[hc]
 |(with_reducible refine aF hQ ?_;exact kC)
 | (cases h;done))
   refine eQ 2 0 ?_ ?_ (IH (rest,k+1,(Sm.iJ 1 n f.body).2) ⟨g2,h,hle.2 (by assumption)⟩ (Nat.lt_succ_self _))
   ·(simp only[go_sem,hD,gA,gB,gC,aM cd];try exact bQ)
   ·(simp only[go_sem,hD,gA,gB,gC,aM cd];try exact bQ)
  |cons a TJ=>
   obtain⟨gA,b2,hD,b4⟩:=drop_cons j1
   have Wy:j<4611686018427387904:=by omega
   have ha:=DZ a.name (Wz a (List.mem_of_getElem? gA))
   simp only[Pm.gL]at h
   repeat' (first
 |simp only[go_sem,hD,gA,gB,gC]
 |(with_reducible refine CU (ha _) ?_)
 |(with_reducible first|refine dU fun hc=>?_|refine dV fun hc=>?_|refine dW (fun hc=>?_) fun hc=>?_)<;>(try simp only[hc,bs,↓reduceIte]at h)<;>try simp only[hc]
 |(with_reducible refine aF hQ ?_;exact kC)
 | (cases h;done))
   refine eQ 3 0 ?_ ?_ (D1 (TJ,j+1) ⟨b2,h⟩ (Nat.lt_succ_self _))
   ·(simp only[go_sem,hD,gA,gB,gC,aM Wy];try exact bQ)
   ·(simp only[go_sem,hD,gA,gB,gC,aM Wy];try exact bQ)
theorem B0 {s:aK} (h:isName s=true):s.length≤8:=by
 cases s with
 |nil=>simp
 | cons c r=>
  simp only[isName]at h
  split at h
  ·cases h
  ·rename_i hc
   simp only[Bool.or_eq_true,decide_eq_true_eq,not_or]at hc
   simp only[List.length_cons];omega
theorem qS {t:aK} : ∀ {l:List aK},fh l=true→t∈l→isName t=true
 | s::l,h,m=>by
  simp only[fh]at h
  cases hs:isName s
  ·simp[hs]at h
  ·simp [hs]at h
   rcases List.mem_cons.1 m with rfl|m
   ·exact hs
   ·exact qS h m
theorem Nr {a:Ar} : ∀ {l:List Ar},Ar.gL l=true→a∈l→a.may=true
 | s::l,h,m=>by
  simp only[Ar.gL]at h
  cases hs:s.may
  ·simp[hs]at h
  ·simp [hs]at h
   rcases List.mem_cons.1 m with rfl|m
   ·exact hs
   ·exact Nr h m
theorem Ke {a:Pm} : ∀ {l:List Pm},Pm.gL l=true→a∈l→isName a.name=true
 | s::l,h,m=>by
  simp only[Pm.gL]at h
  cases hs:isName s.name
  ·simp[hs]at h
  ·simp [hs]at h
   rcases List.mem_cons.1 m with rfl|m
   ·exact hs
   ·exact Ke h m
mutual
theorem HS : ∀ x:Ex,x.form=true→x.texts
 | ⟨op,n,name,kids⟩,h=>by
  simp only[Ex.form]at h
  split at h
  ·cases h
  ·rename_i hc
   refine⟨?_,FC kids h⟩
   simp only[Bool.or_eq_true,Bool.and_eq_true,Bool.not_eq_true',not_or,not_and,Bool.not_eq_false]at hc
   cases hn:(name == [])
   ·have:=B0 (hc.2 hn);omega
   ·simp at hn;subst hn;simp
theorem FC : ∀ l:List Ex,Ex.vq l=true→Ex.xW l
 | [],_=>trivial
 | x::l,h=>by
  simp only[Ex.vq]at h
  cases hx:x.form
  ·simp[hx]at h
  ·simp [hx]at h
   exact⟨HS x hx,FC l h⟩
end
theorem Kf {x:Ex} (h:x.may=true):x.texts:=by
 unfold Ex.may at h
 simp only[Bool.and_eq_true]at h
 exact HS x h.2
theorem HT {x:Ex} (h:x.none=true):x.texts:=by
 obtain⟨op,n,name,kids⟩:=x
 simp[Ex.none]at h
 obtain⟨⟨_,h1⟩,h2⟩:=h
 subst h1 h2
 exact⟨by simp,trivial⟩
mutual
theorem WA {deep cW:Int} {aN:Bool} {out:List It} {i:It} : ∀ s:Sm,i∈jP deep cW aN out s→i∈out∨i.s.size≤s.size
 | ⟨id,kind,labels,name,proc,x,has,args,aO,e⟩,h=>by
  simp only[jP]at h
  have key:i∈out++ [(⟨⟨id,kind,labels,name,proc,x,has,args,aO,e⟩,deep,cW,aN⟩:It)]→i∈out∨i.s.size≤(⟨id,kind,labels,name,proc,x,has,args,aO,e⟩:Sm).size:=by
   intro h
   rcases List.mem_append.1 h with h|h
   ·exact .inl h
   ·simp at h;subst h;exact .inr (Nat.le_refl _)
  split at h
  ·rcases zc e h with h | h
   ·rcases zc aO h with h | h
    ·exact key h
    ·right;simp only[Sm.size];omega
   ·right;simp only[Sm.size];omega
  ·exact key h
theorem zc {deep cW:Int} {aN:Bool} {out:List It} {i:It} : ∀ l:List Sm,i∈eW deep cW aN out l→i∈out∨i.s.size<Sm.aS l
 | [],h=>by simp only[eW]at h;exact .inl h
 | s::l,h=>by
  simp only[eW]at h
  split at h
  ·rcases zc l h with h | h
   ·rcases WA s h with h | h
    ·exact .inl h
    ·right;simp only[Sm.aS];omega
   ·right;simp only[Sm.aS];omega
  ·exact .inl h
end
theorem Ns {i:It} : ∀ (l:List Pc) (out:List It),i∈allM out l→i∈out∨i.s.size<Pc.aS l
 | [],out,h=>by simp only[allM]at h;exact .inl h
 | f::l,out,h=>by
  have key:i∈out++f.flat→i∈out∨i.s.size<Pc.aS (f::l):=by
   intro h
   rcases List.mem_append.1 h with h|h
   ·exact .inl h
   ·rcases zc _ h with h | h
    ·simp at h
    ·right;simp only[Pc.aS,Pc.size];omega
  simp only[allM]at h
  split at h
  ·exact key h
  ·rcases Ns l _ h with h | h
   ·exact key h
   ·right;simp only[Pc.aS];omega
theorem HU {i:It} : ∀ (l:List It) (n:Nat),It.gL n l=true→i∈l→i.s.one=true
 | s::l,n,h,m=>by
  simp only[It.gL]at h
  split at h
  ·cases h
  ·rename_i hc
   simp only[Bool.or_eq_true,Bool.not_eq_true',not_or,Bool.not_eq_false]at hc
   rcases List.mem_cons.1 m with rfl|m
   ·exact hc.2
   ·exact HU l (n+1) h m
theorem Nt {s:Sm} (h:s.one=true) (hs:s.size<4611686018427387000):s.wB:=by
 unfold Sm.one at h
 split at h
 ·cases h
 split at h
 ·cases h
 split at h
 ·cases h
 split at h
 ·cases h
 rename_i c1 c2 c3 c4
 simp only[Bool.or_eq_true,Bool.and_eq_true,Bool.not_eq_true',not_or,not_and,Bool.not_eq_false,decide_eq_true_eq]at c1 c2 c3 c4
 obtain⟨⟨⟨⟨⟨_,_⟩,auv⟩,cx⟩,cn⟩,_⟩:=c1
 obtain⟨c21,c22⟩:=c2
 obtain⟨⟨c31,c32⟩,c33⟩:=c3
 have nm : ∀ {t:aK},isName t=true→t.length<4611686018427387904:=fun h=>by have:=B0 h;omega
 have dL:1+s.labels.length+s.x.size+Ar.aS s.args≤s.size:=by cases s;simp only[Sm.size];omega
 have sQ:=Ar.dr s.args
 refine⟨fun t ht=>nm (qS auv ht),by omega, ?_, ?_,by omega, ?_,by omega,fun a ha=>?_⟩
 ·cases hn:s.hasName
  ·cases he:(s.name == [])
   ·exact nm (c22 ⟨hn,he⟩).2
   ·simp at he;rw[he];simp
  ·exact nm (c21 hn)
 ·cases nB:s.Ba
  ·rw [nB]at c31
   have:s.proc = []:=by simpa using c31
   rw[this];simp
  ·exact nm (c32 nB)
 ·cases hx:s.Gj
  ·exact HT (cn hx)
  ·exact Kf (cx hx)
 ·have hm:=Nr c4 ha
  have hsa:=Ar.cu ha
  unfold Ar.may at hm
  split at hm
  ·simp only [Bool.and_eq_true]at hm
   exact⟨by omega,HT hm.2,nm hm.1⟩
  ·simp only [Bool.and_eq_true,beq_iff_eq]at hm
   exact⟨by omega,Kf hm.2,by rw[hm.1];simp⟩
theorem Kg {f:Pc} : ∀ {l:List Pc},Pc.ja l=true→f∈l→isName f.name=true∧fh f.vars=true∧fh f.fin=true∧Pm.gL f.params=true
 |s::l,h,m=>by
  simp only[Pc.ja]at h
  split at h
  ·cases h
  split at h
  ·cases h
  rename_i c1 c2
  simp only[Bool.or_eq_true,Bool.not_eq_true',not_or,Bool.not_eq_false]at c1 c2
  rcases List.mem_cons.1 m with rfl|m
  ·exact⟨c1.1.1.1.1,c1.1.2,c1.2,c2⟩
  ·exact Kg h m
theorem Z7 {p:Pg} (h:p.may=true) (hs:p.size<4611686018427387000):p.wB:=by
 unfold Pg.may at h
 split at h
 ·cases h
 split at h
 ·cases h
 split at h
 ·cases h
 rename_i c1 c2 c3
 simp only[Bool.or_eq_true,Bool.not_eq_true',not_or,Bool.not_eq_false]at c1 c2
 have nm : ∀ {t:aK},isName t=true→t.length<4611686018427387904:=fun h=>by have:=B0 h;omega
 refine⟨hs,fun t ht=>nm (qS c1.2 ht),fun f hf=>?_,fun i hi=>?_⟩
 ·obtain⟨a,b,c,d⟩:=Kg c2 hf
  exact⟨nm a,fun t ht=>nm (qS b ht),fun t ht=>nm (qS c ht),fun t ht=>nm (Ke d ht)⟩
 ·refine Nt (HU _ _ h hi) ?_
  rcases Ns _ _ hi with h1|h1
  ·simp at h1
  ·simp only[Pg.size]at hs;omega
theorem WB {t:aK} (h:isName t=true):t≠ []:=by rintro rfl;cases h
theorem Z8 (op n:Int) (name:aK) (kids:List Ex):Ex.form ⟨op,n,name,kids⟩=true↔
 p7 op=(kids.length:Int)∧(op=1∨n=0)∧0≤n∧(op=2↔name≠ [])∧(name = []∨isName name=true)∧Ex.vq kids=true:=by
 simp only[Ex.form]
 split
 ·rename_i h
  simp only[Bool.or_eq_true,Bool.and_eq_true,bne_iff_ne,ne_eq,decide_eq_true_eq,Bool.not_eq_true']at h
  refine⟨fun h=>(Bool.false_ne_true h).elim,fun⟨h1,h2,h3,h4,h5,_⟩=>?_⟩
  exfalso
  rcases h with (((h|h)|h)|h)|h
  ·exact h h1
  ·rcases h2 with h2 | h2
   ·exact h.1 h2
   ·exact h.2 h2
  ·omega
  ·by_cases h2:op=2<;>cases name<;>simp_all
  ·rcases h5 with h5 | h5
   ·subst h5;simp at h
   ·rw[h5]at h;simp at h
 ·rename_i h
  simp only[Bool.or_eq_true,Bool.and_eq_true,bne_iff_ne,ne_eq,decide_eq_true_eq,Bool.not_eq_true',not_or,not_and,Decidable.not_not,Bool.not_eq_false]at h
  obtain⟨⟨⟨⟨h1,h2⟩,h3⟩,h4⟩,h5⟩:=h
  refine⟨fun h=>⟨h1, ?_,by omega, ?_, ?_,h⟩,fun h=>h.2.2.2.2.2⟩
  ·by_cases h:op=1
   ·exact .inl h
   ·exact .inr (h2 h)
  ·by_cases h2:op=2<;>cases name<;>simp_all
  ·cases name with
   |nil=>exact .inl rfl
   |cons c r=>exact .inr (h5 rfl)
theorem Nu (op n:Int) (name:aK) (kids:List Ex) (k:Int):Ex.dp k ⟨op,n,name,kids⟩=true↔
 1≤k∧(kids.length:Int)=p7 op∧(if op=1 then 0≤n∧name = []else if op=2 then n=0∧isName name=true else n=0∧name = []∧Ex.D0 (k - 1) kids=true):=by
 simp only[Ex.dp]
 split
 ·rename_i h
  simp only[Bool.or_eq_true,decide_eq_true_eq,bne_iff_ne,ne_eq]at h
  refine⟨fun h=>(Bool.false_ne_true h).elim,fun⟨h1,h2,_⟩=>?_⟩
  rcases h with h|h
  ·omega
  ·exact(h h2).elim
 rename_i h
 simp only[Bool.or_eq_true,decide_eq_true_eq,bne_iff_ne,ne_eq,not_or,Decidable.not_not]at h
 have h1:1≤k:=by omega
 simp only[h1,h.2,true_and]
 by_cases o1:op=1
 ·subst o1
  cases name<;>simp
 ·have o1' : ¬ (op==1)=true:=by simpa using o1
  rw[if_neg o1',if_neg o1]
  by_cases o2:op=2
  ·subst o2;simp
  ·have o2' : ¬ (op==2)=true:=by simpa using o2
   rw[if_neg o2',if_neg o2]
   by_cases hn:n=0
   ·subst hn
    cases name<;>simp
   ·simp[hn]
mutual
theorem acR : ∀ (x:Ex) (k:Int),0≤k→(x.dp k=true↔(x.depth:Int)≤k∧x.form=true)
 | ⟨op,n,name,kids⟩,k,hk=>by
  rw[Nu,Z8]
  have hd:Ex.depth ⟨op,n,name,kids⟩=Ex.rR kids+1:=by simp only[Ex.depth]
  rw[hd]
  by_cases h1:1≤k
  ·have ih:=WC kids (k - 1) (by omega)
   by_cases o1:op=1
   ·subst o1
    have ha:p7 1=0:=rfl
    rw[ha,if_pos rfl]
    constructor
    ·rintro⟨_,h2,h3,h4⟩
     have:kids = []:=List.eq_nil_of_length_eq_zero (by omega)
     subst this;subst h4
     simp[Ex.rR,Ex.vq,h3];omega
    ·rintro⟨h2,h3,_,h4,h5,_⟩
     refine⟨h1,h3.symm,h4, ?_⟩
     cases name
     ·rfl
     ·simp at h5
   ·rw [if_neg o1]
    by_cases o2:op=2
    ·subst o2
     have ha:p7 2=0:=rfl
     rw[ha,if_pos rfl]
     constructor
     ·rintro⟨_,h2,h3,h4⟩
      have:kids = []:=List.eq_nil_of_length_eq_zero (by omega)
      subst this;subst h3
      have:=WB h4
      simp[Ex.rR,Ex.vq,h4,this];omega
     ·rintro⟨h2,h3,h4,_,h5,h6,_⟩
      refine⟨h1,h3.symm,h4.resolve_left o1, ?_⟩
      exact h6.resolve_left (h5.1 rfl)
    ·rw [if_neg o2,ih]
     constructor
     ·rintro⟨_,h2,h3,h4,h5,h6⟩
      subst h3;subst h4
      exact⟨by omega,h2.symm, .inr rfl,Int.le_refl _,by simp[o2], .inl rfl,h6⟩
     ·rintro⟨h2,h3,h4,_,h5,h6,h7⟩
      refine⟨h1,h3.symm,h4.resolve_left o1, ?_,by omega,h7⟩
      exact Decidable.byContradiction fun h=>o2 (h5.2 h)
  ·constructor
   ·rintro⟨h,_⟩;exact(h1 h).elim
   ·rintro⟨h,_⟩;omega
theorem WC : ∀ (l:List Ex) (k:Int),0≤k→(Ex.D0 k l=true↔(Ex.rR l:Int)≤k∧Ex.vq l=true)
 | [],k,hk=>by simp[Ex.D0,Ex.rR,Ex.vq,hk]
 | x::l,k,hk=>by
  have h1:=acR x k hk
  have h2:=WC l k hk
  have hd:Ex.rR (x::l)=max x.depth (Ex.rR l):=by simp only[Ex.rR]
  rw[hd]
  simp only[Ex.D0,Ex.vq]
  cases hx:Ex.dp k x
  ·simp only [Bool.not_false, ↓reduceIte,Bool.false_eq_true,false_iff,not_and]
   intro h3
   have : ¬ ((x.depth:Int)≤k∧x.form=true):=by rw[← h1,hx];simp
   have hf:x.form=false:=by
    cases hf:x.form
    ·rfl
    ·exact(this ⟨by omega,hf⟩).elim
   simp[hf]
  ·have:=h1.1 hx
   simp only[Bool.not_true,Bool.false_eq_true,↓reduceIte,this.2,h2]
   have h3:=this.1
   refine and_congr_left fun _=>?_
   omega
end
theorem HV (x:Ex):x.dp 20=x.may:=by
 rw[Bool.eq_iff_iff,acR x 20 (by omega)]
 unfold Ex.may
 simp only[Bool.and_eq_true,decide_eq_true_eq]
 refine and_congr_left fun _=>?_
 omega
theorem Kh (x:Ex) (b:Bool):xY x b=if b then x.may else x.none:=by
 unfold xY
 rw[HV]
 cases b<;>simp
theorem Ki (t:aK) (b:Bool):vS t b=if b then isName t else t == []:=by
 unfold vS
 cases b<;>simp
theorem FD : ∀ l:List Ar,rj l=Ar.gL l
 | []=>rfl
 |a::l=>by
  simp only[rj,Ar.gL,Ar.may,Kh,Ki,FD l]
  grind
theorem RO {α:Type} (l:List α):((l.length:Int)==0) = !(decide ((l.length:Int) > 0)):=by
 cases l with
 |nil=>rfl
 |cons a l=>
  have h1:(((a::l).length:Int)==0)=false:=by simp only[List.length_cons,beq_eq_false_iff_ne];omega
  have h2:decide (((a::l).length:Int) > 0)=true:=by simp only[List.length_cons,decide_eq_true_eq];omega
  rw[h1,h2];rfl
theorem HW (s:Sm):s.one=(fh s.labels && s.fields):=by
 have hk:s.kind=1∨s.kind=2∨s.kind=3∨s.kind=4∨s.kind=5∨s.kind=6∨s.kind=7∨s.kind=8∨s.kind=9∨s.kind=10∨s.kind<1∨s.kind > 10:=by omega
 unfold Sm.one Sm.fields Sm.flags Sm.Gj Sm.hasName Sm.Ba
 have p1:isName [] = false:=rfl
 rcases hk with h|h|h|h|h|h|h|h|h|h|h|h
 all_goals
  simp only[h,RO,FD,Kh,Ki,Sm.LJ,Sm.LI]
  grind
mutual
def Ex.nG (out:List aK):Ex→List aK
 |⟨op,_,name,kids⟩=>Ex.mE (if op==2 && !(fH out name)then out++ [name]else out) kids
def Ex.mE (out:List aK):List Ex→List aK
 | []=>out
 |x::l=>Ex.mE (Ex.nG out x) l
end
def Ex.names (x:Ex):List aK:=if x.may then x.nG []else []
mutual
theorem uS (out:List aK) : ∀ x:Ex,(Ex.nG out x).length≤out.length+x.size
 |⟨op,n,name,kids⟩=>by
  simp only[Ex.nG,Ex.size]
  have h:=Kj (if op==2 && !(fH out name)then out++ [name]else out) kids
  refine Nat.le_trans h ?_
  split<;>simp<;>omega
theorem Kj (out:List aK) : ∀ l:List Ex,(Ex.mE out l).length≤out.length+Ex.aS l
 | []=>by simp[Ex.mE,Ex.aS]
 |x::l=>by
  simp only[Ex.mE,Ex.aS]
  have h1:=uS out x
  have h2:=Kj (Ex.nG out x) l
  omega
end
def vr (out:List aK) (x:aK):List aK:=if fH out x then out else out++ [x]
def amG (x:aK):List aK→Bool
 | []=>false
 |s::l=>if s==x then true else amG x l
abbrev WD (N:Nat):Prop:=∀ (x:Ex),x.size≤N→∀ out:List aK,out.length+x.size≤1000000000→∀ {s:St} {t:Nat},s.az[t]? = some (some out.length)→
 aH Tryz.prog jO [.agg (bW x), .slice (.tok t) 1 (out.map encStr)] s (.slice (.tok t) 1 ((x.nG out).map encStr)) ⟨s.aj,s.az.set t (some (x.nG out).length)⟩
theorem aih {N:Nat} (ih:WD N) {op m:Int} {name:aK} {kids:List Ex} (h:Ex.size ⟨op,m,name,kids⟩≤N+1) {out:List aK} (ho:out.length+Ex.size ⟨op,m,name,kids⟩≤1000000000) :
 aH Tryz.prog jO [.agg (bW ⟨op,m,name,kids⟩), .slice (.tok 0) 1 (out.map encStr)] ⟨[],[some out.length]⟩ (.slice (.tok 0) 1 ((Ex.nG out ⟨op,m,name,kids⟩).map encStr)) ⟨[],[some (Ex.nG out ⟨op,m,name,kids⟩).length]⟩:=by
 obtain⟨R,hG⟩ : ∃ R,Ex.nG out ⟨op,m,name,kids⟩=R:=⟨_,rfl⟩
 rw[hG]
 simp only[Ex.nG]at hG
 simp only[Ex.size]at h ho
 have hlen:kids.length<1000000000:=by have:=Ex.dr kids;omega
 have hk : ∀ y∈kids,∀ out:List aK,out.length+y.size≤1000000000→∀ {s:St} {t:Nat},s.az[t]? = some (some out.length)→
  aH Tryz.prog jO [.agg (bW y), .slice (.tok t) 1 (out.map encStr)] s (.slice (.tok t) 1 ((y.nG out).map encStr)) ⟨s.aj,s.az.set t (some (y.nG out).length)⟩:=fun y hy out ho=>
  ih y (by have:=Ex.cu hy;omega) out ho
 refine aH.go tP rfl fun B Q hB hQ=>?_
 have⟨hD,gA,gB,gC⟩:=bP
 have gB:(out.length+1)*17≤bp:=by unfold bp;omega
 rcases Bool.eq_false_or_eq_true (op==2)with b1|b1
 ·rcases Bool.eq_false_or_eq_true (fH out name)with b2 | b2
  ·simp only [b1,b2,Bool.not_true,Bool.and_false,Bool.false_eq_true,if_false]at hG
   repeat' (first
 |simp only[go_sem,hD,gA,gB,gC,b1,b2]
 |(with_reducible refine CU (kL (l:=out) (by omega) name _ _) ?_)
 | (with_reducible refine aF hQ ?_;exact aP))
   refine fz 1 1 (bo.ind (ι:=List Ex×Nat×List aK×Nat) (fun i=>kids.drop i.2.1=i.1∧Ex.mE i.2.2.1 i.1=R∧i.2.2.1.length+Ex.aS i.1≤1000000000∧i.2.2.2=i.2.2.1.length) (fun i=>i.1.length)
    (fun i=> [(1, .slice (.tok 0) 1 (i.2.2.1.map encStr)),(2, .ptr 0 0),(23, .slice .shared 4 (kids.map bW)),(24, .int .i64 (kids.length:Int)),(25, .int .i64 (i.2.1:Int))]) (fun i=>⟨[bW ⟨op,m,name,kids⟩],[some i.2.2.2]⟩) ?_ (kids,0,out,out.length) ⟨rfl,hG,by simp;omega,by simp⟩)
   rintro⟨rest,k,dc,n'⟩ ⟨h1,h2,h3,h4⟩ IH
   dsimp only at h1 h2 h3 h4
   subst h4
   cases rest with
   |nil=>
    have hD:=drop_nil h1
    simp only[Ex.mE]at h2
    subst h2
    repeat' (first
 |simp only[go_sem,hD,gA,gB,gC]
 | (with_reducible refine aF hQ ?_;exact aP))
   |cons y rest=>
    obtain⟨gA,g2,hD,g4⟩:=drop_cons h1
    have cd:k<4611686018427387904:=by omega
    simp only[Ex.mE]at h2
    simp only[Ex.aS]at h3
    have hy:=fun {s:St} {t:Nat} (ht:s.az[t]? = some (some dc.length))=>hk y (List.mem_of_getElem? gA) dc (by omega) ht
    have hl:=uS dc y
    repeat' (first
 |simp only[go_sem,hD,gA,gB,gC]
 |(with_reducible refine CU (hy (by with_unfolding_all rfl)) ?_)
 | (with_reducible refine aF hQ ?_;exact aP))
    refine eQ 1 1 ?_ ?_ (IH (rest,k+1,_,_) ⟨g2,h2,by dsimp only;omega,rfl⟩ (Nat.lt_succ_self _))
    ·(simp only[go_sem,hD,gA,gB,gC,aM cd];try exact bQ)
    ·(simp only[go_sem,hD,gA,gB,gC,aM cd];try exact bQ)
  ·simp only [b1,b2,Bool.not_false,Bool.and_true,if_true]at hG
   repeat' (first
 |simp only[go_sem,hD,gA,gB,gC,b1,b2]
 |(with_reducible refine CU (kL (l:=out) (by omega) name _ _) ?_)
 | (with_reducible refine aF hQ ?_;exact aP))
   refine eQ 1 1 ?_ ?_ (bo.ind (ι:=List Ex×Nat×List aK×Nat) (fun i=>kids.drop i.2.1=i.1∧Ex.mE i.2.2.1 i.1=R∧i.2.2.1.length+Ex.aS i.1≤1000000000∧i.2.2.2=i.2.2.1.length) (fun i=>i.1.length)
    (fun i=> [(1, .slice (.tok 0) 1 (i.2.2.1.map encStr)),(2, .ptr 0 0),(23, .slice .shared 4 (kids.map bW)),(24, .int .i64 (kids.length:Int)),(25, .int .i64 (i.2.1:Int))]) (fun i=>⟨[bW ⟨op,m,name,kids⟩],[some i.2.2.2]⟩) ?_ (kids,0,(out++ [name]),(out.length+1)) ⟨rfl,hG,by simp;omega,by simp⟩)
   ·(simp only[go_sem,hD,gA,gB,gC,List.map_append,List.map_cons,List.map_nil,List.length_append,List.length_cons,List.length_nil,encStr];try exact bQ)
   ·(simp only[go_sem,hD,gA,gB,gC,List.map_append,List.map_cons,List.map_nil,List.length_append,List.length_cons,List.length_nil,encStr];try exact bQ)
   rintro⟨rest,k,dc,n'⟩ ⟨h1,h2,h3,h4⟩ IH
   dsimp only at h1 h2 h3 h4
   subst h4
   cases rest with
   |nil=>
    have hD:=drop_nil h1
    simp only[Ex.mE]at h2
    subst h2
    repeat' (first
 |simp only[go_sem,hD,gA,gB,gC]
 | (with_reducible refine aF hQ ?_;exact aP))
   |cons y rest=>
    obtain⟨gA,g2,hD,g4⟩:=drop_cons h1
    have cd:k<4611686018427387904:=by omega
    simp only[Ex.mE]at h2
    simp only[Ex.aS]at h3
    have hy:=fun {s:St} {t:Nat} (ht:s.az[t]? = some (some dc.length))=>hk y (List.mem_of_getElem? gA) dc (by omega) ht
    have hl:=uS dc y
    repeat' (first
 |simp only[go_sem,hD,gA,gB,gC]
 |(with_reducible refine CU (hy (by with_unfolding_all rfl)) ?_)
 | (with_reducible refine aF hQ ?_;exact aP))
    refine eQ 1 1 ?_ ?_ (IH (rest,k+1,_,_) ⟨g2,h2,by dsimp only;omega,rfl⟩ (Nat.lt_succ_self _))
    ·(simp only[go_sem,hD,gA,gB,gC,aM cd];try exact bQ)
    ·(simp only[go_sem,hD,gA,gB,gC,aM cd];try exact bQ)
 ·simp only [b1,Bool.false_and,Bool.false_eq_true,if_false]at hG
  repeat' (first
 |simp only[go_sem,hD,gA,gB,gC,b1]
 | (with_reducible refine aF hQ ?_;exact aP))
  refine fz 1 1 (bo.ind (ι:=List Ex×Nat×List aK×Nat) (fun i=>kids.drop i.2.1=i.1∧Ex.mE i.2.2.1 i.1=R∧i.2.2.1.length+Ex.aS i.1≤1000000000∧i.2.2.2=i.2.2.1.length) (fun i=>i.1.length)
   (fun i=> [(1, .slice (.tok 0) 1 (i.2.2.1.map encStr)),(2, .ptr 0 0),(23, .slice .shared 4 (kids.map bW)),(24, .int .i64 (kids.length:Int)),(25, .int .i64 (i.2.1:Int))]) (fun i=>⟨[bW ⟨op,m,name,kids⟩],[some i.2.2.2]⟩) ?_ (kids,0,out,out.length) ⟨rfl,hG,by simp;omega,by simp⟩)
  rintro⟨rest,k,dc,n'⟩ ⟨h1,h2,h3,h4⟩ IH
  dsimp only at h1 h2 h3 h4
  subst h4
  cases rest with
  |nil=>
   have hD:=drop_nil h1
   simp only[Ex.mE]at h2
   subst h2
   repeat' (first
 |simp only[go_sem,hD,gA,gB,gC]
 | (with_reducible refine aF hQ ?_;exact aP))
  |cons y rest=>
   obtain⟨gA,g2,hD,g4⟩:=drop_cons h1
   have cd:k<4611686018427387904:=by omega
   simp only[Ex.mE]at h2
   simp only[Ex.aS]at h3
   have hy:=fun {s:St} {t:Nat} (ht:s.az[t]? = some (some dc.length))=>hk y (List.mem_of_getElem? gA) dc (by omega) ht
   have hl:=uS dc y
   repeat' (first
 |simp only[go_sem,hD,gA,gB,gC]
 |(with_reducible refine CU (hy (by with_unfolding_all rfl)) ?_)
 | (with_reducible refine aF hQ ?_;exact aP))
   refine eQ 1 1 ?_ ?_ (IH (rest,k+1,_,_) ⟨g2,h2,by dsimp only;omega,rfl⟩ (Nat.lt_succ_self _))
   ·(simp only[go_sem,hD,gA,gB,gC,aM cd];try exact bQ)
   ·(simp only[go_sem,hD,gA,gB,gC,aM cd];try exact bQ)
theorem Z9 : ∀ N,WD N:=by
 intro N
 induction N with
 |zero=>rintro⟨op,m,name,kids⟩ h;simp only[Ex.size]at h;omega
 |succ N ih=>
  rintro⟨op,m,name,kids⟩ h out ho s t ht
  exact(aih ih h ho).agq (pre:= [_]) (post:= []) (by simp only[D.bF,D.ok,lH];rfl) rfl (fK out) (fK _) ht
abbrev avo (N:Nat):Prop:=∀ (x:Ex),x.size≤N→∀ out:List aK,out.length+x.size≤1000000000→∀ {s:St} {t:Nat},s.az[t]? = some (some out.length)→
 aH Tryz.prog PA [.agg (bW x), .slice (.tok t) 1 (out.map encStr)] s (.slice (.tok t) 1 ((x.nG out).map encStr)) ⟨s.aj,s.az.set t (some (x.nG out).length)⟩
theorem WE {op m:Int} {name:aK} {kids:List Ex} (h:Ex.form ⟨op,m,name,kids⟩=true) (h2:(op==2)=true):kids = []:=by
 have e:op=2:=by simpa using h2
 subst e
 simp only[Ex.form]at h
 split at h
 ·cases h
 ·rename_i hh
  simp only[Bool.or_eq_true,not_or,bne_iff_ne,ne_eq,Decidable.not_not]at hh
  have:=hh.1.1.1.1
  have e:p7 2=0:=rfl
  rw[e]at this
  exact List.length_eq_zero_iff.1 (by omega)
theorem aac {op m:Int} {name:aK} {kids:List Ex} (hf:(op==2)=true→kids = []) (ho:Ex.size ⟨op,m,name,kids⟩≤1000000000) (s:St) :
 aH Tryz.prog jO [.agg (bW ⟨op,m,name,kids⟩), .slice .full 0 []] s (.slice .shared 1 ((Ex.nG [] ⟨op,m,name,kids⟩).map encStr)) s:=by
 refine aH.pure ?_ (by simp only[D.bF,D.ok,lH];rfl) (by simp only[D.ok,Tag.ok,fK];rfl) s
 obtain⟨R,hG⟩ : ∃ R,Ex.nG [] ⟨op,m,name,kids⟩=R:=⟨_,rfl⟩
 rw[hG]
 simp only[Ex.nG]at hG
 simp only[Ex.size]at ho
 have hlen:kids.length<1000000000:=by have:=Ex.dr kids;omega
 have hk : ∀ y∈kids,∀ out:List aK,out.length+y.size≤1000000000→∀ {s:St} {t:Nat},s.az[t]? = some (some out.length)→
  aH Tryz.prog jO [.agg (bW y), .slice (.tok t) 1 (out.map encStr)] s (.slice (.tok t) 1 ((y.nG out).map encStr)) ⟨s.aj,s.az.set t (some (y.nG out).length)⟩:=fun y hy out ho=>
  Z9 y.size y (Nat.le_refl _) out ho
 unfold S0
 rcases Bool.eq_false_or_eq_true (op==2)with b1|b1
 ·have hk0:=hf b1
  subst hk0
  have e:fH [] name=false:=rfl
  simp only[b1,e,Bool.not_false,Bool.and_true,if_true,Ex.mE,List.nil_append]at hG
  subst hG
  refine aH.go tP rfl fun B Q hB hQ=>?_
  have⟨hD,gA,gB,gC⟩:=bP
  have gB:17≤bp:=by unfold bp;omega
  repeat' (first
 |simp only[go_sem,hD,gA,gB,gC,b1,List.map_nil,List.map_cons,List.length_nil,encStr,Int.natCast_zero,Int.lt_irrefl,decide_false]
 |(with_reducible refine CU (Nn name _ _ _) ?_)
 |(with_reducible refine bo.kj ?_)
 |(with_reducible refine aF hQ ?_;exact aP))
 ·simp only [b1,Bool.false_and,Bool.false_eq_true,if_false]at hG
  refine aH.go tP rfl fun B Q hB hQ=>?_
  have⟨hD,gA,gB,gC⟩:=bP
  repeat' (first
 |simp only[go_sem,hD,gA,gB,gC,b1]
 | (with_reducible refine aF hQ ?_;exact aP))
  refine bo.qI 1 1 rfl ?_
  simp only[go_sem,hD,gA,gB,gC]
  refine fz 1 1 (bo.ind (ι:=List Ex×Nat×List aK×Nat) (fun i=>kids.drop i.2.1=i.1∧Ex.mE i.2.2.1 i.1=R∧i.2.2.1.length+Ex.aS i.1≤1000000000∧i.2.2.2=i.2.2.1.length) (fun i=>i.1.length)
   (fun i=> [(1, .slice (.tok 0) 1 (i.2.2.1.map encStr)),(2, .ptr 0 0),(23, .slice .shared 4 (kids.map bW)),(24, .int .i64 (kids.length:Int)),(25, .int .i64 (i.2.1:Int))]) (fun i=>⟨[bW ⟨op,m,name,kids⟩],[some i.2.2.2]⟩) ?_ (kids,0,[],0) ⟨rfl,hG,by simp;omega,by simp⟩)
  rintro⟨rest,k,dc,n'⟩ ⟨h1,h2,h3,h4⟩ IH
  dsimp only at h1 h2 h3 h4
  subst h4
  cases rest with
  |nil=>
   have hD:=drop_nil h1
   simp only[Ex.mE]at h2
   subst h2
   repeat' (first
 |simp only[go_sem,hD,gA,gB,gC]
 | (with_reducible refine aF hQ ?_;exact aP))
  |cons y rest=>
   obtain⟨gA,g2,hD,g4⟩:=drop_cons h1
   have cd:k<4611686018427387904:=by omega
   simp only[Ex.mE]at h2
   simp only[Ex.aS]at h3
   have hy:=fun {s:St} {t:Nat} (ht:s.az[t]? = some (some dc.length))=>hk y (List.mem_of_getElem? gA) dc (by omega) ht
   have hl:=uS dc y
   repeat' (first
 |simp only[go_sem,hD,gA,gB,gC]
 |(with_reducible refine CU (hy (by with_unfolding_all rfl)) ?_)
 | (with_reducible refine aF hQ ?_;exact aP))
   refine eQ 1 1 ?_ ?_ (IH (rest,k+1,_,_) ⟨g2,h2,by dsimp only;omega,rfl⟩ (Nat.lt_succ_self _))
   ·(simp only[go_sem,hD,gA,gB,gC,aM cd];try exact bQ)
   ·(simp only[go_sem,hD,gA,gB,gC,aM cd];try exact bQ)
theorem oU {x:Ex} (hx:x.size≤1000000000) (ht:x.texts) (s:St):aH Tryz.prog tH [.agg (bW x)] s (.slice .shared 1 (x.names.map encStr)) s:=by
 refine aH.pure ?_ (by simp only[D.bF,D.ok,lH];rfl) (by simp only[D.ok,Tag.ok,fK];rfl) s
 have hm:=fun s=>BY (x:=x) (by omega) ht s
 simp only[HV]at hm
 unfold Ex.names
 unfold S0
 cases hb:x.may
 ·simp only [hb]at hm
  simp only[Bool.false_eq_true,if_false,List.map_nil]
  refine aH.go A5 rfl fun B Q hB hQ=>?_
  have⟨hD,gA,gB,gC⟩:=bP
  repeat' (first
 |simp only[go_sem,hD,gA,gB,gC]
 |(with_reducible refine CU (hm _) ?_)
 |(with_reducible refine aF hQ ?_;exact aP))
 ·simp only [hb]at hm
  simp only[if_true]
  have hg : ∀ s,aH Tryz.prog jO [.agg (bW x), .slice .full 0 []] s (.slice .shared 1 ((x.nG []).map encStr)) s:=by
   intro s
   obtain⟨op,m,name,kids⟩:=x
   exact aac (fun h2=>WE (by simp only[Ex.may,Bool.and_eq_true]at hb;exact hb.2) h2) hx s
  refine aH.go A5 rfl fun B Q hB hQ=>?_
  have⟨hD,gA,gB,gC⟩:=bP
  repeat' (first
 |simp only[go_sem,hD,gA,gB,gC]
 |(with_reducible refine CU (hm _) ?_)
 |(with_reducible refine CU (hg _) ?_)
 |(with_reducible refine aF hQ ?_;exact aP))
def Ar.said (out:List aK):List Ar→List aK
 | []=>out
 |a::l=>Ar.said ((if a.ref then out++ [a.name]else out)++a.x.names) l
def Sm.vt (v:Sm):List aK:=if v.kind != 10 && v.name != []then [v.name]else []
def Sm.said (v:Sm):List aK:=Ar.said (v.vt++v.x.names) v.args
theorem mM (x:Ex):x.names.length≤x.size:=by
 unfold Ex.names
 split
 ·simpa using uS [] x
 ·exact Nat.zero_le _
def Ar.xW:List Ar→Prop
 | []=>True
 |a::l=>a.x.texts∧Ar.xW l
def Sm.oV (v:Sm):Prop:=v.x.texts∧(∀ a∈v.args,a.x.texts)∧v.x.size+Ar.aS v.args<1000000
theorem l6 {l nx:List aK} {n:Nat} (hn:n=l.length) (h:l.length+nx.length≤1000000000) {g:Tag} (o:List (List D)) :
 jW 1 16 (.slice (.tok 0) 1 (l.map encStr)) (.slice g 1 (nx.map encStr)) ⟨o,[some n]⟩=some (.slice (.tok 0) 1 ((l++nx).map encStr),⟨o,[some (l++nx).length]⟩):=by
 subst hn
 have:=pI (size:=1) (bytes:=16) (t:=0) (rows:=l.map encStr) (new:=nx.map encStr) (g:=g) (s:=⟨o,[some l.length]⟩) (by simp only[List.length_map];unfold bp;omega) (by simp)
 rw[this]
 simp
theorem D2 {v:Sm} (hv:v.oV) (s:St):aH Tryz.prog tF [.agg (a8 v)] s (.slice .shared 1 (v.said.map encStr)) s:=by
 refine aH.pure ?_ (by simp only[D.bF,D.ok,pJ];rfl) (by simp only[D.ok,Tag.ok,fK];rfl) s
 obtain⟨ze,vT,dL⟩:=hv
 obtain⟨R,hG⟩ : ∃ R,v.said=R:=⟨_,rfl⟩
 rw[hG]
 simp only[Sm.said]at hG
 have hlen:v.args.length<1000000000:=by have:=Ar.dr v.args;omega
 have hx:=fun s=>oU (x:=v.x) (by omega) ze s
 have Qo:=mM v.x
 unfold S0
 refine aH.go Jj rfl fun B Q hB hQ=>?_
 have⟨hD,gA,gB,gC⟩:=bP
 have gB:17≤bp:=by unfold bp;omega
 by_cases hb:(v.kind != 10 && v.name != [])=true
 ·simp only [Sm.vt,hb,if_true]at hG
  rw[Bool.and_eq_true]at hb
  obtain⟨b1,b2⟩:=hb
  have fP:=l6 (l:= [v.name]) (nx:=v.x.names) (n:=1) rfl (by simp;omega) (g:= .shared)
  simp only[List.map_append,List.map_cons,List.map_nil,encStr]at fP
  have b3:(v.name == [])=false:=by simpa using b2
  repeat' (first
 |simp only[go_sem,hD,gA,gB,gC,b1,b2,b3,fP]
 |(with_reducible refine CU (hx _) ?_)
 | (with_reducible refine aF hQ ?_;exact aP))
  refine eQ 1 1 ?_ ?_ (bo.ind (ι:=List Ar×Nat×List aK×Nat) (fun i=>v.args.drop i.2.1=i.1∧Ar.said i.2.2.1 i.1=R∧i.2.2.1.length+Ar.aS i.1≤2000000∧i.2.2.2=i.2.2.1.length) (fun i=>i.1.length)
   (fun i=> [(3, .slice (.tok 0) 1 (i.2.2.1.map encStr)),(1, .ptr 0 0),(25, .slice .shared 6 (v.args.map fi)),(26, .int .i64 (v.args.length:Int)),(27, .int .i64 (i.2.1:Int))]) (fun i=>⟨[a8 v],[some i.2.2.2]⟩) ?_ (v.args,0,([v.name]++v.x.names),(v.x.names.length+1)) ⟨rfl,hG,by simp at Qo ⊢;omega,by simp⟩)
  ·(simp only[go_sem,hD,gA,gB,gC,List.map_append,List.map_cons,List.map_nil,encStr];try exact bQ)
  ·(simp only[go_sem,hD,gA,gB,gC,List.map_append,List.map_cons,List.map_nil,encStr];try exact bQ)
  rintro⟨rest,k,out,n'⟩ ⟨h1,h2,h3,h4⟩ IH
  dsimp only at h1 h2 h3 h4
  subst h4
  cases rest with
  |nil=>
   have hD:=drop_nil h1
   simp only[Ar.said]at h2
   subst h2
   repeat' (first
 |simp only[go_sem,hD,gA,gB,gC]
 | (with_reducible refine aF hQ ?_;exact aP))
  | cons a rest=>
   obtain⟨gA,g2,hD,g4⟩:=drop_cons h1
   have cd:k<4611686018427387904:=by omega
   simp only[Ar.said]at h2
   simp only[Ar.aS]at h3
   have zf:=fun s=>oU (x:=a.x) (by have:=Ar.cu (List.mem_of_getElem? gA);omega) (vT a (List.mem_of_getElem? gA)) s
   have hl:=mM a.x
   have gB:(out.length+1)*17≤bp:=by unfold bp;omega
   rcases Bool.eq_false_or_eq_true a.ref with b1|b1
   ·simp only [b1,if_true]at h2
    have fP:=l6 (l:=out++ [a.name]) (nx:=a.x.names) (n:=out.length+1) (by simp) (by simp;omega) (g:= .shared)
    simp only[List.map_append,List.map_cons,List.map_nil,encStr]at fP
    repeat' (first
 |simp only[go_sem,hD,gA,gB,gC,b1,fP]
 |(with_reducible refine CU (zf _) ?_)
 | (with_reducible refine aF hQ ?_;exact aP))
    refine eQ 1 1 ?_ ?_ (IH (rest,k+1,out++ [a.name]++a.x.names,_) ⟨g2,h2,by simp;omega,by simp<;>omega⟩ (Nat.lt_succ_self _))
    ·(simp only[go_sem,hD,gA,gB,gC,aM cd,List.map_append,List.map_cons,List.map_nil,encStr];try exact bQ)
    ·(simp only[go_sem,hD,gA,gB,gC,aM cd,List.map_append,List.map_cons,List.map_nil,encStr];try exact bQ)
   ·simp only [b1,Bool.false_eq_true,if_false]at h2
    have fP:=l6 (l:=out) (nx:=a.x.names) rfl (by omega) (g:= .shared)
    repeat' (first
 |simp only[go_sem,hD,gA,gB,gC,b1,fP]
 |(with_reducible refine CU (zf _) ?_)
 | (with_reducible refine aF hQ ?_;exact aP))
    refine eQ 1 1 ?_ ?_ (IH (rest,k+1,out++a.x.names,_) ⟨g2,h2,by simp;omega,by simp<;>omega⟩ (Nat.lt_succ_self _))
    ·(simp only[go_sem,hD,gA,gB,gC,aM cd];try exact bQ)
    ·(simp only[go_sem,hD,gA,gB,gC,aM cd];try exact bQ)
 ·simp only [Sm.vt,hb,Bool.false_eq_true,if_false,List.nil_append]at hG
  have uu:(v.kind != 10 && v.name != [])=false:=by simpa using hb
  obtain⟨nx,hnx⟩ : ∃ nx,nx=v.x.names:=⟨_,rfl⟩
  rw[← hnx]at hG Qo
  simp only[← hnx]at hx
  by_cases Mg:nx = []
  ·subst Mg
   simp only[List.map_nil]at hx
   have fP : ∀ o:List (List D),jW 1 16 (.slice .full 0 []) (.slice .shared 1 []) ⟨o,[]⟩=some (.slice .full 0 [],⟨o,[]⟩):=fun o=>by simp[jW,bp]
   have HB:(v.kind != 10)=false∨(v.kind != 10)=true∧(v.name != [])=false:=by
    cases h1:(v.kind != 10)
    ·exact .inl rfl
    ·rw[h1]at uu;exact .inr ⟨rfl,by simpa using uu⟩
   rcases HB with b1|⟨b1,b2⟩
   ·rcases Bool.eq_false_or_eq_true (v.name != [])with b2 | b2
    all_goals
     have b3:(v.name == []) = !(v.name != []):=by simp only[bne,Bool.not_not]
     rw[b2]at b3
     repeat' (first
 |simp only[go_sem,hD,gA,gB,gC,b1,b2,b3,Bool.not_true,Bool.not_false,fP]
 |(with_reducible refine CU (hx _) ?_)
 | (with_reducible refine aF hQ ?_;simp only [cZ,da,eK,eO,go_sem,hD,gA,gB,gC];repeat' (first | exact Ok.out | with_reducible refine jD ?_ ?_ | (simp;done))))
    all_goals
     refine bo.qI 3 1 rfl ?_
     simp only[go_sem,hD,gA,gB,gC]
     refine fz 1 1 (bo.ind (ι:=List Ar×Nat×List aK×Nat) (fun i=>v.args.drop i.2.1=i.1∧Ar.said i.2.2.1 i.1=R∧i.2.2.1.length+Ar.aS i.1≤2000000∧i.2.2.2=i.2.2.1.length) (fun i=>i.1.length)
      (fun i=> [(3, .slice (.tok 0) 1 (i.2.2.1.map encStr)),(1, .ptr 0 0),(25, .slice .shared 6 (v.args.map fi)),(26, .int .i64 (v.args.length:Int)),(27, .int .i64 (i.2.1:Int))]) (fun i=>⟨[a8 v],[some i.2.2.2]⟩) ?_ (v.args,0,[],0) ⟨rfl,hG,by simp at Qo ⊢;omega,by simp⟩)
     rintro⟨rest,k,out,n'⟩ ⟨h1,h2,h3,h4⟩ IH
     dsimp only at h1 h2 h3 h4
     subst h4
     cases rest with
     |nil=>
      have hD:=drop_nil h1
      simp only[Ar.said]at h2
      subst h2
      repeat' (first
 |simp only[go_sem,hD,gA,gB,gC]
 |(with_reducible refine aF hQ ?_;exact aP))
     | cons a rest=>
      obtain⟨gA,g2,hD,g4⟩:=drop_cons h1
      have cd:k<4611686018427387904:=by omega
      simp only[Ar.said]at h2
      simp only[Ar.aS]at h3
      have zf:=fun s=>oU (x:=a.x) (by have:=Ar.cu (List.mem_of_getElem? gA);omega) (vT a (List.mem_of_getElem? gA)) s
      have hl:=mM a.x
      have gB:(out.length+1)*17≤bp:=by unfold bp;omega
      rcases Bool.eq_false_or_eq_true a.ref with b1|b1
      ·simp only [b1,if_true]at h2
       have fP:=l6 (l:=out++ [a.name]) (nx:=a.x.names) (n:=out.length+1) (by simp) (by simp;omega) (g:= .shared)
       simp only[List.map_append,List.map_cons,List.map_nil,encStr]at fP
       repeat' (first
 |simp only[go_sem,hD,gA,gB,gC,b1,fP]
 |(with_reducible refine CU (zf _) ?_)
 |(with_reducible refine aF hQ ?_;exact aP))
       refine eQ 1 1 ?_ ?_ (IH (rest,k+1,out++ [a.name]++a.x.names,_) ⟨g2,h2,by simp;omega,by simp<;>omega⟩ (Nat.lt_succ_self _))
       ·(simp only[go_sem,hD,gA,gB,gC,aM cd,List.map_append,List.map_cons,List.map_nil,encStr];try exact bQ)
       ·(simp only[go_sem,hD,gA,gB,gC,aM cd,List.map_append,List.map_cons,List.map_nil,encStr];try exact bQ)
      ·simp only [b1,Bool.false_eq_true,if_false]at h2
       have fP:=l6 (l:=out) (nx:=a.x.names) rfl (by omega) (g:= .shared)
       repeat' (first
 |simp only[go_sem,hD,gA,gB,gC,b1,fP]
 |(with_reducible refine CU (zf _) ?_)
 | (with_reducible refine aF hQ ?_;exact aP))
       refine eQ 1 1 ?_ ?_ (IH (rest,k+1,out++a.x.names,_) ⟨g2,h2,by simp;omega,by simp<;>omega⟩ (Nat.lt_succ_self _))
       ·(simp only[go_sem,hD,gA,gB,gC,aM cd];try exact bQ)
       ·(simp only[go_sem,hD,gA,gB,gC,aM cd];try exact bQ)
   ·have b3:(v.name == [])=true:=by simpa using b2
    repeat' (first
 |simp only[go_sem,hD,gA,gB,gC,b1,b2,b3,fP]
 |(with_reducible refine CU (hx _) ?_)
 | (with_reducible refine aF hQ ?_;exact aP))
    refine bo.qI 3 1 rfl ?_
    simp only[go_sem,hD,gA,gB,gC]
    refine fz 1 1 (bo.ind (ι:=List Ar×Nat×List aK×Nat) (fun i=>v.args.drop i.2.1=i.1∧Ar.said i.2.2.1 i.1=R∧i.2.2.1.length+Ar.aS i.1≤2000000∧i.2.2.2=i.2.2.1.length) (fun i=>i.1.length)
     (fun i=> [(3, .slice (.tok 0) 1 (i.2.2.1.map encStr)),(1, .ptr 0 0),(25, .slice .shared 6 (v.args.map fi)),(26, .int .i64 (v.args.length:Int)),(27, .int .i64 (i.2.1:Int))]) (fun i=>⟨[a8 v],[some i.2.2.2]⟩) ?_ (v.args,0,[],0) ⟨rfl,hG,by simp at Qo ⊢;omega,by simp⟩)
    rintro⟨rest,k,out,n'⟩ ⟨h1,h2,h3,h4⟩ IH
    dsimp only at h1 h2 h3 h4
    subst h4
    cases rest with
    |nil=>
     have hD:=drop_nil h1
     simp only[Ar.said]at h2
     subst h2
     repeat' (first
 |simp only[go_sem,hD,gA,gB,gC]
 | (with_reducible refine aF hQ ?_;exact aP))
    | cons a rest=>
     obtain⟨gA,g2,hD,g4⟩:=drop_cons h1
     have cd:k<4611686018427387904:=by omega
     simp only[Ar.said]at h2
     simp only[Ar.aS]at h3
     have zf:=fun s=>oU (x:=a.x) (by have:=Ar.cu (List.mem_of_getElem? gA);omega) (vT a (List.mem_of_getElem? gA)) s
     have hl:=mM a.x
     have gB:(out.length+1)*17≤bp:=by unfold bp;omega
     rcases Bool.eq_false_or_eq_true a.ref with b1|b1
     ·simp only [b1,if_true]at h2
      have fP:=l6 (l:=out++ [a.name]) (nx:=a.x.names) (n:=out.length+1) (by simp) (by simp;omega) (g:= .shared)
      simp only[List.map_append,List.map_cons,List.map_nil,encStr]at fP
      repeat' (first
 |simp only[go_sem,hD,gA,gB,gC,b1,fP]
 |(with_reducible refine CU (zf _) ?_)
 |(with_reducible refine aF hQ ?_;exact aP))
      refine eQ 1 1 ?_ ?_ (IH (rest,k+1,out++ [a.name]++a.x.names,_) ⟨g2,h2,by simp;omega,by simp<;>omega⟩ (Nat.lt_succ_self _))
      ·(simp only[go_sem,hD,gA,gB,gC,aM cd,List.map_append,List.map_cons,List.map_nil,encStr];try exact bQ)
      ·(simp only[go_sem,hD,gA,gB,gC,aM cd,List.map_append,List.map_cons,List.map_nil,encStr];try exact bQ)
     ·simp only [b1,Bool.false_eq_true,if_false]at h2
      have fP:=l6 (l:=out) (nx:=a.x.names) rfl (by omega) (g:= .shared)
      repeat' (first
 |simp only[go_sem,hD,gA,gB,gC,b1,fP]
 |(with_reducible refine CU (zf _) ?_)
 | (with_reducible refine aF hQ ?_;exact aP))
      refine eQ 1 1 ?_ ?_ (IH (rest,k+1,out++a.x.names,_) ⟨g2,h2,by simp;omega,by simp<;>omega⟩ (Nat.lt_succ_self _))
      ·(simp only[go_sem,hD,gA,gB,gC,aM cd];try exact bQ)
      ·(simp only[go_sem,hD,gA,gB,gC,aM cd];try exact bQ)
  ·have fP : ∀ o:List (List D),jW 1 16 (.slice .full 0 []) (.slice .shared 1 (nx.map encStr)) ⟨o,[]⟩=some (.slice (.tok 0) 1 (nx.map encStr),⟨o,[some nx.length]⟩):=fun o=>by
    have:nx.length*17≤bp:=by unfold bp;omega
    cases nx with
    |nil=>exact absurd rfl Mg
    |cons a r=>simp only[List.length_cons]at this;simp[jW,this]
   have HB:(v.kind != 10)=false∨(v.kind != 10)=true∧(v.name != [])=false:=by
    cases h1:(v.kind != 10)
    ·exact .inl rfl
    ·rw[h1]at uu;exact .inr ⟨rfl,by simpa using uu⟩
   rcases HB with b1|⟨b1,b2⟩
   ·rcases Bool.eq_false_or_eq_true (v.name != [])with b2 | b2
    all_goals
     have b3:(v.name == []) = !(v.name != []):=by simp only[bne,Bool.not_not]
     rw[b2]at b3
     repeat' (first
 |simp only[go_sem,hD,gA,gB,gC,b1,b2,b3,Bool.not_true,Bool.not_false,fP]
 |(with_reducible refine CU (hx _) ?_)
 | (with_reducible refine aF hQ ?_;simp only [cZ,da,eK,eO,go_sem,hD,gA,gB,gC];repeat' (first | exact Ok.out | with_reducible refine jD ?_ ?_ | (simp;done))))
    all_goals
     refine fz 1 1 (bo.ind (ι:=List Ar×Nat×List aK×Nat) (fun i=>v.args.drop i.2.1=i.1∧Ar.said i.2.2.1 i.1=R∧i.2.2.1.length+Ar.aS i.1≤2000000∧i.2.2.2=i.2.2.1.length) (fun i=>i.1.length)
      (fun i=> [(3, .slice (.tok 0) 1 (i.2.2.1.map encStr)),(1, .ptr 0 0),(25, .slice .shared 6 (v.args.map fi)),(26, .int .i64 (v.args.length:Int)),(27, .int .i64 (i.2.1:Int))]) (fun i=>⟨[a8 v],[some i.2.2.2]⟩) ?_ (v.args,0,nx,_) ⟨rfl,hG,by simp at Qo ⊢;omega,by simp⟩)
     rintro⟨rest,k,out,n'⟩ ⟨h1,h2,h3,h4⟩ IH
     dsimp only at h1 h2 h3 h4
     subst h4
     cases rest with
     |nil=>
      have hD:=drop_nil h1
      simp only[Ar.said]at h2
      subst h2
      repeat' (first
 |simp only[go_sem,hD,gA,gB,gC]
 |(with_reducible refine aF hQ ?_;exact aP))
     | cons a rest=>
      obtain⟨gA,g2,hD,g4⟩:=drop_cons h1
      have cd:k<4611686018427387904:=by omega
      simp only[Ar.said]at h2
      simp only[Ar.aS]at h3
      have zf:=fun s=>oU (x:=a.x) (by have:=Ar.cu (List.mem_of_getElem? gA);omega) (vT a (List.mem_of_getElem? gA)) s
      have hl:=mM a.x
      have gB:(out.length+1)*17≤bp:=by unfold bp;omega
      rcases Bool.eq_false_or_eq_true a.ref with b1|b1
      ·simp only [b1,if_true]at h2
       have fP:=l6 (l:=out++ [a.name]) (nx:=a.x.names) (n:=out.length+1) (by simp) (by simp;omega) (g:= .shared)
       simp only[List.map_append,List.map_cons,List.map_nil,encStr]at fP
       repeat' (first
 |simp only[go_sem,hD,gA,gB,gC,b1,fP]
 |(with_reducible refine CU (zf _) ?_)
 |(with_reducible refine aF hQ ?_;exact aP))
       refine eQ 1 1 ?_ ?_ (IH (rest,k+1,out++ [a.name]++a.x.names,_) ⟨g2,h2,by simp;omega,by simp<;>omega⟩ (Nat.lt_succ_self _))
       ·(simp only[go_sem,hD,gA,gB,gC,aM cd,List.map_append,List.map_cons,List.map_nil,encStr];try exact bQ)
       ·(simp only[go_sem,hD,gA,gB,gC,aM cd,List.map_append,List.map_cons,List.map_nil,encStr];try exact bQ)
      ·simp only [b1,Bool.false_eq_true,if_false]at h2
       have fP:=l6 (l:=out) (nx:=a.x.names) rfl (by omega) (g:= .shared)
       repeat' (first
 |simp only[go_sem,hD,gA,gB,gC,b1,fP]
 |(with_reducible refine CU (zf _) ?_)
 | (with_reducible refine aF hQ ?_;exact aP))
       refine eQ 1 1 ?_ ?_ (IH (rest,k+1,out++a.x.names,_) ⟨g2,h2,by simp;omega,by simp<;>omega⟩ (Nat.lt_succ_self _))
       ·(simp only[go_sem,hD,gA,gB,gC,aM cd];try exact bQ)
       ·(simp only[go_sem,hD,gA,gB,gC,aM cd];try exact bQ)
   ·have b3:(v.name == [])=true:=by simpa using b2
    repeat' (first
 |simp only[go_sem,hD,gA,gB,gC,b1,b2,b3,fP]
 |(with_reducible refine CU (hx _) ?_)
 | (with_reducible refine aF hQ ?_;exact aP))
    refine fz 1 1 (bo.ind (ι:=List Ar×Nat×List aK×Nat) (fun i=>v.args.drop i.2.1=i.1∧Ar.said i.2.2.1 i.1=R∧i.2.2.1.length+Ar.aS i.1≤2000000∧i.2.2.2=i.2.2.1.length) (fun i=>i.1.length)
     (fun i=> [(3, .slice (.tok 0) 1 (i.2.2.1.map encStr)),(1, .ptr 0 0),(25, .slice .shared 6 (v.args.map fi)),(26, .int .i64 (v.args.length:Int)),(27, .int .i64 (i.2.1:Int))]) (fun i=>⟨[a8 v],[some i.2.2.2]⟩) ?_ (v.args,0,nx,_) ⟨rfl,hG,by simp at Qo ⊢;omega,by simp⟩)
    rintro⟨rest,k,out,n'⟩ ⟨h1,h2,h3,h4⟩ IH
    dsimp only at h1 h2 h3 h4
    subst h4
    cases rest with
    |nil=>
     have hD:=drop_nil h1
     simp only[Ar.said]at h2
     subst h2
     repeat' (first
 |simp only[go_sem,hD,gA,gB,gC]
 | (with_reducible refine aF hQ ?_;exact aP))
    | cons a rest=>
     obtain⟨gA,g2,hD,g4⟩:=drop_cons h1
     have cd:k<4611686018427387904:=by omega
     simp only[Ar.said]at h2
     simp only[Ar.aS]at h3
     have zf:=fun s=>oU (x:=a.x) (by have:=Ar.cu (List.mem_of_getElem? gA);omega) (vT a (List.mem_of_getElem? gA)) s
     have hl:=mM a.x
     have gB:(out.length+1)*17≤bp:=by unfold bp;omega
     rcases Bool.eq_false_or_eq_true a.ref with b1|b1
     ·simp only [b1,if_true]at h2
      have fP:=l6 (l:=out++ [a.name]) (nx:=a.x.names) (n:=out.length+1) (by simp) (by simp;omega) (g:= .shared)
      simp only[List.map_append,List.map_cons,List.map_nil,encStr]at fP
      repeat' (first
 |simp only[go_sem,hD,gA,gB,gC,b1,fP]
 |(with_reducible refine CU (zf _) ?_)
 |(with_reducible refine aF hQ ?_;exact aP))
      refine eQ 1 1 ?_ ?_ (IH (rest,k+1,out++ [a.name]++a.x.names,_) ⟨g2,h2,by simp;omega,by simp<;>omega⟩ (Nat.lt_succ_self _))
      ·(simp only[go_sem,hD,gA,gB,gC,aM cd,List.map_append,List.map_cons,List.map_nil,encStr];try exact bQ)
      ·(simp only[go_sem,hD,gA,gB,gC,aM cd,List.map_append,List.map_cons,List.map_nil,encStr];try exact bQ)
     ·simp only [b1,Bool.false_eq_true,if_false]at h2
      have fP:=l6 (l:=out) (nx:=a.x.names) rfl (by omega) (g:= .shared)
      repeat' (first
 |simp only[go_sem,hD,gA,gB,gC,b1,fP]
 |(with_reducible refine CU (zf _) ?_)
 |(with_reducible refine aF hQ ?_;exact aP))
      refine eQ 1 1 ?_ ?_ (IH (rest,k+1,out++a.x.names,_) ⟨g2,h2,by simp;omega,by simp<;>omega⟩ (Nat.lt_succ_self _))
      ·(simp only[go_sem,hD,gA,gB,gC,aM cd];try exact bQ)
      ·(simp only[go_sem,hD,gA,gB,gC,aM cd];try exact bQ)
end Go.Abs
