/-
  What is proved here: part 2 of the road to the claim (Codes1, Have1, Codes2, Have2, Codes3, Codes4, Have4, Codes5, Have5, Have3, MirLex, MirMay, Prs, Lex1, Lex2, RefLex1, Prs2, Ref1, Ref2, RefMay2, Flat1, Flat2, Flat3, Sl1, MirFlat2, Sl2, TMay1, TMay2, RefMay3, RefMay4, TMay3, TMay4, MayFine, MayEq, Nm1, Nm2, Nm3, MayEq2, Sc1).
  No conditions.
-/
import Derived.Test.YtpjadlleefgcpaaGreatRnE1
import Derived.Test.YtpjadlleefgcpaaGreatProg
import Derived.KernelRfl

set_option linter.unusedSimpArgs false
set_option linter.unusedVariables false
namespace Go.Abs
abbrev Q8Y:AC:= .seq (.run [.o 1 (.box bt),(.o 2 (.mv (.k (.val (.complex .f64 0 0)))))]) (.seq (.run [.o 3 (.aq bu 1), .o 4 (.load cz false 1), .o 5 (.qP (.ofInt .f64) ff ff), .o 6 (.aq bu 2), .o 7 (.load dB false 1), .o 8 (.qP (.ofInt .f64) cJ cJ), .o 9 (.qP .Ib ct cT), .m 2 du]) .ret)
abbrev Q90:AC:= .run [(.o 3 (.dt [(.str [])] 1 1 [(0,(.k (.str [118])))])), .c 4 rl [(.k (.int .i64 2))],(.o 5 (.build [(.int .i64 0),(.int .i64 0),(.slice .full 0 []),(.str []),(.str []),(.int .i64 0),(.int .i64 0),(.str []),(.slice .full 0 []),(.bool false),(.slice .full 0 []),(.slice .full 0 []),(.slice .full 0 [])] [(0,(1,(.k (.int .i64 1)))),(1,(1,(.k (.int .i64 1)))),(3,(1,(.k (.str [118])))),(5,(4,ff))])), .c 6 rl [(.k (.int .i64 3))], .o 7 (.build [(.bool false),(.str []),(.int .i64 0),(.int .i64 0),(.str []),(.slice .full 0 [])] [(2,(4,dB))]),(.o 8 (.build [(.bool false),(.str []),(.int .i64 0),(.int .i64 0),(.str []),(.slice .full 0 [])] [(0,(1,(.k (.bool true)))),(1,(1,(.k (.str [118]))))])), .o 9 (.dt [(.bool false),(.str []),(.int .i64 0),(.int .i64 0),(.str []),(.slice .full 0 [])] 6 2 [(0,cJ),(1,cT)]),(.o 10 (.build [(.int .i64 0),(.int .i64 0),(.slice .full 0 []),(.str []),(.str []),(.int .i64 0),(.int .i64 0),(.str []),(.slice .full 0 []),(.bool false),(.slice .full 0 []),(.slice .full 0 []),(.slice .full 0 [])] [(0,(1,(.k (.int .i64 2)))),(1,(1,(.k (.int .i64 4)))),(3,(1,(.k (.str [103])))),(4,(1,(.k (.str [112])))),(10,(1,du))])),(.c 11 lb [(.k (.str [118]))]),(.o 12 (.build [(.int .i64 0),(.int .i64 0),(.slice .full 0 []),(.str []),(.str []),(.int .i64 0),(.int .i64 0),(.str []),(.slice .full 0 []),(.bool false),(.slice .full 0 []),(.slice .full 0 []),(.slice .full 0 [])] [(0,(1,(.k (.int .i64 3)))),(1,(1,(.k (.int .i64 3)))),(5,(4,cB))])),(.c 13 lb [(.k (.str [103]))]),(.o 14 (.build [(.int .i64 0),(.int .i64 0),(.slice .full 0 []),(.str []),(.str []),(.int .i64 0),(.int .i64 0),(.str []),(.slice .full 0 []),(.bool false),(.slice .full 0 []),(.slice .full 0 []),(.slice .full 0 [])] [(0,(1,(.k (.int .i64 4)))),(1,(1,(.k (.int .i64 3)))),(5,(4,de))])), .o 15 (.dt [(.int .i64 0),(.int .i64 0),(.slice .full 0 []),(.str []),(.str []),(.int .i64 0),(.int .i64 0),(.str []),(.slice .full 0 []),(.bool false),(.slice .full 0 []),(.slice .full 0 []),(.slice .full 0 [])] 13 4 [(0,ct),(1,bZ),(2,cU),(3,cH)]),(.o 16 (.build [(.str []),(.slice .full 0 []),(.slice .full 0 []),(.slice .full 0 []),(.slice .full 0 [])] [(0,(1,(.k (.str [109,97,105,110])))),(2,(1,cz)),(3,(1,dA))])), .o 1 (.alloc [(.str []),(.slice .full 0 []),(.slice .full 0 []),(.slice .full 0 []),(.slice .full 0 [])]), .op none none (.store bu di 5)]
abbrev Q91:AC:= .run [(.o 17 (.build [(.str []),(.bool false)] [(0,(1,(.k (.str [120]))))])),(.o 18 (.build [(.str []),(.bool false)] [(0,(1,(.k (.str [121])))),(1,(1,(.k (.bool true))))])), .o 19 (.dt [(.str []),(.bool false)] 2 2 [(0,dD),(1,dC)]),(.o 20 (.dt [(.str [])] 1 1 [(0,(.k (.str [101])))])),(.c 21 lb [(.k (.str [121]))]),(.c 22 lb [(.k (.str [120]))]), .c 23 uO [(.k (.int .i64 8)),dW,eD],(.o 24 (.build [(.int .i64 0),(.int .i64 0),(.slice .full 0 []),(.str []),(.str []),(.int .i64 0),(.int .i64 0),(.str []),(.slice .full 0 []),(.bool false),(.slice .full 0 []),(.slice .full 0 []),(.slice .full 0 [])] [(0,(1,(.k (.int .i64 5)))),(1,(1,(.k (.int .i64 1)))),(3,(1,(.k (.str [121])))),(5,(4,eH))])),(.c 25 lb [(.k (.str [121]))]), .c 26 rl [(.k (.int .i64 9))], .c 27 uO [(.k (.int .i64 12)),eR,fl],(.o 28 (.build [(.int .i64 0),(.int .i64 0),(.slice .full 0 []),(.str []),(.str []),(.int .i64 0),(.int .i64 0),(.str []),(.slice .full 0 []),(.bool false),(.slice .full 0 []),(.slice .full 0 []),(.slice .full 0 [])] [(0,(1,(.k (.int .i64 7)))),(1,(1,(.k (.int .i64 10)))),(3,(1,(.k (.str [101]))))])), .o 29 (.dt [(.int .i64 0),(.int .i64 0),(.slice .full 0 []),(.str []),(.str []),(.int .i64 0),(.int .i64 0),(.str []),(.slice .full 0 []),(.bool false),(.slice .full 0 []),(.slice .full 0 []),(.slice .full 0 [])] 13 1 [(0,fY)]),(.o 30 (.build [(.int .i64 0),(.int .i64 0),(.slice .full 0 []),(.str []),(.str []),(.int .i64 0),(.int .i64 0),(.str []),(.slice .full 0 []),(.bool false),(.slice .full 0 []),(.slice .full 0 []),(.slice .full 0 [])] [(0,(1,(.k (.int .i64 6)))),(1,(1,(.k (.int .i64 5)))),(5,(4,fu)),(11,(1,gj))])),(.c 31 lb [(.k (.str [121]))]),(.o 32 (.build [(.int .i64 0),(.int .i64 0),(.slice .full 0 []),(.str []),(.str []),(.int .i64 0),(.int .i64 0),(.str []),(.slice .full 0 []),(.bool false),(.slice .full 0 []),(.slice .full 0 []),(.slice .full 0 [])] [(0,(1,(.k (.int .i64 8)))),(1,(1,(.k (.int .i64 9)))),(9,(1,(.k (.bool true)))),(5,(4,gk))])), .o 33 (.dt [(.int .i64 0),(.int .i64 0),(.slice .full 0 []),(.str []),(.str []),(.int .i64 0),(.int .i64 0),(.str []),(.slice .full 0 []),(.bool false),(.slice .full 0 []),(.slice .full 0 []),(.slice .full 0 [])] 13 3 [(0,eQ),(1,gC),(2,gM)]),(.o 34 (.build [(.str []),(.slice .full 0 []),(.slice .full 0 []),(.slice .full 0 []),(.slice .full 0 [])] [(0,(1,(.k (.str [112])))),(1,(1,dV)),(4,(1,eA)),(3,(1,gD))])), .o 2 (.alloc [(.str []),(.slice .full 0 []),(.slice .full 0 []),(.slice .full 0 []),(.slice .full 0 [])]), .op none none (.store dw iw 5)]
abbrev Q93:AC:= .seq (.run [(.o 35 (.dt [(.str [])] 1 1 [(0,(.k (.str [103])))])), .o 36 (.load bu true 5), .o 37 (.load dw true 5), .o 38 (.dt [(.str []),(.slice .full 0 []),(.slice .full 0 []),(.slice .full 0 []),(.slice .full 0 [])] 5 2 [(0,ix),(1,jn)]), .o 39 (.build [(.slice .full 0 []),(.slice .full 0 [])] [(0,(1,gN)),(1,(1,jW))]), .op none none (.store bt jK 2)]) .ret
abbrev Q96:AC:= .seq (.run [.o 0 (.alloc [(.slice .full 0 []),(.slice .full 0 [])])]) (.seq Q90 (.seq Q91 Q93))
abbrev Q9G:AC:= .seq (.seq (.run [.m 6 ct, .m 7 bt, .o 8 (.len cJ), .o 9 (.bin .lss dB cT), .m 10 du, .g 11 10 true (.mv bu), .g 12 10 true (.bin .leq cB (.k (.int .i64 20000))), .o 13 (.pick bZ cU (.k (.bool false)))]) (.cond de .skip (.exit 0))) (.seq (.block 1 (.run [.m 16 bt, .m 17 ct, .o 18 (.cf di dD 1), .o 19 (.load dC false 1), .m 20 bu, .c 21 gi [dV,eA], .m 1 dW])) (.run [.m 14 ct, .o 15 (.bin .add cH (.k (.int .i64 1))), .m 5 dA]))
abbrev Q9M:AC:= .seq (.seq (.run [.o 5 (.mv (.k (.int .i64 0)))]) (.block 0 (.loop Q9G))) (.seq (.run [.m 22 bu, .m 4 eD]) .ret)
abbrev Q9N:AC:= .seq (.run [.o 4 (.mv (.k (.int .i64 0)))]) Q9M
abbrev Q9S:AC:= .cond de (.seq (.run [.o 4 (.mv (.k (.int .i64 20001)))]) .ret) .skip
abbrev Q9W:AC:= .seq (.seq (.run [.m 5 bu, .o 6 (.bin .gtr ct (.k (.int .i64 20000))), .m 7 dB, .g 8 7 false (.mv bt), .g 9 7 false (.va cT), .g 10 7 false (.mv bu), .g 11 7 false (.bin .sub (.k (.int .i64 20000)) bZ), .g 12 7 false (.bin .geq du cB), .o 13 (.pick cJ (.k (.bool true)) cU)]) Q9S) (.seq (.run [.m 14 bu, .o 15 (.bin .add cH (.k (.int .i64 1))), .m 16 bt, .o 17 (.va di), .o 18 (.bin .add dA dD), .m 4 dC]) .ret)
abbrev Q9X:AC:= .seq (.run [.o 4 (.mv (.k (.int .i64 0)))]) Q9W
abbrev QA4:AC:= .par [.o 22 (.aq dB 4), .o 23 (.load eD false 1), .o 24 (.aq dB 3), .o 25 (.load eQ false 1), .o 26 (.aq dB 2), .o 27 (.load fl false 1), .o 28 (.aq dB 5), .o 29 (.load fY true 4), .m 30 bu, .c 31 jU [gj,gC], .c 32 jE [fu,gk], .c 33 gi [eR,gM], .c 34 gi [eH,gD], .m 1 iw] [(6,0),(7,0),(8,0),(9,0),(4,0),(5,1),(10,0),(2,0),(3,2),(11,0),(0,0),(1,3),(12,0),(13,0)]
abbrev QA9:AC:= .par [.o 46 (.aq dB 10), .o 47 (.load lE false 1), .m 48 cJ, .o 49 (.cf lO kT 6), .o 50 (.aq kU 1), .o 51 (.load lF false 1), .o 52 (.aq dB 10), .o 53 (.load kG false 1), .m 54 cJ, .o 55 (.cf kV lG 6), .o 56 (.aq lH 2), .o 57 (.load nh true 4), .m 58 bu, .c 59 jU [oy,nT], .c 60 gi [kF,lP], .m 1 o5] [(6,0),(7,0),(8,0),(9,0),(10,0),(11,0),(12,0),(13,0),(0,0),(1,1),(2,0),(3,0),(4,0),(5,1),(14,0),(15,0)]
abbrev QAD:AC:= .seq (.seq (.run [.m 35 cJ, .o 36 (.aq dB 10), .o 37 (.load ix false 1), .o 38 (.len jn), .o 39 (.bin .lss gN jW), .m 40 jK, .g 41 40 true (.mv bu), .g 42 40 true (.bin .leq jX (.k (.int .i64 20000))), .o 43 (.pick ko kD (.k (.bool false)))]) (.cond kp .skip (.exit 2))) (.seq (.block 3 QA9) (.run [.m 44 cJ, .o 45 (.bin .add kE (.k (.int .i64 1))), .m 7 lD]))
abbrev QAH:AC:= .par [.o 61 (.aq dB 12), .o 62 (.load qx false 1), .o 63 (.aq dB 11), .o 64 (.load qy false 1), .m 65 bu, .c 66 kK [qz,uf], .c 67 kK [pO,ug], .m 1 vC] [(2,0),(3,0),(4,0),(5,0),(0,0),(1,1),(6,0),(7,0)]
abbrev QAI:AC:= .seq (.seq (.run [.o 7 (.mv (.k (.int .i64 0)))]) (.block 2 (.loop QAD))) QAH
abbrev QAN:AC:= .seq (.block 1 (.seq (.run [.m 18 bt, .m 19 ct, .o 20 (.cf dC dV 13), .o 21 (.load eA true 13), .o 6 (.alloc [(.int .i64 0),(.int .i64 0),(.slice .full 0 []),(.str []),(.str []),(.int .i64 0),(.int .i64 0),(.str []),(.slice .full 0 []),(.bool false),(.slice .full 0 []),(.slice .full 0 []),(.slice .full 0 [])]), .op none none (.store dB dW 13)]) (.seq QA4 QAI))) (.run [.m 16 ct, .o 17 (.bin .add di (.k (.int .i64 1))), .m 5 dD])
abbrev QAO:AC:= .seq (.seq (.run [.m 8 ct, .m 9 bt, .o 10 (.len du), .o 11 (.bin .lss cT bZ), .m 12 cB, .g 13 12 true (.mv bu), .g 14 12 true (.bin .leq de (.k (.int .i64 20000))), .o 15 (.pick cU cH (.k (.bool false)))]) (.cond dA .skip (.exit 0))) QAN
abbrev QAU:AC:= .seq (.seq (.run [.o 5 (.mv (.k (.int .i64 0)))]) (.block 0 (.loop QAO))) (.seq (.run [.m 68 bu, .m 4 rB]) .ret)
abbrev QAV:AC:= .seq (.run [.o 4 (.mv (.k (.int .i64 0)))]) QAU
abbrev QB2:AC:= .par [.m 17 cz, .m 18 cz, .o 19 (.bR dC), .o 20 (.aq dV 3), .o 21 (.load eA false 1), .m 22 cz, .o 23 (.bR eD), .o 24 (.aq eH 2), .o 25 (.load eQ false 1), .o 26 (.len eR), .o 27 (.bin .add fl (.k (.int .i64 1))), .o 28 (.dt [(.int .i64 0)] 1 1 [(0,fu)]), .o 29 (.app 1 8 dW fY), .o 30 (.bR dD), .o 31 (.aq gC 3), .op none none (.store gk gj 1)] [(1,0),(2,0),(3,0),(4,0),(5,0),(6,0),(7,0),(8,0),(9,0),(10,0),(11,0),(12,0),(0,0),(13,0),(14,0),(15,0)]
abbrev QB4:AC:= .par [.m 38 cz, .m 39 cz, .o 40 (.bR jK), .o 41 (.aq ko 4), .o 42 (.load jX false 1), .m 43 cz, .o 44 (.bR kp), .o 45 (.aq kE 2), .o 46 (.load lD false 1), .o 47 (.len lE), .o 48 (.bin .add lO (.k (.int .i64 1))), .o 49 (.dt [(.int .i64 0)] 1 1 [(0,kT)]), .o 50 (.app 1 8 kD kU), .o 51 (.bR jW), .o 52 (.aq kF 4), .op none none (.store kG lF 1)] [(1,0),(2,0),(3,0),(4,0),(5,0),(6,0),(7,0),(8,0),(9,0),(10,0),(11,0),(12,0),(0,0),(13,0),(14,0),(15,0)]
abbrev QB5:AC:= .seq (.run [.m 32 cz, .o 33 (.aq ct 3), .o 34 (.load gD false 1), .m 35 ff,(.o 36 (.build [(.int .i64 0),(.int .i64 0),(.slice .full 0 []),(.str []),(.str []),(.int .i64 0),(.int .i64 0),(.str []),(.slice .full 0 []),(.bool false),(.slice .full 0 []),(.slice .full 0 []),(.slice .full 0 []),(.int .i64 0),(.int .i64 0),(.int .i64 0),(.int .i64 0)] [(13,(1,gN)),(15,(1,(.k (.int .i64 (-1)))))])), .c 37 jV [gM,iw,ix]]) QB4
abbrev QBA:AC:= .seq (.block 1 (.seq (.run [.m 14 cU, .o 15 (.cf bZ cU 5), .o 16 (.load dA true 5), .o 5 (.alloc [(.str []),(.slice .full 0 []),(.slice .full 0 []),(.slice .full 0 []),(.slice .full 0 [])]), .m 4 cH, .op none none (.store ct di 5)]) (.seq QB2 QB5))) (.run [.o 53 (.bin .add cU (.k (.int .i64 1))), .m 12 kV])
abbrev QBE:AC:= .block 0 (.loop (.seq (.run [.o 13 (.bin .lss cU cB)]) (.seq (.cond de .skip (.exit 0)) QBA)))
abbrev QBI:AC:= .seq (.seq (.run [.o 9 (.aq bu 1), .o 10 (.load du false 1), .o 11 (.len bZ), .o 12 (.mv (.k (.int .i64 0)))]) QBE) (.seq (.run [.m 54 cz, .m 2 lG]) .ret)
abbrev QBK:AC:= .seq (.run [.o 1 (.box bt), .o 2 (.mv (.k .dR))]) (.seq (.run [.o 6 (.load bu true 2), .o 7 (.build [(.slice .full 0 []),(.slice .full 0 []),(.slice .full 0 []),(.slice .full 0 []),(.slice .full 0 [])] [(0,(2,dB))]), .o 8 (.box cJ), .m 3 cT]) QBI)
abbrev QBN:AC:= .par [.m 22 bu, .m 23 bt, .o 24 (.bR eH), .o 25 (.aq eQ 0), .o 26 (.load eR false 1), .o 27 (.bR fl), .o 28 (.aq fu 0), .o 29 (.load fY true 2), .o 30 (.aq du 0), .o 31 (.load gC false 1), .c 32 vw [gj,gk], .m 33 cz, .o 34 (.build [(.int .i64 0),(.slice .full 0 []),(.slice .full 0 []),(.int .i64 0)] [(0,(1,eD)),(1,(1,gM)),(3,(1,gD))]), .o 35 (.box iw), .m 10 gN] [(1,0),(2,0),(3,0),(4,0),(5,0),(6,0),(7,0),(8,0),(9,0),(10,0),(0,0),(11,0),(12,0),(13,0),(14,0)]
abbrev QBO:AC:= .par [.m 36 bZ, .m 37 bZ, .o 38 (.bR jn), .o 39 (.aq jW 2), .o 40 (.load jK false 1), .m 41 bt, .o 42 (.bR jX), .o 43 (.aq kD 1), .o 44 (.load kp false 1), .o 45 (.app 1 8 ko kE), .m 46 dw, .o 47 (.app 1 8 lD lE), .o 48 (.bR ix), .o 49 (.aq kT 2), .op none none (.store kU lO 1)] [(1,0),(2,0),(3,0),(4,0),(5,0),(6,0),(7,0),(8,0),(9,0),(10,0),(11,0),(0,0),(12,0),(13,0),(14,0)]
abbrev QBW:AC:= .seq (.cond lG .skip (.exit 0)) (.seq (.block 1 (.run [.m 55 bZ, .m 56 bZ, .o 57 (.bR nh), .o 58 (.aq oy 2), .o 59 (.load nT false 1), .o 60 (.alloc [(.int .i64 0)]), .o 61 (.dt [.dR] 1 1 [(0,o5)]), .o 62 (.app 1 8 lP qx), .o 63 (.bR lH), .o 64 (.aq qy 2), .op none none (.store qz pO 1)])) (.run [.o 65 (.bin .add kV (.k (.int .i64 1))), .m 53 uf]))
abbrev QBX:AC:= .seq (.run [.o 54 (.bin .lss kV kG)]) QBW
abbrev QC4:AC:= .seq (.run [.m 66 bt, .m 67 bt, .o 68 (.bR vC), .o 69 (.aq rB 4), .o 70 (.load xv false 1), .m 71 bZ, .o 72 (.dt [.dR] 1 1 [(0,Bm)]), .o 73 (.app 1 8 xw ze), .o 74 (.bR ug), .o 75 (.aq Bn 4), .op none none (.store Bo zf 1)]) (.seq (.run [.m 76 bt, .o 77 (.bR zh), .o 78 (.aq Bp 0), .o 79 (.load xx false 1), .m 80 bu, .c 81 oY [Ds,Dt], .m 8 Du]) .ret)
abbrev QC5:AC:= .seq (.seq (.run [.o 50 (.aq du 2), .o 51 (.load lF false 1), .o 52 (.len kF), .o 53 (.mv (.k (.int .i64 0)))]) (.block 0 (.loop QBX))) QC4
abbrev QC9:AC:= .seq (.run [.o 8 (.mv (.k (.int .i64 0)))]) (.seq (.run [.m 11 bt, .o 12 (.bR cB), .o 13 (.aq cU 0), .o 14 (.load de false 1), .o 15 (.bR cH), .o 16 (.aq dA 0), .o 17 (.aq di 1), .o 18 (.load dD false 1), .m 19 bu, .o 20 (.cf dC dV 5), .o 21 (.load eA true 5), .o 9 (.alloc [(.str []),(.slice .full 0 []),(.slice .full 0 []),(.slice .full 0 []),(.slice .full 0 [])]), .op none none (.store du dW 5)]) (.seq QBN (.seq QBO QC5)))
abbrev QCD:AC:= .seq (.run [.o 3 (.box bu), .o 4 (.mv (.k (.int .i64 0)))]) (.seq (.run [.m 5 bt, .o 6 (.bR ct), .o 7 (.aq dB 0), .o 8 (.aq cJ 1), .o 9 (.load cT false 1), .o 10 (.uJ 76 [cz]), .c 11 gb [du,bZ], .m 4 cB]) .ret)
abbrev QCO:AC:= .seq (.run [.o 18 (.aq cJ 0), .o 19 (.load dC false 1)]) (.cond dV (.seq (.run [.m 20 ct, .m 21 bt, .o 22 (.aq cJ 1), .o 23 (.load eD false 1), .c 24 iF [dW,eH], .o 25 (.dt [.dR] 1 1 [(0,eQ)]), .o 26 (.app 1 8 eA eR), .m 5 fl]) (.exit 1)) .skip)
abbrev QCS:AC:= .seq (.run [(.o 4 (.mv (.k (.int .i64 (-1)))))]) .ret
abbrev QCZ:AC:= .seq (.run [.m 28 bt, .o 29 (.aq cJ 2), .o 30 (.load gj true 4), .c 31 jP [fY,gC], .m 27 gk, .o 32 (.ext fu 0), .o 33 (.ext fu 1), .m 8 gM, .m 9 gD]) (.seq (.seq (.run [.m 34 du, .o 35 (.un .not iw)]) (.cond gN QCS .skip)) (.seq (.run [.m 36 cT, .o 10 (.alloc [(.int .i64 0)]), .op none none (.store bZ ix 1)]) (.run [.m 37 ct, .o 38 (.dt [.dR] 1 1 [(0,bZ)]), .o 39 (.app 1 8 jn jW), .m 5 jK])))
abbrev QD4:AC:= .seq (.block 1 (.seq (.run [.o 16 (.cf cU cH 6), .o 17 (.load di true 6), .o 7 (.alloc [(.bool false),(.str []),(.int .i64 0),(.int .i64 0),(.str []),(.slice .full 0 [])]), .op none none (.store cJ dD 6)]) (.seq QCO QCZ))) (.run [.o 40 (.bin .add cH (.k (.int .i64 1))), .m 14 ko])
abbrev QD6:AC:= .seq (.run [.o 15 (.bin .lss cH de)]) (.seq (.cond dA .skip (.exit 0)) QD4)
abbrev QDD:AC:= .seq (.run [(.o 4 (.mv (.k (.int .i64 (-1)))))]) .ret
abbrev QDF:AC:= .cond lE (.seq (.run [.m 47 bt, .o 48 (.bR lO), .o 49 (.aq kT 6), .o 50 (.aq kU 0), .op none none (.store lF (.k (.int .i64 5)) 1)]) QDD) .skip
abbrev QDI:AC:= .par [.m 55 bt, .m 56 bt, .o 57 (.bR nh), .o 58 (.aq oy 0), .o 59 (.load nT false 1), .o 60 (.aq cz 4), .o 61 (.load o5 false 1), .c 62 iu [lP,qx], .m 63 ct, .o 64 (.aq cz 0), .o 65 (.load qz false 1), .c 66 jj [lH,pO,qy,uf], .m 4 ug] [(1,0),(2,0),(3,0),(4,0),(5,0),(6,0),(7,0),(0,0),(8,0),(9,0),(10,1),(11,0),(12,0)]
abbrev QDL:AC:= .seq (.seq (.run [.m 41 bt, .o 42 (.bR jX), .o 43 (.aq kD 4), .o 44 (.load kp false 1), .o 45 (.len kE), .o 46 (.bin .gtr lD (.k (.int .i64 100)))]) QDF) (.seq (.run [.m 51 bt, .o 52 (.aq cz 0), .o 53 (.load kG false 1),(.c 54 ep [kF,kV,(.k (.slice .full 0 []))])]) (.seq QDI .ret))
abbrev QDM:AC:= .seq (.seq (.run [.o 11 (.aq cz 10), .o 12 (.load cB false 1), .o 13 (.len cU), .o 14 (.mv (.k (.int .i64 0)))]) (.block 0 (.loop QD6))) QDL
abbrev QDO:AC:= .seq (.run [.o 3 (.box bu), .o 4 (.mv (.k (.int .i64 0)))]) (.seq (.run [.o 5 (.mv (.k (.slice .full 0 [])))]) QDM)
abbrev QDU:AC:= .seq (.run [.m 10 bt, .o 11 (.aq cz 0), .o 12 (.load cB false 1),(.c 13 ep [bZ,cU,(.k (.slice .full 0 []))])]) (.seq (.run [.o 4 (.mv (.k (.int .i64 0)))]) .ret)
abbrev QE4:AC:= .seq (.seq (.run [.m 21 dB]) (.cond dW (.run [.m 22 bt, .o 23 (.aq cz 0), .o 24 (.load eH false 1), .m 25 ct, .o 26 (.dt [(.int .i64 0)] 1 1 [(0,eR)]), .c 27 ep [eD,eQ,fl]]) .skip)) (.seq (.run [.m 28 ct, .m 4 fY]) .ret)
abbrev QE7:AC:= .seq (.run [.o 3 (.box bu), .o 4 (.mv (.k (.int .i64 0)))]) (.seq (.seq (.run [.o 7 (.aq cz 9), .o 8 (.load cJ false 1), .o 9 (.un .not cT)]) (.cond du QDU .skip)) (.seq (.run [.m 15 bt, .o 16 (.aq cz 5), .o 17 (.load di true 4), .c 18 jP [dA,dD], .m 14 dC, .o 19 (.ext cH 0), .o 20 (.ext cH 1), .m 5 dV, .m 6 eA]) QE4))
abbrev QED:AC:= .par [.m 21 bt, .o 22 (.bR dW), .o 23 (.aq eD 0), .o 24 (.load eH false 1), .o 25 (.bR eQ), .o 26 (.aq eR 2), .o 27 (.load fl false 1), .o 28 (.aq cz 16), .o 29 (.load fY false 1), .o 30 (.bin .sub gj (.k (.int .i64 1))), .o 31 (.cf fu gC 17), .o 32 (.aq gk 15), .o 33 (.load gM false 1), .m 4 gD] [(0,0),(1,0),(2,0),(3,0),(4,0),(5,0),(6,0),(7,0),(8,0),(9,0),(10,0),(11,0),(12,0),(13,0)]
abbrev QEN:AC:= .par [.m 49 bt, .o 50 (.bR kU), .o 51 (.aq lF 0), .o 52 (.load kF false 1), .o 53 (.aq cz 13), .o 54 (.load kV false 1), .o 55 (.aq ct 3), .o 56 (.load lH false 1), .c 57 oJ [kG,lG,nh], .m 48 oy, .o 58 (.ext kT 0), .o 59 (.ext kT 1), .m 6 nT, .m 7 lP] [(0,0),(1,0),(2,0),(3,0),(4,0),(5,0),(6,0),(7,0),(8,0),(9,0),(10,0),(11,0),(12,0),(13,0)]
abbrev QET:AC:= .par [.m 63 bt, .o 64 (.bR qy), .o 65 (.aq qz 6), .o 66 (.aq uf 2), .o 67 (.load ug false 1), .m 68 bt, .o 69 (.bR rB), .o 70 (.aq xv 2), .o 71 (.load xw false 1), .o 72 (.len Bm), .o 73 (.bin .geq vC ze)] [(0,0),(1,0),(2,0),(3,0),(4,0),(5,0),(6,0),(7,0),(8,0),(9,0),(10,0)]
abbrev QEW:AC:= .seq (.run [(.o 4 (.mv (.k (.int .i64 (-1)))))]) .ret
abbrev QEY:AC:= .cond zf (.seq (.run [.m 74 bt, .o 75 (.bR Bn), .o 76 (.aq Bo 6), .o 77 (.aq zh 0), .op none none (.store Bp (.k (.int .i64 3)) 1)]) QEW) .skip
abbrev QF0:AC:= .par [.m 78 bt, .o 79 (.bR xx), .o 80 (.aq Ds 2), .o 81 (.load Dt false 1), .m 82 bt, .o 83 (.bR Fy), .o 84 (.aq Fz 6), .o 85 (.aq FA 2), .o 86 (.load FB false 1), .o 87 (.cf Du FC 1), .o 88 (.load FD false 1), .m 8 FE] [(0,0),(1,0),(2,0),(3,0),(4,0),(5,0),(6,0),(7,0),(8,0),(9,0),(10,0),(11,0)]
abbrev QF8:AC:= .seq (.run [.m 89 bt, .o 90 (.bR Bq), .o 91 (.aq Dv 6), .o 92 (.aq FF 2), .o 93 (.load Jm false 1), .o 94 (.bin .add OS (.k (.int .i64 1))), .o 95 (.bR Bq), .o 96 (.aq OU 6), .o 97 (.aq UP 2), .op none none (.store UQ OT 1)]) (.seq (.run [.m 98 bt, .o 99 (.aq ct 3), .o 100 (.load US false 1), .c 101 iF [UR,W3], .m 102 cT, .o 103 (.bR W4), .op none none (.store W6 W5 1)]) (.seq (.run [.m 104 bt, .o 105 (.aq ct 0), .o 106 (.load W8 false 1), .m 107 cT, .o 108 (.dt [(.int .i64 0)] 1 1 [(0,Xa)]), .c 109 ep [W7,W9,Xb]]) (.seq (.run [.o 110 (.aq cz 15), .o 111 (.load Xc false 1), .m 4 Xd]) .ret)))
abbrev QFD:AC:= .cond kD (.seq (.run [.m 44 bt, .o 45 (.aq ct 0), .o 46 (.load lD false 1),(.c 47 ep [kE,lE,(.k (.slice .full 0 []))])]) (.seq QEN (.seq (.run [.m 60 dB, .m 4 o5]) .ret))) (.seq (.run [.o 62 (.bin .eql cH (.k (.int .i64 2))), .m 61 pO]) (.cond qx (.seq (.seq QET QEY) (.seq QF0 QF8)) .skip))
abbrev QFF:AC:= .cond iw (.seq (.run [.m 36 bt, .o 37 (.aq ct 0), .o 38 (.load jn false 1),(.c 39 ep [ix,jW,(.k (.slice .full 0 []))])]) (.seq (.run [.o 40 (.aq cz 16), .o 41 (.load ko false 1), .m 4 jX]) .ret)) (.seq (.run [.o 43 (.bin .eql cH (.k (.int .i64 10))), .m 42 kp]) QFD)
abbrev QFH:AC:= .cond dA (.seq (.run [.m 17 bt, .o 18 (.aq ct 0), .o 19 (.load dC false 1),(.c 20 ep [dD,dV,(.k (.slice .full 0 []))])]) (.seq QED .ret)) (.seq (.run [.o 35 (.bin .eql cH (.k (.int .i64 8))), .m 34 gN]) QFF)
abbrev QFJ:AC:= .block 0 (.seq (.run [.o 16 (.bin .eql cH (.k (.int .i64 7))), .m 15 di]) QFH)
abbrev QFO:AC:= .seq (.run [(.o 4 (.mv (.k (.int .i64 (-1)))))]) .ret
abbrev QG5:AC:= .seq (.seq (.run [.m 153 du, .o 154 (.bin .neq agn (.k (.int .i64 0)))]) (.cond ago (.seq (.run [.o 155 (.aq ct 11), .o 156 (.load agp false 1), .o 157 (.aq cz 15), .o 158 (.load agr false 1), .c 159 p8 [agq,ags], .m 4 agt]) .ret) .skip)) (.seq (.run [.o 160 (.aq ct 12), .o 161 (.load agu false 1), .o 162 (.aq cz 15), .o 163 (.load agw false 1), .c 164 p8 [agv,agx], .m 4 agy]) .ret)
abbrev QGC:AC:= .cond agz (.seq (.run [.m 167 du, .o 168 (.bin .neq agB (.k (.int .i64 0)))]) (.cond agC (.seq (.run [.o 169 (.aq ct 11), .o 170 (.load agD false 1), .o 171 (.aq ct 0), .o 172 (.load agF false 1), .c 173 p8 [agE,agG], .m 4 agH]) .ret) .skip)) .skip
abbrev QGE:AC:= .cond agl QG5 (.seq (.run [.o 166 (.bin .eql El (.k (.int .i64 6))), .m 165 agA]) QGC)
abbrev QGG:AC:= .cond af6 (.run [.m 139 bt, .m 140 bt, .o 141 (.bR af9), .o 142 (.aq aga 6), .o 143 (.aq agb 3), .o 144 (.load agc false 1), .m 145 du, .o 146 (.dt [(.int .i64 0)] 1 1 [(0,age)]), .o 147 (.app 1 8 agd agf), .o 148 (.bR af8), .o 149 (.aq agi 6), .o 150 (.aq agj 3), .op none none (.store agk agh 1)]) (.seq (.run [.o 152 (.bin .eql El (.k (.int .i64 5))), .m 151 agm]) QGE)
abbrev QGI:AC:= .cond Xs (.run [.m 131 bt, .o 132 (.aq ct 3), .o 133 (.load af1 false 1), .c 134 iF [af0,af2], .m 135 du, .o 136 (.bR af3), .op none none (.store af5 af4 1)]) (.seq (.run [.o 138 (.bin .eql El (.k (.int .i64 3))), .m 137 af7]) QGG)
abbrev QGK:AC:= .block 1 (.seq (.run [.o 130 (.bin .eql El (.k (.int .i64 1))), .m 129 Xt]) QGI)
abbrev QGQ:AC:= .seq (.seq (.run [.m 119 bZ, .o 120 (.un .not Xk)]) (.cond Xl QFO .skip)) (.seq (.run [.m 121 bt, .o 122 (.aq ct 0), .o 123 (.load Xn false 1), .m 124 du, .o 125 (.dt [(.int .i64 0)] 1 1 [(0,Xp)]), .c 126 ep [Xm,Xo,Xq]]) (.seq (.seq (.run [.o 127 (.aq ct 1), .o 128 (.load Xr false 1)]) QGK) (.seq (.run [.o 174 (.aq cz 15), .o 175 (.load agI false 1), .m 4 agJ]) .ret)))
abbrev QGU:AC:= .seq (.run [.o 3 (.box bu), .o 4 (.mv (.k (.int .i64 0)))]) (.seq (.run [.o 11 (.aq cz 0), .o 12 (.load cB true 13), .o 5 (.alloc [(.int .i64 0),(.int .i64 0),(.slice .full 0 []),(.str []),(.str []),(.int .i64 0),(.int .i64 0),(.str []),(.slice .full 0 []),(.bool false),(.slice .full 0 []),(.slice .full 0 []),(.slice .full 0 [])]), .op none none (.store ct cU 13)]) (.seq (.seq (.run [.o 13 (.aq ct 1), .o 14 (.load de false 1)]) QFJ) (.seq (.run [.m 113 bt, .o 114 (.aq ct 5), .o 115 (.load Xf true 4), .c 116 jP [Xe,Xg], .m 112 Xh, .o 117 (.ext OV 0), .o 118 (.ext OV 1), .m 9 Xi, .m 10 Xj]) QGQ)))
abbrev QGX:AC:= .par [.m 12 bt, .m 13 bt, .o 14 (.bR de), .o 15 (.aq cH 4), .o 16 (.load dA false 1), .m 17 bt, .o 18 (.bR dD), .o 19 (.aq dC 4), .o 20 (.load dV false 1), .o 21 (.len eA), .o 22 (.bin .sub dW (.k (.int .i64 1))), .o 23 (.DT 1 di none (some eD)), .o 24 (.bR cU), .o 25 (.aq eQ 4), .op none none (.store eR eH 1)] [(0,0),(1,0),(2,0),(3,0),(4,0),(5,0),(6,0),(7,0),(8,0),(9,0),(10,0),(11,0),(12,0),(13,0),(14,0)]
abbrev QH1:AC:= .seq (.run [(.o 4 (.mv (.k (.int .i64 (-1)))))]) .ret
abbrev QH3:AC:= .cond fu (.seq (.run [.m 28 bt, .o 29 (.bR fY), .o 30 (.aq gj 6), .o 31 (.aq gC 0), .op none none (.store gk (.k (.int .i64 1)) 1)]) QH1) .skip
abbrev QHC:AC:= .seq (.seq (.run [.o 43 (.aq dB 0), .o 44 (.aq kp 3), .o 45 (.load kE false 1), .o 46 (.bin .neq lD (.k (.str [])))]) (.cond lE (.run [.m 47 bt, .o 48 (.aq dB 0), .o 49 (.aq kT 3), .o 50 (.load kU false 1), .c 51 iF [lO,lF], .m 52 bu, .o 53 (.bR kF), .op none none (.store kV kG 1)]) .skip)) (.seq (.run [.o 54 (.aq dB 15), .o 55 (.load lG false 1), .m 4 lH]) .ret)
abbrev QHE:AC:= .seq (.seq (.run [.m 26 ct, .o 27 (.bin .eql fl (.k (.int .i64 0)))]) QH3) (.seq (.run [.m 32 bt, .o 33 (.bR gM), .o 34 (.aq gD 0), .o 35 (.load iw false 1), .o 36 (.bR gN), .o 37 (.aq ix 2), .o 38 (.load jn false 1), .m 39 ct, .o 40 (.bin .sub jK (.k (.int .i64 1))), .o 41 (.cf jW ko 17), .o 42 (.load jX true 17), .o 6 (.alloc [(.int .i64 0),(.int .i64 0),(.slice .full 0 []),(.str []),(.str []),(.int .i64 0),(.int .i64 0),(.str []),(.slice .full 0 []),(.bool false),(.slice .full 0 []),(.slice .full 0 []),(.slice .full 0 []),(.int .i64 0),(.int .i64 0),(.int .i64 0),(.int .i64 0)]), .op none none (.store dB kD 17)]) QHC)
abbrev QHH:AC:= .seq (.run [.o 4 (.mv (.k (.int .i64 0)))]) (.seq (.run [.m 7 bt, .c 8 kL [cJ], .o 9 (.bR cT), .o 10 (.aq du 3), .o 11 (.load bZ false 1), .m 5 cB]) (.seq QGX QHE))
abbrev QHL:AC:= .seq (.run [(.o 7 (.build [(.int .i64 0),(.int .i64 0)] [(0,(1,(.k (.int .i64 1))))])), .op none none (.store dw cJ 2)]) .ret
abbrev QI3:AC:= .seq (.seq (.run [.o 20 (.aq cz 0), .o 21 (.load eA false 1), .o 22 (.bin .eql dW (.k (.int .i64 0)))]) (.cond eD (.run [.o 23 (.load bu true 2), .c 24 tX [eH], .op none none (.store cz eQ 2)]) .skip)) (.seq (.run [.o 25 (.load cz true 2), .op none none (.store dw eR 2)]) .ret)
abbrev QI4:AC:= .seq (.seq (.run [.o 15 (.aq cz 0), .o 16 (.load dA false 1), .o 17 (.bin .eql di (.k (.int .i64 0)))]) (.cond dD (.run [.o 18 (.load bu true 2), .c 19 vx [dC], .op none none (.store cz dV 2)]) .skip)) QI3
abbrev QI5:AC:= .seq (.seq (.run [.o 10 (.aq cz 0), .o 11 (.load bZ false 1), .o 12 (.bin .eql cB (.k (.int .i64 0)))]) (.cond cU (.run [.o 13 (.load bu true 2), .c 14 qi [de], .op none none (.store cz cH 2)]) .skip)) QI4
abbrev QI8:AC:= .seq (.run [.o 1 (.box bt), .o 2 (.alloc [(.int .i64 0),(.int .i64 0)])]) (.seq (.seq (.run [.o 4 (.load bu true 2), .c 5 rk [ff], .o 6 (.un .not ct)]) (.cond dB QHL .skip)) (.seq (.run [.o 8 (.load bu true 2), .c 9 lS [cT], .o 3 (.alloc [(.int .i64 0),(.int .i64 0)]), .op none none (.store cz du 2)]) QI5))
abbrev QIJ:AC:= .par [.o 30 (.load bZ true 16), .o 31 (.aq cT 0), .o 32 (.load gk false 1), .op none none (.store ff gC 16), .m 5 gM, .o 6 (.mv (.k (.bool true)))] [(0,0),(3,0),(1,0),(2,1),(4,0),(5,0)]
abbrev QIQ:AC:= .seq (.block 3 (.seq (.run [.o 23 (.cf dV dW 16), .o 24 (.load eH true 16), .o 10 (.alloc [(.int .i64 0),(.int .i64 0),(.slice .full 0 []),(.str []),(.str []),(.int .i64 0),(.int .i64 0),(.str []),(.slice .full 0 []),(.bool false),(.slice .full 0 []),(.slice .full 0 []),(.slice .full 0 []),(.int .i64 0),(.int .i64 0),(.bool false)]), .op none none (.store bZ eQ 16)]) (.seq (.run [.o 25 (.aq bZ 0), .o 26 (.aq eR 0), .o 27 (.load fl false 1), .m 28 bu, .o 29 (.bin .eql fu fY)]) (.cond gj (.seq QIJ .ret) .skip)))) (.run [.o 33 (.bin .add dW (.k (.int .i64 1))), .m 21 gD])
abbrev QIU:AC:= .block 2 (.loop (.seq (.run [.o 22 (.bin .lss dW eA)]) (.seq (.cond eD .skip (.exit 2)) QIQ)))
abbrev QIW:AC:= .seq (.run [.o 16 (.cf cU cH 5), .o 17 (.load di true 5), .o 8 (.alloc [(.str []),(.slice .full 0 []),(.slice .full 0 []),(.slice .full 0 []),(.slice .full 0 [])]), .op none none (.store cT dD 5)]) (.seq (.run [.o 18 (.load cT true 5), .c 19 sI [dC], .o 20 (.len dV), .o 21 (.mv (.k (.int .i64 0)))]) QIU)
abbrev QJ0:AC:= .seq (.cond dA .skip (.exit 0)) (.seq (.block 1 QIW) (.run [.o 34 (.bin .add cH (.k (.int .i64 1))), .m 14 iw]))
abbrev QJ4:AC:= .seq (.run [.o 11 (.aq dw 1), .o 12 (.load cB false 1), .o 13 (.len cU), .o 14 (.mv (.k (.int .i64 0)))]) (.block 0 (.loop (.seq (.run [.o 15 (.bin .lss cH de)]) QJ0)))
abbrev QJ7:AC:= .seq QJ4 (.seq (.run [.o 35 (.build [(.int .i64 0),(.int .i64 0),(.slice .full 0 []),(.str []),(.str []),(.int .i64 0),(.int .i64 0),(.str []),(.slice .full 0 []),(.bool false),(.slice .full 0 []),(.slice .full 0 []),(.slice .full 0 []),(.int .i64 0),(.int .i64 0),(.bool false)] []), .op none none (.store ff gN 16), .o 5 (.mv (.k (.str []))), .o 6 (.mv (.k (.bool false)))]) .ret)
abbrev QJ8:AC:= .seq (.run [.o 2 (.box bt), .o 4 (.alloc [(.int .i64 0),(.int .i64 0),(.slice .full 0 []),(.str []),(.str []),(.int .i64 0),(.int .i64 0),(.str []),(.slice .full 0 []),(.bool false),(.slice .full 0 []),(.slice .full 0 []),(.slice .full 0 []),(.int .i64 0),(.int .i64 0),(.bool false)]), .o 5 (.mv (.k (.str []))), .o 6 (.mv (.k (.bool false)))]) QJ7
abbrev QJA:AC:= .par [.m 7 bu, .o 8 (.bin .lss cJ (.k (.int .i64 1))), .m 9 cT, .g 10 9 false (.aq dw 3), .g 11 9 false (.load bZ false 1), .g 12 9 false (.len cB), .g 13 9 false (.aq dw 0), .g 14 9 false (.load de false 1), .d 15 9 false xp [cH], .g 16 9 false (.bin .neq cU dA), .o 17 (.pick du (.k (.bool true)) di)] [(0,0),(1,0),(2,0),(6,0),(7,0),(8,0),(3,0),(4,1),(5,0),(9,0),(10,0)]
abbrev QJD:AC:= .cond dD (.seq (.run [.o 4 (.mv (.k (.bool false)))]) .ret) .skip
abbrev QJM:AC:= .cond gC (.seq (.run [.o 32 (.aq dw 1), .o 33 (.load gM false 1), .o 34 (.bin .eql gD (.k (.int .i64 0))), .m 35 iw, .g 36 35 true (.aq dw 2), .g 37 35 true (.load ix false 1), .d 38 35 true nS [jn], .o 39 (.pick gN jW (.k (.bool false))), .m 4 jK]) .ret) .skip
abbrev QJO:AC:= .cond eA (.seq (.run [.o 22 (.aq dw 1), .o 23 (.load eD false 1), .o 24 (.bin .geq eH (.k (.int .i64 0))), .m 25 eQ, .g 26 25 true (.aq dw 2), .g 27 25 true (.load fl false 1), .g 28 25 true (.bin .eql fu (.k (.str []))), .o 29 (.pick eR fY (.k (.bool false))), .m 4 gj]) .ret) (.seq (.run [.o 31 (.bin .eql dV (.k (.int .i64 2))), .m 30 gk]) QJM)
abbrev QJQ:AC:= .block 0 (.seq (.run [.o 21 (.bin .eql dV (.k (.int .i64 1))), .m 20 dW]) QJO)
abbrev QJV:AC:= .cond lO (.seq (.run [.o 4 (.mv (.k (.bool false)))]) .ret) .skip
abbrev QK4:AC:= .cond lP (.seq (.run [.o 4 (.mv (.k (.bool false)))]) .ret) .skip
abbrev QK6:AC:= .seq (.run [.o 53 (.cf kU kF 4), .o 54 (.load kV true 4), .o 6 (.alloc [(.int .i64 0),(.int .i64 0),(.str []),(.slice .full 0 [])]), .op none none (.store dB lG 4)]) (.seq (.run [.o 55 (.load dB true 4), .m 56 bu, .o 57 (.bin .sub nh (.k (.int .i64 1))), .c 58 p7 [lH,oy], .o 59 (.un .not nT)]) QK4)
abbrev QKA:AC:= .seq (.cond kG .skip (.exit 1)) (.seq (.block 2 QK6) (.run [.o 60 (.bin .add kF (.k (.int .i64 1))), .m 51 o5]))
abbrev QKE:AC:= .seq (.run [.o 48 (.aq dw 3), .o 49 (.load kT false 1), .o 50 (.len kU), .o 51 (.mv (.k (.int .i64 0)))]) (.block 1 (.loop (.seq (.run [.o 52 (.bin .lss kF lF)]) QKA)))
abbrev QKH:AC:= .seq QKE (.seq (.run [.o 4 (.mv (.k (.bool true)))]) .ret)
abbrev QKI:AC:= .seq (.seq (.run [.o 40 (.aq dw 1), .o 41 (.load ko false 1), .o 42 (.bin .neq jX (.k (.int .i64 0))), .m 43 kD, .g 44 43 false (.aq dw 2), .g 45 43 false (.load kE false 1), .g 46 43 false (.bin .neq lD (.k (.str []))), .o 47 (.pick kp (.k (.bool true)) lE)]) QJV) QKH
abbrev QKL:AC:= .seq (.run [.o 2 (.box bt), .o 4 (.mv (.k (.bool false)))]) (.seq (.seq QJA QJD) (.seq (.seq (.run [.o 18 (.aq dw 0), .o 19 (.load dC false 1)]) QJQ) QKI))
abbrev QKY:AC:= .seq (.run [.m 13 cz, .o 14 (.load ct true 5), .c 15 sI [cH], .o 16 (.app 16 232 de dA), .m 3 di]) (.seq (.run [.m 17 cz, .o 18 (.len dD), .o 19 (.bin .gtr dC (.k (.int .i64 200)))]) (.cond dV (.seq (.run [.m 20 cz, .m 2 eA]) .ret) .skip))
abbrev QL2:AC:= .seq (.block 1 (.seq (.run [.o 11 (.cf cJ du 5), .o 12 (.load cB true 5), .o 5 (.alloc [(.str []),(.slice .full 0 []),(.slice .full 0 []),(.slice .full 0 []),(.slice .full 0 [])]), .op none none (.store ct cU 5)]) QKY)) (.run [.o 21 (.bin .add du (.k (.int .i64 1))), .m 9 dW])
abbrev QL6:AC:= .block 0 (.loop (.seq (.run [.o 10 (.bin .lss du cT)]) (.seq (.cond bZ .skip (.exit 0)) QL2)))
abbrev QLA:AC:= .seq (.seq (.run [.o 6 (.aq bu 1), .o 7 (.load dB false 1), .o 8 (.len cJ), .o 9 (.mv (.k (.int .i64 0)))]) QL6) (.seq (.run [.m 22 cz, .m 2 eD]) .ret)
abbrev QLC:AC:= .seq (.run [.o 1 (.box bt), .o 2 (.mv (.k (.slice .full 0 [])))]) (.seq (.run [.o 3 (.mv (.k (.slice .full 0 [])))]) QLA)
open Go.Proofs
theorem HC:Has Tryz.prog xl 10 [(2,none)] Q8Y:=⟨Tryz.f38,by kernel_rfl,by kernel_rfl⟩
theorem HD:Has Tryz.prog xm 40 [(0,(some (true,2)))] Q96:=⟨Tryz.f39,by kernel_rfl,by kernel_rfl⟩
theorem Au:Has Tryz.prog jE 23 [(4,none)] Q9N:=⟨Tryz.f40,by kernel_rfl,by kernel_rfl⟩
theorem o6:Has Tryz.prog gi 19 [(4,none)] Q9X:=⟨Tryz.f41,by kernel_rfl,by kernel_rfl⟩
theorem rU:Has Tryz.prog kK 69 [(4,none)] QAV:=⟨Tryz.f42,by kernel_rfl,by kernel_rfl⟩
theorem Jp:Has Tryz.prog kR 55 [(2,none)] QBK:=⟨Tryz.f43,by kernel_rfl,by kernel_rfl⟩
theorem zi:Has Tryz.prog jj 82 [(8,none)] QC9:=⟨Tryz.f44,by kernel_rfl,by kernel_rfl⟩
theorem Av:Has Tryz.prog iu 12 [(4,none)] QCD:=⟨Tryz.f45,by kernel_rfl,by kernel_rfl⟩
theorem zj:Has Tryz.prog oX 67 [(4,none)] QDO:=⟨Tryz.f46,by kernel_rfl,by kernel_rfl⟩
theorem ye:Has Tryz.prog ow 29 [(4,none)] QE7:=⟨Tryz.f47,by kernel_rfl,by kernel_rfl⟩
theorem gZ:Has Tryz.prog qw 176 [(4,none)] QGU:=⟨Tryz.f48,by kernel_rfl,by kernel_rfl⟩
theorem qK:Has Tryz.prog ox 56 [(4,none)] QHH:=⟨Tryz.f49,by kernel_rfl,by kernel_rfl⟩
theorem oc:Has Tryz.prog xn 26 [(2,(some (true,2)))] QI8:=⟨Tryz.f53,by kernel_rfl,by kernel_rfl⟩
theorem HE:Has Tryz.prog xo 36 [(4,(some (true,16))),(5,none),(6,none)] QJ8:=⟨Tryz.f54,by kernel_rfl,by kernel_rfl⟩
theorem Aj:Has Tryz.prog p7 61 [(4,none)] QKL:=⟨Tryz.f55,by kernel_rfl,by kernel_rfl⟩
theorem Jq:Has Tryz.prog yZ 23 [(2,none)] QLC:=⟨Tryz.f62,by kernel_rfl,by kernel_rfl⟩
abbrev QLL:AC:= .cond de (.seq (.run [.o 2 (.mv (.k (.bool false)))]) .ret) .skip
abbrev QLQ:AC:= .seq (.block 1 (.seq (.run [.o 9 (.cf ct cJ 1), .o 10 (.load du false 1), .m 4 bZ]) (.seq (.run [.m 11 ff, .c 12 nS [cB], .o 13 (.un .not cU)]) QLL))) (.run [.o 14 (.bin .add cJ (.k (.int .i64 1))), .m 7 cH])
abbrev QLU:AC:= .block 0 (.loop (.seq (.run [.o 8 (.bin .lss cJ dB)]) (.seq (.cond cT .skip (.exit 0)) QLQ)))
abbrev QLY:AC:= .seq (.seq (.run [.m 5 bt, .o 6 (.len ct), .o 7 (.mv (.k (.int .i64 0)))]) QLU) (.seq (.run [.o 2 (.mv (.k (.bool true)))]) .ret)
abbrev QLZ:AC:= .seq (.run [.o 2 (.mv (.k (.bool false)))]) QLY
abbrev QM4:AC:= .cond di (.seq (.run [.o 2 (.mv (.k (.bool false)))]) .ret) .skip
abbrev QM8:AC:= .seq (.seq (.run [.m 3 bt, .o 4 (.va cz), .o 5 (.bin .lss ff (.k (.int .i64 1))), .m 6 ct, .g 7 6 false (.mv bt), .g 8 6 false (.va cJ), .g 9 6 false (.bin .gtr cT (.k (.int .i64 8))), .o 10 (.pick dB (.k (.bool true)) du), .m 11 bZ, .g 12 11 false (.mv bt), .g 13 11 false (.AH cU (.k (.int .i64 0))), .d 14 11 false rm [de], .g 15 11 false (.un .not cH), .o 16 (.pick cB (.k (.bool true)) dA)]) QM4) (.seq (.run [.m 17 bt, .c 18 Bj [dD,(.k (.int .i64 0))], .m 19 bt, .o 20 (.va dV), .o 21 (.bin .eql dC eA), .m 22 dW, .g 23 22 true (.mv bt), .d 24 22 true za [eH], .g 25 22 true (.un .not eQ), .o 26 (.pick eD eR (.k (.bool false))), .m 2 fl]) .ret)
abbrev QM9:AC:= .seq (.run [.o 2 (.mv (.k (.bool false)))]) QM8
abbrev QME:AC:= .cond dA (.seq (.run [.o 6 (.mv (.k (.bool false)))]) .ret) .skip
abbrev QML:AC:= .par [.m 29 bt, .o 30 (.bR gj), .o 31 (.aq gC 0), .o 32 (.load gk false 1), .o 33 (.bin .gtr gM (.k (.int .i64 200))), .m 34 gD, .g 35 34 false (.aq cT 0), .g 36 34 false (.load gN false 1), .g 37 34 false (.mv bt), .g 38 34 false (.bR jn), .g 39 34 false (.aq jW 0), .g 40 34 false (.load jK false 1), .g 41 34 false (.bin .neq ix ko), .o 42 (.pick iw (.k (.bool true)) jX), .m 43 kD, .g 44 43 false (.aq cT 2), .g 45 43 false (.load kE false 1), .d 46 43 false nc [lD], .g 47 43 false (.un .not lE), .o 48 (.pick kp (.k (.bool true)) lO), .m 49 kT, .g 50 49 false (.load cT true 13), .d 51 49 false tY [lF], .g 52 49 false (.un .not kF), .o 53 (.pick kU (.k (.bool true)) kG)] [(0,0),(1,0),(2,0),(3,0),(4,0),(5,0),(6,0),(7,0),(8,0),(9,0),(10,0),(11,0),(12,0),(13,0),(14,0),(15,0),(16,0),(17,0),(18,0),(19,0),(20,0),(21,0),(22,0),(23,0),(24,0)]
abbrev QMO:AC:= .cond kV (.seq (.run [.o 6 (.mv (.k (.bool false)))]) .ret) .skip
abbrev QMT:AC:= .cond xv (.seq (.run [.o 6 (.mv (.k (.bool false)))]) .ret) .skip
abbrev QMV:AC:= .seq (.seq QML QMO) (.seq (.run [.m 54 bt, .o 55 (.aq cT 11), .o 56 (.load lH false 1), .m 57 dw, .o 58 (.bin .add oy (.k (.int .i64 1))), .c 59 kn [lG,nh,nT], .o 60 (.un .not lP), .m 61 o5, .g 62 61 false (.mv bt), .g 63 61 false (.aq cT 12), .g 64 61 false (.load qy false 1), .g 65 61 false (.mv dw), .g 66 61 false (.bin .add uf (.k (.int .i64 1))), .d 67 61 false kn [pO,qz,ug], .g 68 61 false (.un .not vC), .o 69 (.pick qx (.k (.bool true)) rB)]) QMT)
abbrev QMX:AC:= .seq (.run [.o 20 (.cf di dC 13), .o 21 (.load eA true 13), .o 8 (.alloc [(.int .i64 0),(.int .i64 0),(.slice .full 0 []),(.str []),(.str []),(.int .i64 0),(.int .i64 0),(.str []),(.slice .full 0 []),(.bool false),(.slice .full 0 []),(.slice .full 0 []),(.slice .full 0 [])]), .op none none (.store cT dW 13)]) (.seq (.run [.m 22 bt, .o 23 (.bR eD), .o 24 (.aq eH 0), .o 25 (.load eQ false 1), .o 26 (.bin .add eR (.k (.int .i64 1))), .o 27 (.bR eD), .o 28 (.aq fu 0), .op none none (.store fY fl 1)]) QMV)
abbrev QN1:AC:= .seq (.cond dV .skip (.exit 0)) (.seq (.block 1 QMX) (.run [.o 70 (.bin .add dC (.k (.int .i64 1))), .m 18 xw]))
abbrev QN5:AC:= .seq (.run [.m 16 bu, .o 17 (.len di), .o 18 (.mv (.k (.int .i64 0)))]) (.block 0 (.loop (.seq (.run [.o 19 (.bin .lss dC dD)]) QN1)))
abbrev QN8:AC:= .seq QN5 (.seq (.run [.o 6 (.mv (.k (.bool true)))]) .ret)
abbrev QN9:AC:= .seq (.seq (.run [.m 9 dw, .o 10 (.bin .gtr du (.k (.int .i64 12))), .m 11 bZ, .g 12 11 true (.mv bu), .g 13 11 true (.len cU), .g 14 11 true (.bin .gtr de (.k (.int .i64 0))), .o 15 (.pick cB cH (.k (.bool false)))]) QME) QN8
abbrev QNA:AC:= .seq (.run [.o 6 (.mv (.k (.bool false)))]) QN9
abbrev QND:AC:= .seq (.run [.m 3 bt,(.o 4 (.build [(.int .i64 0),(.int .i64 0),(.str []),(.slice .full 0 [])] [(0,(1,(.k (.int .i64 1)))),(1,(1,cz))])), .op none none (.store dw ff 4)]) .ret
abbrev QNE:AC:= .seq (.run [.o 2 (.alloc [(.int .i64 0),(.int .i64 0),(.str []),(.slice .full 0 [])])]) QND
abbrev QNH:AC:= .seq (.run [.m 3 bt,(.o 4 (.build [(.int .i64 0),(.int .i64 0),(.str []),(.slice .full 0 [])] [(0,(1,(.k (.int .i64 2)))),(2,(1,cz))])), .op none none (.store dw ff 4)]) .ret
abbrev QNI:AC:= .seq (.run [.o 2 (.alloc [(.int .i64 0),(.int .i64 0),(.str []),(.slice .full 0 [])])]) QNH
abbrev QNM:AC:= .seq (.run [.o 4 (.box bu), .o 5 (.box dw), .o 6 (.alloc [(.int .i64 0),(.int .i64 0),(.str []),(.slice .full 0 [])])]) (.seq (.run [.m 7 bt, .o 8 (.load ff true 4), .o 9 (.load ct true 4), .o 10 (.dt [(.int .i64 0),(.int .i64 0),(.str []),(.slice .full 0 [])] 4 2 [(0,cT),(1,du)]), .o 11 (.build [(.int .i64 0),(.int .i64 0),(.str []),(.slice .full 0 [])] [(0,(1,cJ)),(3,(1,bZ))]), .op none none (.store dB cB 4)]) .ret)
abbrev QNX:AC:= .seq (.seq (.run [.m 10 ct, .o 11 (.aq dw 3), .o 12 (.load cB false 1), .o 13 (.len cU), .o 14 (.bin .lss bZ de), .m 15 cH, .g 16 15 true (.mv bu), .g 17 15 true (.bin .leq di (.k (.int .i64 20000))), .o 18 (.pick dA dD (.k (.bool false)))]) (.cond dC .skip (.exit 0))) (.seq (.block 1 (.run [.o 21 (.aq dw 3), .o 22 (.load dW false 1), .m 23 ct, .o 24 (.cf eD eH 4), .o 25 (.load eQ true 4), .m 26 bu, .c 27 jU [eR,fl], .m 1 fu])) (.run [.m 19 ct, .o 20 (.bin .add dV (.k (.int .i64 1))), .m 5 eA]))
abbrev QO3:AC:= .seq (.seq (.run [.o 5 (.mv (.k (.int .i64 0)))]) (.block 0 (.loop QNX))) (.seq (.run [.m 28 bu, .m 4 fY]) .ret)
abbrev QO5:AC:= .seq (.run [.o 2 (.box bt), .o 4 (.mv (.k (.int .i64 0)))]) (.seq (.run [.o 6 (.aq dw 2), .o 7 (.load dB false 1), .m 8 bu, .c 9 gi [cJ,cT], .m 1 du]) QO3)
abbrev QOI:AC:= .par [.m 37 bt, .m 38 bt, .o 39 (.bR jW), .o 40 (.aq jK 2), .o 41 (.load ko false 1), .o 42 (.load du true 17), .o 43 (.dt [(.int .i64 0),(.int .i64 0),(.slice .full 0 []),(.str []),(.str []),(.int .i64 0),(.int .i64 0),(.str []),(.slice .full 0 []),(.bool false),(.slice .full 0 []),(.slice .full 0 []),(.slice .full 0 []),(.int .i64 0),(.int .i64 0),(.int .i64 0),(.int .i64 0)] 17 1 [(0,kD)]), .o 44 (.app 17 240 jX kp), .o 45 (.bR jn), .o 46 (.aq lD 2), .op none none (.store lE kE 1)] [(1,0),(2,0),(3,0),(4,0),(5,0),(6,0),(7,0),(0,0),(8,0),(9,0),(10,0)]
abbrev QOJ:AC:= .run [.o 47 (.aq ct 13), .o 48 (.load lO false 1), .m 49 cT, .o 50 (.aq du 15), .o 51 (.load lF false 1), .o 52 (.aq ct 16), .o 53 (.load kG false 1), .o 54 (.build [(.int .i64 0),(.int .i64 0),(.slice .full 0 []),(.str []),(.str []),(.int .i64 0),(.int .i64 0),(.str []),(.slice .full 0 []),(.bool false),(.slice .full 0 []),(.slice .full 0 []),(.slice .full 0 []),(.int .i64 0),(.int .i64 0),(.int .i64 0),(.int .i64 0)] [(13,(1,kT)),(14,(1,kU)),(15,(1,kF)),(16,(1,kV))]), .o 10 (.alloc [(.int .i64 0),(.int .i64 0),(.slice .full 0 []),(.str []),(.str []),(.int .i64 0),(.int .i64 0),(.str []),(.slice .full 0 []),(.bool false),(.slice .full 0 []),(.slice .full 0 []),(.slice .full 0 []),(.int .i64 0),(.int .i64 0),(.int .i64 0),(.int .i64 0)]), .op none none (.store bZ lG 17)]
abbrev QOR:AC:= .seq (.seq (.run [.o 55 (.aq cJ 1), .o 56 (.load lH false 1), .o 57 (.bin .eql nh (.k (.int .i64 6)))]) (.cond oy (.run [.m 58 cT, .m 59 cT, .o 60 (.aq bZ 15), .op none none (.store o5 nT 1), .o 61 (.aq bZ 16), .op none none (.store qx lP 1)]) .skip)) (.seq (.run [.m 62 bt, .o 63 (.aq cJ 11), .o 64 (.load qy false 1), .o 65 (.load bZ true 17), .c 66 jV [pO,qz,uf]]) (.run [.m 67 bt, .o 68 (.aq cJ 12), .o 69 (.load rB false 1), .o 70 (.load bZ true 17), .c 71 jV [vC,xv,xw]]))
abbrev QOU:AC:= .seq (.seq (.run [.m 27 dB, .o 28 (.bin .add fu (.k (.int .i64 1))), .m 29 bu, .o 30 (.len gj), .o 31 (.bin .lss fY gC)]) (.cond gk (.run [.m 32 cT, .o 33 (.load cJ true 13), .c 34 mz [gD], .o 35 (.bin .add gM iw), .o 36 (.aq du 15), .op none none (.store ix gN 1)]) .skip)) (.seq QOI (.seq QOJ QOR))
abbrev QOY:AC:= .seq (.run [.m 15 de, .o 16 (.cf cB de 13), .o 17 (.load di true 13), .o 7 (.alloc [(.int .i64 0),(.int .i64 0),(.slice .full 0 []),(.str []),(.str []),(.int .i64 0),(.int .i64 0),(.str []),(.slice .full 0 []),(.bool false),(.slice .full 0 []),(.slice .full 0 []),(.slice .full 0 [])]), .m 6 dA, .op none none (.store cJ dD 13)]) (.seq (.run [.m 18 bt, .o 19 (.bR dC), .o 20 (.aq dV 2), .o 21 (.load eA false 1), .o 22 (.len dW), .o 23 (.bin .add eD (.k (.int .i64 1))), .m 8 eH]) (.seq (.run [.o 24 (.load ct true 17), .o 9 (.alloc [(.int .i64 0),(.int .i64 0),(.slice .full 0 []),(.str []),(.str []),(.int .i64 0),(.int .i64 0),(.str []),(.slice .full 0 []),(.bool false),(.slice .full 0 []),(.slice .full 0 []),(.slice .full 0 []),(.int .i64 0),(.int .i64 0),(.int .i64 0),(.int .i64 0)]), .op none none (.store du eQ 17)]) (.seq (.run [.o 25 (.load cJ true 13), .o 26 (.aq du 0), .op none none (.store fl eR 13)]) QOU)))
abbrev QP2:AC:= .seq (.cond cH .skip (.exit 0)) (.seq (.block 1 QOY) (.run [.o 72 (.bin .add de (.k (.int .i64 1))), .m 13 ze]))
abbrev QP6:AC:= .seq (.run [.m 11 bu, .o 12 (.len cB), .o 13 (.mv (.k (.int .i64 0)))]) (.block 0 (.loop (.seq (.run [.o 14 (.bin .lss de cU)]) QP2)))
abbrev QP7:AC:= .seq (.run [.o 5 (.box dw)]) QP6
abbrev QPC:AC:= .cond du (.seq (.run [.o 4 (.mv (.k (.slice .full 0 [])))]) .ret) .skip
abbrev QPJ:AC:= .par [.o 21 (.aq dw 0), .o 22 (.load dW false 1), .c 23 ky [eD], .o 24 (.load dB true 5), .c 25 sJ [eQ], .o 26 (.app 1 16 eH eR), .m 4 fl] [(0,0),(1,0),(2,0),(3,1),(4,0),(5,0),(6,0)]
abbrev QPQ:AC:= .seq (.block 1 (.seq (.run [.o 15 (.cf cB de 5), .o 16 (.load dA true 5), .o 6 (.alloc [(.str []),(.slice .full 0 []),(.slice .full 0 []),(.slice .full 0 []),(.slice .full 0 [])]), .op none none (.store dB di 5)]) (.seq (.run [.o 17 (.aq dB 0), .o 18 (.load dD false 1), .m 19 bu, .o 20 (.bin .eql dC dV)]) (.cond eA (.seq QPJ .ret) .skip)))) (.run [.o 27 (.bin .add de (.k (.int .i64 1))), .m 13 fu])
abbrev QPU:AC:= .block 0 (.loop (.seq (.run [.o 14 (.bin .lss de cU)]) (.seq (.cond cH .skip (.exit 0)) QPQ)))
abbrev QPY:AC:= .seq (.seq (.run [.o 10 (.aq dw 1), .o 11 (.load bZ false 1), .o 12 (.len cB), .o 13 (.mv (.k (.int .i64 0)))]) QPU) (.seq (.run [.o 4 (.mv (.k (.slice .full 0 [])))]) .ret)
abbrev QQ0:AC:= .seq (.run [.o 2 (.box bt), .o 4 (.mv (.k (.slice .full 0 [])))]) (.seq (.seq (.run [.o 7 (.load dw true 2), .c 8 rk [cJ], .o 9 (.un .not cT)]) QPC) QPY)
abbrev QQ2:AC:= .par [.m 5 bt, .o 6 (.bR ct), .o 7 (.aq dB 3), .o 8 (.load cJ false 1), .m 9 bu, .o 10 (.cf cT du 1), .o 11 (.load bZ false 1), .m 12 bt, .o 13 (.bR cU), .o 14 (.aq de 4), .o 15 (.load cH false 1), .m 16 bu, .o 17 (.cf dA di 1), .o 18 (.load dD false 1), .o 19 (.bin .lss cB dC)] [(0,0),(1,0),(2,0),(3,0),(4,0),(5,0),(6,0),(7,0),(8,0),(9,0),(10,0),(11,0),(12,0),(13,0),(14,0)]
abbrev QQ8:AC:= .seq (.run [(.o 4 (.mv (.k (.int .i64 (-1)))))]) .ret
abbrev QQ9:AC:= .seq (.seq QQ2 (.cond dV (.seq (.run [.m 20 bt, .o 21 (.bR eA), .o 22 (.aq dW 3), .o 23 (.load eD false 1), .m 24 bu, .o 25 (.cf eH eQ 1), .o 26 (.load eR false 1), .m 4 fl]) .ret) .skip)) QQ8
abbrev QQA:AC:= .seq (.run [.o 4 (.mv (.k (.int .i64 0)))]) QQ9
abbrev QQM:AC:= .block 1 (.seq (.run [.m 10 cT, .m 5 bZ]) (.seq (.run [.m 11 bu, .m 12 bt, .m 13 ct, .o 14 (.cf cU de 5), .o 15 (.load cH true 5),(.jr (some 16) none 11 [dA])]) (.cond di (.seq (.run [.m 17 ct, .m 4 dD]) .ret) .skip)))
abbrev QQP:AC:= .seq (.cond du .skip (.exit 0)) (.seq QQM (.run [.o 18 (.bin .add cT (.k (.int .i64 1))), .m 8 dC]))
abbrev QQT:AC:= .seq (.run [.m 6 bt, .o 7 (.len dB), .o 8 (.mv (.k (.int .i64 0)))]) (.block 0 (.loop (.seq (.run [.o 9 (.bin .lss cT cJ)]) QQP)))
abbrev QQV:AC:= .seq (.run [(.o 4 (.mv (.k (.int .i64 (-1)))))]) .ret
abbrev QQX:AC:= .seq (.run [.o 4 (.mv (.k (.int .i64 0)))]) (.seq QQT QQV)
abbrev QR1:AC:= .seq (.run [.o 2 (.box bt), .o 3 (.mv (.k (.bool false)))]) (.seq (.run [.o 4 (.aq dw 0), .o 5 (.load ff false 1), .o 6 (.load bu false 1), .o 7 (.bin .eql ct dB), .m 3 cJ]) .ret)
abbrev QR4:AC:= .par [.m 8 ct, .o 9 (.bR cT), .o 10 (.aq du 2), .o 11 (.load bZ false 1), .m 12 ct, .o 13 (.bR cU), .o 14 (.aq de 1), .o 15 (.load cH false 1), .m 16 bu, .c 17 fV [dA,di], .o 18 (.cf cB dD 1), .o 19 (.load dC false 1), .m 4 dV] [(4,0),(5,0),(6,0),(7,0),(8,0),(9,0),(0,0),(1,0),(2,0),(3,1),(10,0),(11,0),(12,0)]
abbrev QR7:AC:= .seq (.run [.o 4 (.mv (.k .dR))]) (.seq (.run [.m 6 bt, .c 7 kL [dB], .m 5 cJ]) (.seq QR4 .ret))
abbrev QRF:AC:= .par [.m 30 bt, .m 31 bt, .o 32 (.bR gk), .o 33 (.aq gM 5), .o 34 (.load gD false 1), .m 35 cT, .o 36 (.bR gN), .o 37 (.load ix false 1), .o 38 (.dt [(.int .i64 0)] 1 1 [(0,jn)]), .o 39 (.app 1 8 iw jW), .o 40 (.bR gC), .o 41 (.aq ko 5), .op none none (.store jX jK 1)] [(1,0),(2,0),(3,0),(4,0),(5,0),(6,0),(7,0),(8,0),(9,0),(0,0),(10,0),(11,0),(12,0)]
abbrev QRK:AC:= .seq (.cond fu .skip (.exit 0)) (.seq (.block 1 (.seq (.run [.o 28 (.cf eQ fl 1), .o 29 (.load fY false 1), .m 8 gj]) QRF)) (.run [.o 42 (.bin .add fl (.k (.int .i64 1))), .m 26 kD]))
abbrev QRL:AC:= .seq (.run [.o 27 (.bin .lss fl eR)]) QRK
abbrev QRP:AC:= .par [.o 44 (.load cz true 4), .m 45 dB, .o 46 (.bR lD), .o 47 (.aq lE 1), .o 48 (.load lO false 1), .m 49 bt, .o 50 (.bR kU), .o 51 (.aq lF 5), .o 52 (.load kF false 1), .c 53 wB [kE,kT,kG], .m 43 kV, .o 54 (.ext kp 0), .o 55 (.ext kp 1), .m 9 lG, .m 10 lH] [(0,0),(1,0),(2,0),(3,0),(4,0),(5,0),(6,0),(7,0),(8,0),(9,0),(10,0),(11,0),(12,0),(13,0),(14,0)]
abbrev QRT:AC:= .seq (.run [.m 56 bZ, .o 57 (.un .not nh)]) (.cond oy (.run [.m 58 bt, .o 59 (.bR nT), .o 60 (.aq lP 6), .o 61 (.aq o5 0), .op none none (.store qx (.k (.int .i64 4)) 1)]) .skip)
abbrev QRX:AC:= .seq QRP (.seq QRT (.seq (.run [.m 62 du, .m 63 bZ, .m 4 pO, .m 5 qy]) .ret))
abbrev QRY:AC:= .seq (.seq (.run [.m 21 dB, .o 22 (.bR dW), .o 23 (.aq eD 2), .o 24 (.load eH false 1), .o 25 (.len eQ), .o 26 (.mv (.k (.int .i64 0)))]) (.block 0 (.loop QRL))) QRX
abbrev QRZ:AC:= .seq (.run [.m 13 bt, .m 14 bt, .o 15 (.bR cH), .o 16 (.aq dA 5), .o 17 (.load di false 1),(.o 18 (.DT 1 dD none (some (.k (.int .i64 0))))), .o 19 (.bR de), .o 20 (.aq dV 5), .op none none (.store eA dC 1)]) QRY
abbrev QS1:AC:= .seq (.run [.o 3 (.box bu), .o 4 (.mv (.k (.int .i64 0))), .o 5 (.mv (.k (.bool false)))]) (.seq (.run [.m 11 bt, .c 12 kL [cB], .m 6 cU]) QRZ)
abbrev QS5:AC:= .seq (.run [.m 6 bt, .o 7 (.bR dB), .o 8 (.aq cJ 3), .o 9 (.load cT false 1), .m 10 bu, .c 11 ng [du,bZ]]) (.cond cB (.run [.m 12 bt, .m 13 bt, .o 14 (.bR de), .o 15 (.aq cH 6), .o 16 (.aq dA 4), .o 17 (.load di false 1), .m 18 bu, .m 19 dw, .o 20 (.build [(.int .i64 0),(.slice .full 0 [])] [(0,(1,dC)),(1,(1,dV))]), .o 21 (.dt [(.int .i64 0),(.slice .full 0 [])] 2 1 [(0,eA)]), .o 22 (.app 2 32 dD dW), .o 23 (.bR cU), .o 24 (.aq eH 6), .o 25 (.aq eQ 4), .op none none (.store eR eD 1)]) .skip)
abbrev QSE:AC:= .cond eD (.seq (.run [.o 23 (.aq du 0), .o 24 (.aq eH 0), .o 25 (.load eQ false 1), .m 6 eR, .o 7 (.mv (.k (.bool true)))]) .ret) .skip
abbrev QSJ:AC:= .seq (.block 1 (.seq (.run [.o 16 (.cf cU cH 17), .o 17 (.load di true 17), .o 9 (.alloc [(.int .i64 0),(.int .i64 0),(.slice .full 0 []),(.str []),(.str []),(.int .i64 0),(.int .i64 0),(.str []),(.slice .full 0 []),(.bool false),(.slice .full 0 []),(.slice .full 0 []),(.slice .full 0 []),(.int .i64 0),(.int .i64 0),(.int .i64 0),(.int .i64 0)]), .op none none (.store du dD 17)]) (.seq (.run [.o 18 (.aq du 0), .o 19 (.aq dC 2), .o 20 (.load dV false 1), .m 21 dw, .c 22 cq [eA,dW]]) QSE))) (.run [.o 26 (.bin .add cH (.k (.int .i64 1))), .m 14 fl])
abbrev QSN:AC:= .block 0 (.loop (.seq (.run [.o 15 (.bin .lss cH de)]) (.seq (.cond dA .skip (.exit 0)) QSJ)))
abbrev QSR:AC:= .seq (.run [(.o 6 (.mv (.k (.int .i64 (-1))))), .o 7 (.mv (.k (.bool true)))]) .ret
abbrev QSW:AC:= .seq (.seq (.run [.m 27 bt, .o 28 (.bR fu), .o 29 (.aq fY 0), .o 30 (.aq gj 1), .o 31 (.load gC false 1), .m 32 bu, .o 33 (.cf gk gM 5), .o 34 (.aq gD 4), .o 35 (.load iw false 1), .m 36 dw, .c 37 cq [gN,ix]]) (.cond jn QSR .skip)) (.seq (.run [.o 6 (.mv (.k (.int .i64 0))), .o 7 (.mv (.k (.bool false)))]) .ret)
abbrev QSX:AC:= .seq (.seq (.run [.m 10 bt, .m 11 bu, .c 12 gK [bZ,cB], .o 13 (.len cU), .o 14 (.mv (.k (.int .i64 0)))]) QSN) QSW
abbrev QSY:AC:= .seq (.run [.o 6 (.mv (.k (.int .i64 0))), .o 7 (.mv (.k (.bool false)))]) QSX
abbrev QT3:AC:= .cond cJ (.seq (.run [.m 8 bt, .o 9 (.cf cT (.k (.int .i64 0)) 13), .o 10 (.aq du 0), .o 11 (.load bZ false 1), .m 4 cB]) .ret) .skip
abbrev QT7:AC:= .seq (.seq (.run [.m 5 bt, .o 6 (.len ct), .o 7 (.bin .gtr dB (.k (.int .i64 0)))]) QT3) (.seq (.run [.m 12 bu, .m 4 cU]) .ret)
abbrev QT8:AC:= .seq (.run [.o 4 (.mv (.k (.int .i64 0)))]) QT7
abbrev QTA:AC:= .par [.m 3 bt, .o 4 (.bR cz), .o 5 (.aq ff 4), .o 6 (.load ct false 1), .m 7 bt, .o 8 (.bR cJ), .o 9 (.aq cT 4), .o 10 (.load du false 1), .o 11 (.len bZ), .o 12 (.bin .sub cB (.k (.int .i64 1))), .o 13 (.cf dB cU 1), .o 14 (.load de false 1), .m 2 cH] [(0,0),(1,0),(2,0),(3,0),(4,0),(5,0),(6,0),(7,0),(8,0),(9,0),(10,0),(11,0),(12,0)]
abbrev QTC:AC:= .seq (.run [.o 2 (.mv (.k .dR))]) (.seq QTA .ret)
abbrev QTG:AC:= .seq (.run [.o 1 (.box bt), .o 2 (.mv (.k (.slice .full 0 [])))]) (.seq (.run [.o 3 (.aq bu 3), .o 4 (.load cz false 1),(.c 5 mA [ff,(.k (.int .i64 1)),(.k (.int .i64 0)),(.k (.bool false)),(.k (.slice .full 0 []))]), .m 2 ct]) .ret)
abbrev QTK:AC:= .seq (.run [(.o 16 (.build [(.int .i64 0),(.int .i64 0)] [(0,(1,(.k (.int .i64 1))))])), .op none none (.store dw di 2)]) .ret
abbrev QTW:AC:= .seq (.block 1 (.seq (.run [.o 22 (.cf dC eA 5), .o 23 (.load eD true 5), .o 5 (.alloc [(.str []),(.slice .full 0 []),(.slice .full 0 []),(.slice .full 0 []),(.slice .full 0 [])]), .op none none (.store ct eH 5)]) (.run [.m 24 cz, .o 25 (.aq ct 0), .o 26 (.load eR false 1), .o 27 (.dt [(.str [])] 1 1 [(0,fl)]), .o 28 (.app 1 16 eQ fu), .m 3 fY]))) (.run [.o 29 (.bin .add eA (.k (.int .i64 1))), .m 20 gj])
abbrev QU0:AC:= .block 0 (.loop (.seq (.run [.o 21 (.bin .lss eA dV)]) (.seq (.cond dW .skip (.exit 0)) QTW)))
abbrev QU5:AC:= .seq (.run [(.o 53 (.build [(.int .i64 0),(.int .i64 0)] [(0,(1,(.k (.int .i64 5))))])), .op none none (.store dw kV 2)]) .ret
abbrev QUG:AC:= .seq (.run [(.o 73 (.build [(.int .i64 0),(.int .i64 0)] [(0,(1,(.k (.int .i64 5))))])), .op none none (.store dw zf 2)]) .ret
abbrev QUP:AC:= .seq (.run [.o 89 (.aq cU 0), .o 90 (.aq Bq 0), .o 91 (.load Dv false 1),(.o 92 (.build [(.int .i64 0),(.int .i64 0)] [(0,(1,(.k (.int .i64 5)))),(1,(1,FF))])), .op none none (.store dw Jm 2)]) .ret
abbrev QUV:AC:= .seq (.block 5 (.seq (.run [.o 80 (.cf zh xx 17), .o 81 (.load Dt true 17), .o 12 (.alloc [(.int .i64 0),(.int .i64 0),(.slice .full 0 []),(.str []),(.str []),(.int .i64 0),(.int .i64 0),(.str []),(.slice .full 0 []),(.bool false),(.slice .full 0 []),(.slice .full 0 []),(.slice .full 0 []),(.int .i64 0),(.int .i64 0),(.int .i64 0),(.int .i64 0)]), .op none none (.store cU Du 17)]) (.seq (.run [.o 82 (.load bu true 2), .o 83 (.load du true 5), .m 84 cz, .o 85 (.aq cU 0), .o 86 (.load FB true 13), .c 87 qj [Fy,Fz,FA,FC], .o 88 (.un .not FD)]) (.cond FE QUP .skip)))) (.run [.o 93 (.bin .add xx (.k (.int .i64 1))), .m 78 OS])
abbrev QUZ:AC:= .block 4 (.loop (.seq (.run [.o 79 (.bin .lss xx Bp)]) (.seq (.cond Ds .skip (.exit 4)) QUV)))
abbrev QV1:AC:= .seq (.seq (.run [.m 66 bZ, .c 67 oa [ug], .m 68 vC, .g 69 68 false (.mv bZ), .g 70 68 false (.uJ 130 [bu]), .d 71 68 false fW [xv,xw], .o 72 (.pick rB (.k (.bool true)) Bm)]) (.cond ze QUG .skip)) (.seq (.run [.m 74 cJ, .m 75 cT, .c 76 gK [Bn,Bo], .o 77 (.len zh), .o 78 (.mv (.k (.int .i64 0)))]) QUZ)
abbrev QV6:AC:= .seq (.block 3 (.seq (.run [.m 61 lP, .o 62 (.cf oy lP 5), .o 63 (.load pO true 5), .o 9 (.alloc [(.str []),(.slice .full 0 []),(.slice .full 0 []),(.slice .full 0 []),(.slice .full 0 [])]), .m 8 qx, .op none none (.store du qy 5)]) (.seq (.run [.o 64 (.load du true 5), .c 65 sJ [qz], .m 10 uf]) QV1))) (.run [.o 94 (.bin .add lP (.k (.int .i64 1))), .m 59 OT])
abbrev QVA:AC:= .block 2 (.loop (.seq (.run [.o 60 (.bin .lss lP nT)]) (.seq (.cond o5 .skip (.exit 2)) QV6)))
abbrev QVE:AC:= .seq (.seq (.run [.o 56 (.aq bu 1), .o 57 (.load nh false 1), .o 58 (.len oy), .o 59 (.mv (.k (.int .i64 0)))]) QVA) (.seq (.run [.o 95 (.build [(.int .i64 0),(.int .i64 0)] []), .op none none (.store dw OU 2)]) .ret)
abbrev QVG:AC:= .seq (.seq (.run [.o 32 (.aq bu 0), .o 33 (.load gM false 1), .c 34 oa [gD], .m 35 iw, .g 36 35 false (.mv cz), .d 37 35 false oa [ix], .o 38 (.pick gN (.k (.bool true)) jn), .m 39 jW, .g 40 39 false (.mv dB), .g 41 39 false (.bin .lss ko (.k (.int .i64 0))), .o 42 (.pick jK (.k (.bool true)) jX), .m 43 kD, .g 44 43 false (.aq bu 1), .g 45 43 false (.load kE false 1), .g 46 43 false (.mv dB), .g 47 43 false (.cf lD lE 5), .g 48 43 false (.aq lO 1), .g 49 43 false (.load kT false 1), .g 50 43 false (.len kU), .g 51 43 false (.bin .gtr lF (.k (.int .i64 0))), .o 52 (.pick kp (.k (.bool true)) kF)]) (.cond kG QU5 .skip)) (.seq (.run [.o 54 (.load bu true 2), .c 55 kR [lG], .m 7 lH]) QVE)
abbrev QVI:AC:= .seq (.seq (.run [.o 17 (.aq bu 1), .o 18 (.load dD false 1), .o 19 (.len dC), .o 20 (.mv (.k (.int .i64 0)))]) QU0) (.seq (.run [.m 30 cz,(.c 31 fV [gC,(.k (.str [109,97,105,110]))]), .m 6 gk]) QVG)
abbrev QVK:AC:= .seq (.seq (.run [.o 13 (.load bu true 2), .c 14 rk [de], .o 15 (.un .not cH)]) (.cond dA QTK .skip)) (.seq (.run [.o 3 (.mv (.k (.slice .full 0 [])))]) QVI)
abbrev QVL:AC:= .seq (.run [.o 1 (.box bt), .o 2 (.alloc [(.int .i64 0),(.int .i64 0)])]) QVK
abbrev QVP:AC:= .seq (.run [(.o 9 (.build [(.int .i64 0),(.int .i64 0)] [(0,(1,(.k (.int .i64 1))))])), .op none none (.store dw du 2)]) .ret
abbrev QVY:AC:= .seq (.run [.o 31 (.aq ff 0), .o 32 (.aq gk 0), .o 33 (.load gM false 1),(.o 34 (.build [(.int .i64 0),(.int .i64 0)] [(0,(1,(.k (.int .i64 6)))),(1,(1,gD))])), .op none none (.store dw iw 2)]) .ret
abbrev QW1:AC:= .seq (.run [.o 18 (.cf cH di 17), .o 19 (.load dC true 17), .o 4 (.alloc [(.int .i64 0),(.int .i64 0),(.slice .full 0 []),(.str []),(.str []),(.int .i64 0),(.int .i64 0),(.str []),(.slice .full 0 []),(.bool false),(.slice .full 0 []),(.slice .full 0 []),(.slice .full 0 []),(.int .i64 0),(.int .i64 0),(.int .i64 0),(.int .i64 0)]), .op none none (.store ff dV 17)]) (.seq (.run [.o 20 (.aq ff 0), .o 21 (.aq eA 1), .o 22 (.load dW false 1), .o 23 (.bin .eql eD (.k (.int .i64 4))), .m 24 eH, .g 25 24 true (.load bu true 2), .g 26 24 true (.aq ff 0), .g 27 24 true (.load fl true 13), .d 28 24 true vy [eR,fu], .g 29 24 true (.un .not fY), .o 30 (.pick eQ gj (.k (.bool false)))]) (.cond gC QVY .skip))
abbrev QW5:AC:= .seq (.cond dD .skip (.exit 0)) (.seq (.block 1 QW1) (.run [.o 35 (.bin .add di (.k (.int .i64 1))), .m 16 gN]))
abbrev QW9:AC:= .seq (.run [.o 10 (.load bu true 2), .c 11 kR [bZ], .o 12 (.bR cB), .o 13 (.aq cU 2), .o 14 (.load de false 1), .o 15 (.len cH), .o 16 (.mv (.k (.int .i64 0)))]) (.block 0 (.loop (.seq (.run [.o 17 (.bin .lss di dA)]) QW5)))
abbrev QWD:AC:= .seq (.seq (.run [.o 5 (.load bu true 2), .c 6 lS [ct], .o 7 (.CH dB 0 false 1), .o 8 (.bin .neq cJ (.k (.int .i64 0)))]) (.cond cT QVP .skip)) (.seq QW9 (.seq (.run [.o 36 (.build [(.int .i64 0),(.int .i64 0)] []), .op none none (.store dw ix 2)]) .ret))
abbrev QWE:AC:= .seq (.run [.o 1 (.box bt), .o 2 (.alloc [(.int .i64 0),(.int .i64 0)])]) QWD
abbrev QWJ:AC:= .seq (.run [(.o 14 (.build [(.int .i64 0),(.int .i64 0)] [(0,(1,(.k (.int .i64 1))))])), .op none none (.store dw cH 2)]) .ret
abbrev QWZ:AC:= .seq (.run [.o 47 (.aq du 0), .o 48 (.aq lO 0), .o 49 (.load kT false 1),(.o 50 (.build [(.int .i64 0),(.int .i64 0)] [(0,(1,(.k (.int .i64 7)))),(1,(1,kU))])), .op none none (.store dw lF 2)]) .ret
abbrev QX2:AC:= .seq (.run [.m 32 dB, .o 33 (.aq du 0), .o 34 (.aq gD 2), .o 35 (.load iw false 1), .c 36 p9 [gM,gN], .m 31 ix, .o 37 (.ext gk 0), .o 38 (.ext gk 1), .m 6 jn, .m 7 jW]) (.seq (.run [.m 39 cJ, .o 40 (.un .not jK), .m 41 ko, .g 42 41 false (.mv cz), .g 43 41 false (.load du true 17), .d 44 41 false vz [kD,kp], .g 45 41 false (.un .not kE), .o 46 (.pick jX (.k (.bool true)) lD)]) (.cond lE QWZ .skip))
abbrev QX6:AC:= .seq (.block 3 (.seq (.run [.o 29 (.cf eR fu 17), .o 30 (.load gj true 17), .o 9 (.alloc [(.int .i64 0),(.int .i64 0),(.slice .full 0 []),(.str []),(.str []),(.int .i64 0),(.int .i64 0),(.str []),(.slice .full 0 []),(.bool false),(.slice .full 0 []),(.slice .full 0 []),(.slice .full 0 []),(.int .i64 0),(.int .i64 0),(.int .i64 0),(.int .i64 0)]), .op none none (.store du gC 17)]) QX2)) (.run [.o 51 (.bin .add fu (.k (.int .i64 1))), .m 27 kF])
abbrev QXA:AC:= .block 2 (.loop (.seq (.run [.o 28 (.bin .lss fu fl)]) (.seq (.cond fY .skip (.exit 2)) QX6)))
abbrev QXF:AC:= .seq (.run [(.o 61 (.build [(.int .i64 0),(.int .i64 0)] [(0,(1,(.k (.int .i64 7))))])), .op none none (.store dw qx 2)]) .ret
abbrev QXJ:AC:= .seq (.seq (.run [.m 23 cz, .m 24 ff, .c 25 gK [eH,eQ], .o 26 (.len eR), .o 27 (.mv (.k (.int .i64 0)))]) QXA) (.seq (.run [.m 53 dB, .o 54 (.aq ct 4), .o 55 (.load lG false 1), .c 56 p9 [kV,lH], .m 52 nh, .o 57 (.ext kG 0), .o 58 (.ext kG 1), .m 7 nT]) (.seq (.run [.m 59 cJ, .o 60 (.un .not lP)]) (.cond o5 QXF .skip)))
abbrev QXL:AC:= .seq (.run [.o 6 (.mv (.k (.slice .full 0 [])))]) (.seq (.run [.o 7 (.mv (.k (.bool true)))]) QXJ)
abbrev QXP:AC:= .seq (.block 1 (.seq (.run [.m 20 dC, .o 21 (.cf di dC 5), .o 22 (.load dW true 5), .o 5 (.alloc [(.str []),(.slice .full 0 []),(.slice .full 0 []),(.slice .full 0 []),(.slice .full 0 [])]), .m 4 eA, .op none none (.store ct eD 5)]) QXL)) (.run [.o 62 (.bin .add dC (.k (.int .i64 1))), .m 18 pO])
abbrev QXT:AC:= .block 0 (.loop (.seq (.run [.o 19 (.bin .lss dC dD)]) (.seq (.cond dV .skip (.exit 0)) QXP)))
abbrev QXX:AC:= .seq (.seq (.run [.o 15 (.aq bu 1), .o 16 (.load dA false 1), .o 17 (.len di), .o 18 (.mv (.k (.int .i64 0)))]) QXT) (.seq (.run [.o 63 (.build [(.int .i64 0),(.int .i64 0)] []), .op none none (.store dw qy 2)]) .ret)
abbrev QXZ:AC:= .seq (.run [.o 10 (.load bu true 2), .c 11 rn [bZ], .m 3 cB]) (.seq (.seq (.run [.m 12 cz, .o 13 (.Ge false cU (.k .dR))]) (.cond de QWJ .skip)) QXX)
abbrev QY0:AC:= .seq (.run [.o 1 (.box bt), .o 2 (.alloc [(.int .i64 0),(.int .i64 0)])]) QXZ
abbrev QY4:AC:= .seq (.run [(.o 12 (.build [(.int .i64 0),(.int .i64 0)] [(0,(1,(.k (.int .i64 1))))])), .op none none (.store dw cU 2)]) .ret
abbrev QYC:AC:= .par [.m 21 cz, .o 22 (.aq ct 0), .o 23 (.load eD false 1), .o 24 (.load bu true 2), .o 25 (.aq ct 0), .o 26 (.load eR false 1), .c 27 rp [eQ,fl], .op none none (.yF dW eH fu)] [(3,0),(4,0),(5,0),(6,0),(0,0),(1,0),(2,1),(7,0)]
abbrev QYG:AC:= .seq (.block 1 (.seq (.run [.o 19 (.cf dA dD 5), .o 20 (.load dV true 5), .o 5 (.alloc [(.str []),(.slice .full 0 []),(.slice .full 0 []),(.slice .full 0 []),(.slice .full 0 [])]), .op none none (.store ct eA 5)]) QYC)) (.run [.o 28 (.bin .add dD (.k (.int .i64 1))), .m 17 fY])
abbrev QYK:AC:= .block 0 (.loop (.seq (.run [.o 18 (.bin .lss dD di)]) (.seq (.cond dC .skip (.exit 0)) QYG)))
abbrev QYS:AC:= .seq (.run [.o 54 (.aq cJ 0), .o 55 (.aq lG 0), .o 56 (.load lH false 1),(.o 57 (.build [(.int .i64 0),(.int .i64 0)] [(0,(1,(.k (.int .i64 8)))),(1,(1,nh))])), .op none none (.store dw oy 2)]) .ret
abbrev QYV:AC:= .seq (.run [.o 37 (.cf gD gN 17), .o 38 (.load jn true 17), .o 7 (.alloc [(.int .i64 0),(.int .i64 0),(.slice .full 0 []),(.str []),(.str []),(.int .i64 0),(.int .i64 0),(.str []),(.slice .full 0 []),(.bool false),(.slice .full 0 []),(.slice .full 0 []),(.slice .full 0 []),(.int .i64 0),(.int .i64 0),(.int .i64 0),(.int .i64 0)]), .op none none (.store cJ jW 17)]) (.seq (.run [.o 39 (.aq cJ 0), .o 40 (.aq jK 1), .o 41 (.load ko false 1), .o 42 (.bin .eql jX (.k (.int .i64 4))), .m 43 kD, .g 44 43 true (.aq cJ 0), .g 45 43 true (.load kE true 13), .g 46 43 true (.mv cz), .g 47 43 true (.aq cJ 0), .g 48 43 true (.aq lO 4), .g 49 43 true (.load kT false 1), .g 50 43 true (.v8 lE kU (.slice .full 0 [])), .d 51 43 true sg [lD,lF], .g 52 43 true (.un .not kF), .o 53 (.pick kp kG (.k (.bool false)))]) (.cond kV QYS .skip))
abbrev QYZ:AC:= .seq (.cond ix .skip (.exit 2)) (.seq (.block 3 QYV) (.run [.o 58 (.bin .add gN (.k (.int .i64 1))), .m 35 nT]))
abbrev QZ3:AC:= .seq (.run [.o 29 (.load bu true 2), .c 30 kR [gj], .o 31 (.bR gC), .o 32 (.aq gk 2), .o 33 (.load gM false 1), .o 34 (.len gD), .o 35 (.mv (.k (.int .i64 0)))]) (.block 2 (.loop (.seq (.run [.o 36 (.bin .lss gN iw)]) QYZ)))
abbrev QZ7:AC:= .seq (.seq (.run [.o 14 (.aq bu 1), .o 15 (.load cH false 1), .o 16 (.len dA), .o 17 (.mv (.k (.int .i64 0)))]) QYK) (.seq QZ3 (.seq (.run [.o 59 (.build [(.int .i64 0),(.int .i64 0)] []), .op none none (.store dw lP 2)]) .ret))
abbrev QZ9:AC:= .seq (.seq (.run [.o 8 (.load bu true 2), .c 9 qi [cT], .o 10 (.CH du 0 false 1), .o 11 (.bin .neq bZ (.k (.int .i64 0)))]) (.cond cB QY4 .skip)) (.seq (.run [.op (some 13) none .uK, .m 3 de]) QZ7)
abbrev QZA:AC:= .seq (.run [.o 1 (.box bt), .o 2 (.alloc [(.int .i64 0),(.int .i64 0)])]) QZ9
abbrev QZL:AC:= .cond dD (.seq (.run [.o 2 (.mv (.k (.int .i64 2)))]) .ret) .skip
abbrev QZN:AC:= .cond bZ (.seq (.run [.o 2 (.mv (.k (.int .i64 1)))]) .ret) (.seq (.run [.m 18 bt, .o 19 (.bin .geq dC (.k (.int .i64 5))), .m 20 dV, .g 21 20 true (.mv bt), .g 22 20 true (.bin .leq dW (.k (.int .i64 17))), .o 23 (.pick eA eD (.k (.bool false))), .m 17 eH]) QZL)
abbrev QZP:AC:= .cond cz (.seq (.run [.o 2 (.mv (.k (.int .i64 0)))]) .ret) (.seq (.run [.m 11 bt, .o 12 (.bin .eql cB (.k (.int .i64 3))), .m 13 cU, .g 14 13 false (.mv bt), .g 15 13 false (.bin .eql cH (.k (.int .i64 4))), .o 16 (.pick de (.k (.bool true)) dA), .m 10 di]) QZN)
abbrev QZR:AC:= .block 0 (.seq (.run [.m 4 bt, .o 5 (.bin .eql ff (.k (.int .i64 1))), .m 6 ct, .g 7 6 false (.mv bt), .g 8 6 false (.bin .eql cJ (.k (.int .i64 2))), .o 9 (.pick dB (.k (.bool true)) cT), .m 3 du]) QZP)
abbrev QZT:AC:= .seq (.run [(.o 2 (.mv (.k (.int .i64 (-1)))))]) .ret
abbrev QZV:AC:= .seq (.run [.o 2 (.mv (.k (.int .i64 0)))]) (.seq QZR QZT)
open Go.Proofs
theorem FG:Has Tryz.prog nc 15 [(2,none)] QLZ:=⟨Tryz.f64,by kernel_rfl,by kernel_rfl⟩
theorem ni:Has Tryz.prog nS 27 [(2,none)] QM9:=⟨Tryz.f65,by kernel_rfl,by kernel_rfl⟩
theorem rC:Has Tryz.prog kn 71 [(6,none)] QNA:=⟨Tryz.f66,by kernel_rfl,by kernel_rfl⟩
theorem Jr:Has Tryz.prog rl 5 [(2,(some (true,4)))] QNE:=⟨Tryz.f68,by kernel_rfl,by kernel_rfl⟩
theorem HF:Has Tryz.prog lb 5 [(2,(some (true,4)))] QNI:=⟨Tryz.f69,by kernel_rfl,by kernel_rfl⟩
theorem Js:Has Tryz.prog uO 12 [(6,(some (true,4)))] QNM:=⟨Tryz.f70,by kernel_rfl,by kernel_rfl⟩
theorem Br:Has Tryz.prog jU 29 [(4,none)] QO5:=⟨Tryz.f71,by kernel_rfl,by kernel_rfl⟩
theorem Bs:Has Tryz.prog jV 73 [] QP7:=⟨Tryz.f72,by kernel_rfl,by kernel_rfl⟩
theorem FH:Has Tryz.prog vw 28 [(4,none)] QQ0:=⟨Tryz.f73,by kernel_rfl,by kernel_rfl⟩
theorem zk:Has Tryz.prog oY 27 [(4,none)] QQA:=⟨Tryz.f74,by kernel_rfl,by kernel_rfl⟩
theorem rO:Has Tryz.prog gb 19 [(4,none)] QQX:=⟨Tryz.f75,by kernel_rfl,by kernel_rfl⟩
theorem yf:Has Tryz.prog lI 8 [(3,none)] QR1:=⟨Tryz.f76,by kernel_rfl,by kernel_rfl⟩
theorem yh:Has Tryz.prog iF 20 [(4,none)] QR7:=⟨Tryz.f77,by kernel_rfl,by kernel_rfl⟩
theorem yi:Has Tryz.prog jP 64 [(4,none),(5,none)] QS1:=⟨Tryz.f78,by kernel_rfl,by kernel_rfl⟩
theorem yj:Has Tryz.prog ep 26 [] QS5:=⟨Tryz.f79,by kernel_rfl,by kernel_rfl⟩
theorem Cx:Has Tryz.prog oJ 38 [(6,none),(7,none)] QSY:=⟨Tryz.f80,by kernel_rfl,by kernel_rfl⟩
theorem Ak:Has Tryz.prog p8 13 [(4,none)] QT8:=⟨Tryz.f81,by kernel_rfl,by kernel_rfl⟩
theorem Aw:Has Tryz.prog kL 15 [(2,none)] QTC:=⟨Tryz.f82,by kernel_rfl,by kernel_rfl⟩
theorem HG:Has Tryz.prog sI 6 [(2,none)] QTG:=⟨Tryz.f85,by kernel_rfl,by kernel_rfl⟩
theorem wC:Has Tryz.prog lS 96 [(2,(some (true,2)))] QVL:=⟨Tryz.f95,by kernel_rfl,by kernel_rfl⟩
theorem wD:Has Tryz.prog qi 37 [(2,(some (true,2)))] QWE:=⟨Tryz.f96,by kernel_rfl,by kernel_rfl⟩
theorem yk:Has Tryz.prog vx 64 [(2,(some (true,2)))] QY0:=⟨Tryz.f97,by kernel_rfl,by kernel_rfl⟩
theorem wE:Has Tryz.prog tX 60 [(2,(some (true,2)))] QZA:=⟨Tryz.f98,by kernel_rfl,by kernel_rfl⟩
theorem HH:Has Tryz.prog xp 24 [(2,none)] QZV:=⟨Tryz.f99,by kernel_rfl,by kernel_rfl⟩
abbrev QZZ:AC:= .seq (.run [.o 2 (.mv (.k (.bool false)))]) (.seq (.run [.m 3 bt, .o 4 (.bin .geq cz (.k (.int .u8 97))), .m 5 ff, .g 6 5 true (.mv bt), .g 7 5 true (.bin .leq dB (.k (.int .u8 122))), .o 8 (.pick ct cJ (.k (.bool false))), .m 2 cT]) .ret)
abbrev ajA:AC:= .seq (.seq (.run [.m 5 bu, .m 6 bt, .o 7 (.va dB), .o 8 (.bin .lss ct cJ), .m 9 cT, .g 10 9 true (.mv bt), .g 11 9 true (.mv bu), .g 12 9 true (.AH bZ cB), .d 13 9 true rm [cU], .g 14 9 true (.mv de), .g 15 14 false (.mv bt), .g 16 14 false (.mv bu), .g 17 14 false (.AH dA di), .d 18 14 false xq [dD], .g 19 9 true (.pick cH (.k (.bool true)) dC), .o 20 (.pick du dV (.k (.bool false)))]) (.cond eA .skip (.exit 0))) (.block 1 (.run [.m 21 bu, .o 22 (.bin .add dW (.k (.int .i64 1))), .m 1 eD]))
abbrev ajB:AC:= .seq (.run [.o 4 (.mv (.k (.int .i64 0)))]) (.seq (.block 0 (.loop ajA)) (.seq (.run [.m 23 bu, .m 4 eH]) .ret))
abbrev ajC:AC:= .seq (.run [.o 16 (.bin .eql cz (.k (.str [114,101,97,100]))), .m 4 di]) (.cond ff .skip (.run [.o 17 (.bin .eql cz (.k (.str [112,114,105,110,116]))), .m 4 dD]))
abbrev ajD:AC:= .cond ff .skip (.seq (.run [.o 15 (.bin .eql cz (.k (.str [103,111,116,111]))), .m 4 dA]) (.cond ff .skip ajC))
abbrev ajE:AC:= .cond ff .skip (.seq (.run [.o 14 (.bin .eql cz (.k (.str [114,101,116,117,114,110]))), .m 4 cH]) ajD)
abbrev ajF:AC:= .cond ff .skip (.seq (.run [.o 13 (.bin .eql cz (.k (.str [99,111,110,116,105,110,117,101]))), .m 4 de]) ajE)
abbrev ajG:AC:= .cond ff .skip (.seq (.run [.o 12 (.bin .eql cz (.k (.str [98,114,101,97,107]))), .m 4 cU]) ajF)
abbrev ajH:AC:= .cond ff .skip (.seq (.run [.o 11 (.bin .eql cz (.k (.str [119,104,105,108,101]))), .m 4 cB]) ajG)
abbrev ajI:AC:= .cond ff .skip (.seq (.run [.o 10 (.bin .eql cz (.k (.str [101,108,115,101]))), .m 4 bZ]) ajH)
abbrev ajJ:AC:= .cond ff .skip (.seq (.run [.o 9 (.bin .eql cz (.k (.str [105,102]))), .m 4 du]) ajI)
abbrev ajK:AC:= .cond ff .skip (.seq (.run [.o 8 (.bin .eql cz (.k (.str [114,101,102]))), .m 4 cT]) ajJ)
abbrev ajL:AC:= .cond ff .skip (.seq (.run [.o 7 (.bin .eql cz (.k (.str [118,97,114]))), .m 4 cJ]) ajK)
abbrev ajM:AC:= .cond ff .skip (.seq (.run [.o 6 (.bin .eql cz (.k (.str [112,114,111,99]))), .m 4 dB]) ajL)
abbrev ajN:AC:= .cond ff (.seq (.run [.o 2 (.mv (.k (.bool true)))]) .ret) .skip
abbrev ajO:AC:= .seq (.seq (.run [.o 5 (.bin .eql cz (.k (.str [103,108,111,98,97,108]))), .m 4 ct]) ajM) ajN
abbrev ajP:AC:= .seq (.seq (.run [.m 3 bt]) (.block 0 ajO)) (.seq (.run [.o 2 (.mv (.k (.bool false)))]) .ret)
abbrev ajQ:AC:= .seq (.run [.o 2 (.mv (.k (.bool false)))]) ajP
abbrev ajR:AC:= .par [.o 10 (.aq bu 9), .o 11 (.load bZ false 1), .o 3 (.mv (.k (.bool false))), .o 4 (.mv (.k (.bool false))), .o 5 (.mv (.k (.bool false))), .m 6 cB, .o 7 (.mv (.k (.bool false))), .o 8 (.mv (.k (.bool false)))] [(0,0),(1,0),(2,0),(3,0),(4,0),(5,0),(6,0),(7,0)]
abbrev ajS:AC:= .seq (.run [.o 20 (.bin .eql di (.k (.int .i64 2))), .m 19 eA]) (.cond dV .skip (.run [.o 21 (.bin .eql di (.k (.int .i64 10))), .m 19 dW]))
abbrev ajT:AC:= .seq (.run [.o 38 (.bin .eql di (.k (.int .i64 7))), .m 37 jW]) (.cond jn .skip (.run [.o 39 (.bin .eql di (.k (.int .i64 8))), .m 37 jK]))
abbrev ajU:AC:= .cond jn .skip (.seq (.run [.o 2 (.mv (.k (.bool false)))]) .ret)
abbrev ajV:AC:= .seq (.run [.o 34 (.bin .eql di (.k (.int .i64 9))), .m 33 iw]) (.cond gD (.run [.o 35 (.aq bu 9), .o 36 (.load gN false 1), .m 5 ix, .o 6 (.mv (.k (.bool false)))]) (.seq ajT ajU))
abbrev ajW:AC:= .seq (.run [.o 32 (.bin .eql di (.k (.int .i64 6))), .m 31 gM]) (.cond gk (.run [.o 5 (.mv (.k (.bool true))), .o 7 (.mv (.k (.bool true)))]) ajV)
abbrev ajX:AC:= .seq (.run [.o 30 (.bin .eql di (.k (.int .i64 5))), .m 29 gC]) (.cond gj (.run [.o 5 (.mv (.k (.bool true))), .o 7 (.mv (.k (.bool true))), .o 8 (.mv (.k (.bool true)))]) ajW)
abbrev ajY:AC:= .seq (.run [.o 25 (.bin .eql di (.k (.int .i64 4))), .m 24 eR]) (.cond eQ (.run [.o 26 (.aq bu 3), .o 27 (.load fl false 1), .o 28 (.bin .neq fu (.k (.str []))), .m 3 fY, .o 4 (.mv (.k (.bool true)))]) ajX)
abbrev ajZ:AC:= .seq (.run [.o 23 (.bin .eql di (.k (.int .i64 3))), .m 22 eH]) (.cond eD (.run [.o 5 (.mv (.k (.bool true)))]) ajY)
abbrev aj0:AC:= .seq ajS (.cond dV (.run [.o 3 (.mv (.k (.bool true)))]) ajZ)
abbrev aj1:AC:= .seq (.run [.o 18 (.bin .eql di (.k (.int .i64 1))), .m 17 dC]) (.cond dD (.run [.o 3 (.mv (.k (.bool true))), .o 5 (.mv (.k (.bool true)))]) aj0)
abbrev aj2:AC:= .run [.m 40 dB, .m 41 ko, .g 42 41 false (.mv cJ), .g 43 41 false (.un .not kD), .g 44 41 false (.mv kp), .g 45 44 true (.aq bu 11), .g 46 44 true (.load lD false 1), .g 47 44 true (.len lE), .g 48 44 true (.bin .gtr lO (.k (.int .i64 0))), .g 49 41 false (.pick kE kT (.k (.bool false))), .o 50 (.pick jX (.k (.bool true)) kU), .m 51 lF, .g 52 51 false (.mv cT), .g 53 51 false (.un .not kG), .g 54 51 false (.mv kV), .g 55 54 true (.aq bu 12), .g 56 54 true (.load lH false 1), .g 57 54 true (.len nh), .g 58 54 true (.bin .gtr oy (.k (.int .i64 0))), .g 59 51 false (.pick lG nT (.k (.bool false))), .o 60 (.pick kF (.k (.bool true)) lP), .m 61 o5, .g 62 61 false (.mv du), .g 63 61 false (.un .not pO), .g 64 61 false (.mv qy), .g 65 64 true (.aq bu 10), .g 66 64 true (.load uf false 1), .g 67 64 true (.len ug), .g 68 64 true (.bin .gtr vC (.k (.int .i64 0))), .g 69 61 false (.pick qz rB (.k (.bool false))), .o 70 (.pick qx (.k (.bool true)) xv)]
abbrev aj3:AC:= .cond xw (.seq (.run [.o 2 (.mv (.k (.bool false)))]) .ret) .skip
abbrev aj4:AC:= .cond Bq (.seq (.run [.o 2 (.mv (.k (.bool false)))]) .ret) .skip
abbrev acA:AC:= .seq (.seq (.run [.o 71 (.aq bu 3), .o 72 (.load Bm false 1), .m 73 cz, .c 74 oZ [ze,zf], .o 75 (.un .not Bn), .m 76 Bo, .g 77 76 false (.aq bu 4), .g 78 76 false (.load Bp false 1), .g 79 76 false (.mv ff), .d 80 76 false oZ [xx,Ds], .g 81 76 false (.un .not Dt), .o 82 (.pick zh (.k (.bool true)) Du), .m 83 Fy, .g 84 83 false (.aq bu 5), .g 85 83 false (.load FA true 4), .g 86 83 false (.mv ct), .d 87 83 false rr [FB,FC], .g 88 83 false (.un .not FD), .o 89 (.pick Fz (.k (.bool true)) FE)]) aj4) (.seq (.run [.o 90 (.aq bu 10), .o 91 (.load Dv false 1), .c 92 tZ [FF], .m 2 Jm]) .ret)
abbrev acB:AC:= .seq (.seq aj2 aj3) acA
abbrev UT:AC:= .seq (.seq (.run [.o 15 (.aq bu 1), .o 16 (.load dA false 1)]) (.block 0 aj1)) acB
abbrev acC:AC:= .seq (.run [.o 12 (.aq bu 1), .o 13 (.load cU false 1), .o 14 (.bin .eql de (.k (.int .i64 4))), .m 9 cH]) UT
abbrev acD:AC:= .seq ajR acC
abbrev aj5:AC:= .seq (.run [.o 1 (.box bt), .o 2 (.mv (.k (.bool false)))]) acD
abbrev aj6:AC:= .seq (.block 1 (.seq (.run [.o 13 (.cf du cB 13), .o 14 (.load de true 13), .o 5 (.alloc [(.int .i64 0),(.int .i64 0),(.slice .full 0 []),(.str []),(.str []),(.int .i64 0),(.int .i64 0),(.str []),(.slice .full 0 []),(.bool false),(.slice .full 0 []),(.slice .full 0 []),(.slice .full 0 [])]), .op none none (.store ct cH 13)]) (.run [.m 15 cz, .o 16 (.load ct true 13), .c 17 mz [di], .o 18 (.bin .add dA dD), .m 3 dC]))) (.run [.o 19 (.bin .add cB (.k (.int .i64 1))), .m 11 dV])
abbrev aj7:AC:= .block 0 (.loop (.seq (.run [.o 12 (.bin .lss cB bZ)]) (.seq (.cond cU .skip (.exit 0)) aj6)))
abbrev aj8:AC:= .seq (.block 3 (.seq (.run [.o 25 (.cf dW eH 13), .o 26 (.load eR true 13), .o 7 (.alloc [(.int .i64 0),(.int .i64 0),(.slice .full 0 []),(.str []),(.str []),(.int .i64 0),(.int .i64 0),(.str []),(.slice .full 0 []),(.bool false),(.slice .full 0 []),(.slice .full 0 []),(.slice .full 0 [])]), .op none none (.store cJ fl 13)]) (.run [.m 27 cz, .o 28 (.load cJ true 13), .c 29 mz [fY], .o 30 (.bin .add fu gj), .m 3 gC]))) (.run [.o 31 (.bin .add eH (.k (.int .i64 1))), .m 23 gk])
abbrev aj9:AC:= .block 2 (.loop (.seq (.run [.o 24 (.bin .lss eH eD)]) (.seq (.cond eQ .skip (.exit 2)) aj8)))
abbrev aka:AC:= .seq (.seq (.run [.o 20 (.aq bu 12), .o 21 (.load eA false 1), .o 22 (.len dW), .o 23 (.mv (.k (.int .i64 0)))]) aj9) (.seq (.run [.m 32 cz, .m 2 gM]) .ret)
abbrev akb:AC:= .seq (.seq (.run [.o 8 (.aq bu 11), .o 9 (.load cT false 1), .o 10 (.len du), .o 11 (.mv (.k (.int .i64 0)))]) aj7) aka
abbrev akc:AC:= .seq (.run [.o 1 (.box bt), .o 2 (.mv (.k (.int .i64 0)))]) (.seq (.run [.o 3 (.mv (.k (.int .i64 1)))]) akb)
abbrev akd:AC:= .cond ff (.seq (.run [.o 2 (.mv (.k (.slice .full 0 [])))]) .ret) .skip
abbrev ake:AC:= .seq (.run [.o 2 (.mv (.k (.slice .full 0 [])))]) (.seq (.seq (.run [.m 3 bt, .nil (some 4) none false cz]) akd) (.seq (.run [.o 5 (.dt [(.str [])] 1 0 []), .m 6 bt, .o 7 (.app 1 16 ct dB), .m 2 cJ]) .ret))
abbrev akf:AC:= .seq (.block 1 (.seq (.run [.o 11 (.cf cJ du 2), .o 12 (.load cB true 2), .o 5 (.alloc [(.str []),(.bool false)]), .op none none (.store ct cU 2)]) (.run [.m 13 cz, .o 14 (.aq ct 0), .o 15 (.load cH false 1), .o 16 (.dt [(.str [])] 1 1 [(0,dA)]), .o 17 (.app 1 16 de di), .m 3 dD]))) (.run [.o 18 (.bin .add du (.k (.int .i64 1))), .m 9 dC])
abbrev akg:AC:= .block 0 (.loop (.seq (.run [.o 10 (.bin .lss du cT)]) (.seq (.cond bZ .skip (.exit 0)) akf)))
abbrev akh:AC:= .seq (.seq (.run [.o 6 (.aq bu 1), .o 7 (.load dB false 1), .o 8 (.len cJ), .o 9 (.mv (.k (.int .i64 0)))]) akg) (.seq (.run [.m 19 cz, .o 20 (.aq bu 2), .o 21 (.load eA false 1), .o 22 (.app 1 16 dV dW), .m 2 eD]) .ret)
abbrev aki:AC:= .seq (.run [.o 1 (.box bt), .o 2 (.mv (.k (.slice .full 0 [])))]) (.seq (.run [.o 3 (.mv (.k (.slice .full 0 [])))]) akh)
abbrev akj:AC:= .block 1 (.seq (.run [.m 10 cT, .m 5 bZ]) (.seq (.run [.m 11 bu, .m 12 bt, .m 13 ct, .o 14 (.cf cU de 1), .o 15 (.load cH false 1), .o 16 (.bin .eql cB dA)]) (.cond di (.seq (.run [.m 17 ct, .m 4 dD]) .ret) .skip)))
abbrev akk:AC:= .seq (.cond du .skip (.exit 0)) (.seq akj (.run [.o 18 (.bin .add cT (.k (.int .i64 1))), .m 8 dC]))
abbrev akl:AC:= .seq (.run [.m 6 bt, .o 7 (.len dB), .o 8 (.mv (.k (.int .i64 0)))]) (.block 0 (.loop (.seq (.run [.o 9 (.bin .lss cT cJ)]) akk)))
abbrev akm:AC:= .seq (.run [(.o 4 (.mv (.k (.int .i64 (-1)))))]) .ret
abbrev akn:AC:= .seq (.run [.o 4 (.mv (.k (.int .i64 0)))]) (.seq akl akm)
abbrev ako:AC:= .cond bZ (.seq (.run [.o 6 (.mv (.k (.int .i64 0))), .o 7 (.mv (.k (.bool false)))]) .ret) .skip
abbrev akp:AC:= .seq (.run [.o 3 (.box bt), .o 6 (.mv (.k (.int .i64 0))), .o 7 (.mv (.k (.bool false)))]) (.seq (.seq (.run [.o 8 (.load cz true 4), .c 9 na [cT], .o 10 (.un .not du)]) ako) (.seq (.run [.o 11 (.load cz true 4), .m 12 bu, .m 13 dw, .c 14 ld [cB,cU,de], .o 15 (.ext cH 0), .o 16 (.ext cH 1), .m 6 dA, .m 7 di]) .ret))
abbrev akq:AC:= .seq (.run [.o 4 (.mv (.k (.bool false)))]) (.seq (.run [.m 5 bt, .m 6 bu, .c 7 o4 [ct,dB], .o 8 (.bin .geq cJ (.k (.int .i64 0))), .m 4 cT]) .ret)
abbrev akr:AC:= .par [.m 5 bt, .o 6 (.bR ct), .o 7 (.aq dB 2), .o 8 (.load cJ false 1), .m 9 bt, .o 10 (.bR du), .o 11 (.aq bZ 3), .o 12 (.load cB false 1), .m 13 bu, .o 14 (.cf cU de 1), .o 15 (.load cH false 1), .o 16 (.bin .sub dA (.k (.int .i64 1))), .m 17 bt, .o 18 (.bR dD), .o 19 (.aq dC 4), .o 20 (.load dV false 1), .m 21 bu, .o 22 (.cf eA dW 1), .o 23 (.load eD false 1), .o 24 (.bin .sub eH (.k (.int .i64 1))), .o 25 (.DT 17 cT (some di) (some eQ)), .m 4 eR] [(0,0),(1,0),(2,0),(3,0),(4,0),(5,0),(6,0),(7,0),(8,0),(9,0),(10,0),(11,0),(12,0),(13,0),(14,0),(15,0),(16,0),(17,0),(18,0),(19,0),(20,0),(21,0)]
abbrev aks:AC:= .seq (.run [.o 4 (.mv (.k (.slice .full 0 [])))]) (.seq akr .ret)
abbrev akt:AC:= .seq (.run [.o 4 (.mv (.k (.bool false)))]) (.seq (.run [.m 5 bt, .m 6 bu, .c 7 fV [ct,dB], .o 8 (.bin .geq cJ (.k (.int .i64 0))), .m 4 cT]) .ret)
abbrev aku:AC:= .run [.m 23 ff, .m 24 bt, .m 25 cB, .o 26 (.cf eQ eR 13), .o 27 (.load fl true 13), .m 28 bu, .m 29 dw, .m 30 cz, .o 31 (.build [(.int .i64 0),(.int .i64 0),(.slice .full 0 []),(.str []),(.str []),(.int .i64 0),(.int .i64 0),(.str []),(.slice .full 0 []),(.bool false),(.slice .full 0 []),(.slice .full 0 []),(.slice .full 0 []),(.int .i64 0),(.int .i64 0),(.bool false)] [(0,(13,fu)),(13,(1,fY)),(14,(1,gj)),(15,(1,gC))]), .o 32 (.dt [(.int .i64 0),(.int .i64 0),(.slice .full 0 []),(.str []),(.str []),(.int .i64 0),(.int .i64 0),(.str []),(.slice .full 0 []),(.bool false),(.slice .full 0 []),(.slice .full 0 []),(.slice .full 0 []),(.int .i64 0),(.int .i64 0),(.bool false)] 16 1 [(0,gk)]), .o 33 (.app 16 232 eH gM), .m 4 gD]
abbrev akv:AC:= .par [.m 36 bt, .m 37 cB, .o 38 (.cf ix jn 13), .o 39 (.aq jW 11), .o 40 (.load jK false 1), .m 41 bu, .o 42 (.bin .add jX (.k (.int .i64 1))), .m 43 bt, .m 44 cB, .o 45 (.cf kp kE 13), .o 46 (.aq lD 0), .o 47 (.load lE false 1), .m 48 ff, .c 49 mA [ko,kD,lO,(.k (.bool false)),kT], .m 4 kU] [(0,0),(1,0),(2,0),(3,0),(4,0),(5,0),(6,0),(7,0),(8,0),(9,0),(10,0),(11,0),(12,0),(13,0),(14,0)]
abbrev akw:AC:= .par [.m 50 bt, .m 51 cB, .o 52 (.cf lF kF 13), .o 53 (.aq kG 12), .o 54 (.load kV false 1), .m 55 bu, .o 56 (.bin .add lH (.k (.int .i64 1))), .m 57 bt, .m 58 cB, .o 59 (.cf oy nT 13), .o 60 (.aq lP 0), .o 61 (.load o5 false 1), .m 62 ff, .c 63 mA [lG,nh,qx,(.k (.bool true)),pO], .m 4 qy] [(0,0),(1,0),(2,0),(3,0),(4,0),(5,0),(6,0),(7,0),(8,0),(9,0),(10,0),(11,0),(12,0),(13,0),(14,0)]
abbrev akx:AC:= .seq aku (.seq (.run [.m 34 bu, .o 35 (.bin .leq iw (.k (.int .i64 12)))]) (.cond gN (.seq akv akw) .skip))
abbrev aky:AC:= .seq (.seq (.run [.m 12 cB, .m 13 bt, .o 14 (.len de), .o 15 (.bin .lss cU cH), .m 16 dA, .g 17 16 true (.mv ff), .g 18 16 true (.len dD), .g 19 16 true (.bin .leq dC (.k (.int .i64 200))), .o 20 (.pick di dV (.k (.bool false)))]) (.cond eA .skip (.exit 0))) (.seq (.block 1 akx) (.run [.m 21 cB, .o 22 (.bin .add dW (.k (.int .i64 1))), .m 11 eD]))
abbrev akz:AC:= .seq (.seq (.run [.o 11 (.mv (.k (.int .i64 0)))]) (.block 0 (.loop aky))) (.seq (.run [.m 64 ff, .m 10 qz]) .ret)
abbrev akA:AC:= .seq (.run [.o 10 (.mv (.k (.slice .full 0 [])))]) akz
abbrev akB:AC:= .cond di (.seq (.run [.o 2 (.mv (.k (.bool true)))]) .ret) .skip
abbrev akC:AC:= .block 1 (.seq (.run [.m 9 cJ, .o 10 (.cf ct cJ 1), .o 11 (.load bZ false 1), .m 3 du, .m 4 cB]) (.seq (.run [.m 12 bt, .m 13 cz, .o 14 (.DT 1 cU none (some de)), .m 15 ff, .c 16 cq [cH,dA]]) akB))
abbrev akD:AC:= .seq (.cond cT .skip (.exit 0)) (.seq akC (.run [.o 17 (.bin .add cJ (.k (.int .i64 1))), .m 7 dD]))
abbrev akE:AC:= .seq (.run [.m 5 bt, .o 6 (.len ct), .o 7 (.mv (.k (.int .i64 0)))]) (.block 0 (.loop (.seq (.run [.o 8 (.bin .lss cJ dB)]) akD)))
abbrev akF:AC:= .seq akE (.seq (.run [.o 2 (.mv (.k (.bool false)))]) .ret)
abbrev akG:AC:= .seq (.run [.o 2 (.mv (.k (.bool false)))]) akF
abbrev akH:AC:= .seq (.run [.o 4 (.mv (.k (.bool false)))]) (.seq (.run [.m 5 bt, .m 6 bu, .c 7 kS [ct,dB], .o 8 (.bin .geq cJ (.k (.int .i64 0))), .m 4 cT]) .ret)
abbrev akI:AC:= .seq (.run [.o 3 (.mv (.k (.bool false)))]) (.seq (.run [.o 4 (.aq bu 0), .o 5 (.load ff false 1), .m 6 bt, .c 7 cq [ct,dB], .m 3 cJ]) .ret)
abbrev akJ:AC:= .cond eD (.seq (.run [.o 8 (.mv (.k (.bool false)))]) .ret) .skip
abbrev akK:AC:= .seq (.run [.o 16 (.cf cU cH 1), .o 17 (.load di false 1), .m 10 dD]) (.seq (.run [.o 18 (.load ff true 2), .o 19 (.load ct true 5), .m 20 bZ, .c 21 vA [dC,dV,eA], .o 22 (.bin .eql dW (.k (.int .i64 0)))]) akJ)
abbrev akL:AC:= .seq (.cond dA .skip (.exit 0)) (.seq (.block 1 akK) (.run [.o 23 (.bin .add cH (.k (.int .i64 1))), .m 14 eH]))
abbrev akM:AC:= .seq (.run [.o 11 (.load cJ true 13), .c 12 ry [cB], .o 13 (.len cU), .o 14 (.mv (.k (.int .i64 0)))]) (.block 0 (.loop (.seq (.run [.o 15 (.bin .lss cH de)]) akL)))
abbrev akN:AC:= .seq akM (.seq (.run [.o 24 (.aq cJ 1), .o 25 (.load eQ false 1), .o 26 (.bin .neq eR (.k (.int .i64 4))), .m 27 fl, .g 28 27 false (.aq cJ 4), .g 29 27 false (.load fY false 1), .g 30 27 false (.bin .neq gj (.k (.str [109,97,105,110]))), .g 31 27 false (.mv gC), .g 32 31 true (.mv dw), .g 33 31 true (.aq cJ 4), .g 34 31 true (.load gD false 1), .d 35 31 true cq [gM,iw], .g 36 27 false (.pick gk gN (.k (.bool false))), .o 37 (.pick fu (.k (.bool true)) ix), .m 8 jn]) .ret)
abbrev akO:AC:= .seq (.run [.o 4 (.box bt), .o 5 (.box bu), .o 7 (.box cz), .o 8 (.mv (.k (.bool false)))]) akN
abbrev akP:AC:= .cond du (.seq (.run [.o 4 (.mv (.k (.bool false)))]) .ret) .skip
abbrev akQ:AC:= .seq (.run [.o 15 (.cf cB de 5), .o 16 (.load dA true 5), .o 6 (.alloc [(.str []),(.slice .full 0 []),(.slice .full 0 []),(.slice .full 0 []),(.slice .full 0 [])]), .op none none (.store dB di 5)]) (.seq (.run [.o 17 (.aq dB 0), .o 18 (.load dD false 1), .o 19 (.aq cz 4), .o 20 (.load dV false 1), .o 21 (.bin .eql dC eA)]) (.cond dW (.seq (.run [.o 22 (.aq dB 1), .o 23 (.load eD false 1), .o 24 (.aq cz 10), .o 25 (.load eQ false 1), .c 26 vB [eH,eR], .m 4 fl]) .ret) .skip))
abbrev akR:AC:= .seq (.cond cH .skip (.exit 0)) (.seq (.block 1 akQ) (.run [.o 27 (.bin .add de (.k (.int .i64 1))), .m 13 fu]))
abbrev akS:AC:= .seq (.run [.o 10 (.aq dw 1), .o 11 (.load bZ false 1), .o 12 (.len cB), .o 13 (.mv (.k (.int .i64 0)))]) (.block 0 (.loop (.seq (.run [.o 14 (.bin .lss de cU)]) akR)))
abbrev akT:AC:= .seq akS (.seq (.run [.o 4 (.mv (.k (.bool false)))]) .ret)
abbrev akU:AC:= .seq (.seq (.run [.o 7 (.aq cz 1), .o 8 (.load cJ false 1), .o 9 (.bin .neq cT (.k (.int .i64 4)))]) akP) akT
abbrev akV:AC:= .seq (.run [.o 2 (.box bt), .o 3 (.box bu), .o 4 (.mv (.k (.bool false)))]) akU
abbrev akW:AC:= .seq (.run [.o 3 (.load bu true 2), .c 4 lS [cz], .o 5 (.CH ff 0 false 1), .o 6 (.bin .neq ct (.k (.int .i64 0)))]) (.cond dB (.seq (.run [.o 2 (.mv (.k .dR))]) .ret) .skip)
abbrev akX:AC:= .seq (.run [.o 1 (.box bt), .o 2 (.mv (.k .dR))]) (.seq akW (.seq (.run [.o 7 (.load bu true 2), .c 8 kR [cJ], .m 2 cT]) .ret))
abbrev akY:AC:= .cond di (.seq (.run [.m 17 bt, .m 4 dD, .o 5 (.mv (.k (.bool false)))]) .ret) .skip
abbrev akZ:AC:= .block 1 (.seq (.run [.o 12 (.cf cT bZ 1), .o 13 (.load cU false 1), .m 7 de]) (.seq (.seq (.run [.m 14 bt, .m 15 cJ, .c 16 cq [cH,dA]]) akY) (.run [.m 18 bt, .m 19 cJ, .o 20 (.dt [(.str [])] 1 1 [(0,dV)]), .o 21 (.app 1 16 dC eA), .m 0 dW])))
abbrev ak0:AC:= .seq (.cond cB .skip (.exit 0)) (.seq akZ (.run [.o 22 (.bin .add bZ (.k (.int .i64 1))), .m 10 eD]))
abbrev ak1:AC:= .seq (.run [.m 8 bu, .o 9 (.len cT), .o 10 (.mv (.k (.int .i64 0)))]) (.block 0 (.loop (.seq (.run [.o 11 (.bin .lss bZ du)]) ak0)))
abbrev ak2:AC:= .seq ak1 (.seq (.run [.m 23 bt, .m 4 eH, .o 5 (.mv (.k (.bool true)))]) .ret)
abbrev ak3:AC:= .seq (.run [.o 4 (.mv (.k (.slice .full 0 []))), .o 5 (.mv (.k (.bool false)))]) ak2
abbrev ak4:AC:= .seq (.run [.o 11 (.bin .eql du (.k (.int .i64 7))), .m 10 cB]) (.cond bZ .skip (.run [.o 12 (.bin .eql du (.k (.int .i64 8))), .m 10 cU]))
abbrev ak5:AC:= .cond bZ (.seq (.run [.o 13 (.aq cz 16), .o 14 (.load de false 1), .o 15 (.bin .neq cH (.k (.int .i64 0))), .m 4 dA]) .ret) (.seq (.run [.o 17 (.bin .eql du (.k (.int .i64 10))), .m 16 dD]) (.cond di (.seq (.run [.m 19 bt, .o 20 (.aq cz 13), .o 21 (.load eA false 1), .o 22 (.aq cz 0), .o 23 (.aq eD 3), .o 24 (.load eH false 1), .c 25 oJ [dV,dW,eQ], .m 18 eR, .o 26 (.ext dC 0), .o 27 (.ext dC 1), .m 5 fl, .m 6 fu]) (.seq (.run [.m 28 dB, .m 4 fY]) .ret)) .skip))
abbrev ak6:AC:= .seq (.seq (.run [.o 7 (.aq cz 0), .o 8 (.aq cJ 1), .o 9 (.load cT false 1)]) (.block 0 (.seq ak4 ak5))) (.seq (.run [.o 4 (.mv (.k (.bool true)))]) .ret)
abbrev ak7:AC:= .seq (.run [.o 3 (.box bu), .o 4 (.mv (.k (.bool false)))]) ak6
abbrev ak8:AC:= .cond di (.seq (.run [.o 4 (.mv (.k (.slice .full 0 [])))]) .ret) .skip
abbrev ak9:AC:= .seq (.run [.o 43 (.cf jK jX 1), .o 44 (.load kp false 1), .m 12 kE]) (.seq (.run [.o 45 (.aq dw 0), .o 46 (.load lD false 1), .m 47 cU, .c 48 cq [lE,lO]]) (.cond kT (.run [.m 49 dB, .m 50 cU, .o 51 (.dt [(.str [])] 1 1 [(0,lF)]), .o 52 (.app 1 16 kU kF), .m 6 kG]) .skip))
abbrev ala:AC:= .seq (.cond kD .skip (.exit 4)) (.seq (.block 5 ak9) (.run [.o 53 (.bin .add jX (.k (.int .i64 1))), .m 41 kV]))
abbrev alb:AC:= .seq (.run [.o 37 (.aq bZ 0), .o 38 (.load jn true 13), .c 39 ry [jW], .o 40 (.len jK), .o 41 (.mv (.k (.int .i64 0)))]) (.block 4 (.loop (.seq (.run [.o 42 (.bin .lss jX ko)]) ala)))
abbrev alc:AC:= .seq (.block 3 (.seq (.run [.o 35 (.cf gk gD 17), .o 36 (.load gN true 17), .o 10 (.alloc [(.int .i64 0),(.int .i64 0),(.slice .full 0 []),(.str []),(.str []),(.int .i64 0),(.int .i64 0),(.str []),(.slice .full 0 []),(.bool false),(.slice .full 0 []),(.slice .full 0 []),(.slice .full 0 []),(.int .i64 0),(.int .i64 0),(.int .i64 0),(.int .i64 0)]), .op none none (.store bZ ix 17)]) alb)) (.run [.o 54 (.bin .add gD (.k (.int .i64 1))), .m 33 lG])
abbrev ald:AC:= .block 2 (.loop (.seq (.run [.o 34 (.bin .lss gD gM)]) (.seq (.cond iw .skip (.exit 2)) alc)))
abbrev ale:AC:= .seq (.run [.o 25 (.cf dW eH 1), .o 26 (.load eR false 1), .m 8 fl]) (.seq (.run [.m 27 ct, .m 28 ct, .m 29 cT, .c 30 iu [fY,gj], .c 31 gK [fu,gC], .o 32 (.len gk), .o 33 (.mv (.k (.int .i64 0)))]) ald)
abbrev alf:AC:= .seq (.cond eQ .skip (.exit 0)) (.seq (.block 1 ale) (.run [.o 55 (.bin .add eH (.k (.int .i64 1))), .m 23 lH]))
abbrev alg:AC:= .seq (.run [.m 19 ct, .m 20 bu, .c 21 xr [dV,eA], .o 22 (.len dW), .o 23 (.mv (.k (.int .i64 0)))]) (.block 0 (.loop (.seq (.run [.o 24 (.bin .lss eH eD)]) alf)))
abbrev alh:AC:= .seq (.run [.o 17 (.load dw true 2), .c 18 kR [dD], .m 5 dC]) (.seq (.run [.o 6 (.mv (.k (.slice .full 0 [])))]) (.seq alg (.seq (.run [.m 56 dB, .c 57 jx [nh]]) (.seq (.run [.m 58 dB, .c 59 jM [nT], .m 4 lP]) .ret))))
abbrev ali:AC:= .seq (.run [.o 2 (.box bt), .o 4 (.mv (.k (.slice .full 0 [])))]) (.seq (.seq (.run [.o 13 (.load dw true 2), .m 14 bu, .c 15 ub [de,cH], .o 16 (.un .not dA)]) ak8) alh)
abbrev alj:AC:= .cond iw (.seq (.run [.o 4 (.mv (.k (.bool false)))]) .ret) .skip
abbrev alk:AC:= .seq (.seq (.run [.m 18 ct, .o 19 (.aq cJ 1), .o 20 (.load dV false 1), .c 21 cq [dC,eA], .m 22 dW, .g 23 22 false (.aq cJ 1), .g 24 22 false (.load eH false 1), .g 25 22 false (.aq dw 3), .g 26 22 false (.load eR false 1), .g 27 22 false (.bin .eql eQ fl), .o 28 (.pick eD (.k (.bool true)) fu), .m 29 fY, .g 30 29 false (.mv bu), .g 31 29 false (.aq cJ 1), .g 32 29 false (.load gk false 1), .d 33 29 false cq [gC,gM], .o 34 (.pick gj (.k (.bool true)) gD)]) alj) (.run [.m 35 ct, .o 36 (.aq cJ 1), .o 37 (.load ix false 1), .o 38 (.dt [(.str [])] 1 1 [(0,jn)]), .o 39 (.app 1 16 gN jW), .m 5 jK])
abbrev alm:AC:= .block 1 (.seq (.run [.o 13 (.cf du cB 6), .o 14 (.load de true 6), .o 7 (.alloc [(.bool false),(.str []),(.int .i64 0),(.int .i64 0),(.str []),(.slice .full 0 [])]), .op none none (.store cJ cH 6)]) (.seq (.seq (.run [.o 15 (.aq cJ 0), .o 16 (.load dA false 1), .o 17 (.un .not di)]) (.cond dD (.exit 1) .skip)) alk))
abbrev aln:AC:= .seq (.cond cU .skip (.exit 0)) (.seq alm (.run [.o 40 (.bin .add cB (.k (.int .i64 1))), .m 11 ko]))
abbrev alo:AC:= .seq (.run [.o 8 (.aq dw 10), .o 9 (.load cT false 1), .o 10 (.len du), .o 11 (.mv (.k (.int .i64 0)))]) (.block 0 (.loop (.seq (.run [.o 12 (.bin .lss cB bZ)]) aln)))
abbrev alp:AC:= .seq alo (.seq (.run [.o 4 (.mv (.k (.bool true)))]) .ret)
abbrev alq:AC:= .seq (.run [.o 2 (.box bt), .o 4 (.mv (.k (.bool false)))]) (.seq (.run [.o 5 (.mv (.k (.slice .full 0 [])))]) alp)
abbrev alr:AC:= .seq (.run [.o 2 (.mv (.k (.bool false)))]) (.seq (.run [.m 3 bt, .o 4 (.bin .geq cz (.k (.int .u8 48))), .m 5 ff, .g 6 5 true (.mv bt), .g 7 5 true (.bin .leq dB (.k (.int .u8 57))), .o 8 (.pick ct cJ (.k (.bool false))), .m 2 cT]) .ret)
abbrev als:AC:= .seq (.run [.o 4 (.mv (.k (.bool false)))]) (.seq (.run [.m 5 bu, .m 6 ct, .g 7 6 true (.mv bt), .d 8 6 true nS [cJ], .o 9 (.pick dB cT (.k (.bool false))), .m 10 du, .g 11 10 false (.mv bu), .g 12 10 false (.un .not cB), .g 13 10 false (.mv cU), .g 14 13 true (.mv bt), .g 15 13 true (.bin .eql cH (.k (.str []))), .g 16 10 false (.pick de dA (.k (.bool false))), .o 17 (.pick bZ (.k (.bool true)) di), .m 4 dD]) .ret)
abbrev alu:AC:= .seq (.run [.o 2 (.box bt), .o 4 (.mv (.k (.bool false)))]) (.seq (.run [.m 5 bu, .m 6 ct, .g 7 6 true (.load dw true 4), .d 8 6 true na [cJ], .o 9 (.pick dB cT (.k (.bool false))), .m 10 du, .g 11 10 false (.mv bu), .g 12 10 false (.un .not cB), .g 13 10 false (.mv cU), .g 14 13 true (.load dw true 4), .d 15 13 true xu [cH], .g 16 10 false (.pick de dA (.k (.bool false))), .o 17 (.pick bZ (.k (.bool true)) di), .m 4 dD]) .ret)
abbrev alv:AC:= .cond eR (.seq (.run [.o 2 (.mv (.k (.bool false)))]) .ret) .skip
abbrev alw:AC:= .seq (.run [.o 9 (.cf ct cJ 6), .o 10 (.load du true 6), .o 4 (.alloc [(.bool false),(.str []),(.int .i64 0),(.int .i64 0),(.str []),(.slice .full 0 [])]), .op none none (.store ff bZ 6)]) (.seq (.run [.o 11 (.aq ff 1), .o 12 (.load cB false 1), .o 13 (.aq ff 0), .o 14 (.load de false 1), .c 15 oZ [cU,cH], .o 16 (.un .not dA), .m 17 di, .g 18 17 false (.aq ff 2), .g 19 17 false (.load dC true 4), .g 20 17 false (.aq ff 0), .g 21 17 false (.load eA false 1), .g 22 17 false (.un .not dW), .d 23 17 false rr [dV,eD], .g 24 17 false (.un .not eH), .o 25 (.pick dD (.k (.bool true)) eQ)]) alv)
abbrev alx:AC:= .seq (.cond cT .skip (.exit 0)) (.seq (.block 1 alw) (.run [.o 26 (.bin .add cJ (.k (.int .i64 1))), .m 7 fl]))
abbrev aly:AC:= .seq (.run [.m 5 bt, .o 6 (.len ct), .o 7 (.mv (.k (.int .i64 0)))]) (.block 0 (.loop (.seq (.run [.o 8 (.bin .lss cJ dB)]) alx)))
abbrev alz:AC:= .seq aly (.seq (.run [.o 2 (.mv (.k (.bool true)))]) .ret)
abbrev alA:AC:= .seq (.run [.o 2 (.mv (.k (.bool false)))]) alz
abbrev alB:AC:= .cond gk (.seq (.run [.m 32 dw, .m 33 cT, .o 34 (.cf gM gD 1), .o 35 (.load iw false 1), .m 6 gN, .o 7 (.mv (.k (.bool true)))]) .ret) .skip
abbrev alC:AC:= .seq (.run [.m 20 bu, .o 21 (.aq cz 2), .o 22 (.load dW false 1), .c 23 fV [eA,eD], .m 8 eH]) (.seq (.run [.m 24 cT, .o 25 (.bin .geq eQ (.k (.int .i64 0))), .m 26 eR, .g 27 26 true (.mv cT), .g 28 26 true (.mv dw), .g 29 26 true (.len fY), .g 30 26 true (.bin .lss fu gj), .o 31 (.pick fl gC (.k (.bool false)))]) alB)
abbrev alD:AC:= .seq alC (.seq (.run [.o 6 (.mv (.k (.int .i64 0))), .o 7 (.mv (.k (.bool true)))]) .ret)
abbrev alE:AC:= .cond cH (.seq (.run [.o 16 (.aq cz 1), .o 17 (.load di false 1), .m 6 dD, .o 7 (.mv (.k (.bool true)))]) .ret) (.seq (.run [.o 19 (.bin .eql de (.k (.int .i64 2))), .m 18 dV]) (.cond dC alD .skip))
abbrev alG:AC:= .block 0 (.seq (.run [.o 15 (.bin .eql de (.k (.int .i64 1))), .m 14 dA]) alE)
abbrev alH:AC:= .cond lO (.seq (.run [.o 6 (.mv (.k (.int .i64 0))), .o 7 (.mv (.k (.bool false)))]) .ret) .skip
abbrev alI:AC:= .cond uf (.seq (.run [.o 6 (.mv (.k (.int .i64 0))), .o 7 (.mv (.k (.bool true)))]) .ret) .skip
abbrev alJ:AC:= .cond ze (.seq (.run [.o 6 (.mv (.k (.int .i64 1))), .o 7 (.mv (.k (.bool true)))]) .ret) .skip
abbrev alK:AC:= .cond FA (.seq (.run [.o 6 (.mv (.k (.int .i64 0))), .o 7 (.mv (.k (.bool false)))]) .ret) .skip
abbrev alL:AC:= .seq (.seq (.run [.o 66 (.aq cz 0), .o 67 (.load ug false 1), .o 68 (.bin .eql vC (.k (.int .i64 17))), .m 69 rB, .g 70 69 true (.mv du), .d 71 69 true rz [xw], .o 72 (.pick xv Bm (.k (.bool false)))]) alJ) (.seq (.run [.o 74 (.aq cz 3), .o 75 (.load Bn false 1), .o 76 (.cf Bo (.k (.int .i64 1)) 4), .o 77 (.load zh true 4), .m 78 bu, .m 79 dw, .c 80 ld [Bp,xx,Ds], .m 73 Dt, .o 81 (.ext zf 0), .o 82 (.ext zf 1), .m 11 Du, .m 10 Fy]) (.seq (.seq (.run [.m 83 bZ, .o 84 (.un .not Fz)]) alK) (.seq (.run [.o 85 (.aq cz 0), .o 86 (.load FB false 1), .m 87 du, .m 88 cB, .c 89 zc [FC,FD,FE], .o 90 (.ext Bq 0), .o 91 (.ext Bq 1), .m 6 Dv, .m 7 FF]) .ret)))
abbrev alM:AC:= .seq (.seq (.run [.o 58 (.aq cz 0), .o 59 (.load nT false 1), .o 60 (.bin .eql lP (.k (.int .i64 16))), .m 61 o5, .g 62 61 true (.mv du), .d 63 61 true rz [pO], .g 64 61 true (.un .not qy), .o 65 (.pick qx qz (.k (.bool false)))]) alI) alL
abbrev alN:AC:= .seq (.seq (.run [.o 48 (.aq cz 3), .o 49 (.load kT false 1), .o 50 (.len kU), .o 51 (.bin .eql lF (.k (.int .i64 1)))]) (.cond kF (.seq (.run [.o 52 (.aq cz 0), .o 53 (.load kG false 1), .m 54 du, .c 55 zb [kV,lG], .o 56 (.ext lH 0), .o 57 (.ext lH 1), .m 6 nh, .m 7 oy]) .ret) .skip)) alM
abbrev alO:AC:= .seq (.seq (.run [.o 12 (.aq cz 0), .o 13 (.load cU false 1)]) alG) (.seq (.run [.o 37 (.aq cz 3), .o 38 (.load jn false 1), .o 39 (.cf jW (.k (.int .i64 0)) 4), .o 40 (.load jK true 4), .m 41 bu, .m 42 dw, .c 43 ld [ko,jX,kD], .m 36 kp, .o 44 (.ext ix 0), .o 45 (.ext ix 1), .m 9 kE, .m 10 lD]) (.seq (.seq (.run [.m 46 bZ, .o 47 (.un .not lE)]) alH) alN))
abbrev alP:AC:= .seq (.run [.o 3 (.box bt), .o 6 (.mv (.k (.int .i64 0))), .o 7 (.mv (.k (.bool false)))]) alO
abbrev alQ:AC:= .block 1 (.seq (.run [.m 10 cT, .m 5 bZ]) (.seq (.run [.m 11 bu, .m 12 bt, .m 13 ct, .o 14 (.cf cU de 1), .o 15 (.load cH false 1), .o 16 (.bin .eql cB dA)]) (.cond di (.seq (.run [.m 17 ct, .m 4 dD]) .ret) .skip)))
abbrev alR:AC:= .seq (.cond du .skip (.exit 0)) (.seq alQ (.run [.o 18 (.bin .add cT (.k (.int .i64 1))), .m 8 dC]))
abbrev alS:AC:= .seq (.run [.m 6 bt, .o 7 (.len dB), .o 8 (.mv (.k (.int .i64 0)))]) (.block 0 (.loop (.seq (.run [.o 9 (.bin .lss cT cJ)]) alR)))
abbrev alT:AC:= .seq (.run [(.o 4 (.mv (.k (.int .i64 (-1)))))]) .ret
abbrev alU:AC:= .seq (.run [.o 4 (.mv (.k (.int .i64 0)))]) (.seq alS alT)
abbrev alV:AC:= .block 1 (.seq (.run [.m 10 cT, .m 5 bZ]) (.seq (.run [.m 11 bu, .m 12 bt, .m 13 ct, .o 14 (.cf cU de 1), .o 15 (.load cH false 1),(.jr (some 16) none 11 [dA])]) (.cond di (.seq (.run [.m 17 ct, .m 4 dD]) .ret) .skip)))
abbrev alW:AC:= .seq (.cond du .skip (.exit 0)) (.seq alV (.run [.o 18 (.bin .add cT (.k (.int .i64 1))), .m 8 dC]))
abbrev alX:AC:= .seq (.run [.m 6 bt, .o 7 (.len dB), .o 8 (.mv (.k (.int .i64 0)))]) (.block 0 (.loop (.seq (.run [.o 9 (.bin .lss cT cJ)]) alW)))
abbrev alY:AC:= .seq (.run [(.o 4 (.mv (.k (.int .i64 (-1)))))]) .ret
abbrev alZ:AC:= .seq (.run [.o 4 (.mv (.k (.int .i64 0)))]) (.seq alX alY)
abbrev al0:AC:= .seq (.seq (.run [.o 31 (.aq ct 0), .o 32 (.load gk false 1)]) (.cond gM (.run [.m 33 cz, .o 34 (.aq ct 1), .o 35 (.load iw false 1), .o 36 (.dt [(.str [])] 1 1 [(0,gN)]), .o 37 (.app 1 16 gD ix), .m 3 jn]) .skip)) (.run [.m 38 cz, .o 39 (.aq ct 2), .o 40 (.load jK true 4), .c 41 rA [ko], .o 42 (.app 1 16 jW jX), .m 3 kD])
abbrev al1:AC:= .seq (.block 1 (.seq (.run [.o 29 (.cf eR fu 6), .o 30 (.load gj true 6), .o 5 (.alloc [(.bool false),(.str []),(.int .i64 0),(.int .i64 0),(.str []),(.slice .full 0 [])]), .op none none (.store ct gC 6)]) al0)) (.run [.o 43 (.bin .add fu (.k (.int .i64 1))), .m 27 kp])
abbrev al2:AC:= .block 0 (.loop (.seq (.run [.o 28 (.bin .lss fu fl)]) (.seq (.cond fY .skip (.exit 0)) al1)))
abbrev al3:AC:= .seq (.seq (.run [.o 24 (.aq bu 10), .o 25 (.load eQ false 1), .o 26 (.len eR), .o 27 (.mv (.k (.int .i64 0)))]) al2) (.seq (.run [.m 44 cz, .m 2 kE]) .ret)
abbrev al4:AC:= .seq (.seq (.run [.o 6 (.aq bu 1), .o 7 (.load dB false 1), .o 8 (.bin .neq cJ (.k (.int .i64 10))), .m 9 cT, .g 10 9 true (.aq bu 3), .g 11 9 true (.load bZ false 1), .g 12 9 true (.bin .neq cB (.k (.str []))), .o 13 (.pick du cU (.k (.bool false)))]) (.cond de (.run [.m 14 cz, .o 15 (.aq bu 3), .o 16 (.load dA false 1), .o 17 (.dt [(.str [])] 1 1 [(0,di)]), .o 18 (.app 1 16 cH dD), .m 3 dC]) .skip)) (.seq (.run [.m 19 cz, .o 20 (.aq bu 5), .o 21 (.load eA true 4), .c 22 rA [dW], .o 23 (.app 1 16 dV eD), .m 3 eH]) al3)
abbrev al5:AC:= .seq (.run [.o 1 (.box bt), .o 2 (.mv (.k (.slice .full 0 [])))]) (.seq (.run [.o 3 (.mv (.k (.slice .full 0 [])))]) al4)
abbrev al6:AC:= .cond eH (.seq (.run [.o 6 (.mv (.k (.int .i64 3)))]) .ret) .skip
abbrev al7:AC:= .cond fu (.seq (.run [.o 6 (.mv (.k (.int .i64 2)))]) .ret) .skip
abbrev al8:AC:= .seq (.seq (.run [.o 16 (.aq cT 0), .o 17 (.load di false 1), .m 18 dw, .o 19 (.bin .eql dD dC), .m 20 dV, .g 21 20 true (.aq cT 1), .g 22 20 true (.load dW false 1), .o 23 (.pick eA eD (.k (.bool false)))]) al6) (.seq (.run [.o 24 (.aq cT 0), .o 25 (.load eQ false 1), .m 26 dw, .o 27 (.bin .eql eR fl)]) al7)
abbrev al9:AC:= .seq (.block 1 (.seq (.run [.o 14 (.cf bZ cU 2), .o 15 (.load cH true 2), .o 8 (.alloc [(.str []),(.bool false)]), .op none none (.store cT dA 2)]) al8)) (.run [.o 28 (.bin .add cU (.k (.int .i64 1))), .m 12 fY])
abbrev ama:AC:= .block 0 (.loop (.seq (.run [.o 13 (.bin .lss cU cB)]) (.seq (.cond de .skip (.exit 0)) al9)))
abbrev amb:AC:= .cond gM (.seq (.run [.o 6 (.mv (.k (.int .i64 4)))]) .ret) .skip
abbrev amc:AC:= .cond ix (.seq (.run [.o 6 (.mv (.k (.int .i64 1)))]) .ret) .skip
abbrev amd:AC:= .seq (.seq (.run [.o 33 (.aq cz 0), .o 34 (.load gD false 1), .m 35 dw, .c 36 cq [iw,gN]]) amc) (.seq (.run [.o 6 (.mv (.k (.int .i64 0)))]) .ret)
abbrev ame:AC:= .seq (.seq (.run [.o 9 (.aq ff 1), .o 10 (.load du false 1), .o 11 (.len bZ), .o 12 (.mv (.k (.int .i64 0)))]) ama) (.seq (.seq (.run [.o 29 (.aq ff 2), .o 30 (.load gj false 1), .m 31 dw, .c 32 cq [gC,gk]]) amb) amd)
abbrev amf:AC:= .seq (.run [.o 3 (.box bt), .o 4 (.box bu), .o 6 (.mv (.k (.int .i64 0)))]) ame
abbrev amg:AC:= .cond cB (.seq (.run [.o 4 (.mv (.k (.bool false)))]) .ret) .skip
abbrev amh:AC:= .par [.o 19 (.aq dB 1), .o 20 (.load dV false 1), .m 21 bu, .m 22 ct, .o 23 (.cf dW eD 6), .o 24 (.aq eH 0), .o 25 (.load eQ false 1), .o 26 (.Gd true eA eR)] [(0,0),(1,0),(2,0),(3,0),(4,0),(5,0),(6,0),(7,0)]
abbrev ami:AC:= .cond fl (.seq (.run [.o 4 (.mv (.k (.bool false)))]) .ret) .skip
abbrev amj:AC:= .seq (.block 1 (.seq (.run [.m 16 cH, .o 17 (.cf cU cH 2), .o 18 (.load dD true 2), .o 6 (.alloc [(.str []),(.bool false)]), .m 5 di, .op none none (.store dB dC 2)]) (.seq amh ami))) (.run [.o 27 (.bin .add cH (.k (.int .i64 1))), .m 14 fu])
abbrev amk:AC:= .block 0 (.loop (.seq (.run [.o 15 (.bin .lss cH de)]) (.seq (.cond dA .skip (.exit 0)) amj)))
abbrev aml:AC:= .seq (.seq (.run [.m 12 bt, .o 13 (.len cU), .o 14 (.mv (.k (.int .i64 0)))]) amk) (.seq (.run [.o 4 (.mv (.k (.bool true)))]) .ret)
abbrev amm:AC:= .seq (.run [.o 4 (.mv (.k (.bool false)))]) (.seq (.seq (.run [.m 7 bt, .o 8 (.len cJ), .m 9 bu, .o 10 (.len du), .o 11 (.bin .neq cT bZ)]) amg) aml)
abbrev amn:AC:= .seq (.run [.o 2 (.box bt), .o 3 (.box bu), .o 4 (.mv (.k (.bool false)))]) (.seq (.run [.o 5 (.load dw true 2), .c 6 lS [ct], .o 7 (.CH dB 0 false 1), .o 8 (.bin .eql cJ (.k (.int .i64 0))), .m 9 cT, .g 10 9 true (.aq dw 1), .g 11 9 true (.load bZ false 1), .g 12 9 true (.uJ 191 [cz]), .d 13 9 true gL [cB,cU], .o 14 (.pick du de (.k (.bool false))), .m 4 cH]) .ret)
abbrev amo:AC:= .seq (.run [.o 26 (.cf eD eQ 1), .o 27 (.load fl false 1), .m 8 fu]) (.seq (.run [.m 28 ct, .m 29 cT, .c 30 cq [fY,gj], .o 31 (.un .not gC)]) (.cond gk (.run [.m 32 ct, .m 33 cT, .o 34 (.dt [(.str [])] 1 1 [(0,gD)]), .o 35 (.app 1 16 gM iw), .m 5 gN]) .skip))
abbrev amp:AC:= .seq (.cond eR .skip (.exit 2)) (.seq (.block 3 amo) (.run [.o 36 (.bin .add eQ (.k (.int .i64 1))), .m 24 ix]))
abbrev amq:AC:= .seq (.run [.m 17 bt, .m 18 ct, .m 19 dB, .o 20 (.cf dC dV 1), .o 21 (.load eA false 1), .c 22 uc [dD,dW], .o 23 (.len eD), .o 24 (.mv (.k (.int .i64 0)))]) (.block 2 (.loop (.seq (.run [.o 25 (.bin .lss eQ eH)]) amp)))
abbrev amr:AC:= .seq (.seq (.run [.m 11 dB, .m 12 ct, .o 13 (.len cU), .o 14 (.bin .lss cB de)]) (.cond cH .skip (.exit 0))) (.seq (.block 1 amq) (.run [.m 15 dB, .o 16 (.bin .add dA (.k (.int .i64 1))), .m 6 di]))
abbrev acE:AC:= .seq (.run [.m 39 ct, .m 4 jK]) .ret
abbrev ams:AC:= .seq (.seq (.run [.o 6 (.mv (.k (.int .i64 0)))]) (.block 0 (.loop amr))) (.seq (.run [.m 37 ct, .c 38 jx [jn]]) acE)
abbrev amt:AC:= .seq (.run [.o 4 (.mv (.k (.slice .full 0 [])))]) (.seq (.run [.m 9 bu, .o 10 (.dt [(.str [])] 1 1 [(0,du)]), .m 5 bZ]) ams)
abbrev amu:AC:= .seq (.run [.o 1 (.box bt), .o 2 (.mv (.k (.bool false)))]) (.seq (.run [.o 3 (.aq bu 0), .o 4 (.load cz false 1), .o 5 (.bin .eql ff (.k (.int .i64 0))), .m 6 ct, .g 7 6 true (.aq bu 1), .g 8 6 true (.load cJ false 1), .g 9 6 true (.bin .eql cT (.k (.int .i64 0))), .o 10 (.pick dB du (.k (.bool false))), .m 11 bZ, .g 12 11 true (.aq bu 2), .g 13 11 true (.load cU false 1), .g 14 11 true (.bin .eql de (.k (.str []))), .o 15 (.pick cB cH (.k (.bool false))), .m 16 dA, .g 17 16 true (.aq bu 3), .g 18 16 true (.load dD false 1), .g 19 16 true (.len dC), .g 20 16 true (.bin .eql dV (.k (.int .i64 0))), .o 21 (.pick di eA (.k (.bool false))), .m 2 dW]) .ret)
abbrev amv:AC:= .cond cB (.seq (.run [.m 13 bu, .o 14 (.bin .eql de (.k (.int .i64 0))), .c 15 jy [cH], .m 4 dA, .o 5 (.mv (.k (.bool true)))]) .ret) .skip
abbrev amw:AC:= .cond cJ (.seq (.run [.m 9 bu, .o 10 (.bin .sub (.k (.int .i64 0)) du), .m 4 bZ, .o 5 (.mv (.k (.bool true)))]) .ret) (.seq (.run [.o 12 (.bin .eql dB (.k (.int .i64 4))), .m 11 cU]) amv)
abbrev amx:AC:= .block 0 (.seq (.run [.o 8 (.bin .eql dB (.k (.int .i64 3))), .m 7 cT]) amw)
abbrev amy:AC:= .seq (.seq (.run [.m 6 bt]) amx) (.seq (.run [.o 4 (.mv (.k (.int .i64 0))), .o 5 (.mv (.k (.bool false)))]) .ret)
abbrev amz:AC:= .seq (.run [.o 4 (.mv (.k (.int .i64 0))), .o 5 (.mv (.k (.bool false)))]) amy
abbrev amA:AC:= .seq (.run [.o 2 (.mv (.k (.bool false)))]) (.seq (.run [.m 3 bt, .o 4 (.bin .neq cz (.k (.int .i64 0))), .m 2 ff]) .ret)
abbrev amB:AC:= .seq (.run [.o 25 (.bin .eql cT (.k (.int .i64 6))), .m 24 eR]) (.cond eQ .skip (.run [.o 26 (.bin .eql cT (.k (.int .i64 7))), .m 24 fl]))
abbrev amC:AC:= .cond kD (.seq (.run [.m 44 bu, .o 45 (.bin .neq kE (.k (.int .i64 0))), .m 46 lD, .g 47 46 false (.mv dw), .g 48 46 false (.bin .neq lO (.k (.int .i64 0))), .o 49 (.pick lE (.k (.bool true)) kT), .c 50 jy [kU], .m 6 lF, .o 7 (.mv (.k (.bool true)))]) .ret) .skip
abbrev amD:AC:= .cond gD (.seq (.run [.m 35 bu, .o 36 (.bin .neq gN (.k (.int .i64 0))), .m 37 ix, .g 38 37 true (.mv dw), .g 39 37 true (.bin .neq jW (.k (.int .i64 0))), .o 40 (.pick jn jK (.k (.bool false))), .c 41 jy [ko], .m 6 jX, .o 7 (.mv (.k (.bool true)))]) .ret) (.seq (.run [.o 43 (.bin .eql cT (.k (.int .i64 17))), .m 42 kp]) amC)
abbrev amE:AC:= .cond eQ (.seq (.run [.m 27 bt, .m 28 bu, .m 29 dw, .c 30 ud [fu,fY,gj], .o 31 (.ext gC 0), .o 32 (.ext gC 1), .m 6 gk, .m 7 gM]) .ret) (.seq (.run [.o 34 (.bin .eql cT (.k (.int .i64 16))), .m 33 iw]) amD)
abbrev amF:AC:= .cond dV (.seq (.run [.m 21 bu, .m 22 dw, .o 23 (.bin .mul dW eD), .m 6 eH, .o 7 (.mv (.k (.bool true)))]) .ret) (.seq amB amE)
abbrev amG:AC:= .cond cH (.seq (.run [.m 16 bu, .m 17 dw, .o 18 (.bin .sub di dD), .m 6 dC, .o 7 (.mv (.k (.bool true)))]) .ret) (.seq (.run [.o 20 (.bin .eql cT (.k (.int .i64 5))), .m 19 eA]) amF)
abbrev amH:AC:= .cond du (.seq (.run [.m 11 bu, .m 12 dw, .o 13 (.bin .add cB cU), .m 6 de, .o 7 (.mv (.k (.bool true)))]) .ret) (.seq (.run [.o 15 (.bin .eql cT (.k (.int .i64 9))), .m 14 dA]) amG)
abbrev amI:AC:= .block 0 (.seq (.run [.o 10 (.bin .eql cT (.k (.int .i64 8))), .m 9 bZ]) amH)
abbrev amJ:AC:= .seq (.run [.o 6 (.mv (.k (.int .i64 0))), .o 7 (.mv (.k (.bool false)))]) (.seq (.seq (.run [.m 8 bt]) amI) (.seq (.run [.m 51 bt, .m 52 bu, .m 53 dw, .c 54 sh [kF,kG,kV], .o 55 (.ext lG 0), .o 56 (.ext lG 1), .m 6 lH, .m 7 nh]) .ret))
abbrev amK:AC:= .cond ct (.seq (.run [.o 2 (.mv (.k (.slice .full 0 [])))]) .ret) .skip
abbrev amL:AC:= .seq (.seq (.run [.o 3 (.load bu true 4), .c 4 na [cz], .o 5 (.un .not ff)]) amK) (.seq (.run [.o 6 (.load bu true 4),(.c 7 iN [dB,(.k (.slice .full 0 []))]), .m 2 cJ]) .ret)
abbrev amM:AC:= .seq (.run [.o 1 (.box bt), .o 2 (.mv (.k (.slice .full 0 [])))]) amL
abbrev amN:AC:= .seq (.run [.o 4 (.mv (.k (.bool false)))]) (.seq (.run [.m 5 bt, .m 6 bu, .c 7 gb [ct,dB], .o 8 (.bin .geq cJ (.k (.int .i64 0))), .m 4 cT]) .ret)
abbrev amO:AC:= .seq (.run [.o 2 (.box bt), .o 3 (.mv (.k (.bool false)))]) (.seq (.run [.o 4 (.aq dw 0), .o 5 (.load ff false 1), .o 6 (.load bu false 1), .o 7 (.bin .eql ct dB), .m 3 cJ]) .ret)
abbrev amP:AC:= .seq (.run [.o 16 (.cf cU cH 17), .o 17 (.load di true 17), .o 7 (.alloc [(.int .i64 0),(.int .i64 0),(.slice .full 0 []),(.str []),(.str []),(.int .i64 0),(.int .i64 0),(.str []),(.slice .full 0 []),(.bool false),(.slice .full 0 []),(.slice .full 0 []),(.slice .full 0 []),(.int .i64 0),(.int .i64 0),(.int .i64 0),(.int .i64 0)]), .op none none (.store cJ dD 17)]) (.seq (.run [.o 18 (.aq cJ 0), .o 19 (.aq dC 1), .o 20 (.load dV false 1), .o 21 (.bin .eql eA (.k (.int .i64 4)))]) (.cond dW (.run [.m 22 ct, .o 23 (.aq cJ 0), .o 24 (.aq eH 4), .o 25 (.load eQ false 1), .o 26 (.dt [(.str [])] 1 1 [(0,eR)]), .o 27 (.app 1 16 eD fl), .m 5 fu]) .skip))
abbrev amQ:AC:= .seq (.cond dA .skip (.exit 0)) (.seq (.block 1 amP) (.run [.o 28 (.bin .add cH (.k (.int .i64 1))), .m 14 fY]))
abbrev amR:AC:= .seq (.run [.m 8 bt, .m 9 bt, .m 10 bu, .c 11 iu [du,bZ], .c 12 gK [cT,cB], .o 13 (.len cU), .o 14 (.mv (.k (.int .i64 0)))]) (.block 0 (.loop (.seq (.run [.o 15 (.bin .lss cH de)]) amQ)))
abbrev amS:AC:= .seq (.run [.o 4 (.mv (.k (.slice .full 0 [])))]) (.seq (.run [.o 5 (.mv (.k (.slice .full 0 [])))]) (.seq amR (.seq (.run [.m 29 ct, .c 30 jx [gj]]) (.seq (.run [.m 31 ct, .c 32 jM [gk], .m 4 gM]) .ret))))
open Go.Proofs
theorem zl:Has Tryz.prog o4 19 [(4,none)] alU:=⟨Tryz.f146,by kernel_rfl,by kernel_rfl⟩
theorem tj:Has Tryz.prog kS 19 [(4,none)] alZ:=⟨Tryz.f167,by kernel_rfl,by kernel_rfl⟩
theorem FI:Has Tryz.prog ry 45 [(2,none)] al5:=⟨Tryz.f168,by kernel_rfl,by kernel_rfl⟩
theorem FJ:Has Tryz.prog vA 37 [(6,none)] amf:=⟨Tryz.f169,by kernel_rfl,by kernel_rfl⟩
theorem yl:Has Tryz.prog vB 28 [(4,none)] amm:=⟨Tryz.f170,by kernel_rfl,by kernel_rfl⟩
theorem wF:Has Tryz.prog ub 15 [(4,none)] amn:=⟨Tryz.f171,by kernel_rfl,by kernel_rfl⟩
theorem HI:Has Tryz.prog xr 40 [(4,none)] amt:=⟨Tryz.f172,by kernel_rfl,by kernel_rfl⟩
theorem HJ:Has Tryz.prog xu 22 [(2,none)] amu:=⟨Tryz.f175,by kernel_rfl,by kernel_rfl⟩
theorem Jt:Has Tryz.prog zb 16 [(4,none),(5,none)] amz:=⟨Tryz.f176,by kernel_rfl,by kernel_rfl⟩
theorem FK:Has Tryz.prog rz 5 [(2,none)] amA:=⟨Tryz.f177,by kernel_rfl,by kernel_rfl⟩
theorem Ju:Has Tryz.prog zc 57 [(6,none),(7,none)] amJ:=⟨Tryz.f178,by kernel_rfl,by kernel_rfl⟩
theorem ym:Has Tryz.prog rA 8 [(2,none)] amM:=⟨Tryz.f189,by kernel_rfl,by kernel_rfl⟩
theorem qA:Has Tryz.prog gL 9 [(4,none)] amN:=⟨Tryz.f190,by kernel_rfl,by kernel_rfl⟩
theorem Cy:Has Tryz.prog oM 8 [(3,none)] amO:=⟨Tryz.f191,by kernel_rfl,by kernel_rfl⟩
theorem Eo:Has Tryz.prog uc 33 [(4,none)] amS:=⟨Tryz.f192,by kernel_rfl,by kernel_rfl⟩
abbrev amT:AC:= .cond cz (.seq (.run [.o 2 (.mv (.k (.int .i64 1)))]) .ret) .skip
abbrev amU:AC:= .seq (.seq (.run [.m 3 bt]) amT) (.seq (.run [.o 2 (.mv (.k (.int .i64 0)))]) .ret)
abbrev amV:AC:= .seq (.run [.o 2 (.mv (.k (.int .i64 0)))]) amU
abbrev amW:AC:= .cond du (.seq (.run [.o 6 (.mv (.k (.int .i64 0))), .o 7 (.mv (.k (.bool false)))]) .ret) .skip
abbrev amX:AC:= .cond de (.seq (.run [.o 6 (.mv (.k (.int .i64 0))), .o 7 (.mv (.k (.bool true)))]) .ret) .skip
abbrev amY:AC:= .cond dA (.seq (.run [.m 16 bu, .m 6 di, .o 7 (.mv (.k (.bool true)))]) .ret) .skip
abbrev amZ:AC:= .seq (.run [.m 14 bu,(.o 15 (.bin .eql cH (.k (.int .i64 (-9223372036854775808)))))]) amY
abbrev am0:AC:= .seq amZ (.seq (.run [.m 17 bu, .o 18 (.bin .sub (.k (.int .i64 0)) dD), .m 6 dC, .o 7 (.mv (.k (.bool true)))]) .ret)
abbrev am1:AC:= .seq (.seq (.run [.m 12 bt, .o 13 (.bin .eql cU (.k (.int .i64 7)))]) amX) am0
abbrev am2:AC:= .seq (.run [.m 10 dw,(.o 11 (.bin .eql bZ (.k (.int .i64 (-1)))))]) (.cond cB am1 .skip)
abbrev am3:AC:= .cond eA (.seq (.run [.m 21 bu, .m 22 dw, .o 23 (.bin .rem dW eD), .m 6 eH, .o 7 (.mv (.k (.bool true)))]) .ret) .skip
abbrev am4:AC:= .seq (.seq (.run [.m 19 bt, .o 20 (.bin .eql dV (.k (.int .i64 7)))]) am3) (.seq (.run [.m 24 bu, .m 25 dw, .o 26 (.bin .quo eQ eR), .m 6 fl, .o 7 (.mv (.k (.bool true)))]) .ret)
abbrev am5:AC:= .seq (.seq (.run [.m 8 dw, .o 9 (.bin .eql cT (.k (.int .i64 0)))]) amW) (.seq am2 am4)
abbrev am6:AC:= .seq (.run [.o 6 (.mv (.k (.int .i64 0))), .o 7 (.mv (.k (.bool false)))]) am5
abbrev am7:AC:= .cond jK (.seq (.run [.m 41 bu, .m 42 dw, .o 43 (.bin .neq jX kD), .c 44 jy [kp], .m 6 kE, .o 7 (.mv (.k (.bool true)))]) .ret) .skip
abbrev am8:AC:= .cond gD (.seq (.run [.m 35 bu, .m 36 dw, .o 37 (.bin .eql gN ix), .c 38 jy [jn], .m 6 jW, .o 7 (.mv (.k (.bool true)))]) .ret) (.seq (.run [.o 40 (.bin .eql cT (.k (.int .i64 15))), .m 39 ko]) am7)
abbrev am9:AC:= .cond fu (.seq (.run [.m 29 bu, .m 30 dw, .o 31 (.bin .geq gj gC), .c 32 jy [gk], .m 6 gM, .o 7 (.mv (.k (.bool true)))]) .ret) (.seq (.run [.o 34 (.bin .eql cT (.k (.int .i64 14))), .m 33 iw]) am8)
abbrev ana:AC:= .cond dW (.seq (.run [.m 23 bu, .m 24 dw, .o 25 (.bin .gtr eH eQ), .c 26 jy [eR], .m 6 fl, .o 7 (.mv (.k (.bool true)))]) .ret) (.seq (.run [.o 28 (.bin .eql cT (.k (.int .i64 13))), .m 27 fY]) am9)
abbrev anb:AC:= .cond dA (.seq (.run [.m 17 bu, .m 18 dw, .o 19 (.bin .leq dD dC), .c 20 jy [dV], .m 6 eA, .o 7 (.mv (.k (.bool true)))]) .ret) (.seq (.run [.o 22 (.bin .eql cT (.k (.int .i64 12))), .m 21 eD]) ana)
abbrev anc:AC:= .cond du (.seq (.run [.m 11 bu, .m 12 dw, .o 13 (.bin .lss cB cU), .c 14 jy [de], .m 6 cH, .o 7 (.mv (.k (.bool true)))]) .ret) (.seq (.run [.o 16 (.bin .eql cT (.k (.int .i64 11))), .m 15 di]) anb)
abbrev ane:AC:= .block 0 (.seq (.run [.o 10 (.bin .eql cT (.k (.int .i64 10))), .m 9 bZ]) anc)
abbrev anf:AC:= .seq (.seq (.run [.m 8 bt]) ane) (.seq (.run [.o 6 (.mv (.k (.int .i64 0))), .o 7 (.mv (.k (.bool false)))]) .ret)
abbrev ang:AC:= .seq (.run [.o 6 (.mv (.k (.int .i64 0))), .o 7 (.mv (.k (.bool false)))]) anf
abbrev anh:AC:= .seq (.block 1 (.seq (.run [.o 27 (.cf eH eR 4), .o 28 (.load fu true 4), .o 6 (.alloc [(.int .i64 0),(.int .i64 0),(.str []),(.slice .full 0 [])]), .op none none (.store dB fY 4)]) (.run [.o 29 (.load dB true 4), .m 30 bu, .c 31 iN [gj,gC], .m 1 gk]))) (.run [.o 32 (.bin .add eR (.k (.int .i64 1))), .m 25 gM])
abbrev ani:AC:= .block 0 (.loop (.seq (.run [.o 26 (.bin .lss eR eQ)]) (.seq (.cond fl .skip (.exit 0)) anh)))
abbrev anj:AC:= .seq (.seq (.run [.o 22 (.aq dw 3), .o 23 (.load eD false 1), .o 24 (.len eH), .o 25 (.mv (.k (.int .i64 0)))]) ani) (.seq (.run [.m 33 bu, .m 4 gD]) .ret)
abbrev ank:AC:= .seq (.seq (.run [.o 7 (.aq dw 0), .o 8 (.load cJ false 1), .o 9 (.bin .eql cT (.k (.int .i64 2))), .m 10 du, .g 11 10 true (.mv bu), .g 12 10 true (.aq dw 2), .g 13 10 true (.load cU false 1), .d 14 10 true cq [cB,de], .g 15 10 true (.un .not cH), .o 16 (.pick bZ dA (.k (.bool false)))]) (.cond di (.run [.m 17 bu, .o 18 (.aq dw 2), .o 19 (.load dC false 1), .o 20 (.dt [(.str [])] 1 1 [(0,dV)]), .o 21 (.app 1 16 dD eA), .m 1 dW]) .skip)) anj
abbrev anl:AC:= .seq (.run [.o 2 (.box bt), .o 4 (.mv (.k (.slice .full 0 [])))]) ank
open Go.Proofs
theorem Jv:Has Tryz.prog jy 4 [(2,none)] amV:=⟨Tryz.f195,by kernel_rfl,by kernel_rfl⟩
theorem wG:Has Tryz.prog ud 27 [(6,none),(7,none)] am6:=⟨Tryz.f196,by kernel_rfl,by kernel_rfl⟩
theorem Dx:Has Tryz.prog sh 45 [(6,none),(7,none)] ang:=⟨Tryz.f197,by kernel_rfl,by kernel_rfl⟩
theorem rD:Has Tryz.prog iN 34 [(4,none)] anl:=⟨Tryz.f207,by kernel_rfl,by kernel_rfl⟩
open Go.Proofs
theorem FL:Has Tryz.prog rm 9 [(2,none)] QZZ:=⟨Tryz.f104,by kernel_rfl,by kernel_rfl⟩
theorem Lf:Has Tryz.prog Bj 24 [(4,none)] ajB:=⟨Tryz.f105,by kernel_rfl,by kernel_rfl⟩
theorem Jw:Has Tryz.prog za 18 [(2,none)] ajQ:=⟨Tryz.f106,by kernel_rfl,by kernel_rfl⟩
theorem Ep:Has Tryz.prog tY 93 [(2,none)] aj5:=⟨Tryz.f107,by kernel_rfl,by kernel_rfl⟩
theorem HK:Has Tryz.prog mz 33 [(2,none)] akc:=⟨Tryz.f108,by kernel_rfl,by kernel_rfl⟩
theorem pH:Has Tryz.prog ky 8 [(2,none)] ake:=⟨Tryz.f109,by kernel_rfl,by kernel_rfl⟩
theorem HL:Has Tryz.prog sJ 23 [(2,none)] aki:=⟨Tryz.f110,by kernel_rfl,by kernel_rfl⟩
theorem vZ:Has Tryz.prog fV 19 [(4,none)] akn:=⟨Tryz.f111,by kernel_rfl,by kernel_rfl⟩
theorem C0:Has Tryz.prog wB 17 [(6,none),(7,none)] akp:=⟨Tryz.f112,by kernel_rfl,by kernel_rfl⟩
theorem v7:Has Tryz.prog ng 9 [(4,none)] akq:=⟨Tryz.f113,by kernel_rfl,by kernel_rfl⟩
theorem Cz:Has Tryz.prog gK 26 [(4,none)] aks:=⟨Tryz.f114,by kernel_rfl,by kernel_rfl⟩
theorem uh:Has Tryz.prog cq 9 [(4,none)] akt:=⟨Tryz.f115,by kernel_rfl,by kernel_rfl⟩
theorem Al:Has Tryz.prog mA 65 [(10,none)] akA:=⟨Tryz.f120,by kernel_rfl,by kernel_rfl⟩
theorem Er:Has Tryz.prog oa 18 [(2,none)] akG:=⟨Tryz.f128,by kernel_rfl,by kernel_rfl⟩
theorem rE:Has Tryz.prog fW 9 [(4,none)] akH:=⟨Tryz.f129,by kernel_rfl,by kernel_rfl⟩
theorem CA:Has Tryz.prog oK 8 [(3,none)] akI:=⟨Tryz.f130,by kernel_rfl,by kernel_rfl⟩
theorem Es:Has Tryz.prog qj 38 [(8,none)] akO:=⟨Tryz.f131,by kernel_rfl,by kernel_rfl⟩
theorem yn:Has Tryz.prog vy 28 [(4,none)] akV:=⟨Tryz.f132,by kernel_rfl,by kernel_rfl⟩
theorem yo:Has Tryz.prog rn 9 [(2,none)] akX:=⟨Tryz.f133,by kernel_rfl,by kernel_rfl⟩
theorem HM:Has Tryz.prog p9 24 [(4,none),(5,none)] ak3:=⟨Tryz.f134,by kernel_rfl,by kernel_rfl⟩
theorem pz:Has Tryz.prog vz 29 [(4,none)] ak7:=⟨Tryz.f135,by kernel_rfl,by kernel_rfl⟩
theorem uD:Has Tryz.prog rp 60 [(4,none)] ali:=⟨Tryz.f136,by kernel_rfl,by kernel_rfl⟩
theorem Dy:Has Tryz.prog sg 41 [(4,none)] alq:=⟨Tryz.f137,by kernel_rfl,by kernel_rfl⟩
theorem HN:Has Tryz.prog xq 9 [(2,none)] alr:=⟨Tryz.f141,by kernel_rfl,by kernel_rfl⟩
theorem FM:Has Tryz.prog oZ 18 [(4,none)] als:=⟨Tryz.f142,by kernel_rfl,by kernel_rfl⟩
theorem FN:Has Tryz.prog rr 18 [(4,none)] alu:=⟨Tryz.f143,by kernel_rfl,by kernel_rfl⟩
theorem Et:Has Tryz.prog tZ 27 [(2,none)] alA:=⟨Tryz.f144,by kernel_rfl,by kernel_rfl⟩
theorem om:Has Tryz.prog ld 92 [(6,none),(7,none)] alP:=⟨Tryz.f145,by kernel_rfl,by kernel_rfl⟩
def Bt (c:UInt8):Bool:=decide ((c.toNat:Int)≥97) && decide ((c.toNat:Int)≤122)
def Eu (c:UInt8):Bool:=decide ((c.toNat:Int)≥48) && decide ((c.toNat:Int)≤57)
def isB (c:UInt8):Bool:=(c.toNat:Int)==32 ||(c.toNat:Int)==9 ||(c.toNat:Int)==10 ||(c.toNat:Int)==13
def o7:aG→Nat
 | []=>0
 |c::r=>if Bt c ||Eu c then o7 r+1 else 0
def acF:aG→Nat
 | []=>0
 |c::r=>if Eu c then acF r+1 else 0
def OW:aG→Nat
 | []=>0
 |c::r=>if(c.toNat:Int) != 10 then OW r+1 else 0
def isWord (s:aG):Bool:=
 s == [103,108,111,98,97,108] ||s == [112,114,111,99] ||s == [118,97,114] ||s == [114,101,102] ||s == [105,102] ||s == [101,108,115,101] ||s == [119,104,105,108,101] ||s == [98,114,101,97,107] ||s == [99,111,110,116,105,110,117,101] ||s == [114,101,116,117,114,110] ||s == [103,111,116,111] ||s == [114,101,97,100] ||s == [112,114,105,110,116]
def agK (s:aG):Bool:=s == [61,61] ||s == [33,61] ||s == [60,61] ||s == [62,61] ||s == [38,38] ||s == [124,124]
def Xu (c:UInt8):Bool:=
 (c.toNat:Int)==40 ||(c.toNat:Int)==41 ||(c.toNat:Int)==123 ||(c.toNat:Int)==125 ||(c.toNat:Int)==44 ||(c.toNat:Int)==59 ||(c.toNat:Int)==58 ||(c.toNat:Int)==61 ||
 (c.toNat:Int)==33 ||(c.toNat:Int)==60 ||(c.toNat:Int)==62 ||(c.toNat:Int)==43 ||(c.toNat:Int)==45 ||(c.toNat:Int)==42 ||(c.toNat:Int)==47 ||(c.toNat:Int)==37
def Xv:aG→Nat
 | []=>0
 | [c]=>if Xu c then 1 else 0
 |c::d::_=>if agK [c,d]then 2 else if Xu c then 1 else 0
def bB:Int→aG→Option Int
 |n,[]=>some n
 |n,c::r=>if n > (9223372036854775807 - ((c.toNat:Int) - 48)) / 10 then none else bB (n*10+((c.toNat:Int) - 48)) r
def anm (pos:Nat):aG→pZ ⊕ Int
 | []=> .inr 2
 | c::r=>
  if Bt c then
   let s:=(c::r).take (o7 (c::r))
   if s.length > 8 then .inr 4 else .inl ⟨if isWord s then 3 else 1,s,0,pos⟩
  else if Eu c then
   let s:=(c::r).take (acF (c::r))
   if s.length > 1∧(c.toNat:Int)=48 then .inr 2 else
   match bB 0 s with
   |some n=> .inl ⟨2,s,n,pos⟩
   |none=> .inr 4
  else
   if Xv (c::r)=0 then .inr 2 else .inl ⟨4,(c::r).take (Xv (c::r)),0,pos⟩
def OX:Nat→Nat→aG→List pZ→List pZ×Int×Int
 | 0,_,_,_=>([],0,0)
 |_+1,pos,[],out=>(out++ [⟨0,[],0,pos⟩],0,0)
 | n+1,pos,c::r,out=>
  if isB c then OX n (pos+1) r out
  else if(c.toNat:Int)==35 then OX n (pos+OW (c::r)) ((c::r).drop (OW (c::r))) out
  else match anm pos (c::r)with
   | .inr e=>([],e,pos)
   | .inl t=>if out.length=2000 then([],4,pos)else OX n (pos+t.text.length) ((c::r).drop t.text.length) (out++ [t])
def yp (text:aG):List pZ×Int×Int:=if text.length > 100000 then([],4,0)else OX (text.length+1) 0 text []
def Ce:aG→Bool
 | []=>true
 |c::r=>if !(Bt c) && !(Eu c)then false else Ce r
def isName:aG→Bool
 | []=>false
 |c::r=>if decide (((r.length+1:Nat):Int) > 8) || !(Bt c)then false else if Ce r then !(isWord (c::r))else false
def od (op:Int):Int:=if op==1 ||op==2 then 0 else if op==3 ||op==4 then 1 else if decide (op≥5) && decide (op≤17)then 2 else -1
mutual
def Ex.form:Ex→Bool
 |⟨op,n,name,kids⟩=>
  if od op != (kids.length:Int) ||(op != 1 && n != 0) ||decide (n<0) || !((op==2) == !(name == [])) ||(!(name == []) && !(isName name))then false else Ex.sK kids
def Ex.sK:List Ex→Bool
 | []=>true
 |x::l=>if !(Ex.form x)then false else Ex.sK l
end
mutual
def Ex.texts:Ex→Prop
 |⟨_,_,name,kids⟩=>name.length<4611686018427387904∧Ex.vE kids
def Ex.vE:List Ex→Prop
 | []=>True
 |x::l=>x.texts∧Ex.vE l
end
theorem Ex.Ev {x:Ex} : ∀ {l:List Ex},Ex.vE l→x∈l→x.texts
 |y::l,h,m=>by
  rcases List.mem_cons.1 m with rfl|m
  ·exact h.1
  ·exact Ex.Ev h.2 m
theorem Ex.Rr {op n:Int} {name:aG} {kids:List Ex} (h:Ex.texts ⟨op,n,name,kids⟩) {y:Ex} (m:y∈kids):y.texts:=Ex.Ev h.2 m
def Ex.may (x:Ex):Bool:=decide (((min x.depth 21:Nat):Int)≤20) && x.form
def Ex.none (x:Ex):Bool:=x.op==0 && x.n==0 && x.name == [] && (x.kids.length:Int)==0
def fa:List aG→Bool
 | []=>true
 |s::l=>if !(isName s)then false else fa l
def Ar.may (a:Ar):Bool:=if a.ref then isName a.name && a.x.none else a.name == [] && a.x.may
def Ar.fK:List Ar→Bool
 | []=>true
 |a::l=>if !(a.may)then false else Ar.fK l
def Sm.OY (s:Sm):Bool:=s.kind==1 ||s.kind==3 ||s.kind==5 ||s.kind==6 ||(s.kind==9 && s.has)
def Sm.hasName (s:Sm):Bool:=s.kind==1 ||s.kind==2 ||s.kind==10
def Sm.yr (s:Sm):Bool:=s.kind==4
def Sm.one (s:Sm):Bool:=
 if decide (s.kind<1) ||decide (s.kind > 10) || !(fa s.labels) ||(s.OY && !(s.x.may)) ||(!(s.OY) && !(s.x.none)) ||(s.has && s.kind != 9)then false
 else if(s.hasName && !(isName s.name)) ||(!(s.hasName) && !(s.name == []) && !(s.yr && isName s.name))then false
 else if !(s.yr == !(s.proc == [])) ||(s.yr && !(isName s.proc)) ||(!(s.yr) && decide ((s.args.length:Int) > 0))then false
 else if !(Ar.fK s.args)then false
 else((s.aZ.length:Int)==0 ||s.kind==5 ||s.kind==6) && ((s.aR.length:Int)==0 ||s.kind==5)
structure It where
 s:Sm
 deep:Int
 cy:Int
 aR:Bool
mutual
def iO (deep cy:Int) (aR:Bool) (out:List It):Sm→List It
 |⟨id,kind,labels,name,proc,x,has,args,aZ,e⟩=>
  if decide (deep≤12)then dQ (deep+1) id true (dQ (deep+1) id false (out++ [⟨⟨id,kind,labels,name,proc,x,has,args,aZ,e⟩,deep,cy,aR⟩]) aZ) e
  else out++ [⟨⟨id,kind,labels,name,proc,x,has,args,aZ,e⟩,deep,cy,aR⟩]
def dQ (deep cy:Int) (aR:Bool) (out:List It):List Sm→List It
 | []=>out
 |s::l=>if decide ((out.length:Int)≤200)then dQ deep cy aR (iO deep cy aR out s) l else out
end
def Pc.flat (f:Pc):List It:=dQ 1 0 false [] f.body
def allM (out:List It):List Pc→List It
 | []=>out
 |f::l=>if decide (((out++f.flat).length:Int) > 200)then out++f.flat else allM (out++f.flat) l
def Pg.all (p:Pg):List It:=allM [] p.procs
def Pm.fK:List Pm→Bool
 | []=>true
 |a::l=>if !(isName a.name)then false else Pm.fK l
def Pc.nU:List Pc→Bool
 | []=>true
 |f::l=>
  if !(isName f.name) ||decide ((f.params.length:Int) > 8) ||decide ((f.vars.length:Int) > 16) || !(fa f.vars) || !(fa f.fin)then false
  else if !(Pm.fK f.params)then false else Pc.nU l
def It.fK (n:Nat):List It→Bool
 | []=>true
 |i::l=>if i.s.id != ((n+1:Nat):Int) ||decide (i.deep > 12) || !(i.s.one)then false else It.fK (n+1) l
def Pg.may (p:Pg):Bool:=
 if decide ((p.globals.length:Int) > 16) ||decide ((p.procs.length:Int) > 16) || !(fa p.globals)then false
 else if !(Pc.nU p.procs)then false
 else if decide ((p.all.length:Int) > 200)then false else It.fK 0 p.all
open Go.Proofs
@[go_sem] def avp (r:Rd):List D:= [.slice .shared 4 (r.l.map jO), .int .i64 r.i, .int .i64 r.code, .int .i64 r.Jl, .int .i64 r.n]
set_option maxRecDepth 8000
open Go.Proofs
theorem si (c:UInt8) (s:St):aF Tryz.prog rm [.int .u8 (c.toNat:Int)] s (.bool (Bt c)) s:=by
 refine aF.pure ?_ rfl rfl s
 generalize h:Bt c=b
 unfold Bt at h
 unfold S0
 refine aF.go FL rfl fun B Q hB hQ=>?_
 have⟨hD,hY,hZ,gA⟩:=bQ
 repeat' (first
 |simp only[go_sem,hD,hY,hZ,gA]
 |(with_reducible first|refine bo fun hc=>?_|refine bp fun hc=>?_|refine bq (fun hc=>?_) fun hc=>?_)<;>(try simp only[hc,bs,↓reduceIte]at h)<;>try simp only[hc]
 |(with_reducible refine aD hQ ?_;exact fS))
theorem FP (c:UInt8) (s:St):aF Tryz.prog xq [.int .u8 (c.toNat:Int)] s (.bool (Eu c)) s:=by
 refine aF.pure ?_ rfl rfl s
 generalize h:Eu c=b
 unfold Eu at h
 unfold S0
 refine aF.go HN rfl fun B Q hB hQ=>?_
 have⟨hD,hY,hZ,gA⟩:=bQ
 repeat' (first
 |simp only[go_sem,hD,hY,hZ,gA]
 |(with_reducible first|refine bo fun hc=>?_|refine bp fun hc=>?_|refine bq (fun hc=>?_) fun hc=>?_)<;>(try simp only[hc,bs,↓reduceIte]at h)<;>try simp only[hc]
 |(with_reducible refine aD hQ ?_;exact fS))
theorem acG (t:aG) (s:St):aF Tryz.prog za [.str t] s (.bool (isWord t)) s:=by
 refine aF.pure ?_ rfl rfl s
 generalize h:isWord t=b
 unfold isWord at h
 unfold S0
 refine aF.go Jw rfl fun B Q hB hQ=>?_
 have⟨hD,hY,hZ,gA⟩:=bQ
 repeat' (first
 |simp only[go_sem,hD,hY,hZ,gA]
 |(with_reducible first|refine bo fun hc=>?_|refine bp fun hc=>?_|refine bq (fun hc=>?_) fun hc=>?_)<;>(try simp only[hc,bs,↓reduceIte]at h)<;>try simp only[hc]
 |(with_reducible refine aD hQ ?_;exact fS))
theorem agL {text:aG} {pos:Nat} (hl:text.length<4611686018427387904) (s:St):aF Tryz.prog Bj [.str text, .int .i64 (pos:Int)] s (.int .i64 ((pos+o7 (text.drop pos):Nat):Int)) s:=by
 refine aF.pure ?_ rfl rfl s
 unfold S0
 refine aF.go Lf rfl fun B Q hB hQ=>?_
 have⟨hD,hY,hZ,gA⟩:=bQ
 repeat' (first
 |simp only[go_sem,hD,hY,hZ,gA]
 |(with_reducible refine aD hQ ?_;exact bc))
 refine e8 0 0 (bl.ind (ι:=aG×Nat) (fun i=>text.drop i.2=i.1∧i.2+o7 i.1=pos+o7 (text.drop pos)) (fun i=>i.1.length)
  (fun i=> [(0, .str text),(1, .int .i64 (i.2:Int))]) (fun i=>⟨[],[]⟩) ?_ (text.drop pos,pos) ⟨rfl,rfl⟩)
 rintro⟨rest,k⟩ ⟨h1,h2⟩ IH
 dsimp only at h1 h2
 cases rest with
 |nil=>
  have hD:=drop_nil h1
  simp only[o7,Nat.add_zero]at h2
  rw[← h2]at hQ
  repeat' (first
 |simp only[go_sem,hD,hY,hZ,gA]
 |(with_reducible refine aD hQ ?_;exact bc))
 | cons c rest=>
  obtain⟨hY,g2,hD,g4⟩:=drop_cons h1
  have hZ:k<4611686018427387904:=by omega
  cases hb:(Bt c ||Eu c)
  ·simp only [o7,hb,Bool.false_eq_true, ↓reduceIte,Nat.add_zero]at h2
   rw[← h2]at hQ
   simp only[Bool.or_eq_false_iff]at hb
   repeat' (first
 |simp only[go_sem,hD,hY,hZ,gA,hb.1,hb.2]
 |(with_reducible refine CU (si _ _) ?_)
 |(with_reducible refine CU (FP _ _) ?_)
 | (with_reducible refine aD hQ ?_;exact bc))
  ·simp only [o7,hb, ↓reduceIte]at h2
   cases IJ:Bt c
   ·rw [IJ,Bool.false_or]at hb
    repeat' (first
 |simp only[go_sem,hD,hY,hZ,gA,hb,IJ]
 |(with_reducible refine CU (si _ _) ?_)
 |(with_reducible refine CU (FP _ _) ?_)
 | (with_reducible refine aD hQ ?_;exact bc))
    refine e8 0 0 (IH (rest,k+1) ⟨g2,by dsimp only;omega⟩ (Nat.lt_succ_self _))
   ·repeat' (first
 |simp only[go_sem,hD,hY,hZ,gA,IJ]
 |(with_reducible refine CU (si _ _) ?_)
 |(with_reducible refine CU (FP _ _) ?_)
 | (with_reducible refine aD hQ ?_;exact bc))
    refine e8 0 0 (IH (rest,k+1) ⟨g2,by dsimp only;omega⟩ (Nat.lt_succ_self _))
def atZ (s:aG):Int×Bool:=match bB 0 s with|some n=>(n,true)|none=>(0,false)
open Go.Proofs
def zm (f:Int×Int):List D:= [.int .i64 f.1, .int .i64 f.2]
def agM (text:aG) (out:List pZ) (pos:Nat):Tm:= [(0, .str text),(3, .ptr 0 0),(4, .slice (.tok 0) 4 (out.map jO)),(5, .ptr 1 0),(6, .int .i64 (pos:Int))]
def agN (out:List pZ):St:=⟨[[.int .i64 0, .int .i64 0],[.junk, .junk, .junk, .junk]],[some out.length]⟩
attribute [go_sem] agM agN zm
end Go.Abs
namespace Go.Abs
set_option maxRecDepth 8000
open Go.Proofs
def aoc (s:aG):Bool:=
 [103,108,111,98,97,108] == s || [112,114,111,99] == s || [118,97,114] == s || [114,101,102] == s || [105,102] == s || [101,108,115,101] == s || [119,104,105,108,101] == s || [98,114,101,97,107] == s || [99,111,110,116,105,110,117,101] == s || [114,101,116,117,114,110] == s || [103,111,116,111] == s || [114,101,97,100] == s || [112,114,105,110,116] == s
def OpR (p:Int×Int):Prop:=0≤p.2∧p.2≤6
@[go_sem] def avq (z:D) (r:Rd):List D:= [.slice .shared 4 (r.l.map jO), .int .i64 r.i, .int .i64 r.code, .int .i64 r.Jl,z]
class Cell (z:D):Prop where
 ok:D.ok 0 0 z=true
 fg : ∀ n m,D.fg n m z=z
instance (n:Int):Cell (.int .i64 n):=⟨rfl,fun _ _=>rfl⟩
instance:Cell .junk:=⟨rfl,fun _ _=>rfl⟩
theorem Zf (z:D) [h:Cell z] (n m:Nat):D.fg n m z=z:=h.fg n m
attribute [go_sem] Zf
def Rd.isO (text:aG) (r:Rd):Option Bool:=if r.good then r.is text else some false
end Go.Abs
namespace Go.Abs
open Go.Proofs
def acH (s:aG):Int×Int:=
 if [42] == s then(6,5)else if [47] == s then(6,6)else if [37] == s then(6,7)else if [43] == s then(5,8)else if [45] == s then(5,9)
 else if [60] == s then(4,10)else if [60,61] == s then(4,11)else if [62] == s then(4,12)else if [62,61] == s then(4,13)
 else if [61,61] == s then(3,14)else if [33,61] == s then(3,15)else if [38,38] == s then(2,16)else if [124,124] == s then(1,17)else(0,0)
def BZ (p:Int×Int):Prop:=(p.2==0)=(p.1==0)
set_option maxRecDepth 8000
open Go.Proofs
structure Sm.ui (s:Sm):Prop where
 Xw : ∀ t∈s.labels,t.length<4611686018427387904
 ann:s.labels.length<4611686018427387904
 name:s.name.length<4611686018427387904
 proc:s.proc.length<4611686018427387904
 x:s.x.size<4611686018427387904
 xt:s.x.texts
 ano:s.args.length<4611686018427387904
 arg : ∀ a∈s.args,a.x.size<4611686018427387904∧a.x.texts∧a.name.length<4611686018427387904
section
variable {v:Sm} {B:fR} {Q:Exit→Tm→St→Prop} {p:Bool}
end
theorem aF.goS {P:Program} {f:FuncId} {nt:Nat} {res:List (Nat×Option (Bool×Nat))} {body:AC} {args:List D} {s:St} {d:D} {s':St} (h0:Has P f nt res body) (hl:Nat.ble args.length nt=true)
 (h : ∀ (B:fR) (Q:Exit→Tm→St→Prop),B.s=s→pM s.ah.length s.aw.length res d s'=Q→Sem P B nt body Q (mN 0 args) s):aF P f args s d s':=by
 obtain⟨fn,hf,hc⟩:=h0
 exact aF.intro ⟨fn,hf,hc⟩ (Nat.le_of_ble_eq_true hl) fun B hB=>h B _ hB rfl
end Go.Abs
namespace Go.Abs
set_option maxRecDepth 8000
open Go.Proofs
def dr (i:Im):List D:= [.int .i64 i.s.id, .int .i64 i.s.kind, .slice .shared 1 (i.s.labels.map encStr), .str i.s.name, .str i.s.proc,
 .int .i64 i.s.x.op, .int .i64 i.s.x.n, .str i.s.x.name, .slice .shared 4 (i.s.x.kids.map cd), .bool i.s.has, .slice .shared 6 (i.s.args.map ey), .slice .shared 13 (i.s.aZ.map bb), .slice .shared 13 (i.s.aR.map bb), .int .i64 i.proc, .int .i64 i.up, .int .i64 i.next, .int .i64 i.loop]
def cm (n:Int):List D:= [.int .i64 n]
theorem OZ (i:Im):D.bK 0 0 (dr i)=true:=by simp[dr,D.bK,D.ok,Tag.ok,e9,WG,HZ,px]
theorem H2 (l:List Im):D.gQ 0 0 (l.map dr)=true:=gR OZ l
theorem Xx (n m:Nat) (l:List Im):D.ku n m (l.map dr)=l.map dr:=lR OZ n m l
theorem agO (n m:Nat) (i:Im):D.gn n m (dr i)=dr i:=gY n m _ (OZ i)
theorem agP (x:Im):(dr x).length=17:=nd rfl
theorem Zg (x:Im):List.take 17 (dr x)=dr x:=nd rfl
theorem acI (x:Im):List.drop 17 (dr x) = []:=nd rfl
theorem acJ (x:Im):List.take 13 (dr x)=bb x.s:=by simp only[dr,ek];rfl
theorem UU (x:Im):(dr x)[0]? = some (.int .i64 x.s.id):=nd rfl
theorem UW (x:Im):(dr x)[1]? = some (.int .i64 x.s.kind):=nd rfl
theorem UX (x:Im):(dr x)[4]? = some (.str x.s.proc):=nd rfl
theorem Rs (x:Im):(dr x)[13]? = some (.int .i64 x.proc):=nd rfl
theorem Rt (x:Im):(dr x)[14]? = some (.int .i64 x.up):=nd rfl
theorem Ru (x:Im):(dr x)[15]? = some (.int .i64 x.next):=nd rfl
theorem Rv (x:Im):(dr x)[16]? = some (.int .i64 x.loop):=nd rfl
theorem O0 (s:Sm) (a b c d:Int):dr ⟨s,a,b,c,d⟩ = [.int .i64 s.id, .int .i64 s.kind, .slice .shared 1 (s.labels.map encStr), .str s.name, .str s.proc,
 .int .i64 s.x.op, .int .i64 s.x.n, .str s.x.name, .slice .shared 4 (s.x.kids.map cd), .bool s.has, .slice .shared 6 (s.args.map ey), .slice .shared 13 (s.aZ.map bb), .slice .shared 13 (s.aR.map bb), .int .i64 a, .int .i64 b, .int .i64 c, .int .i64 d]:=nd rfl
theorem Xy (n:Int):D.bK 0 0 (cm n)=true:=rfl
theorem iI (l:List Int):D.gQ 0 0 (l.map cm)=true:=gR Xy l
theorem Rw (n m:Nat) (l:List Int):D.ku n m (l.map cm)=l.map cm:=lR Xy n m l
attribute [go_sem] Xx agO agP Zg acI acJ UU UW UX Rs Rt Ru Rv Rw cm
theorem acK : ∀ n,n<1000000000→∀ v:Sm,v.size≤n→aF Tryz.prog mz [.agg (bb v)] S0 (.int .i64 (v.jw:Int)) S0:=by
 intro n
 induction n with
 |zero=>intro _ v h;obtain⟨_,_,_,_,_,_,_,_,_,_⟩:=v;simp only[Sm.size]at h;omega
 |succ n ih=>
 intro hn v hv
 have dM:Sm.aY v.aZ≤n∧Sm.aY v.aR≤n∧v.jw=1+Sm.jc v.aZ+Sm.jc v.aR:=by
  obtain⟨_,_,_,_,_,_,_,_,_,_⟩:=v
  simp only[Sm.size]at hv;exact⟨by dsimp only;omega,by dsimp only;omega,rfl⟩
 obtain⟨h1,h2,h3⟩:=dM
 have c1:=nH v.aZ
 have c2:=nH v.aR
 have l1:=Sm.eB v.aZ
 have l2:=Sm.eB v.aR
 have hk : ∀ y,y∈v.aZ∨y∈v.aR→∀ s,aF Tryz.prog mz [.agg (bb y)] s (.int .i64 (y.jw:Int)) s:=fun y hy s=>
  (ih (by omega) y (by rcases hy with hy|hy<;>(have:=Sm.dc hy;omega))).pure (by simp only[D.bK,D.ok,qv];rfl) rfl s
 rw[h3]
 unfold S0
 refine aF.go HK rfl fun B Q hB hQ=>?_
 have⟨hD,hY,hZ,gA⟩:=bQ
 repeat' (first
 |simp only[go_sem,hD,hY,hZ,gA]
 |(with_reducible refine aD hQ ?_;exact bc))
 refine e8 1 0 (bl.ind (ι:=List Sm×Nat×Nat) (fun i=>v.aZ.drop i.2.1=i.1∧i.2.2+Sm.jc i.1=1+Sm.jc v.aZ) (fun i=>i.1.length)
  (fun i=> [(1, .ptr 0 0),(3, .int .i64 (i.2.2:Int)),(9, .slice .shared 13 (v.aZ.map bb)),(10, .int .i64 (v.aZ.length:Int)),(11, .int .i64 (i.2.1:Int))]) (fun i=>⟨[bb v],[]⟩) ?_ (v.aZ,0,1) ⟨rfl,rfl⟩)
 rintro⟨rest,k,c⟩ ⟨g1,g2⟩ IH
 dsimp only at g1 g2
 cases rest with
 |cons y rest=>
  obtain⟨hY,g3,hD,g4⟩:=drop_cons g1
  have hy:=hk y (.inl (List.mem_of_getElem? hY))
  simp only[Sm.jc]at g2
  have hcy:=Dq y
  have Gj:=Sm.dc (List.mem_of_getElem? hY)
  have w1:IntKind.wrap .i64 ((k:Int)+1)=((k+1:Nat):Int):=by rw[dU]<;>omega
  have w2:IntKind.wrap .i64 ((c:Int)+(y.jw:Int))=((c+y.jw:Nat):Int):=by rw[dU]<;>omega
  repeat' (first
 |simp only[go_sem,hD,hY,hZ,gA,w1,w2]
 |(with_reducible refine CU (hy _) ?_)
 |(with_reducible refine aD hQ ?_;exact bc))
  refine e8 1 0 (IH (rest,k+1,c+y.jw) ⟨g3,by dsimp only;omega⟩ (Nat.lt_succ_self _))
 |nil=>
  have hD:=drop_nil g1
  simp only[Sm.jc,Nat.add_zero]at g2
  subst g2
  repeat' (first
 |simp only[go_sem,hD,hY,hZ,gA]
 | (with_reducible refine aD hQ ?_;exact bc))
  refine e8 1 0 (bl.ind (ι:=List Sm×Nat×Nat) (fun i=>v.aR.drop i.2.1=i.1∧i.2.2+Sm.jc i.1=1+Sm.jc v.aZ+Sm.jc v.aR) (fun i=>i.1.length)
   (fun i=> [(1, .ptr 0 0),(3, .int .i64 (i.2.2:Int)),(21, .slice .shared 13 (v.aR.map bb)),(22, .int .i64 (v.aR.length:Int)),(23, .int .i64 (i.2.1:Int))]) (fun i=>⟨[bb v],[]⟩) ?_ (v.aR,0,1+Sm.jc v.aZ) ⟨rfl,rfl⟩)
  rintro⟨rest,k,c⟩ ⟨g1,g2⟩ IH
  dsimp only at g1 g2
  cases rest with
  |cons y rest=>
   obtain⟨hY,g3,hD,g4⟩:=drop_cons g1
   have hy:=hk y (.inr (List.mem_of_getElem? hY))
   simp only[Sm.jc]at g2
   have hcy:=Dq y
   have Gj:=Sm.dc (List.mem_of_getElem? hY)
   have w1:IntKind.wrap .i64 ((k:Int)+1)=((k+1:Nat):Int):=by rw[dU]<;>omega
   have w2:IntKind.wrap .i64 ((c:Int)+(y.jw:Int))=((c+y.jw:Nat):Int):=by rw[dU]<;>omega
   repeat' (first
 |simp only[go_sem,hD,hY,hZ,gA,w1,w2]
 |(with_reducible refine CU (hy _) ?_)
 | (with_reducible refine aD hQ ?_;exact bc))
   refine e8 1 0 (IH (rest,k+1,c+y.jw) ⟨g3,by dsimp only;omega⟩ (Nat.lt_succ_self _))
  |nil=>
   have hD:=drop_nil g1
   simp only[Sm.jc,Nat.add_zero]at g2
   subst g2
   repeat' (first
 |simp only[go_sem,hD,hY,hZ,gA]
 |(with_reducible refine aD hQ ?_;exact bc))
theorem acL {v:Sm} (h:v.size<1000000000) (s:St):aF Tryz.prog mz [.agg (bb v)] s (.int .i64 (v.jw:Int)) s:=
 (acK v.size h v (Nat.le_refl _)).pure (by simp only[D.bK,D.ok,qv];rfl) rfl s
end Go.Abs
namespace Go.Abs
set_option maxRecDepth 8000
open Go.Proofs
abbrev iP (g ps:D) (L:List Im) (lo hi:List Int):List D:= [g,ps, .slice (.tok 0) 17 (L.map dr), .slice (.tok 1) 1 (lo.map cm), .slice (.tok 2) 1 (hi.map cm)]
abbrev UY (proc up next loop:Int):List D:= [.int .i64 0, .int .i64 0, .slice .full 0 [], .str [], .str [], .int .i64 0, .int .i64 0, .str [], .slice .full 0 [], .bool false, .slice .full 0 [], .slice .full 0 [], .slice .full 0 [], .int .i64 proc, .int .i64 up, .int .i64 next, .int .i64 loop]
theorem aF.agQ {P:Program} {f:Nat} {args:List D} {g ps:D} {L L':List Im} {lo hi Gp gW:List Int} {a b c a' b' c':Option Nat}
 (h:aF P f (.ptr 0 0::args) ⟨[iP g ps L lo hi],[a,b,c]⟩ (.tuple []) ⟨[iP g ps L' Gp gW],[a',b',c']⟩)
 (ha:D.bK 0 0 args=true) (hg:D.ok 0 0 g=true) (hp:D.ok 0 0 ps=true)
 {s:St} {o:Nat} (ho:s.ah[o]? = some (iP g ps L lo hi)) (ht:s.aw = [a,b,c]):aF P f (.ptr o 0::args) s (.tuple []) ⟨s.ah.set o (iP g ps L' Gp gW),[a',b',c']⟩:=by
 have hr : ∀ (L:List Im) (lo hi:List Int),D.eZ [o] [0,1,2] (iP g ps L lo hi)=iP g ps L lo hi:=fun L lo hi=>by
  simp[D.eZ,D.cW,Tag.cW,qu _ _ _ hg,qu _ _ _ hp,ji _ _ _ (H2 L),ji _ _ _ (iI lo),ji _ _ _ (iI hi)]
 have hk : ∀ (L:List Im) (lo hi:List Int),D.bK 1 3 (iP g ps L lo hi)=true:=fun L lo hi=>by
  simp[D.bK,D.ok,Tag.ok,Fs (Nat.zero_le 1) (Nat.zero_le 3) _ hg,Fs (Nat.zero_le 1) (Nat.zero_le 3) _ hp,mr (Nat.zero_le 1) (Nat.zero_le 3) _ (H2 L),mr (Nat.zero_le 1) (Nat.zero_le 3) _ (iI lo),mr (Nat.zero_le 1) (Nat.zero_le 3) _ (iI hi)]
 refine bL.frame [o] [0,1,2] h (by simp) (by decide) (by simpa using (List.getElem?_eq_some_iff.1 ho).1) (by rw[ht];simp) rfl (fun i o' ds e1 e2=>?_) rfl (fun i t' e1=>?_)
  (by simp[D.eZ,D.cW,fz _ _ _ ha])
  (by simp[D.bK,D.ok,il (Nat.zero_le 1) (Nat.zero_le 3) _ ha]) ?_
 ·cases i with
  |zero=>simp only[List.getElem?_cons_zero,Option.some.injEq]at e1 e2;subst e1;subst e2;exact⟨by rw[hr];exact ho,hk L lo hi⟩
  |succ i=>simp at e1
 ·rw [ht]
  match i,e1 with
  | 0,e1=>simp at e1;subst e1;rfl
  | 1,e1=>simp at e1;subst e1;rfl
  | 2,e1=>simp at e1;subst e1;rfl
  |i+3,e1=>simp at e1
 ·rintro _ _ ⟨rfl,rfl⟩
  refine⟨by simp[D.back,D.cW,D.eZ], ?_⟩
  have:=hr L' Gp gW
  simp[St.back,kB,kx,this,ht]
abbrev Xz (N:Nat):Prop:=∀ (l:List Sm) (proc up next loop:Int) (out:List Im) (g ps:D) (lo hi:List Int) (b c:Option Nat),Sm.aY l<N→out.length+Sm.jc l<1000000000→D.ok 0 0 g=true→D.ok 0 0 ps=true→
 ∀ {s:St} {o:Nat},s.ah[o]? = some (iP g ps out lo hi)→s.aw = [some out.length,b,c]→
 aF Tryz.prog jV [.ptr o 0, .slice .shared 13 (l.map bb), .agg (UY proc up next loop)] s (.tuple []) ⟨s.ah.set o (iP g ps (Im.rows proc up next loop out l) lo hi),[some (Im.rows proc up next loop out l).length,b,c]⟩
theorem agR {N:Nat} (ih:Xz N) {l:List Sm} {proc up next loop:Int} {out:List Im} {g ps:D} {lo hi:List Int} {b c:Option Nat} (hs:Sm.aY l<N+1) (hc:out.length+Sm.jc l<1000000000) (hg:D.ok 0 0 g=true) (hp:D.ok 0 0 ps=true) (hN:N<1000000000) :
 aF Tryz.prog jV [.ptr 0 0, .slice .shared 13 (l.map bb), .agg (UY proc up next loop)] ⟨[iP g ps out lo hi],[some out.length,b,c]⟩ (.tuple []) ⟨[iP g ps (Im.rows proc up next loop out l) lo hi],[some (Im.rows proc up next loop out l).length,b,c]⟩:=by
 obtain⟨R,hR⟩ : ∃ R,R=Im.rows proc up next loop out l:=⟨_,rfl⟩
 have hlR:R.length=out.length+Sm.jc l:=by rw[hR,gB]
 rw[← hR]
 have k1 : ∀ n m,D.fg n m g=g:=fun n m=>OB n m _ hg
 have k2 : ∀ n m,D.fg n m ps=ps:=fun n m=>OB n m _ hp
 refine aF.go Bs rfl fun B Q hB hQ=>?_
 have⟨hD,hY,hZ,gA⟩:=bQ
 repeat' (first
 |simp only[go_sem,hD,hY,hZ,gA,k1,k2]
 |(with_reducible first|refine bo fun hc=>?_|refine bp fun hc=>?_|refine bq (fun hc=>?_) fun hc=>?_)<;>(try simp only[hc,bs,↓reduceIte]at h)<;>try simp only[hc]
 |(with_reducible refine aD hQ ?_;simp only[aU,aV,bI,bJ,go_sem,hD,hY,hZ,gA,k1,k2];try exact cv))
 refine eJ 2 3 ?_ ?_ (bl.ind (ι:=List Sm×Nat×List Im) (fun i=>l.drop i.2.1=i.1∧Im.rows proc up next loop i.2.2 i.1=R∧i.2.2.length+Sm.jc i.1=out.length+Sm.jc l) (fun i=>i.1.length)
  (fun i=> [(0, .ptr 0 0),(1, .slice .shared 13 (l.map bb)),(5, .ptr 1 0),(11, .slice .shared 13 (l.map bb)),(12, .int .i64 (l.length:Int)),(13, .int .i64 (i.2.1:Int))]) (fun i=>⟨[iP g ps i.2.2 lo hi,UY proc up next loop],[some i.2.2.length,b,c]⟩) ?_ (l,0,out) ⟨rfl,hR.symm,rfl⟩)
 ·(simp only[go_sem,hD,hY,hZ,gA,k1,k2];try exact bS)
 ·(simp only[go_sem,hD,hY,hZ,gA,k1,k2];try exact bS)
 rintro⟨rest,k,cD⟩ ⟨h1,h2,h3⟩ IH
 dsimp only at h1 h2 h3
 have hlen:l.length<1000000000:=by have:=Sm.eB l;omega
 cases rest with
 |nil=>
  have hD:=drop_nil h1
  simp only[Im.rows]at h2
  subst h2
  repeat' (first
 |simp only[go_sem,hD,hY,hZ,gA,k1,k2]
 |(with_reducible first|refine bo fun hc=>?_|refine bp fun hc=>?_|refine bq (fun hc=>?_) fun hc=>?_)<;>(try simp only[hc,bs,↓reduceIte]at h)<;>try simp only[hc]
 |(with_reducible refine aD hQ ?_;simp only[aU,aV,bI,bJ,go_sem,hD,hY,hZ,gA,k1,k2];try exact cv))
 | cons v rest=>
  obtain⟨hY,g2,hD,g4⟩:=drop_cons h1
  have bN:k<4611686018427387904:=by omega
  have hv:=Sm.dc (List.mem_of_getElem? hY)
  have oU:Sm.aY v.aZ<N∧Sm.aY v.aR<N∧v.jw=1+Sm.jc v.aZ+Sm.jc v.aR:=by
   obtain⟨_,_,_,_,_,_,_,_,_,_⟩:=v
   simp only[Sm.size]at hv
   exact⟨by dsimp only;omega,by dsimp only;omega,rfl⟩
  obtain⟨xW,IG,hv3⟩:=oU
  simp only[Sm.jc]at h3
  simp only[Im.rows,Im.ab7]at h2
  have hZ:(cD.length+1)*241≤bC:=by unfold bC;omega
  have LO:IntKind.wrap .i64 ((cD.length:Int)+1)=(cD.length:Int)+1:=dU (by omega) (by omega)
  have tn:IntKind.wrap .i64 ((k:Int)+1)=((k+1:Nat):Int):=by rw[dU]<;>omega
  have XA:IntKind.wrap .i64 ((cD.length:Int)+1+(v.jw:Int))=(cD.length:Int)+1+(v.jw:Int):=dU (by omega) (by omega)
  have dM:=fun s=>acL (v:=v) (by omega) s
  simp only[ek]at dM
  have A0:rest.length=l.length - (k+1):=by rw[← g2,List.length_drop]
  by_cases avr:k+1<l.length
  ·have d1:decide (((k+1:Nat):Int)<(l.length:Int))=true:=by simp;omega
   have e1:(rest.length=0)=False:=by simp;intro h;rw[h]at A0;simp at A0;omega
   by_cases Rx:v.kind=6
   ·have d2:(v.kind==6)=true:=by simp [Rx]
    simp only[e1,d2,↓reduceIte,Bool.false_eq_true]at h2
    have f1:=fun {s:St} {o:Nat}=>@ih v.aZ proc ((cD.length:Int)+1) ((cD.length:Int)+1) ((cD.length:Int)+1) (cD++ [⟨v,proc,up,((cD.length:Int)+1+(v.jw:Int)),loop⟩]) g ps lo hi b c xW (by simp;omega) hg hp s o
    have f2:=fun {s:St} {o:Nat}=>@ih v.aR proc ((cD.length:Int)+1) ((cD.length:Int)+1) ((cD.length:Int)+1) _ g ps lo hi b c IG (by rw[gB proc ((cD.length:Int)+1) ((cD.length:Int)+1) ((cD.length:Int)+1) (cD++ [⟨v,proc,up,((cD.length:Int)+1+(v.jw:Int)),loop⟩]) v.aZ];simp;omega) hg hp s o
    have hl:(Im.rows proc ((cD.length:Int)+1) ((cD.length:Int)+1) ((cD.length:Int)+1) (Im.rows proc ((cD.length:Int)+1) ((cD.length:Int)+1) ((cD.length:Int)+1) (cD++ [⟨v,proc,up,((cD.length:Int)+1+(v.jw:Int)),loop⟩]) v.aZ) v.aR).length=cD.length+v.jw:=by rw[gB,gB];simp;omega
    simp only[iP,List.map_append,List.map_cons,List.map_nil,O0,List.length_append,List.length_cons,List.length_nil]at f1
    repeat' (first
 |simp only[go_sem,hD,hY,hZ,gA,k1,k2,LO,tn,XA,d1,d2,ek]
 |(with_reducible refine CU (dM _) ?_)
 |(with_reducible refine CU (f1 (by with_unfolding_all rfl) (by with_unfolding_all rfl)) ?_)
 |(with_reducible refine CU (f2 (by with_unfolding_all rfl) (by with_unfolding_all rfl)) ?_)
 | (with_reducible refine aD hQ ?_;exact bc))
    refine eJ 2 3 ?_ ?_ (IH (rest,k+1,_) ⟨g2,h2,by dsimp only;rw[hl];omega⟩ (Nat.lt_succ_self _))
    ·(simp only[go_sem,hD,hY,hZ,gA,tn,k1,k2];try exact bS)
    ·(simp only[go_sem,hD,hY,hZ,gA,tn,k1,k2];try exact bS)
   ·have d2:(v.kind==6)=false:=by simp [Rx]
    simp only[e1,d2,↓reduceIte,Bool.false_eq_true]at h2
    have f1:=fun {s:St} {o:Nat}=>@ih v.aZ proc ((cD.length:Int)+1) ((cD.length:Int)+1+(v.jw:Int)) loop (cD++ [⟨v,proc,up,((cD.length:Int)+1+(v.jw:Int)),loop⟩]) g ps lo hi b c xW (by simp;omega) hg hp s o
    have f2:=fun {s:St} {o:Nat}=>@ih v.aR proc ((cD.length:Int)+1) ((cD.length:Int)+1+(v.jw:Int)) loop _ g ps lo hi b c IG (by rw[gB proc ((cD.length:Int)+1) ((cD.length:Int)+1+(v.jw:Int)) loop (cD++ [⟨v,proc,up,((cD.length:Int)+1+(v.jw:Int)),loop⟩]) v.aZ];simp;omega) hg hp s o
    have hl:(Im.rows proc ((cD.length:Int)+1) ((cD.length:Int)+1+(v.jw:Int)) loop (Im.rows proc ((cD.length:Int)+1) ((cD.length:Int)+1+(v.jw:Int)) loop (cD++ [⟨v,proc,up,((cD.length:Int)+1+(v.jw:Int)),loop⟩]) v.aZ) v.aR).length=cD.length+v.jw:=by rw[gB,gB];simp;omega
    simp only[iP,List.map_append,List.map_cons,List.map_nil,O0,List.length_append,List.length_cons,List.length_nil]at f1
    repeat' (first
 |simp only[go_sem,hD,hY,hZ,gA,k1,k2,LO,tn,XA,d1,d2,ek]
 |(with_reducible refine CU (dM _) ?_)
 |(with_reducible refine CU (f1 (by with_unfolding_all rfl) (by with_unfolding_all rfl)) ?_)
 |(with_reducible refine CU (f2 (by with_unfolding_all rfl) (by with_unfolding_all rfl)) ?_)
 | (with_reducible refine aD hQ ?_;exact bc))
    refine eJ 2 3 ?_ ?_ (IH (rest,k+1,_) ⟨g2,h2,by dsimp only;rw[hl];omega⟩ (Nat.lt_succ_self _))
    ·(simp only[go_sem,hD,hY,hZ,gA,tn,k1,k2];try exact bS)
    ·(simp only[go_sem,hD,hY,hZ,gA,tn,k1,k2];try exact bS)
  ·have d1:decide (((k+1:Nat):Int)<(l.length:Int))=false:=by simp;omega
   have e1:(rest.length=0)=True:=by simp only[eq_iff_iff,iff_true];omega
   by_cases Rx:v.kind=6
   ·have d2:(v.kind==6)=true:=by simp [Rx]
    simp only[e1,d2,↓reduceIte,Bool.false_eq_true]at h2
    have f1:=fun {s:St} {o:Nat}=>@ih v.aZ proc ((cD.length:Int)+1) ((cD.length:Int)+1) ((cD.length:Int)+1) (cD++ [⟨v,proc,up,next,loop⟩]) g ps lo hi b c xW (by simp;omega) hg hp s o
    have f2:=fun {s:St} {o:Nat}=>@ih v.aR proc ((cD.length:Int)+1) ((cD.length:Int)+1) ((cD.length:Int)+1) _ g ps lo hi b c IG (by rw[gB proc ((cD.length:Int)+1) ((cD.length:Int)+1) ((cD.length:Int)+1) (cD++ [⟨v,proc,up,next,loop⟩]) v.aZ];simp;omega) hg hp s o
    have hl:(Im.rows proc ((cD.length:Int)+1) ((cD.length:Int)+1) ((cD.length:Int)+1) (Im.rows proc ((cD.length:Int)+1) ((cD.length:Int)+1) ((cD.length:Int)+1) (cD++ [⟨v,proc,up,next,loop⟩]) v.aZ) v.aR).length=cD.length+v.jw:=by rw[gB,gB];simp;omega
    simp only[iP,List.map_append,List.map_cons,List.map_nil,O0,List.length_append,List.length_cons,List.length_nil]at f1
    repeat' (first
 |simp only[go_sem,hD,hY,hZ,gA,k1,k2,LO,tn,XA,d1,d2,ek]
 |(with_reducible refine CU (dM _) ?_)
 |(with_reducible refine CU (f1 (by with_unfolding_all rfl) (by with_unfolding_all rfl)) ?_)
 |(with_reducible refine CU (f2 (by with_unfolding_all rfl) (by with_unfolding_all rfl)) ?_)
 | (with_reducible refine aD hQ ?_;exact bc))
    refine eJ 2 3 ?_ ?_ (IH (rest,k+1,_) ⟨g2,h2,by dsimp only;rw[hl];omega⟩ (Nat.lt_succ_self _))
    ·(simp only[go_sem,hD,hY,hZ,gA,tn,k1,k2];try exact bS)
    ·(simp only[go_sem,hD,hY,hZ,gA,tn,k1,k2];try exact bS)
   ·have d2:(v.kind==6)=false:=by simp [Rx]
    simp only[e1,d2,↓reduceIte,Bool.false_eq_true]at h2
    have f1:=fun {s:St} {o:Nat}=>@ih v.aZ proc ((cD.length:Int)+1) next loop (cD++ [⟨v,proc,up,next,loop⟩]) g ps lo hi b c xW (by simp;omega) hg hp s o
    have f2:=fun {s:St} {o:Nat}=>@ih v.aR proc ((cD.length:Int)+1) next loop _ g ps lo hi b c IG (by rw[gB proc ((cD.length:Int)+1) next loop (cD++ [⟨v,proc,up,next,loop⟩]) v.aZ];simp;omega) hg hp s o
    have hl:(Im.rows proc ((cD.length:Int)+1) next loop (Im.rows proc ((cD.length:Int)+1) next loop (cD++ [⟨v,proc,up,next,loop⟩]) v.aZ) v.aR).length=cD.length+v.jw:=by rw[gB,gB];simp;omega
    simp only[iP,List.map_append,List.map_cons,List.map_nil,O0,List.length_append,List.length_cons,List.length_nil]at f1
    repeat' (first
 |simp only[go_sem,hD,hY,hZ,gA,k1,k2,LO,tn,XA,d1,d2,ek]
 |(with_reducible refine CU (dM _) ?_)
 |(with_reducible refine CU (f1 (by with_unfolding_all rfl) (by with_unfolding_all rfl)) ?_)
 |(with_reducible refine CU (f2 (by with_unfolding_all rfl) (by with_unfolding_all rfl)) ?_)
 | (with_reducible refine aD hQ ?_;exact bc))
    refine eJ 2 3 ?_ ?_ (IH (rest,k+1,_) ⟨g2,h2,by dsimp only;rw[hl];omega⟩ (Nat.lt_succ_self _))
    ·(simp only[go_sem,hD,hY,hZ,gA,tn,k1,k2];try exact bS)
    ·(simp only[go_sem,hD,hY,hZ,gA,tn,k1,k2];try exact bS)
theorem Zh : ∀ N,N<1000000000→Xz N:=by
 intro N
 induction N with
 |zero=>exact fun _ l proc up next loop out g ps lo hi b c h=>absurd h (Nat.not_lt_zero _)
 |succ N ih=>
  intro h l proc up next loop out g ps lo hi b c hs hc hg hp s o ho ht
  exact(agR (ih (by omega)) hs hc hg hp (by omega)).agQ (by simp[D.bK,D.ok,Tag.ok,px,D.gQ]) hg hp ho ht
def fv (p:Pg):List D:= [.slice .shared 1 (p.globals.map encStr), .slice .shared 5 (p.procs.map cj), .slice .shared 17 (p.aX.L.map dr), .slice .shared 1 (p.aX.lo.map cm), .slice .shared 1 (p.aX.hi.map cm)]
theorem nV (p:Pg):fv p = [.slice .shared 1 (p.globals.map encStr), .slice .shared 5 (p.procs.map cj), .slice .shared 17 (p.aX.L.map dr), .slice .shared 1 (p.aX.lo.map cm), .slice .shared 1 (p.aX.hi.map cm)]:=nd rfl
theorem uj (p:Pg):D.bK 0 0 (fv p)=true:=by simp[fv,D.bK,D.ok,Tag.ok,e9,wx,H2,iI]
theorem Ew (p:Pg):cr p = [.slice .shared 1 (p.globals.map encStr), .slice .shared 5 (p.procs.map cj)]:=nd rfl
theorem agS {p:Pg} (hs:Pc.aY p.procs<1000000000):aF Tryz.prog kR [.agg (cr p)] S0 (.ptr 1 0) ⟨[cr p,iP (.slice .shared 1 (p.globals.map encStr)) (.slice .shared 5 (p.procs.map cj)) p.aX.L p.aX.lo p.aX.hi],[some p.aX.L.length,some p.aX.lo.length,some p.aX.hi.length]⟩:=by
 have hlen:p.procs.length<1000000000:=by have:=Pc.eB p.procs;omega
 obtain⟨R,hR⟩ : ∃ R,R=p.aX:=⟨_,rfl⟩
 have hR':=hR
 unfold Pg.aX at hR'
 unfold S0
 rw[Ew, ← hR]
 refine aF.goK 2 3 (Nat.zero_le _) (Nat.zero_le _) Jp rfl fun B Q hB hQ=>?_
 have⟨hD,hY,hZ,gA⟩:=bQ
 repeat' (first
 |simp only[go_sem,hD,hY,hZ,gA,Ew]
 |(with_reducible refine aD hQ ?_;exact bc))
 refine bl.Dn 1 2 17 rfl rfl ?_
 simp only[go_sem,hD,hY,hZ,gA]
 refine bl.Dn 1 3 1 rfl rfl ?_
 simp only[go_sem,hD,hY,hZ,gA]
 refine bl.Dn 1 4 1 rfl rfl ?_
 simp only[go_sem,hD,hY,hZ,gA]
 refine eJ 2 3 ?_ ?_ (bl.ind (ι:=List Pc×Nat×Sh×Nat×Nat) (fun i=>p.procs.drop i.2.1=i.1∧Sh.go i.2.1 i.2.2.1 i.1=R∧i.2.2.1.L.length+Pc.aY i.1≤Pc.aY p.procs∧i.2.2.1.lo.length=i.2.1∧i.2.2.1.hi.length=i.2.1∧i.2.2.2.1=i.2.2.1.lo.length∧i.2.2.2.2=i.2.2.1.hi.length) (fun i=>i.1.length)
  (fun i=> [(1, .ptr 0 0),(3, .ptr 1 0),(10, .slice .shared 5 (p.procs.map cj)),(11, .int .i64 (p.procs.length:Int)),(12, .int .i64 (i.2.1:Int))]) (fun i=>⟨[[.slice .shared 1 (p.globals.map encStr), .slice .shared 5 (p.procs.map cj)],iP (.slice .shared 1 (p.globals.map encStr)) (.slice .shared 5 (p.procs.map cj)) i.2.2.1.L i.2.2.1.lo i.2.2.1.hi],[some i.2.2.1.L.length,some i.2.2.2.1,some i.2.2.2.2]⟩) ?_ (p.procs,0,⟨[],[],[]⟩,0,0) ⟨rfl,hR'.symm,by simp,rfl,rfl,rfl,rfl⟩)
 ·(simp only[go_sem,hD,hY,hZ,gA,iP];try exact bS)
 ·(simp only[go_sem,hD,hY,hZ,gA,iP];try exact bS)
 rintro⟨rest,k,h,n1,n2⟩ ⟨h1,h2,h3,h4,h5,h6,h7⟩ IH
 dsimp only at h1 h2 h3 h4 h5 h6 h7
 subst h6 h7
 cases rest with
 |nil=>
  have hD:=drop_nil h1
  simp only[Sh.go]at h2
  rw[← h2]at hQ
  repeat' (first
 |simp only[go_sem,hD,hY,hZ,gA,iP]
 |(with_reducible refine aD hQ ?_;exact bc))
 |cons f rest=>
  obtain⟨hY,g2,hD,g4⟩:=drop_cons h1
  have bN:k<4611686018427387904:=by omega
  simp only[Pc.aY,Pc.size]at h3
  simp only[Sh.go]at h2
  have c1:=nH f.body
  have hZ:(h.lo.length+1)*9≤bC:=by unfold bC;omega
  have anq:(h.hi.length+1)*9≤bC:=by unfold bC;omega
  have LO:IntKind.wrap .i64 ((h.L.length:Int)+1)=(h.L.length:Int)+1:=dU (by omega) (by omega)
  have hl:(Im.rows (k:Int) 0 (-1) 0 h.L f.body).length=h.L.length+Sm.jc f.body:=gB ..
  have tn:IntKind.wrap .i64 (((Im.rows (k:Int) 0 (-1) 0 h.L f.body).length:Int)+1)=((Im.rows (k:Int) 0 (-1) 0 h.L f.body).length:Int)+1:=dU (by omega) (by omega)
  have hr:=fun {s:St} {o:Nat}=>@Zh (Sm.aY f.body+1) (by omega) f.body (k:Int) 0 (-1) 0 h.L (.slice .shared 1 (p.globals.map encStr)) (.slice .shared 5 (p.procs.map cj)) (h.lo++ [(h.L.length:Int)+1]) h.hi (some (h.lo.length+1)) (some h.hi.length) (Nat.lt_succ_self _) (by omega) (by simp[D.ok,Tag.ok,e9]) (by simp[D.ok,Tag.ok,wx]) s o
  simp only[iP,List.map_append,List.map_cons,List.map_nil,cm]at hr
  repeat' (first
 |simp only[go_sem,hD,hY,hZ,gA,LO,tn,anq,iP]
 |(with_reducible refine CU (hr (by with_unfolding_all rfl) (by with_unfolding_all rfl)) ?_)
 |(with_reducible refine aD hQ ?_;exact bc))
  refine eJ 2 3 ?_ ?_ (IH (rest,k+1,⟨Im.rows (k:Int) 0 (-1) 0 h.L f.body,h.lo++ [(h.L.length:Int)+1],h.hi++ [((Im.rows (k:Int) 0 (-1) 0 h.L f.body).length:Int)+1]⟩,_,_) ⟨g2,h2,by dsimp only;rw[hl];omega,by simp[h4],by simp[h5],by simp,by simp⟩ (Nat.lt_succ_self _))
  ·(simp only[go_sem,hD,hY,hZ,gA,iP,aI bN,List.map_append,List.map_cons,List.map_nil,cm];try exact bS)
  ·(simp only[go_sem,hD,hY,hZ,gA,iP,aI bN,List.map_append,List.map_cons,List.map_nil,cm];try exact bS)
theorem Cf {p:Pg} (hs:Pc.aY p.procs<1000000000) (s:St):aF Tryz.prog kR [.agg (cr p)] s (.dv (fv p) 0) s:=by
 refine aF.pure ?_ (by simp only[D.bK,D.ok,jb];rfl) (by simp only[D.ok,uj]) s
 have h:=(agS hs).AG (n:=0) (m:=0) rfl (Nat.le_refl _) (Nat.zero_le _) (Nat.le_refl _)
 simpa[D.gn,D.fg,Tag.fg,Ri,WH,Xx,Rw,St.cut,fv,S0]using h
def jd (x:aG) (k:Int):List aG→Int
 | []=> -1
 |s::l=>if x==s then k else jd x (k+1) l
def fm (l:List aG) (x:aG):Bool:=decide (jd x 0 l≥0)
def kW {α:Type} (b:α→Bool) (k:Int):List α→Int
 | []=> -1
 |s::l=>if b s then k else kW b (k+1) l
theorem LP (x:aG) : ∀ (l:List aG) (k:Int),0≤k→(jd x k l≥0↔x∈l)
 | [],k,h=>by simp[jd]
 | s::l,k,h=>by
  by_cases e:x=s
  ·simp[jd,e];omega
  ·have e':(x==s)=false:=by simp [e]
   simp only[jd,e',Bool.false_eq_true,if_false,List.mem_cons,e,false_or]
   exact LP x l (k+1) (by omega)
theorem je (l:List aG) (x:aG):fm l x=true↔x∈l:=by
 simp only[fm,decide_eq_true_eq];exact LP x l 0 (Int.le_refl 0)
theorem FQ {α:Type} (b:α→Bool) : ∀ (l:List α) (k:Int),0≤k→(kW b k l≥0↔l.any b=true)
 | [],k,h=>by simp[kW]
 | s::l,k,h=>by
  by_cases e:b s=true
  ·simp[kW,e];omega
  ·have e':b s=false:=by simpa using e
   simp only[kW,e',Bool.false_eq_true,if_false,List.any_cons,Bool.or_eq_true,false_or]
   exact FQ b l (k+1) (by omega)
theorem Cg {l:List aG} (hl:l.length<4611686018427387904) (x:aG) (s:St):aF Tryz.prog fV [.slice .shared 1 (l.map encStr), .str x] s (.int .i64 (jd x 0 l)) s:=by
 refine aF.pure ?_ (by simp[D.bK,D.ok,Tag.ok,e9]) rfl s
 generalize h:jd x 0 l=p
 unfold S0
 refine aF.go vZ rfl fun B Q hB hQ=>?_
 have⟨hD,hY,hZ,gA⟩:=bQ
 repeat' (first
 |simp only[go_sem,hD,hY,hZ,gA]
 |(with_reducible first|refine bo fun hc=>?_|refine bp fun hc=>?_|refine bq (fun hc=>?_) fun hc=>?_)<;>(try simp only[hc,bs,↓reduceIte]at h)<;>try simp only[hc]
 |(with_reducible refine aD hQ ?_;exact fS))
 refine e8 0 0 (bl.ind (ι:=List aG×Nat) (fun i=>l.drop i.2=i.1∧jd x (i.2:Int) i.1=p) (fun i=>i.1.length)
  (fun i=> [(0, .slice .shared 1 (l.map encStr)),(1, .str x),(7, .int .i64 (l.length:Int)),(8, .int .i64 (i.2:Int))]) (fun i=>⟨[],[]⟩) ?_ (l,0) ⟨rfl,h⟩)
 rintro⟨rest,k⟩ ⟨h1,h⟩ IH
 dsimp only at h1 h
 cases rest with
 |nil=>
  have hD:=drop_nil h1
  simp only[jd]at h
  repeat' (first
 |simp only[go_sem,hD,hY,hZ,gA]
 |(with_reducible first|refine bo fun hc=>?_|refine bp fun hc=>?_|refine bq (fun hc=>?_) fun hc=>?_)<;>(try simp only[hc,bs,↓reduceIte]at h)<;>try simp only[hc]
 |(with_reducible refine aD hQ ?_;exact fS))
 |cons a rest=>
  obtain⟨hY,g2,hD,g4⟩:=drop_cons h1
  have bN:k<4611686018427387904:=by omega
  simp only[jd]at h
  repeat' (first
 |simp only[go_sem,hD,hY,hZ,gA]
 |(with_reducible first|refine bo fun hc=>?_|refine bp fun hc=>?_|refine bq (fun hc=>?_) fun hc=>?_)<;>(try simp only[hc,bs,↓reduceIte]at h)<;>try simp only[hc]
 |(with_reducible refine aD hQ ?_;exact fS))
  refine eJ 0 0 ?_ ?_ (IH (rest,k+1) ⟨g2,h⟩ (Nat.lt_succ_self _))
  ·(simp only[go_sem,hD,hY,hZ,gA,aI bN];try exact bS)
  ·(simp only[go_sem,hD,hY,hZ,gA,aI bN];try exact bS)
theorem rF {l:List aG} (hl:l.length<4611686018427387904) (x:aG) (s:St):aF Tryz.prog cq [.slice .shared 1 (l.map encStr), .str x] s (.bool (fm l x)) s:=by
 refine aF.pure ?_ (by simp[D.bK,D.ok,Tag.ok,e9]) rfl s
 have hi:=fun s=>Cg hl x s
 unfold S0
 refine aF.go uh rfl fun B Q hB hQ=>?_
 have⟨hD,hY,hZ,gA⟩:=bQ
 repeat' (first
 |simp only[go_sem,hD,hY,hZ,gA,fm]
 |(with_reducible refine CU (hi _) ?_)
 |(with_reducible first|refine bo fun hc=>?_|refine bp fun hc=>?_|refine bq (fun hc=>?_) fun hc=>?_)<;>(try simp only[hc,bs,↓reduceIte]at h)<;>try simp only[hc]
 |(with_reducible refine aD hQ ?_;simp only[aU,aV,bI,bJ,go_sem,hD,hY,hZ,gA,fm];try exact cv))
theorem aF.XB {P:Program} {f:Nat} {d d':D} {r:List D} {s s':St} {x:D} (h:aF P f (d'::r) s x s') (hw:Wk d d'):aF P f (d::r) s x s':=bL.q8 (.cons hw (jq.refl r)) h
theorem jz {l:List aG} (hl:l.length<4611686018427387904) (x:aG) (g:Tag) (s:St):aF Tryz.prog cq [.slice g 1 (l.map encStr), .str x] s (.bool (fm l x)) s:=
 (rF hl x s).XB (Wk.shared _ _ _)
theorem Jx (x:aG) (z:Nat) (g:Tag) (s:St):aF Tryz.prog cq [.slice g z [], .str x] s (.bool false) s:=
 (rF (l:= []) (by simp) x s).XB (Wk.nil _ _ _)
theorem Bu {l:List aG} (hl:l.length<4611686018427387904) {f:Nat} {row:List D} {b:aG→Bool} (uE:D.bK 0 0 row=true) (he:enters Tryz.prog f=true)
 (hb : ∀ x∈l,aF Tryz.prog f ([.str x]++ [.ptr 0 0]) ⟨[row],[]⟩ (.bool (b x)) ⟨[row],[]⟩) :
 aF Tryz.prog kS [.slice .shared 1 (l.map encStr), .fZ f [.ptr 0 0]] ⟨[row],[]⟩ (.int .i64 (kW b 0 l)) ⟨[row],[]⟩:=by
 generalize h:kW b 0 l=p
 have k1 : ∀ n m,D.gn n m row=row:=fun n m=>gY n m _ uE
 refine aF.go tj rfl fun B Q hB hQ=>?_
 have⟨hD,hY,hZ,gA⟩:=bQ
 repeat' (first
 |simp only[go_sem,hD,hY,hZ,gA,k1]
 |(with_reducible first|refine bo fun hc=>?_|refine bp fun hc=>?_|refine bq (fun hc=>?_) fun hc=>?_)<;>(try simp only[hc,bs,↓reduceIte]at h)<;>try simp only[hc]
 |(with_reducible refine aD hQ ?_;(try cases h);simp only[aU,aV,bI,bJ,go_sem,hD,hY,hZ,gA,k1];try exact cv))
 refine eJ 1 0 ?_ ?_ (bl.ind (ι:=List aG×Nat) (fun i=>l.drop i.2=i.1∧kW b (i.2:Int) i.1=p) (fun i=>i.1.length)
  (fun i=> [(0, .slice .shared 1 (l.map encStr)),(1, .fZ f [.ptr 0 0]),(7, .int .i64 (l.length:Int)),(8, .int .i64 (i.2:Int))]) (fun i=>⟨[row],[]⟩) ?_ (l,0) ⟨rfl,h⟩)
 ·(simp only[go_sem,hD,hY,hZ,gA,k1];try exact bS)
 ·(simp only[go_sem,hD,hY,hZ,gA,k1];try exact bS)
 rintro⟨rest,k⟩ ⟨h1,h⟩ IH
 dsimp only at h1 h
 cases rest with
 |nil=>
  have hD:=drop_nil h1
  simp only[kW]at h
  repeat' (first
 |simp only[go_sem,hD,hY,hZ,gA,k1]
 |(with_reducible first|refine bo fun hc=>?_|refine bp fun hc=>?_|refine bq (fun hc=>?_) fun hc=>?_)<;>(try simp only[hc,bs,↓reduceIte]at h)<;>try simp only[hc]
 |(with_reducible refine aD hQ ?_;(try cases h);simp only[aU,aV,bI,bJ,go_sem,hD,hY,hZ,gA,k1];try exact cv))
 |cons a rest=>
  obtain⟨hY,g2,hD,g4⟩:=drop_cons h1
  have bN:k<4611686018427387904:=by omega
  have hba:=hb a (List.mem_of_getElem? hY)
  simp only[kW]at h
  repeat' (first
 |simp only[go_sem,hD,hY,hZ,gA,k1]
 |(with_reducible refine CV.use (he) (hba) ?_)
 |(with_reducible first|refine bo fun hc=>?_|refine bp fun hc=>?_|refine bq (fun hc=>?_) fun hc=>?_)<;>(try simp only[hc,bs,↓reduceIte]at h)<;>try simp only[hc]
 |(with_reducible refine aD hQ ?_;(try cases h);simp only[aU,aV,bI,bJ,go_sem,hD,hY,hZ,gA,k1];try exact cv))
  refine eJ 1 0 ?_ ?_ (IH (rest,k+1) ⟨g2,h⟩ (Nat.lt_succ_self _))
  ·(simp only[go_sem,hD,hY,hZ,gA,k1,aI bN];try exact bS)
  ·(simp only[go_sem,hD,hY,hZ,gA,k1,aI bN];try exact bS)
theorem Bv {P:Program} {g f:Nat} {row:List D} {rows:List (List D)} {z:Nat} {d:D} (h:aF P g [.slice .shared z rows, .fZ f [.ptr 0 0]] ⟨[row],[]⟩ d ⟨[row],[]⟩) (uE:D.bK 0 0 row=true) (hw:D.gQ 0 0 rows=true) (hd:D.ok 0 0 d=true) {s:St} {o:Nat} (ho:s.ah[o]? = some row) :
 aF P g [.slice .shared z rows, .fZ f [.ptr o 0]] s d s:=by
 refine bL.frame [o] [] h (by simp) List.nodup_nil (by simpa using (List.getElem?_eq_some_iff.1 ho).1) (by simp) rfl (fun i o' ds e1 e2=>?_) rfl (by simp) (by simp[D.eZ,D.cW,Tag.cW,ji _ _ _ hw])
  (by simp[D.bK,D.ok,Tag.ok,mr (Nat.zero_le 1) (Nat.le_refl 0) _ hw]) ?_
 ·cases i with
  |zero=>simp at e1 e2;subst e1;subst e2;exact⟨by rw[fz _ _ _ uE];exact ho,il (Nat.zero_le 1) (Nat.le_refl 0) _ uE⟩
  |succ i=>simp at e1
 ·rintro _ _ ⟨rfl,rfl⟩
  refine⟨qu _ _ _ hd, ?_⟩
  have:s.ah.set o row=s.ah:=by
   apply List.ext_getElem?
   intro i
   rw[List.getElem?_set]
   split
   ·rename_i e;subst e;rw [ho];split
    ·rfl
    ·rename_i hh;exact absurd (List.getElem?_eq_some_iff.1 ho).1 hh
   ·rfl
  simp[St.back,kB,fz _ _ _ uE,this]
theorem yu {l:List aG} (hl:l.length<4611686018427387904) {f:Nat} {row:List D} {b:aG→Bool} (uE:D.bK 0 0 row=true) (he:enters Tryz.prog f=true)
 (hb : ∀ x∈l,aF Tryz.prog f ([.str x]++ [.ptr 0 0]) ⟨[row],[]⟩ (.bool (b x)) ⟨[row],[]⟩) :
 aF Tryz.prog fW [.slice .shared 1 (l.map encStr), .fZ f [.ptr 0 0]] ⟨[row],[]⟩ (.bool (l.any b)) ⟨[row],[]⟩:=by
 have k1 : ∀ n m,D.gn n m row=row:=fun n m=>gY n m _ uE
 have hi:=Bu hl uE he hb
 have e:decide (kW b 0 l≥0)=l.any b:=by
  have:=FQ b l 0 (Int.le_refl 0)
  cases hh:l.any b<;>simp_all
 refine aF.go rE rfl fun B Q hB hQ=>?_
 have⟨hD,hY,hZ,gA⟩:=bQ
 repeat' (first
 |simp only[go_sem,hD,hY,hZ,gA,k1,e]
 |(with_reducible refine CU (hi) ?_)
 |(with_reducible first|refine bo fun hc=>?_|refine bp fun hc=>?_|refine bq (fun hc=>?_) fun hc=>?_)<;>(try simp only[hc,bs,↓reduceIte]at h)<;>try simp only[hc]
 |(with_reducible refine aD hQ ?_;simp only[aU,aV,bI,bJ,go_sem,hD,hY,hZ,gA,k1,e];try exact cv))
theorem yv {l:List aG} (hl:l.length<4611686018427387904) {f:Nat} {row:List D} {b:aG→Bool} (uE:D.bK 0 0 row=true) (he:enters Tryz.prog f=true)
 (hb : ∀ x∈l,aF Tryz.prog f ([.str x]++ [.ptr 0 0]) ⟨[row],[]⟩ (.bool (b x)) ⟨[row],[]⟩) {s:St} {o:Nat} (ho:s.ah[o]? = some row) :
 aF Tryz.prog fW [.slice .shared 1 (l.map encStr), .fZ f [.ptr o 0]] s (.bool (l.any b)) s:=
 Bv (yu hl uE he hb) uE (e9 l) rfl ho
theorem vF {l:List Pc} (hl:l.length<4611686018427387904) {f:Nat} {row:List D} {b:Pc→Bool} (uE:D.bK 0 0 row=true) (he:enters Tryz.prog f=true)
 (hb : ∀ x∈l,aF Tryz.prog f ([.agg (cj x)]++ [.ptr 0 0]) ⟨[row],[]⟩ (.bool (b x)) ⟨[row],[]⟩) :
 aF Tryz.prog gb [.slice .shared 5 (l.map cj), .fZ f [.ptr 0 0]] ⟨[row],[]⟩ (.int .i64 (kW b 0 l)) ⟨[row],[]⟩:=by
 generalize h:kW b 0 l=p
 have k1 : ∀ n m,D.gn n m row=row:=fun n m=>gY n m _ uE
 refine aF.go rO rfl fun B Q hB hQ=>?_
 have⟨hD,hY,hZ,gA⟩:=bQ
 repeat' (first
 |simp only[go_sem,hD,hY,hZ,gA,k1]
 |(with_reducible first|refine bo fun hc=>?_|refine bp fun hc=>?_|refine bq (fun hc=>?_) fun hc=>?_)<;>(try simp only[hc,bs,↓reduceIte]at h)<;>try simp only[hc]
 |(with_reducible refine aD hQ ?_;(try cases h);simp only[aU,aV,bI,bJ,go_sem,hD,hY,hZ,gA,k1];try exact cv))
 refine eJ 1 0 ?_ ?_ (bl.ind (ι:=List Pc×Nat) (fun i=>l.drop i.2=i.1∧kW b (i.2:Int) i.1=p) (fun i=>i.1.length)
  (fun i=> [(0, .slice .shared 5 (l.map cj)),(1, .fZ f [.ptr 0 0]),(7, .int .i64 (l.length:Int)),(8, .int .i64 (i.2:Int))]) (fun i=>⟨[row],[]⟩) ?_ (l,0) ⟨rfl,h⟩)
 ·(simp only[go_sem,hD,hY,hZ,gA,k1];try exact bS)
 ·(simp only[go_sem,hD,hY,hZ,gA,k1];try exact bS)
 rintro⟨rest,k⟩ ⟨h1,h⟩ IH
 dsimp only at h1 h
 cases rest with
 |nil=>
  have hD:=drop_nil h1
  simp only[kW]at h
  repeat' (first
 |simp only[go_sem,hD,hY,hZ,gA,k1]
 |(with_reducible first|refine bo fun hc=>?_|refine bp fun hc=>?_|refine bq (fun hc=>?_) fun hc=>?_)<;>(try simp only[hc,bs,↓reduceIte]at h)<;>try simp only[hc]
 |(with_reducible refine aD hQ ?_;(try cases h);simp only[aU,aV,bI,bJ,go_sem,hD,hY,hZ,gA,k1];try exact cv))
 |cons a rest=>
  obtain⟨hY,g2,hD,g4⟩:=drop_cons h1
  have bN:k<4611686018427387904:=by omega
  have hba:=hb a (List.mem_of_getElem? hY)
  simp only[kW]at h
  repeat' (first
 |simp only[go_sem,hD,hY,hZ,gA,k1]
 |(with_reducible refine CV.use (he) (hba) ?_)
 |(with_reducible first|refine bo fun hc=>?_|refine bp fun hc=>?_|refine bq (fun hc=>?_) fun hc=>?_)<;>(try simp only[hc,bs,↓reduceIte]at h)<;>try simp only[hc]
 |(with_reducible refine aD hQ ?_;(try cases h);simp only[aU,aV,bI,bJ,go_sem,hD,hY,hZ,gA,k1];try exact cv))
  refine eJ 1 0 ?_ ?_ (IH (rest,k+1) ⟨g2,h⟩ (Nat.lt_succ_self _))
  ·(simp only[go_sem,hD,hY,hZ,gA,k1,aI bN];try exact bS)
  ·(simp only[go_sem,hD,hY,hZ,gA,k1,aI bN];try exact bS)
theorem Ax {l:List Pc} (hl:l.length<4611686018427387904) {f:Nat} {row:List D} {b:Pc→Bool} (uE:D.bK 0 0 row=true) (he:enters Tryz.prog f=true)
 (hb : ∀ x∈l,aF Tryz.prog f ([.agg (cj x)]++ [.ptr 0 0]) ⟨[row],[]⟩ (.bool (b x)) ⟨[row],[]⟩) :
 aF Tryz.prog gL [.slice .shared 5 (l.map cj), .fZ f [.ptr 0 0]] ⟨[row],[]⟩ (.bool (l.any b)) ⟨[row],[]⟩:=by
 have k1 : ∀ n m,D.gn n m row=row:=fun n m=>gY n m _ uE
 have hi:=vF hl uE he hb
 have e:decide (kW b 0 l≥0)=l.any b:=by
  have:=FQ b l 0 (Int.le_refl 0)
  cases hh:l.any b<;>simp_all
 refine aF.go qA rfl fun B Q hB hQ=>?_
 have⟨hD,hY,hZ,gA⟩:=bQ
 repeat' (first
 |simp only[go_sem,hD,hY,hZ,gA,k1,e]
 |(with_reducible refine CU (hi) ?_)
 |(with_reducible first|refine bo fun hc=>?_|refine bp fun hc=>?_|refine bq (fun hc=>?_) fun hc=>?_)<;>(try simp only[hc,bs,↓reduceIte]at h)<;>try simp only[hc]
 |(with_reducible refine aD hQ ?_;simp only[aU,aV,bI,bJ,go_sem,hD,hY,hZ,gA,k1,e];try exact cv))
mutual
def Sm.pre:Sm→List Sm
 |⟨id,kind,labels,name,pc,x,has,args,aZ,aR⟩=>⟨id,kind,labels,name,pc,x,has,args,aZ,aR⟩::(Sm.db aZ++Sm.db aR)
def Sm.db:List Sm→List Sm
 | []=> []
 |s::l=>s.pre++Sm.db l
end
def Pg.pre (p:Pg):List Sm:=(p.procs.map fun f=>Sm.db f.body).flatten
theorem Sm.qa (s:Sm):s.pre=s::(Sm.db s.aZ++Sm.db s.aR):=by cases s;simp only[Sm.pre]
mutual
theorem Zi (proc up next loop:Int) (out:List Im) : ∀ s:Sm,∃ e:List Im,Im.one proc up next loop out s=out++e∧e.map Im.s=s.pre
 |⟨id,kind,labels,name,pc,x,has,args,aZ,aR⟩=>by
  simp only[Im.one,Sm.pre]
  obtain⟨e1,h1,k1⟩:=zn proc ((out.length:Int)+1) (if kind==6 then(out.length:Int)+1 else next) (if kind==6 then(out.length:Int)+1 else loop) (out++ [⟨⟨id,kind,labels,name,pc,x,has,args,aZ,aR⟩,proc,up,next,loop⟩]) aZ
  obtain⟨e2,h2,k2⟩:=zn proc ((out.length:Int)+1) (if kind==6 then(out.length:Int)+1 else next) (if kind==6 then(out.length:Int)+1 else loop) (Im.rows proc ((out.length:Int)+1) (if kind==6 then(out.length:Int)+1 else next) (if kind==6 then(out.length:Int)+1 else loop) (out++ [⟨⟨id,kind,labels,name,pc,x,has,args,aZ,aR⟩,proc,up,next,loop⟩]) aZ) aR
  refine⟨⟨⟨id,kind,labels,name,pc,x,has,args,aZ,aR⟩,proc,up,next,loop⟩::(e1++e2), ?_, ?_⟩
  ·rw[h2,h1];simp
  ·simp[k1,k2]
theorem zn (proc up next loop:Int) (out:List Im) : ∀ l:List Sm,∃ e:List Im,Im.rows proc up next loop out l=out++e∧e.map Im.s=Sm.db l
 | []=>⟨[],by simp[Im.rows],rfl⟩
 |s::l=>by
  simp only[Im.rows,Sm.db]
  obtain⟨e1,h1,k1⟩:=Zi proc up (if l.length=0 then next else(out.length:Int)+1+(s.jw:Int)) loop out s
  obtain⟨e2,h2,k2⟩:=zn proc up next loop (Im.one proc up (if l.length=0 then next else(out.length:Int)+1+(s.jw:Int)) loop out s) l
  refine⟨e1++e2, ?_,by simp[k1,k2]⟩
  rw[h2,h1];simp
end
theorem Ry : ∀ (l:List Pc) (n:Nat) (h:Sh),h.lo.length=n→h.hi.length=n→
 ∃ e lo hi,Sh.go n h l = ⟨h.L++e,h.lo++lo,h.hi++hi⟩∧e.map Im.s=(l.map fun f=>Sm.db f.body).flatten∧lo.length=l.length∧hi.length=l.length∧
  ∀ (i:Nat) (f:Pc),l[i]? = some f→∃ a b e' Lt:List Im,lo[i]? = some (((h.L++a).length:Int)+1)∧hi[i]? = some (((h.L++a++b).length:Int)+1)∧b.map Im.s=Sm.db f.body∧e=a++b++e'
 | [],n,h,hl,hh=>⟨[],[],[],by simp[Sh.go],rfl,rfl,rfl,fun i f h=>by simp at h⟩
 | f::l,n,h,hl,hh=>by
  simp only[Sh.go]
  obtain⟨e1,h1,k1⟩:=zn (n:Int) 0 (-1) 0 h.L f.body
  obtain⟨e2,lo,hi,h2,k2,h3,h4,h5⟩:=Ry l (n+1) ⟨Im.rows (n:Int) 0 (-1) 0 h.L f.body,h.lo++ [(h.L.length:Int)+1],h.hi++ [((Im.rows (n:Int) 0 (-1) 0 h.L f.body).length:Int)+1]⟩ (by simp[hl]) (by simp[hh])
  refine⟨e1++e2,((h.L.length:Int)+1)::lo,(((Im.rows (n:Int) 0 (-1) 0 h.L f.body).length:Int)+1)::hi, ?_,by simp[k1,k2],by simp[h3],by simp[h4],fun i g gW=>?_⟩
  ·rw[h2,h1];simp
  ·cases i with
   |zero=>
    simp only[List.getElem?_cons_zero,Option.some.injEq]at gW
    subst gW
    exact⟨[],e1,e2,[],by simp,by rw[h1];simp,k1,by simp⟩
   |succ i=>
    simp only[List.getElem?_cons_succ]at gW
    obtain⟨a,b,e',Lt,g1,g2,g3,g4⟩:=h5 i g gW
    refine⟨e1++a,b,e',Lt, ?_, ?_,g3,by rw[g4];simp⟩
    ·rw[List.getElem?_cons_succ,g1,h1];simp
    ·rw[List.getElem?_cons_succ,g2,h1];simp
theorem kq (p:Pg):p.aX.L.map Im.s=p.pre∧∀ (i:Nat) (f:Pc),p.procs[i]? = some f→∃ a b e:List Im,p.aX.lo[i]? = some ((a.length:Int)+1)∧p.aX.hi[i]? = some (((a++b).length:Int)+1)∧b.map Im.s=Sm.db f.body∧p.aX.L=a++b++e:=by
 obtain⟨e,lo,hi,h1,h2,h3,h4,h5⟩:=Ry p.procs 0 ⟨[],[],[]⟩ rfl rfl
 unfold Pg.aX
 rw[h1]
 refine⟨by simpa[Pg.pre]using h2,fun i f hf=>?_⟩
 obtain⟨a,b,e',_,g1,g2,g3,g4⟩:=h5 i f hf
 exact⟨a,b,e',by simpa using g1,by simpa using g2,g3,by simpa using g4⟩
def Pg.at (p:Pg) (name:aG):Int:=kW (fun f:Pc=>f.name==name) 0 p.procs
theorem Zj (name:aG) (f:Pc):aF Tryz.prog lI ([.agg (cj f)]++ [.ptr 0 0]) ⟨[[.str name]],[]⟩ (.bool (f.name==name)) ⟨[[.str name]],[]⟩:=by
 show aF Tryz.prog lI [.agg (cj f), .ptr 0 0] _ _ _
 refine aF.go yf rfl fun B Q hB hQ=>?_
 have⟨hD,hY,hZ,gA⟩:=bQ
 repeat' (first
 |simp only[go_sem,hD,hY,hZ,gA]
 |(with_reducible refine aD hQ ?_;exact bc))
theorem Ey {p:Pg} (hs:p.procs.length<4611686018427387904) (name:aG) (s:St):aF Tryz.prog iu [.dv (fv p) 0, .str name] s (.int .i64 (p.at name)) s:=by
 refine aF.pure ?_ (by simp[D.bK,D.ok,uj]) rfl s
 have hi:=fun {s:St} {o:Nat} (ho:s.ah[o]? = some [.str name])=>Bv (vF (l:=p.procs) (f:=lI) (row:= [.str name]) (b:=fun f:Pc=>f.name==name) hs rfl (by with_unfolding_all rfl) (fun x _=>Zj name x)) rfl (wx _) rfl ho
 have gW:=fun {s:St} {o:Nat} (ho:s.ah[o]? = some [.str name])=>(show aF Tryz.prog gb [.slice .shared 5 (p.procs.map cj), .fZ 76 [.ptr o 0]] s (.int .i64 (p.at name)) s from hi ho)
 unfold S0
 rw[nV]
 refine aF.go Av rfl fun B Q hB hQ=>?_
 have⟨hD,hY,hZ,gA⟩:=bQ
 repeat' (first
 |simp only[go_sem,hD,hY,hZ,gA]
 |(with_reducible refine CU (gW (by with_unfolding_all rfl)) ?_)
 |(with_reducible refine aD hQ ?_;exact bc))
theorem Rz : ∀ (l:List Pc) (n:Nat) (h:Sh),(Sh.go n h l).L.length≤h.L.length+Pc.aY l
 | [],n,h=>by simp[Sh.go]
 |f::l,n,h=>by
  simp only[Sh.go]
  refine Nat.le_trans (Rz l _ _) ?_
  have:=gB (n:Int) 0 (-1) 0 h.L f.body
  have:=nH f.body
  simp only[Pc.aY,Pc.size];omega
theorem o8 (p:Pg):p.aX.L.length≤Pc.aY p.procs:=by have:=Rz p.procs 0 ⟨[],[],[]⟩;simpa[Pg.aX]using this
theorem acN {p:Pg} {i:Nat} (hs:Pc.aY p.procs<1000000000) {a b e:List Im} (h1:p.aX.lo[i]? = some ((a.length:Int)+1)) (h2:p.aX.hi[i]? = some (((a++b).length:Int)+1)) (h4:p.aX.L=a++b++e) (s:St) :
 aF Tryz.prog gK [.dv (fv p) 0, .int .i64 (i:Int)] s (.slice .shared 17 (b.map dr)) s:=by
 refine aF.pure ?_ (by simp[D.bK,D.ok,uj]) (by simp[D.ok,Tag.ok,H2]) s
 have hL:p.aX.L.length<1000000000:=Nat.lt_of_le_of_lt (o8 p) hs
 have l1:(i:Int)<(p.aX.lo.length:Int):=by have:=(List.getElem?_eq_some_iff.1 h1).1;omega
 have l2:(i:Int)<(p.aX.hi.length:Int):=by have:=(List.getElem?_eq_some_iff.1 h2).1;omega
 have XC:a.length+b.length≤p.aX.L.length:=by rw[h4];simp
 have w1:IntKind.wrap .i64 ((a.length:Int)+1 - 1)=(a.length:Int):=by rw[show(a.length:Int)+1 - 1=(a.length:Int) by omega];exact dU (by omega) (by omega)
 have w2:IntKind.wrap .i64 (((a.length+b.length:Nat):Int)+1 - 1)=((a.length+b.length:Nat):Int):=by rw[show((a.length+b.length:Nat):Int)+1 - 1=((a.length+b.length:Nat):Int) by omega];exact dU (by omega) (by omega)
 have c1:((a.length:Int)≤((a.length+b.length:Nat):Int))=True:=by simp only[eq_iff_iff,iff_true];omega
 have c2:(((a.length+b.length:Nat):Int)≤(p.aX.L.length:Int))=True:=by simp only[eq_iff_iff,iff_true];omega
 have hb:List.drop a.length (List.take (a.length+b.length) (List.map dr p.aX.L))=List.map dr b:=by rw[h4];simp[List.map_append,List.take_append,List.drop_append]
 unfold S0
 rw[nV]
 refine aF.go Cz rfl fun B Q hB hQ=>?_
 have⟨hD,hY,hZ,gA⟩:=bQ
 repeat' (first
 |simp only[go_sem,hD,hY,hZ,gA,h1,h2,List.length_append,w1,w2,c1,c2,or_true,true_and,and_self,ite_self,Int.toNat_natCast,hb]
 |(with_reducible first|refine bo fun hc=>?_|refine bp fun hc=>?_|refine bq (fun hc=>?_) fun hc=>?_)<;>(try simp only[hc,bs,↓reduceIte]at h)<;>try simp only[hc]
 |(with_reducible refine aD hQ ?_;(try cases h);simp only[aU,aV,bI,bJ,go_sem,hD,hY,hZ,gA,h1,h2,List.length_append,w1,w2,c1,c2,or_true,true_and,and_self,ite_self,Int.toNat_natCast,hb];try exact cv)
 |(cases h;done))
theorem UZ {p:Pg} {i:Nat} {f:Pc} (hf:p.procs[i]? = some f) (hs:Pc.aY p.procs<1000000000) : ∃ it:List Im,it.map Im.s=Sm.db f.body∧∀ s,aF Tryz.prog gK [.dv (fv p) 0, .int .i64 (i:Int)] s (.slice .shared 17 (it.map dr)) s:=by
 obtain⟨a,b,e,h1,h2,h3,h4⟩:=(kq p).2 i f hf
 exact⟨b,h3,acN hs h1 h2 h4⟩
theorem GC {r:aG} : Ce r=true↔o7 r=r.length:=by
 induction r with
 |nil=>simp[Ce,o7]
 |cons c r ih=>
  simp only[Ce,o7]
  cases h1:Bt c<;>cases h2:Eu c<;>simp[ih]
theorem Bw (t:aG) (hl:t.length<4611686018427387904) (s:St):aF Tryz.prog nS [.str t] s (.bool (isName t)) s:=by
 refine aF.pure ?_ rfl rfl s
 have hr:=fun s=>agL (pos:=0) hl s
 simp only[List.drop_zero,Nat.zero_add]at hr
 unfold S0
 cases t with
 |nil=>
  have z:decide (((0:Nat):Int)<1)=true:=rfl
  have z':decide ((0:Int)<1)=true:=rfl
  have e:isName [] = false:=rfl
  rw[e]
  refine aF.go ni rfl fun B Q hB hQ=>?_
  have⟨hD,hY,hZ,gA⟩:=bQ
  repeat' (first
 |simp only[go_sem,hD,hY,hZ,gA,z,z']
 |(with_reducible refine aD hQ ?_;exact bc))
 | cons c r=>
  have l1:decide (((r.length+1:Nat):Int)<1)=false:=by simp;omega
  generalize h:isName (c::r)=p
  simp only[isName]at h
  cases hL:Bt c
  ·simp only [hL,Bool.not_false,Bool.or_true, ↓reduceIte]at h
   subst h
   by_cases c8:decide (((r.length+1:Nat):Int) > 8)=true
   ·refine aF.go ni rfl fun B Q hB hQ=> ?_
    have⟨hD,hY,hZ,gA⟩:=bQ
    repeat' (first
 |simp only[go_sem,hD,hY,hZ,gA,l1,c8]
 | (with_reducible refine aD hQ ?_;exact bc))
   ·have c8:decide (((r.length+1:Nat):Int) > 8)=false:=by simpa using c8
    refine aF.go ni rfl fun B Q hB hQ=>?_
    have⟨hD,hY,hZ,gA⟩:=bQ
    repeat' (first
 |simp only[go_sem,hD,hY,hZ,gA,l1,c8,hL]
 |(with_reducible refine CU (si _ _) ?_)
 | (with_reducible refine aD hQ ?_;exact bc))
  ·simp only [hL,Bool.not_true,Bool.or_false]at h
   by_cases c8:decide (((r.length+1:Nat):Int) > 8)=true
   ·simp only [c8, ↓reduceIte]at h
    subst h
    refine aF.go ni rfl fun B Q hB hQ=>?_
    have⟨hD,hY,hZ,gA⟩:=bQ
    repeat' (first
 |simp only[go_sem,hD,hY,hZ,gA,l1,c8]
 | (with_reducible refine aD hQ ?_;exact bc))
   ·have c8:decide (((r.length+1:Nat):Int) > 8)=false:=by simpa using c8
    simp only[c8,Bool.false_eq_true,↓reduceIte]at h
    have dE:o7 (c::r)=o7 r+1:=by simp[o7,hL]
    cases hn:Ce r
    ·simp only [hn,Bool.false_eq_true, ↓reduceIte]at h
     have:o7 r≠r.length:=fun e=>by rw[GC.2 e]at hn;cases hn
     have e:(((o7 (c::r):Nat):Int)==((r.length+1:Nat):Int))=false:=by rw[dE];simp;omega
     subst h
     refine aF.go ni rfl fun B Q hB hQ=>?_
     have⟨hD,hY,hZ,gA⟩:=bQ
     repeat' (first
 |simp only[go_sem,hD,hY,hZ,gA,l1,c8,hL,e]
 |(with_reducible refine CU (si _ _) ?_)
 |(with_reducible refine CU (hr _) ?_)
 | (with_reducible refine aD hQ ?_;exact bc))
    ·simp only [hn, ↓reduceIte]at h
     have:=GC.1 hn
     have e:(((o7 (c::r):Nat):Int)==((r.length+1:Nat):Int))=true:=by rw[dE];simp;omega
     subst h
     refine aF.go ni rfl fun B Q hB hQ=>?_
     have⟨hD,hY,hZ,gA⟩:=bQ
     repeat' (first
 |simp only[go_sem,hD,hY,hZ,gA,l1,c8,hL,e]
 |(with_reducible refine CU (si _ _) ?_)
 |(with_reducible refine CU (hr _) ?_)
 |(with_reducible refine CU (acG _ _) ?_)
 |(with_reducible refine aD hQ ?_;exact bc))
theorem LQ (op:Int) (s:St):aF Tryz.prog xp [.int .i64 op] s (.int .i64 (od op)) s:=by
 refine aF.pure ?_ rfl rfl s
 unfold S0
 generalize h:od op=p
 unfold od at h
 refine aF.go HH rfl fun B Q hB hQ=>?_
 have⟨hD,hY,hZ,gA⟩:=bQ
 repeat' (first
 |simp only[go_sem,hD,hY,hZ,gA]
 |(with_reducible first|refine bo fun hc=>?_|refine bp fun hc=>?_|refine bq (fun hc=>?_) fun hc=>?_)<;>(try simp only[hc,bs,↓reduceIte]at h)<;>try simp only[hc]
 |(with_reducible refine aD hQ ?_;exact fS))
theorem zo {l:List aG} (hl:l.length<4611686018427387904) (hs : ∀ t∈l,t.length<4611686018427387904) (s:St):aF Tryz.prog nc [.slice .shared 1 (l.map encStr)] s (.bool (fa l)) s:=by
 refine aF.pure ?_ (by simp[D.bK,D.ok,e9,Tag.ok]) rfl s
 unfold S0
 generalize h:fa l=p
 refine aF.go FG rfl fun B Q hB hQ=>?_
 have⟨hD,hY,hZ,gA⟩:=bQ
 repeat' (first
 |simp only[go_sem,hD,hY,hZ,gA]
 |(with_reducible first|refine bo fun hc=>?_|refine bp fun hc=>?_|refine bq (fun hc=>?_) fun hc=>?_)<;>(try simp only[hc,bs,↓reduceIte]at h)<;>try simp only[hc]
 |(with_reducible refine aD hQ ?_;exact fS))
 refine e8 0 0 (bl.ind (ι:=List aG×Nat) (fun i=>l.drop i.2=i.1∧fa i.1=p) (fun i=>i.1.length)
  (fun i=> [(5, .slice .shared 1 (l.map encStr)),(6, .int .i64 (l.length:Int)),(7, .int .i64 (i.2:Int))]) (fun i=>⟨[],[]⟩) ?_ (l,0) ⟨rfl,h⟩)
 rintro⟨rest,k⟩ ⟨h1,h⟩ IH
 dsimp only at h1 h
 cases rest with
 |nil=>
  have hD:=drop_nil h1
  simp only[fa]at h
  repeat' (first
 |simp only[go_sem,hD,hY,hZ,gA]
 |(with_reducible first|refine bo fun hc=>?_|refine bp fun hc=>?_|refine bq (fun hc=>?_) fun hc=>?_)<;>(try simp only[hc,bs,↓reduceIte]at h)<;>try simp only[hc]
 |(with_reducible refine aD hQ ?_;exact fS))
 |cons t rest=>
  obtain⟨hY,g2,hD,g4⟩:=drop_cons h1
  have hZ:k<4611686018427387904:=by omega
  have hn:=Bw t (hs t (List.mem_of_getElem? hY))
  simp only[fa]at h
  repeat' (first
 |simp only[go_sem,hD,hY,hZ,gA]
 |(with_reducible refine CU (hn _) ?_)
 |(with_reducible first|refine bo fun hc=>?_|refine bp fun hc=>?_|refine bq (fun hc=>?_) fun hc=>?_)<;>(try simp only[hc,bs,↓reduceIte]at h)<;>try simp only[hc]
 |(with_reducible refine aD hQ ?_;exact fS))
  refine e8 0 0 (IH (rest,k+1) ⟨g2,h⟩ (Nat.lt_succ_self _))
mutual
def Ex.dp (left:Int):Ex→Bool
 |⟨op,n,name,kids⟩=>
  if decide (left<1) ||(kids.length:Int) != od op then false
  else if op==1 then decide (n≥0) && name == []
  else if op==2 then n==0 && isName name
  else if n != 0 || !(name == [])then false
  else Ex.Bx (left - 1) kids
def Ex.Bx (left:Int):List Ex→Bool
 | []=>true
 |x::l=>if !(Ex.dp left x)then false else Ex.Bx left l
end
theorem Zk : ∀ (m:Nat) (x:Ex),x.size≤m→x.size<4611686018427387904→x.texts→∀ left:Int,0≤left→left≤100→∀ s:St,aF Tryz.prog p7 [.agg (cd x), .int .i64 left] s (.bool (x.dp left)) s:=by
 intro m
 induction m with
 |zero=>rintro⟨op,v,name,kids⟩ h;simp only[Ex.size]at h;omega
 | succ m ih=>
  rintro⟨op,v,name,kids⟩ h hx ht left h0 U0 s
  refine aF.pure ?_ (by simp[D.bK,D.ok,lN]) rfl s
  have hlen:kids.length<4611686018427387904:=by simp only[Ex.size]at hx;have:=Ex.eB kids;omega
  have hn:=Bw name ht.1
  generalize hp:Ex.dp left ⟨op,v,name,kids⟩=p
  simp only[Ex.dp]at hp
  unfold S0
  by_cases vG:left<1
  ·have d1:decide (left<1)=true:=by simpa using vG
   simp only[d1,Bool.true_or,↓reduceIte]at hp
   subst hp
   refine aF.go Aj rfl fun B Q hB hQ=>?_
   have⟨hD,hY,hZ,gA⟩:=bQ
   repeat' (first
 |simp only[go_sem,hD,hY,hZ,gA,d1]
 |(with_reducible refine CU (LQ _ _) ?_)
 |(with_reducible refine CU (hn _) ?_)
 | (with_reducible refine aD hQ ?_;exact bc))
  ·have d1:decide (left<1)=false:=by simpa using vG
   have w1:IntKind.wrap .i64 (left - 1)=left - 1:=dU (by omega) (by omega)
   have hk : ∀ y∈kids,∀ s,aF Tryz.prog p7 [.agg (cd y), .int .i64 (left - 1)] s (.bool (y.dp (left - 1))) s:=fun y hy s=>
    ih y (by simp only[Ex.size]at h;have:=Ex.dc hy;omega) (by simp only[Ex.size]at hx;have:=Ex.dc hy;omega) (Ex.Rr ht hy) (left - 1) (by omega) (by omega) s
   simp only[d1,Bool.false_or]at hp
   have h:=hp
   clear hp
   refine aF.go Aj rfl fun B Q hB hQ=>?_
   have⟨hD,hY,hZ,gA⟩:=bQ
   repeat' (first
 |simp only[go_sem,hD,hY,hZ,gA,d1]
 |(with_reducible refine CU (LQ _ _) ?_)
 |(with_reducible refine CU (hn _) ?_)
 |(with_reducible first|refine bo fun hc=>?_|refine bp fun hc=>?_|refine bq (fun hc=>?_) fun hc=>?_)<;>(try simp only[hc,bs,↓reduceIte]at h)<;>try simp only[hc]
 | (with_reducible refine aD hQ ?_;(try cases h);simp only [aU,aV,bI,bJ,go_sem,hD,hY,hZ,gA,d1];repeat' (first | exact Ok.out | with_reducible refine iY ?_ ?_ | (simp;done))))
   all_goals
    refine e8 1 0 (bl.ind (ι:=List Ex×Nat) (fun i=>kids.drop i.2=i.1∧Ex.Bx (left - 1) i.1=p) (fun i=>i.1.length)
     (fun i=> [(1, .int .i64 left),(49, .slice .shared 4 (kids.map cd)),(50, .int .i64 (kids.length:Int)),(51, .int .i64 (i.2:Int))]) (fun i=>⟨[cd ⟨op,v,name,kids⟩],[]⟩) ?_ (kids,0) ⟨rfl,h⟩)
    rintro⟨rest,k⟩ ⟨h1,h⟩ IH
    dsimp only at h1 h
    cases rest with
    |nil=>
     have hD:=drop_nil h1
     simp only[Ex.Bx]at h
     repeat' (first
 |simp only[go_sem,hD,hY,hZ,gA]
 |(with_reducible first|refine bo fun hc=>?_|refine bp fun hc=>?_|refine bq (fun hc=>?_) fun hc=>?_)<;>(try simp only[hc,bs,↓reduceIte]at h)<;>try simp only[hc]
 |(with_reducible refine aD hQ ?_;exact fS)
 | (cases h;done))
    |cons y rest=>
     obtain⟨hY,g2,hD,g4⟩:=drop_cons h1
     have hy:=hk y (List.mem_of_getElem? hY)
     have hZ:k<4611686018427387904:=by omega
     simp only[Ex.Bx]at h
     repeat' (first
 |simp only[go_sem,hD,hY,hZ,gA,w1]
 |(with_reducible refine CU (hy _) ?_)
 |(with_reducible first|refine bo fun hc=>?_|refine bp fun hc=>?_|refine bq (fun hc=>?_) fun hc=>?_)<;>(try simp only[hc,bs,↓reduceIte]at h)<;>try simp only[hc]
 |(with_reducible refine aD hQ ?_;(try cases h);simp only[aU,aV,bI,bJ,go_sem,hD,hY,hZ,gA,w1];try exact cv))
     refine e8 1 0 (IH (rest,k+1) ⟨g2,h⟩ (Nat.lt_succ_self _))
theorem zp {x:Ex} (hx:x.size<4611686018427387904) (ht:x.texts) (s:St):aF Tryz.prog na [.agg (cd x)] s (.bool (x.dp 20)) s:=by
 refine aF.pure ?_ (by simp[D.bK,D.ok,lN]) rfl s
 have hd:=fun s=>Zk _ x (Nat.le_refl _) hx ht 20 (by omega) (by omega) s
 unfold S0
 refine aF.go Dw rfl fun B Q hB hQ=>?_
 have⟨hD,hY,hZ,gA⟩:=bQ
 repeat' (first
 |simp only[go_sem,hD,hY,hZ,gA]
 |(with_reducible refine CU (hd _) ?_)
 |(with_reducible refine aD hQ ?_;exact bc))
theorem Zl (x:Ex) (s:St):aF Tryz.prog xu [.agg (cd x)] s (.bool x.none) s:=by
 refine aF.pure ?_ (by simp[D.bK,D.ok,lN]) rfl s
 unfold S0
 generalize h:Ex.none x=p
 unfold Ex.none at h
 refine aF.go HJ rfl fun B Q hB hQ=>?_
 have⟨hD,hY,hZ,gA⟩:=bQ
 repeat' (first
 |simp only[go_sem,hD,hY,hZ,gA]
 |(with_reducible first|refine bo fun hc=>?_|refine bp fun hc=>?_|refine bq (fun hc=>?_) fun hc=>?_)<;>(try simp only[hc,bs,↓reduceIte]at h)<;>try simp only[hc]
 |(with_reducible refine aD hQ ?_;exact fS))
def tq (t:aG) (is:Bool):Bool:=(is && isName t) ||(!is && t == [])
theorem Dz (t:aG) (is:Bool) (hl:t.length<4611686018427387904) (s:St):aF Tryz.prog oZ [.str t, .bool is] s (.bool (tq t is)) s:=by
 refine aF.pure ?_ rfl rfl s
 have hn:=Bw t hl
 unfold S0
 generalize h:tq t is=p
 unfold tq at h
 refine aF.go FM rfl fun B Q hB hQ=>?_
 have⟨hD,hY,hZ,gA⟩:=bQ
 repeat' (first
 |simp only[go_sem,hD,hY,hZ,gA]
 |(with_reducible refine CU (hn _) ?_)
 |(with_reducible first|refine bo fun hc=>?_|refine bp fun hc=>?_|refine bq (fun hc=>?_) fun hc=>?_)<;>(try simp only[hc,bs,↓reduceIte]at h)<;>try simp only[hc]
 |(with_reducible refine aD hQ ?_;exact fS))
def vH (x:Ex) (is:Bool):Bool:=(is && x.dp 20) ||(!is && x.none)
theorem LR {x:Ex} (is:Bool) (hx:x.size<4611686018427387904) (ht:x.texts) (s:St):aF Tryz.prog rr [.agg (cd x), .bool is] s (.bool (vH x is)) s:=by
 refine aF.pure ?_ (by simp[D.bK,D.ok,lN]) rfl s
 have hm:=zp hx ht
 unfold S0
 generalize h:vH x is=p
 unfold vH at h
 refine aF.go FN rfl fun B Q hB hQ=>?_
 have⟨hD,hY,hZ,gA⟩:=bQ
 repeat' (first
 |simp only[go_sem,hD,hY,hZ,gA]
 |(with_reducible refine CU (hm _) ?_)
 |(with_reducible refine CU (Zl _ _) ?_)
 |(with_reducible first|refine bo fun hc=>?_|refine bp fun hc=>?_|refine bq (fun hc=>?_) fun hc=>?_)<;>(try simp only[hc,bs,↓reduceIte]at h)<;>try simp only[hc]
 |(with_reducible refine aD hQ ?_;exact fS))
def pA:List Ar→Bool
 | []=>true
 |a::l=>if !(tq a.name a.ref) || !(vH a.x !a.ref)then false else pA l
theorem U1 {l:List Ar} (hl:l.length<4611686018427387904) (hs : ∀ a∈l,a.x.size<4611686018427387904∧a.x.texts∧a.name.length<4611686018427387904) (s:St) :
 aF Tryz.prog tZ [.slice .shared 6 (l.map ey)] s (.bool (pA l)) s:=by
 refine aF.pure ?_ (by simp[D.bK,D.ok,HZ,Tag.ok]) rfl s
 unfold S0
 generalize h:pA l=p
 refine aF.go Et rfl fun B Q hB hQ=>?_
 have⟨hD,hY,hZ,gA⟩:=bQ
 repeat' (first
 |simp only[go_sem,hD,hY,hZ,gA]
 |(with_reducible first|refine bo fun hc=>?_|refine bp fun hc=>?_|refine bq (fun hc=>?_) fun hc=>?_)<;>(try simp only[hc,bs,↓reduceIte]at h)<;>try simp only[hc]
 |(with_reducible refine aD hQ ?_;exact fS))
 refine e8 0 0 (bl.ind (ι:=List Ar×Nat) (fun i=>l.drop i.2=i.1∧pA i.1=p) (fun i=>i.1.length)
  (fun i=> [(5, .slice .shared 6 (l.map ey)),(6, .int .i64 (l.length:Int)),(7, .int .i64 (i.2:Int))]) (fun i=>⟨[],[]⟩) ?_ (l,0) ⟨rfl,h⟩)
 rintro⟨rest,k⟩ ⟨h1,h⟩ IH
 dsimp only at h1 h
 cases rest with
 |nil=>
  have hD:=drop_nil h1
  simp only[pA]at h
  repeat' (first
 |simp only[go_sem,hD,hY,hZ,gA]
 |(with_reducible first|refine bo fun hc=>?_|refine bp fun hc=>?_|refine bq (fun hc=>?_) fun hc=>?_)<;>(try simp only[hc,bs,↓reduceIte]at h)<;>try simp only[hc]
 |(with_reducible refine aD hQ ?_;exact fS))
 |cons a rest=>
  obtain⟨hY,g2,hD,g4⟩:=drop_cons h1
  have hZ:k<4611686018427387904:=by omega
  obtain⟨a1,a2,a3⟩:=hs a (List.mem_of_getElem? hY)
  have hn:=fun b s=>Dz a.name b a3 s
  have hw:=fun b s=>LR b a1 a2 s
  simp only[pA]at h
  repeat' (first
 |simp only[go_sem,hD,hY,hZ,gA]
 |(with_reducible refine CU (hn _ _) ?_)
 |(with_reducible refine CU (hw _ _) ?_)
 |(with_reducible first|refine bo fun hc=>?_|refine bp fun hc=>?_|refine bq (fun hc=>?_) fun hc=>?_)<;>(try simp only[hc,bs,↓reduceIte]at h)<;>try simp only[hc]
 |(with_reducible refine aD hQ ?_;exact fS))
  refine e8 0 0 (IH (rest,k+1) ⟨g2,h⟩ (Nat.lt_succ_self _))
def Sm.flags (s:Sm):Option (Bool×Bool×Bool×Bool×Bool×Bool):=
 if s.kind==1 then some (true,false,true,s.has,false,false)
 else if s.kind==2 ||s.kind==10 then some (true,false,false,s.has,false,false)
 else if s.kind==3 then some (false,false,true,s.has,false,false)
 else if s.kind==4 then some (!(s.name == []),true,false,s.has,false,false)
 else if s.kind==5 then some (false,false,true,s.has,true,true)
 else if s.kind==6 then some (false,false,true,s.has,true,false)
 else if s.kind==9 then some (false,false,s.has,false,false,false)
 else if s.kind==7 ||s.kind==8 then some (false,false,false,s.has,false,false)
 else none
def Sm.H3 (s:Sm) (nm pr x:Bool):Bool:=if !(tq s.name nm) || !(tq s.proc pr) || !(vH s.x x)then false else pA s.args
def Sm.H4 (s:Sm) (f:Bool×Bool×Bool×Bool×Bool×Bool):Bool:=
 if f.2.2.2.1 ||(!f.2.2.2.2.1 && decide ((s.aZ.length:Int) > 0)) ||(!f.2.2.2.2.2 && decide ((s.aR.length:Int) > 0)) ||(!(s.kind==4) && decide ((s.args.length:Int) > 0))then false
 else s.H3 f.1 f.2.1 f.2.2.1
def Sm.fields (s:Sm):Bool:=match s.flags with
 |none=>false
 |some f=>s.H4 f
section
variable {v:Sm} {B:fR} {Q:Exit→Tm→St→Prop} {p:Bool}
theorem U2 {nm pr x:Bool} (hf:v.ui) (hB:B.s = ⟨[],[]⟩) (hQ:pM 0 0 [(2,none)] (.bool p) ⟨[],[]⟩=Q) (h:v.H3 nm pr x=p) :
 Sem Tryz.prog B 93 acA Q [(1, .ptr 0 0),(3, .bool nm),(4, .bool pr),(5, .bool x)] ⟨[bb v],[]⟩:=by
 have h1:=fun b s=>Dz v.name b hf.name s
 have h2:=fun b s=>Dz v.proc b hf.proc s
 have h3:=fun b s=>LR b hf.x hf.xt s
 have h4:=fun s=>U1 hf.ano hf.arg s
 unfold Sm.H3 at h
 have⟨hD,hY,hZ,gA⟩:=bQ
 refine iC ?_
 repeat' (first
 |simp only[go_sem,hD,hY,hZ,gA]
 |(with_reducible refine CU (h1 _ _) ?_)
 |(with_reducible refine CU (h2 _ _) ?_)
 |(with_reducible refine CU (h3 _ _) ?_)
 |(with_reducible refine CU (h4 _) ?_)
 |(with_reducible first|refine bo fun hc=>?_|refine bp fun hc=>?_|refine bq (fun hc=>?_) fun hc=>?_)<;>(try simp only[hc,bs,↓reduceIte]at h)<;>try simp only[hc]
 |(with_reducible refine aD hQ ?_;exact fS))
theorem U3 {nm pr x has th ot ar:Bool} (hf:v.ui) (hB:B.s = ⟨[],[]⟩) (hQ:pM 0 0 [(2,none)] (.bool p) ⟨[],[]⟩=Q) (e:(v.kind==4)=ar) (h:v.H4 (nm,pr,x,has,th,ot)=p) :
 Sem Tryz.prog B 93 acB Q [(1, .ptr 0 0),(3, .bool nm),(4, .bool pr),(5, .bool x),(6, .bool has),(7, .bool th),(8, .bool ot),(9, .bool ar)] ⟨[bb v],[]⟩:=by
 simp only[Sm.H4,e]at h
 have⟨hD,hY,hZ,gA⟩:=bQ
 refine Sem.mZ ?_
 repeat' (first
 |simp only[go_sem,hD,hY,hZ,gA]
 |(with_reducible first|refine bo fun hc=>?_|refine bp fun hc=>?_|refine bq (fun hc=>?_) fun hc=>?_)<;>(try simp only[hc,bs,↓reduceIte]at h)<;>try simp only[hc]
 |(with_reducible refine aD hQ ?_;(try cases h);simp only[aU,aV,bI,bJ,go_sem,hD,hY,hZ,gA];repeat' (first|exact Ok.out|with_reducible refine iY ?_ ?_|(simp;done))))
 all_goals
  refine Sem.re _ _ 1 0 (by rw[hB];exact CY rfl) (by rw[hB];exact CY rfl) ?_ ?_ (U2 hf hB hQ h)
  ·(simp only[go_sem,hD,hY,hZ,gA];repeat' (first|exact Ok.out|with_reducible refine iY ?_ ?_))
  ·(simp only[go_sem,hD,hY,hZ,gA];repeat' (first|exact Ok.out|with_reducible refine iY ?_ ?_))
theorem U4 {ar:Bool} (hf:v.ui) (hB:B.s = ⟨[],[]⟩) (hQ:pM 0 0 [(2,none)] (.bool p) ⟨[],[]⟩=Q) (e:(v.kind==4)=ar) (h:v.fields=p) :
 Sem Tryz.prog B 93 UT Q [(1, .ptr 0 0),(3, .bool false),(4, .bool false),(5, .bool false),(6, .bool v.has),(7, .bool false),(8, .bool false),(9, .bool ar)] ⟨[bb v],[]⟩:=by
 simp only[Sm.fields,Sm.flags]at h
 have⟨hD,hY,hZ,gA⟩:=bQ
 refine Sem.mZ ?_
 repeat' (first
 |simp only[go_sem,hD,hY,hZ,gA]
 |(with_reducible first|refine bo fun hc=>?_|refine bp fun hc=>?_|refine bq (fun hc=>?_) fun hc=>?_)<;>(try simp only[hc,bs,↓reduceIte]at h)<;>try simp only[hc]
 |(with_reducible refine aD hQ ?_;(try cases h);simp only[aU,aV,bI,bJ,go_sem,hD,hY,hZ,gA];repeat' (first|exact Ok.out|with_reducible refine iY ?_ ?_|(simp;done))))
 all_goals
  refine Sem.re _ _ 1 0 (by rw[hB];exact CY rfl) (by rw[hB];exact CY rfl) ?_ ?_ (U3 hf hB hQ e h)
  ·(simp only[go_sem,hD,hY,hZ,gA];repeat' (first|exact Ok.out|with_reducible refine iY ?_ ?_))
  ·(simp only[go_sem,hD,hY,hZ,gA];repeat' (first|exact Ok.out|with_reducible refine iY ?_ ?_))
end
theorem U5 {v:Sm} (hf:v.ui) (s:St):aF Tryz.prog tY [.agg (bb v)] s (.bool v.fields) s:=by
 refine aF.pure ?_ (by simp[D.bK,D.ok,qv]) rfl s
 unfold S0
 refine aF.goS Ep rfl fun B Q hB hQ=>?_
 have⟨hD,hY,hZ,gA⟩:=bQ
 refine Sem.seq (b:=acD) (iC ?_)
 repeat' (first
 |simp only[go_sem,hD,hY,hZ,gA]
 |(with_reducible refine aD hQ ?_;exact bc))
 refine Sem.seq (b:=acC) (iC ?_)
 repeat' (first
 |simp only[go_sem,hD,hY,hZ,gA]
 |(with_reducible refine aD hQ ?_;exact bc))
 refine Sem.seq (b:=UT) (iC ?_)
 repeat' (first
 |simp only[go_sem,hD,hY,hZ,gA]
 |(with_reducible refine aD hQ ?_;exact bc))
 refine Sem.re _ _ 1 0 (by rw[hB];exact CY rfl) (by rw[hB];exact CY rfl) ?_ ?_ (U4 hf hB hQ rfl rfl)
 ·(simp only[go_sem,hD,hY,hZ,gA];repeat' (first|exact Ok.out|with_reducible refine iY ?_ ?_))
 ·(simp only[go_sem,hD,hY,hZ,gA];repeat' (first|exact Ok.out|with_reducible refine iY ?_ ?_))
end Go.Abs
namespace Go.Abs
set_option maxRecDepth 8000
open Go.Proofs
def fy (i:It):List D:= [.int .i64 i.s.id, .int .i64 i.s.kind, .slice .shared 1 (i.s.labels.map encStr), .str i.s.name, .str i.s.proc,
 .int .i64 i.s.x.op, .int .i64 i.s.x.n, .str i.s.x.name, .slice .shared 4 (i.s.x.kids.map cd), .bool i.s.has, .slice .shared 6 (i.s.args.map ey), .slice .shared 13 (i.s.aZ.map bb), .slice .shared 13 (i.s.aR.map bb), .int .i64 i.deep, .int .i64 i.cy, .bool i.aR]
theorem O2 (i:It):D.bK 0 0 (fy i)=true:=by simp[fy,D.bK,D.ok,Tag.ok,e9,WG,HZ,px]
theorem EA (l:List It):D.gQ 0 0 (l.map fy)=true:=gR O2 l
theorem agT (n m:Nat) (l:List It):D.ku n m (l.map fy)=l.map fy:=lR O2 n m l
theorem agU (n m:Nat) (i:It):D.gn n m (fy i)=fy i:=gY n m _ (O2 i)
theorem agV (x:It):(fy x).length=16:=nd rfl
theorem Jy (x:It):List.take 13 (fy x)=bb x.s:=by simp only[fy,ek];rfl
theorem U6 (x:It):(fy x)[0]? = some (.int .i64 x.s.id):=nd rfl
theorem RA (x:It):(fy x)[13]? = some (.int .i64 x.deep):=nd rfl
theorem FR (s:Sm) (d n:Int) (e:Bool):fy ⟨s,d,n,e⟩ = [.int .i64 s.id, .int .i64 s.kind, .slice .shared 1 (s.labels.map encStr), .str s.name, .str s.proc,
 .int .i64 s.x.op, .int .i64 s.x.n, .str s.x.name, .slice .shared 4 (s.x.kids.map cd), .bool s.has, .slice .shared 6 (s.args.map ey), .slice .shared 13 (s.aZ.map bb), .slice .shared 13 (s.aR.map bb), .int .i64 d, .int .i64 n, .bool e]:=nd rfl
attribute [go_sem] agT agU agV Jy U6 RA
theorem Jz (deep cy:Int) (aR:Bool) (out:List It) (s:Sm) :
 iO deep cy aR out s=if decide (deep≤12)then dQ (deep+1) s.id true (dQ (deep+1) s.id false (out++ [⟨s,deep,cy,aR⟩]) s.aZ) s.aR else out++ [⟨s,deep,cy,aR⟩]:=by
 cases s;simp only[iO]
mutual
theorem RB (deep cy:Int) (aR:Bool) (out:List It) (h:out.length≤200) : ∀ s:Sm,(iO deep cy aR out s).length≤201
 |⟨id,kind,labels,name,proc,x,has,args,aZ,e⟩=>by
  simp only[iO]
  have h1:(out++ [(⟨⟨id,kind,labels,name,proc,x,has,args,aZ,e⟩,deep,cy,aR⟩:It)]).length≤201:=by simp;omega
  split
  ·exact lf _ _ _ _ (lf _ _ _ _ h1 aZ) e
  ·exact h1
theorem lf (deep cy:Int) (aR:Bool) (out:List It) (h:out.length≤201) : ∀ l:List Sm,(dQ deep cy aR out l).length≤201
 | []=>by simpa only[dQ]using h
 | s::l=>by
  simp only[dQ]
  split
  ·rename_i hc
   simp only[decide_eq_true_eq]at hc
   exact lf deep cy aR _ (RB _ _ _ _ (by omega) s) l
  ·exact h
end
abbrev RC (N:Nat):Prop:=∀ (l:List Sm) (deep cy:Int) (aR:Bool) (out:List It),Sm.aY l<N→0≤deep→deep≤13→out.length≤201→∀ {s:St} {t:Nat},s.aw[t]? = some (some out.length)→
 aF Tryz.prog mA [.slice .shared 13 (l.map bb), .int .i64 deep, .int .i64 cy, .bool aR, .slice (.tok t) 16 (out.map fy)] s (.slice (.tok t) 16 ((dQ deep cy aR out l).map fy)) ⟨s.ah,s.aw.set t (some (dQ deep cy aR out l).length)⟩
theorem acP {N:Nat} (hN:N<4611686018427387904) (ih:RC N) {l:List Sm} {deep cy:Int} {aR:Bool} {out:List It} (hs:Sm.aY l<N+1) (GD:0≤deep) (hd:deep≤13) (ho:out.length≤201) :
 aF Tryz.prog mA [.slice .shared 13 (l.map bb), .int .i64 deep, .int .i64 cy, .bool aR, .slice (.tok 0) 16 (out.map fy)] ⟨[],[some out.length]⟩ (.slice (.tok 0) 16 ((dQ deep cy aR out l).map fy)) ⟨[],[some (dQ deep cy aR out l).length]⟩:=by
 generalize hR:dQ deep cy aR out l=R
 refine aF.go Al rfl fun B Q hB hQ=>?_
 have⟨hD,hY,hZ,gA⟩:=bQ
 repeat' (first
 |simp only[go_sem,hD,hY,hZ,gA]
 |(with_reducible refine aD hQ ?_;exact bc))
 refine e8 0 1 (bl.ind (ι:=List Sm×Nat×List It×Nat) (fun i=>l.drop i.2.1=i.1∧dQ deep cy aR i.2.2.1 i.1=R∧i.2.2.1.length≤201∧i.2.2.2=i.2.2.1.length) (fun i=>i.1.length)
  (fun i=> [(0, .slice .shared 13 (l.map bb)),(1, .int .i64 deep),(2, .int .i64 cy),(3, .bool aR),(4, .slice (.tok 0) 16 (i.2.2.1.map fy)),(11, .int .i64 (i.2.1:Int))]) (fun i=>⟨[],[some i.2.2.2]⟩) ?_ (l,0,out,out.length) ⟨rfl,hR,ho,rfl⟩)
 rintro⟨rest,k,out,n⟩ ⟨h1,h2,h3,h4⟩ IH
 dsimp only at h1 h2 h3 h4
 subst h4
 have hlen:l.length<4611686018427387904:=by have:=Sm.eB l;omega
 cases rest with
 |nil=>
  have hD:=drop_nil h1
  simp only[dQ]at h2
  subst h2
  repeat' (first
 |simp only[go_sem,hD,hY,hZ,gA]
 |(with_reducible refine aD hQ ?_;exact bc))
 | cons v rest=>
  obtain⟨hY,g2,hD,g4⟩:=drop_cons h1
  have bN:k<4611686018427387904:=by omega
  have hv:=Sm.dc (List.mem_of_getElem? hY)
  have oU:Sm.aY v.aZ<N∧Sm.aY v.aR<N:=by
   obtain⟨_,_,_,_,_,_,_,_,_,_⟩:=v
   simp only[Sm.size]at hv ⊢;omega
  simp only[dQ]at h2
  by_cases hc:out.length≤200
  ·have c1:decide ((out.length:Int)≤200)=true:=by simp;omega
   simp only[c1,↓reduceIte,Jz]at h2
   have hZ:(out.length+1)*233≤bC:=by unfold bC;omega
   have iW:(out++ [(⟨v,deep,cy,aR⟩:It)]).length≤201:=by simp;omega
   have hw:IntKind.wrap .i64 (deep+1)=deep+1:=dU (by omega) (by omega)
   by_cases anr:deep≤12
   ·have c2:decide (deep≤12)=true:=by simp;omega
    simp only[c2,↓reduceIte]at h2
    have f1:=fun {s:St} {t:Nat} (ht:s.aw[t]? = some (some (out++ [(⟨v,deep,cy,aR⟩:It)]).length))=>ih v.aZ (deep+1) v.id false _ oU.1 (by omega) (by omega) iW ht
    have f2:=fun {s:St} {t:Nat} (ht:s.aw[t]? = some (some (dQ (deep+1) v.id false (out++ [(⟨v,deep,cy,aR⟩:It)]) v.aZ).length))=>ih v.aR (deep+1) v.id true _ oU.2 (by omega) (by omega) (lf _ _ _ _ iW _) ht
    simp only[List.map_append,List.map_cons,List.map_nil,FR,List.length_append,List.length_cons,List.length_nil]at f1
    repeat' (first
 |simp only[go_sem,hD,hY,hZ,gA,c1,c2,hw,ek]
 |(with_reducible refine CU (f1 (by with_unfolding_all rfl)) ?_)
 |(with_reducible refine CU (f2 (by with_unfolding_all rfl)) ?_)
 | (with_reducible refine aD hQ ?_;exact bc))
    refine eJ 0 1 ?_ ?_ (IH (rest,k+1,_,_) ⟨g2,h2,lf _ _ _ _ (lf _ _ _ _ iW _) _,rfl⟩ (Nat.lt_succ_self _))
    ·(simp only[go_sem,hD,hY,hZ,gA,aI bN];try exact bS)
    ·(simp only[go_sem,hD,hY,hZ,gA,aI bN];try exact bS)
   ·have c2:decide (deep≤12)=false:=by simp;omega
    simp only[c2,Bool.false_eq_true,↓reduceIte]at h2
    repeat' (first
 |simp only[go_sem,hD,hY,hZ,gA,c1,c2,ek]
 | (with_reducible refine aD hQ ?_;exact bc))
    refine eJ 0 1 ?_ ?_ (IH (rest,k+1,out++ [⟨v,deep,cy,aR⟩],out.length+1) ⟨g2,h2,iW,by simp⟩ (Nat.lt_succ_self _))
    ·(simp only[go_sem,hD,hY,hZ,gA,aI bN,FR,List.map_append,List.map_cons,List.map_nil];try exact bS)
    ·(simp only[go_sem,hD,hY,hZ,gA,aI bN,FR,List.map_append,List.map_cons,List.map_nil];try exact bS)
  ·have c1:decide ((out.length:Int)≤200)=false:=by simp;omega
   simp only[c1,Bool.false_eq_true,↓reduceIte]at h2
   subst h2
   repeat' (first
 |simp only[go_sem,hD,hY,hZ,gA,c1]
 |(with_reducible refine aD hQ ?_;exact bc))
theorem U7 : ∀ N,N<4611686018427387904→RC N:=by
 intro N
 induction N with
 |zero=>exact fun _ l deep cy aR out h=>absurd h (Nat.not_lt_zero _)
 |succ N ih=>
  intro h l deep cy aR out hs GD hd ho s t ht
  exact(acP (by omega) (ih (by omega)) hs GD hd ho).aa2 (pre:= [_,_,_,_]) (post:= []) (by simp[D.bK,D.ok,Tag.ok,px]) rfl (EA out) (EA _) ht
theorem U8 {l:List Sm} (hs:Sm.aY l<4611686018427387000) (s:St) :
 aF Tryz.prog mA [.slice .shared 13 (l.map bb), .int .i64 1, .int .i64 0, .bool false, .slice .full 0 []] s (.slice .shared 16 ((dQ 1 0 false [] l).map fy)) s:=by
 refine aF.pure ?_ (by simp[D.bK,D.ok,Tag.ok,px,D.gQ]) (by simp[D.ok,Tag.ok,EA]) s
 obtain⟨N,hN⟩ : ∃ N,N=Sm.aY l:=⟨_,rfl⟩
 have ih:=U7 N (by omega)
 replace hs:Sm.aY l<N+1∧N<4611686018427387000:=by omega
 obtain⟨hs,hN⟩:=hs
 generalize hR:dQ 1 0 false [] l=R
 obtain⟨deep,O3⟩ : ∃ d:Int,d=1:=⟨_,rfl⟩
 obtain⟨cy,U9⟩ : ∃ d:Int,d=0:=⟨_,rfl⟩
 obtain⟨aR,Va⟩ : ∃ d:Bool,d=false:=⟨_,rfl⟩
 rw[← O3, ← U9, ← Va]at hR
 rw[← O3, ← U9, ← Va]
 have GD:0≤deep:=by omega
 have hd:deep≤13:=by omega
 clear O3 U9 Va
 have ho:([] : List It).length≤201:=Nat.zero_le _
 unfold S0
 refine aF.go Al rfl fun B Q hB hQ=>?_
 have⟨hD,hY,hZ,gA⟩:=bQ
 repeat' (first
 |simp only[go_sem,hD,hY,hZ,gA]
 |(with_reducible refine aD hQ ?_;exact bc))
 refine bl.se 4 16 rfl ?_
 simp only[go_sem,hD,hY,hZ,gA]
 refine e8 0 1 (bl.ind (ι:=List Sm×Nat×List It×Nat) (fun i=>l.drop i.2.1=i.1∧dQ deep cy aR i.2.2.1 i.1=R∧i.2.2.1.length≤201∧i.2.2.2=i.2.2.1.length) (fun i=>i.1.length)
  (fun i=> [(0, .slice .shared 13 (l.map bb)),(1, .int .i64 deep),(2, .int .i64 cy),(3, .bool aR),(4, .slice (.tok 0) 16 (i.2.2.1.map fy)),(11, .int .i64 (i.2.1:Int))]) (fun i=>⟨[],[some i.2.2.2]⟩) ?_ (l,0,[],0) ⟨rfl,hR,ho,rfl⟩)
 rintro⟨rest,k,out,n⟩ ⟨h1,h2,h3,h4⟩ IH
 dsimp only at h1 h2 h3 h4
 subst h4
 have hlen:l.length<4611686018427387904:=by have:=Sm.eB l;omega
 cases rest with
 |nil=>
  have hD:=drop_nil h1
  simp only[dQ]at h2
  subst h2
  repeat' (first
 |simp only[go_sem,hD,hY,hZ,gA]
 |(with_reducible refine aD hQ ?_;exact bc))
 | cons v rest=>
  obtain⟨hY,g2,hD,g4⟩:=drop_cons h1
  have bN:k<4611686018427387904:=by omega
  have hv:=Sm.dc (List.mem_of_getElem? hY)
  have oU:Sm.aY v.aZ<N∧Sm.aY v.aR<N:=by
   obtain⟨_,_,_,_,_,_,_,_,_,_⟩:=v
   simp only[Sm.size]at hv ⊢;omega
  simp only[dQ]at h2
  by_cases hc:out.length≤200
  ·have c1:decide ((out.length:Int)≤200)=true:=by simp;omega
   simp only[c1,↓reduceIte,Jz]at h2
   have hZ:(out.length+1)*233≤bC:=by unfold bC;omega
   have iW:(out++ [(⟨v,deep,cy,aR⟩:It)]).length≤201:=by simp;omega
   have hw:IntKind.wrap .i64 (deep+1)=deep+1:=dU (by omega) (by omega)
   by_cases anr:deep≤12
   ·have c2:decide (deep≤12)=true:=by simp;omega
    simp only[c2,↓reduceIte]at h2
    have f1:=fun {s:St} {t:Nat} (ht:s.aw[t]? = some (some (out++ [(⟨v,deep,cy,aR⟩:It)]).length))=>ih v.aZ (deep+1) v.id false _ oU.1 (by omega) (by omega) iW ht
    have f2:=fun {s:St} {t:Nat} (ht:s.aw[t]? = some (some (dQ (deep+1) v.id false (out++ [(⟨v,deep,cy,aR⟩:It)]) v.aZ).length))=>ih v.aR (deep+1) v.id true _ oU.2 (by omega) (by omega) (lf _ _ _ _ iW _) ht
    simp only[List.map_append,List.map_cons,List.map_nil,FR,List.length_append,List.length_cons,List.length_nil]at f1
    repeat' (first
 |simp only[go_sem,hD,hY,hZ,gA,c1,c2,hw,ek]
 |(with_reducible refine CU (f1 (by with_unfolding_all rfl)) ?_)
 |(with_reducible refine CU (f2 (by with_unfolding_all rfl)) ?_)
 | (with_reducible refine aD hQ ?_;exact bc))
    refine eJ 0 1 ?_ ?_ (IH (rest,k+1,_,_) ⟨g2,h2,lf _ _ _ _ (lf _ _ _ _ iW _) _,rfl⟩ (Nat.lt_succ_self _))
    ·(simp only[go_sem,hD,hY,hZ,gA,aI bN];try exact bS)
    ·(simp only[go_sem,hD,hY,hZ,gA,aI bN];try exact bS)
   ·have c2:decide (deep≤12)=false:=by simp;omega
    simp only[c2,Bool.false_eq_true,↓reduceIte]at h2
    repeat' (first
 |simp only[go_sem,hD,hY,hZ,gA,c1,c2,ek]
 | (with_reducible refine aD hQ ?_;exact bc))
    refine eJ 0 1 ?_ ?_ (IH (rest,k+1,out++ [⟨v,deep,cy,aR⟩],out.length+1) ⟨g2,h2,iW,by simp⟩ (Nat.lt_succ_self _))
    ·(simp only[go_sem,hD,hY,hZ,gA,aI bN,FR,List.map_append,List.map_cons,List.map_nil];try exact bS)
    ·(simp only[go_sem,hD,hY,hZ,gA,aI bN,FR,List.map_append,List.map_cons,List.map_nil];try exact bS)
  ·have c1:decide ((out.length:Int)≤200)=false:=by simp;omega
   simp only[c1,Bool.false_eq_true,↓reduceIte]at h2
   subst h2
   repeat' (first
 |simp only[go_sem,hD,hY,hZ,gA,c1]
 |(with_reducible refine aD hQ ?_;exact bc))
theorem RE {f:Pc} (hs:Sm.aY f.body<4611686018427387000) (s:St):aF Tryz.prog sI [.agg (cj f)] s (.slice .shared 16 (f.flat.map fy)) s:=by
 refine aF.pure ?_ (by simp only[D.bK,D.ok,xh];rfl) (by simp[D.ok,Tag.ok,EA]) s
 have h:=fun s=>U8 hs s
 unfold S0
 refine aF.go HG rfl fun B Q hB hQ=>?_
 have⟨hD,hY,hZ,gA⟩:=bQ
 repeat' (first
 |simp only[go_sem,hD,hY,hZ,gA,Pc.flat]
 |(with_reducible refine CU (h _) ?_)
 |(with_reducible first|refine bo fun hc=>?_|refine bp fun hc=>?_|refine bq (fun hc=>?_) fun hc=>?_)<;>(try simp only[hc,bs,↓reduceIte]at h)<;>try simp only[hc]
 |(with_reducible refine aD hQ ?_;simp only[aU,aV,bI,bJ,go_sem,hD,hY,hZ,gA,Pc.flat];try exact cv))
end Go.Abs
namespace Go.Abs
set_option maxRecDepth 8000
open Go.Proofs
theorem Pc.JA (f:Pc):f.flat.length≤201:=lf _ _ _ _ (Nat.zero_le _) _
theorem agW {p:Pg} (hs:Pc.aY p.procs<4611686018427387000) (s:St):aF Tryz.prog yZ [.agg (cr p)] s (.slice .shared 16 (p.all.map fy)) s:=by
 refine aF.pure ?_ (by simp only[D.bK,D.ok,jb];rfl) (by simp[D.ok,Tag.ok,EA]) s
 have hlen:p.procs.length<4611686018427387904:=by have:=Pc.eB p.procs;omega
 generalize hR:p.all=R
 unfold Pg.all at hR
 unfold S0
 refine aF.go Jq rfl fun B Q hB hQ=>?_
 have⟨hD,hY,hZ,gA⟩:=bQ
 repeat' (first
 |simp only[go_sem,hD,hY,hZ,gA]
 |(with_reducible refine aD hQ ?_;exact bc))
 refine bl.se 3 16 rfl ?_
 simp only[go_sem,hD,hY,hZ,gA]
 refine e8 1 1 (bl.ind (ι:=List Pc×Nat×List It×Nat) (fun i=>p.procs.drop i.2.1=i.1∧allM i.2.2.1 i.1=R∧i.2.2.1.length≤200∧i.2.2.2=i.2.2.1.length) (fun i=>i.1.length)
  (fun i=> [(1, .ptr 0 0),(3, .slice (.tok 0) 16 (i.2.2.1.map fy)),(7, .slice .shared 5 (p.procs.map cj)),(8, .int .i64 (p.procs.length:Int)),(9, .int .i64 (i.2.1:Int))]) (fun i=>⟨[cr p],[some i.2.2.2]⟩) ?_ (p.procs,0,[],0) ⟨rfl,hR,Nat.zero_le _,rfl⟩)
 rintro⟨rest,k,out,n⟩ ⟨h1,h,h3,h4⟩ IH
 dsimp only at h1 h h3 h4
 subst h4
 cases rest with
 |nil=>
  have hD:=drop_nil h1
  simp only[allM]at h
  subst h
  repeat' (first
 |simp only[go_sem,hD,hY,hZ,gA]
 |(with_reducible refine aD hQ ?_;exact bc))
 |cons f rest=>
  obtain⟨hY,g2,hD,g4⟩:=drop_cons h1
  have bN:k<4611686018427387904:=by omega
  have hf:=Pc.dc (List.mem_of_getElem? hY)
  have hb:Sm.aY f.body<4611686018427387000:=by simp only[Pc.size]at hf;omega
  have gP:=fun s=>RE hb s
  have avD:=f.JA
  have hZ:(out.length+f.flat.length)*233≤bC:=by unfold bC;omega
  simp only[allM,List.length_append]at h
  have eO:=fun(o:List (List D))=>nR (size:=16) (bytes:=232) (t:=0) (rows:=out.map fy) (new:=f.flat.map fy) (g:= .shared) (s:=⟨o,[some out.length]⟩) (by simpa using hZ) (by simp)
  repeat' (first
 |simp only[go_sem,hD,hY,hZ,gA,eO]
 |(with_reducible refine CU (gP _) ?_)
 |(with_reducible first|refine bo fun hc=>?_|refine bp fun hc=>?_|refine bq (fun hc=>?_) fun hc=>?_)<;>(try simp only[hc,bs,↓reduceIte]at h)<;>try simp only[hc]
 |(with_reducible refine aD hQ ?_;(try cases h);simp only[aU,aV,bI,bJ,go_sem,hD,hY,hZ,gA,eO];try exact cv))
  refine eJ 1 1 ?_ ?_ (IH (rest,k+1,out++f.flat,out.length+f.flat.length) ⟨g2,h,by rename_i hc;simp only[decide_eq_false_iff_not]at hc;simp only[List.length_append];omega,by simp⟩ (Nat.lt_succ_self _))
  ·(simp only[go_sem,hD,hY,hZ,gA,aI bN];try exact bS)
  ·(simp only[go_sem,hD,hY,hZ,gA,aI bN];try exact bS)
structure Pg.ui (p:Pg):Prop where
 sz:p.size<4611686018427387000
 uk : ∀ t∈p.globals,t.length<4611686018427387904
 nU : ∀ f∈p.procs,f.name.length<4611686018427387904∧(∀ t∈f.vars,t.length<4611686018427387904)∧(∀ t∈f.fin,t.length<4611686018427387904)∧∀ a∈f.params,a.name.length<4611686018427387904
 items : ∀ i∈p.all,i.s.ui
def gate (nest:Int) (len n:Nat) (r:Bool×Nat):Bool×Nat:=if decide (nest > 12) && decide ((len:Int) > 0)then(false,n)else r
mutual
def Sm.pQ (nest:Int) (n:Nat):Sm→Bool×Nat
 |⟨id,kind,labels,name,proc,x,has,args,aZ,aR⟩=>
  if decide (((n+1:Nat):Int) > 200) ||id != ((n+1:Nat):Int) || !(fa labels) || !(Sm.fields ⟨id,kind,labels,name,proc,x,has,args,aZ,aR⟩)then(false,n+1)
  else if !(gate (nest+1) aZ.length (n+1) (Sm.fe (nest+1) (n+1) aZ)).1 then(false,(gate (nest+1) aZ.length (n+1) (Sm.fe (nest+1) (n+1) aZ)).2)
  else gate (nest+1) aR.length (gate (nest+1) aZ.length (n+1) (Sm.fe (nest+1) (n+1) aZ)).2 (Sm.fe (nest+1) (gate (nest+1) aZ.length (n+1) (Sm.fe (nest+1) (n+1) aZ)).2 aR)
def Sm.fe (nest:Int) (n:Nat):List Sm→Bool×Nat
 | []=>(true,n)
 |s::l=>if !(Sm.pQ nest n s).1 then(false,(Sm.pQ nest n s).2)else Sm.fe nest (Sm.pQ nest n s).2 l
end
def Sm.gp (nest:Int) (n:Nat) (l:List Sm):Bool×Nat:=gate nest l.length n (Sm.fe nest n l)
theorem FT (nest:Int) (n:Nat) (s:Sm):Sm.pQ nest n s =
 if decide (((n+1:Nat):Int) > 200) ||s.id != ((n+1:Nat):Int) || !(fa s.labels) || !(s.fields)then(false,n+1)
 else if !(Sm.gp (nest+1) (n+1) s.aZ).1 then(false,(Sm.gp (nest+1) (n+1) s.aZ).2)
 else Sm.gp (nest+1) (Sm.gp (nest+1) (n+1) s.aZ).2 s.aR:=by
 cases s;simp only[Sm.pQ,Sm.gp];rfl
mutual
def Sm.wH:Sm→Prop
 |⟨id,kind,labels,name,proc,x,has,args,aZ,aR⟩=>Sm.ui ⟨id,kind,labels,name,proc,x,has,args,aZ,aR⟩∧Sm.kr aZ∧Sm.kr aR
def Sm.kr:List Sm→Prop
 | []=>True
 |s::l=>s.wH∧Sm.kr l
end
theorem DA (s:Sm):s.wH↔s.ui∧Sm.kr s.aZ∧Sm.kr s.aR:=by cases s;simp only[Sm.wH]
theorem EB {s:Sm} : ∀ {l:List Sm},Sm.kr l→s∈l→s.wH
 |y::l,h,m=>by
  simp only[Sm.kr]at h
  rcases List.mem_cons.1 m with rfl|m
  ·exact h.1
  ·exact EB h.2 m
mutual
theorem Zm (nest:Int) (n:Nat) : ∀ s:Sm,n≤201→(Sm.pQ nest n s).2≤202∧((Sm.pQ nest n s).1=true→(Sm.pQ nest n s).2≤200)
 | ⟨id,kind,labels,name,proc,x,has,args,aZ,aR⟩,hn=>by
  simp only[Sm.pQ]
  split
  ·exact⟨by dsimp only;omega,fun h=>by cases h⟩
  rename_i hc
  simp only[Bool.or_eq_true,decide_eq_true_eq,not_or]at hc
  have Am:n+1≤200:=by omega
  have g1 : ∀ (nest:Int) (l:List Sm) (m:Nat),m≤200→(Sm.fe nest m l).2≤202∧((Sm.fe nest m l).1=true→(Sm.fe nest m l).2≤200)→
   (gate nest l.length m (Sm.fe nest m l)).2≤202∧((gate nest l.length m (Sm.fe nest m l)).1=true→(gate nest l.length m (Sm.fe nest m l)).2≤200):=by
   intro nest l m hm h
   unfold gate
   split
   ·exact⟨by dsimp only;omega,fun h=>by cases h⟩
   ·exact h
  have h1:=g1 (nest+1) aZ (n+1) Am (Ch (nest+1) (n+1) aZ Am)
  split
  ·exact⟨h1.1,fun h=>by cases h⟩
  rename_i Is
  have h2:=h1.2 (by simpa using Is)
  exact g1 (nest+1) aR _ h2 (Ch (nest+1) _ aR h2)
theorem Ch (nest:Int) (n:Nat) : ∀ l:List Sm,n≤200→(Sm.fe nest n l).2≤202∧((Sm.fe nest n l).1=true→(Sm.fe nest n l).2≤200)
 | [],hn=>by simp only[Sm.fe];exact⟨by omega,fun _=>hn⟩
 |s::l,hn=>by
  simp only[Sm.fe]
  have h1:=Zm nest n s (by omega)
  split
  ·exact⟨h1.1,fun h=>by cases h⟩
  rename_i hc
  exact Ch nest _ l (h1.2 (by simpa using hc))
end
theorem FU {nest:Int} {n:Nat} {l:List Sm} (hn:n≤200):(Sm.gp nest n l).2≤202∧((Sm.gp nest n l).1=true→(Sm.gp nest n l).2≤200):=by
 unfold Sm.gp gate
 split
 ·exact⟨by dsimp only;omega,fun h=>by cases h⟩
 ·exact Ch nest n l hn
theorem Zn : ∀ (m:Nat) (l:List Sm),Sm.aY l≤m→Sm.aY l<4611686018427387000→Sm.kr l→∀ (nest:Int) (n:Nat),0≤nest→nest≤13→n≤200→
 aF Tryz.prog kn [.ptr 0 0, .slice .shared 13 (l.map bb), .int .i64 nest] ⟨[[.int .i64 n]],[]⟩ (.bool (Sm.gp nest n l).1) ⟨[[.int .i64 (Sm.gp nest n l).2]],[]⟩:=by
 intro m
 induction m with
 | zero=>
  intro l h hs hf nest n h0 h13 hn
  cases l with
  |nil=>
   have d1:decide ((0:Int) > 0)=false:=rfl
   have e:Sm.gp nest n [] = (true,n):=by simp[Sm.gp,gate,Sm.fe]
   have z:decide ((0:Int)<0)=false:=rfl
   rw[e]
   refine aF.go rC rfl fun B Q hB hQ=>?_
   have⟨hD,hY,hZ,gA⟩:=bQ
   repeat' (first
 |simp only[go_sem,hD,hY,hZ,gA,d1,z]
 |(with_reducible refine bl.kQ ?_)
 |(with_reducible first|refine bo fun hc=>?_|refine bp fun hc=>?_|refine bq (fun hc=>?_) fun hc=>?_)<;>(try simp only[hc,bs,↓reduceIte]at h)<;>try simp only[hc]
 |(with_reducible refine aD hQ ?_;exact bc))
  |cons s l=>simp only[Sm.aY]at h;omega
 |succ m ih=>
  intro l h hs hf nest n h0 h13 hn
  generalize hR:Sm.gp nest n l=R
  have hlen:=Sm.eB l
  unfold Sm.gp gate at hR
  have h:=hR
  refine aF.go rC rfl fun B Q hB hQ=>?_
  have⟨hD,hY,hZ,gA⟩:=bQ
  repeat' (first
 |simp only[go_sem,hD,hY,hZ,gA]
 |(with_reducible first|refine bo fun hc=>?_|refine bp fun hc=>?_|refine bq (fun hc=>?_) fun hc=>?_)<;>(try simp only[hc,bs,↓reduceIte]at h)<;>try simp only[hc]
 | (with_reducible refine aD hQ ?_;(try cases h);simp only [aU,aV,bI,bJ,go_sem,hD,hY,hZ,gA];repeat' (first | exact Ok.out | with_reducible refine iY ?_ ?_ | (simp;done))))
  all_goals
   have agX:l≠ []→nest≤12:=by
    intro eK
    have:l.length≠0:=by simpa using eK
    simp_all<;>omega
   refine e8 1 0 (bl.ind (ι:=List Sm×Nat×Nat) (fun i=>l.drop i.2.1=i.1∧Sm.fe nest i.2.2 i.1=R∧i.2.2≤200) (fun i=>i.1.length)
    (fun i=> [(0, .ptr 0 0),(2, .int .i64 nest),(16, .slice .shared 13 (l.map bb)),(17, .int .i64 (l.length:Int)),(18, .int .i64 (i.2.1:Int))]) (fun i=>⟨[[.int .i64 (i.2.2:Int)]],[]⟩) ?_ (l,0,n) ⟨rfl,h,hn⟩)
   rintro⟨rest,k,j⟩ ⟨h1,h,hj⟩ IH
   dsimp only at h1 h hj
   cases rest with
   |nil=>
    have hD:=drop_nil h1
    simp only[Sm.fe]at h
    repeat' (first
 |simp only[go_sem,hD,hY,hZ,gA]
 |(with_reducible first|refine bo fun hc=>?_|refine bp fun hc=>?_|refine bq (fun hc=>?_) fun hc=>?_)<;>(try simp only[hc,bs,↓reduceIte]at h)<;>try simp only[hc]
 | (with_reducible refine aD hQ ?_;exact fS))
   | cons s rest=>
    obtain⟨hY,g2,hD,g4⟩:=drop_cons h1
    have hZ:k<4611686018427387904:=by omega
    have gy:=List.mem_of_getElem? hY
    have dM:=Sm.dc gy
    have avE:=agX (by rintro rfl;simp at gy)
    obtain⟨D5,hft,hfe⟩:=(DA s).1 (EB hf gy)
    have Tj:Sm.aY s.aZ<s.size∧Sm.aY s.aR<s.size:=by cases s;simp only[Sm.size];omega
    have w1:IntKind.wrap .i64 ((j:Int)+1)=((j+1:Nat):Int):=by rw[dU]<;>omega
    have w2:IntKind.wrap .i64 (nest+1)=nest+1:=dU (by omega) (by omega)
    have c1:=fun s=>zo D5.ann D5.Xw s
    have c2:=fun s=>U5 D5 s
    simp only[Sm.fe,FT]at h
    by_cases RF:j+1≤200
    ·have r1:=FU (nest:=nest+1) (l:=s.aZ) RF
     have c3:=fun s' ho=>(ih s.aZ (by omega) (by omega) hft (nest+1) (j+1) (by omega) (by omega) RF).Tq (s:=s') (o:=0) (by simp[D.bK,D.ok,px,Tag.ok]) rfl rfl rfl ho
     by_cases wy:(Sm.gp (nest+1) (j+1) s.aZ).1=true
     ·have c4:=fun s' ho=>(ih s.aR (by omega) (by omega) hfe (nest+1) _ (by omega) (by omega) (r1.2 wy)).Tq (s:=s') (o:=0) (by simp [D.bK,D.ok,px,Tag.ok]) rfl rfl rfl ho
      have r2:=FU (nest:=nest+1) (l:=s.aR) (r1.2 wy)
      simp only[wy]at c3
      simp only[wy,Bool.not_true,Bool.false_eq_true,↓reduceIte]at h
      repeat' (first
 |simp only[go_sem,hD,hY,hZ,gA,w1,w2,wy]
 |(with_reducible refine CU (c1 _) ?_)
 |(with_reducible refine CU (c2 _) ?_)
 |(with_reducible refine CU (c3 _ rfl) ?_)
 |(with_reducible refine CU (c4 _ rfl) ?_)
 |(with_reducible first|refine bo fun hc=>?_|refine bp fun hc=>?_|refine bq (fun hc=>?_) fun hc=>?_)<;>(try simp only[hc,bs,↓reduceIte]at h)<;>try simp only[hc]
 |(with_reducible refine aD hQ ?_;(try cases h);simp only[aU,aV,bI,bJ,go_sem,hD,hY,hZ,gA,w1,w2,wy];try exact cv))
      refine e8 1 0 (IH (rest,k+1,(Sm.gp (nest+1) (Sm.gp (nest+1) (j+1) s.aZ).2 s.aR).2) ⟨g2,h,r2.2 (by assumption)⟩ (Nat.lt_succ_self _))
     ·have wy:(Sm.gp (nest+1) (j+1) s.aZ).1=false:=by simpa using wy
      simp only[wy]at c3
      simp only[wy,Bool.not_false,↓reduceIte]at h
      repeat' (first
 |simp only[go_sem,hD,hY,hZ,gA,w1,w2,wy]
 |(with_reducible refine CU (c1 _) ?_)
 |(with_reducible refine CU (c2 _) ?_)
 |(with_reducible refine CU (c3 _ rfl) ?_)
 |(with_reducible first|refine bo fun hc=>?_|refine bp fun hc=>?_|refine bq (fun hc=>?_) fun hc=>?_)<;>(try simp only[hc,bs,↓reduceIte]at h)<;>try simp only[hc]
 | (with_reducible refine aD hQ ?_;(try cases h);simp only [aU,aV,bI,bJ,go_sem,hD,hY,hZ,gA,w1,w2,wy];try exact cv))
    ·have d1:decide (((j+1:Nat):Int) > 200)=true:=by simp;omega
     simp only[d1,Bool.true_or,Bool.not_false,↓reduceIte]at h
     repeat' (first
 |simp only[go_sem,hD,hY,hZ,gA,w1,w2,d1]
 |(with_reducible refine CU (c1 _) ?_)
 |(with_reducible refine CU (c2 _) ?_)
 |(with_reducible first|refine bo fun hc=>?_|refine bp fun hc=>?_|refine bq (fun hc=>?_) fun hc=>?_)<;>(try simp only[hc,bs,↓reduceIte]at h)<;>try simp only[hc]
 |(with_reducible refine aD hQ ?_;(try cases h);simp only[aU,aV,bI,bJ,go_sem,hD,hY,hZ,gA,w1,w2,d1];try exact cv))
def Pc.fe (n:Nat):List Pc→Bool
 | []=>true
 |f::l=>
  if decide ((f.params.length:Int) > 8) ||decide ((f.vars.length:Int) > 16) || !(isName f.name) || !(fa f.vars) || !(fa f.fin)then false
  else if !(Pm.fK f.params)then false
  else if !(Sm.gp 1 n f.body).1 then false
  else Pc.fe (Sm.gp 1 n f.body).2 l
def Pg.FV (p:Pg):Bool:=
 if decide ((p.globals.length:Int) > 16) ||decide ((p.procs.length:Int) > 16) || !(fa p.globals)then false
 else Pc.fe 0 p.procs
structure Pg.H5 (p:Pg):Prop where
 sz:p.size<4611686018427387000
 uk : ∀ t∈p.globals,t.length<4611686018427387904
 nU : ∀ f∈p.procs,f.name.length<4611686018427387904∧(∀ t∈f.vars,t.length<4611686018427387904)∧(∀ t∈f.fin,t.length<4611686018427387904)∧∀ a∈f.params,a.name.length<4611686018427387904
 body : ∀ f∈p.procs,Sm.kr f.body
theorem JB {p:Pg} (hf:p.H5) (s:St):aF Tryz.prog rk [.agg (cr p)] s (.bool p.FV) s:=by
 refine aF.pure ?_ (by simp only[D.bK,D.ok,jb];rfl) rfl s
 obtain⟨dM,qL,acQ,B7⟩:=hf
 have qM:Pc.aY p.procs<4611686018427387000:=by simp only[Pg.size]at dM;omega
 have agY:p.globals.length<4611686018427387904:=by simp only[Pg.size]at dM;omega
 have avs:p.procs.length<4611686018427387904:=by have:=Pc.eB p.procs;omega
 have hg:=fun s=>zo agY qL s
 unfold S0
 generalize h:p.FV=R
 unfold Pg.FV at h
 refine aF.go Jo rfl fun B Q hB hQ=>?_
 have⟨hD,hY,hZ,gA⟩:=bQ
 repeat' (first
 |simp only[go_sem,hD,hY,hZ,gA]
 |(with_reducible refine CU (hg _) ?_)
 |(with_reducible first|refine bo fun hc=>?_|refine bp fun hc=>?_|refine bq (fun hc=>?_) fun hc=>?_)<;>(try simp only[hc,bs,↓reduceIte]at h)<;>try simp only[hc]
 |(with_reducible refine aD hQ ?_;exact fS))
 refine e8 2 0 (bl.ind (ι:=List Pc×Nat×Nat) (fun i=>p.procs.drop i.2.1=i.1∧Pc.fe i.2.2 i.1=R∧i.2.2≤200) (fun i=>i.1.length)
  (fun i=> [(1, .ptr 0 0),(3, .ptr 1 0),(27, .slice .shared 5 (p.procs.map cj)),(28, .int .i64 (p.procs.length:Int)),(29, .int .i64 (i.2.1:Int))]) (fun i=>⟨[cr p,[.int .i64 (i.2.2:Int)]],[]⟩) ?_ (p.procs,0,0) ⟨rfl,h,Nat.zero_le _⟩)
 rintro⟨rest,k,n⟩ ⟨h1,h,hn⟩ IH
 dsimp only at h1 h hn
 cases rest with
 |nil=>
  have hD:=drop_nil h1
  simp only[Pc.fe]at h
  repeat' (first
 |simp only[go_sem,hD,hY,hZ,gA]
 |(with_reducible first|refine bo fun hc=>?_|refine bp fun hc=>?_|refine bq (fun hc=>?_) fun hc=>?_)<;>(try simp only[hc,bs,↓reduceIte]at h)<;>try simp only[hc]
 |(with_reducible refine aD hQ ?_;exact fS))
 |cons f rest=>
  obtain⟨hY,g2,hD,g4⟩:=drop_cons h1
  have bN:k<4611686018427387904:=by omega
  have gy:=List.mem_of_getElem? hY
  have An:=Pc.dc gy
  simp only[Pc.size]at An
  obtain⟨Ao,hfv,hff,hfp⟩:=acQ f gy
  have hnm:=Bw f.name Ao
  have hv:=fun s=>zo (by omega) hfv s
  have he:=fun s=>zo (by omega) hff s
  have hb:=fun s' o ho=>(Zn _ f.body (Nat.le_refl _) (by omega) (B7 f gy) 1 n (by omega) (by omega) hn).Tq (s:=s') (o:=o) (by simp[D.bK,D.ok,px,Tag.ok]) rfl rfl rfl ho
  have hle:=FU (nest:=1) (l:=f.body) hn
  simp only[Pc.fe]at h
  repeat' (first
 |simp only[go_sem,hD,hY,hZ,gA]
 |(with_reducible refine CU (hnm _) ?_)
 |(with_reducible refine CU (hv _) ?_)
 |(with_reducible refine CU (he _) ?_)
 |(with_reducible first|refine bo fun hc=>?_|refine bp fun hc=>?_|refine bq (fun hc=>?_) fun hc=>?_)<;>(try simp only[hc,bs,↓reduceIte]at h)<;>try simp only[hc]
 |(with_reducible refine aD hQ ?_;exact fS)
 | (cases h;done))
  refine e8 3 0 (bl.ind (ι:=List Pm×Nat) (fun i=>f.params.drop i.2=i.1∧(if !(Pm.fK i.1)then false else if !(Sm.gp 1 n f.body).1 then false else Pc.fe (Sm.gp 1 n f.body).2 rest)=R) (fun i=>i.1.length)
   (fun i=> [(1, .ptr 0 0),(3, .ptr 1 0),(5, .ptr 2 0),(27, .slice .shared 5 (p.procs.map cj)),(28, .int .i64 (p.procs.length:Int)),(29, .int .i64 (k:Int)),(62, .slice .shared 2 (f.params.map iD)),(63, .int .i64 (f.params.length:Int)),(64, .int .i64 (i.2:Int))]) (fun i=>⟨[cr p,[.int .i64 (n:Int)],cj f],[]⟩) ?_ (f.params,0) ⟨rfl,h⟩)
  rintro⟨O4,j⟩ ⟨j1,h⟩ By
  dsimp only at j1 h
  cases O4 with
  |nil=>
   have hD:=drop_nil j1
   simp only[Pm.fK,Bool.not_true,Bool.false_eq_true,↓reduceIte]at h
   repeat' (first
 |simp only[go_sem,hD,hY,hZ,gA]
 |(with_reducible refine CU (hb _ _ rfl) ?_)
 |(with_reducible first|refine bo fun hc=>?_|refine bp fun hc=>?_|refine bq (fun hc=>?_) fun hc=>?_)<;>(try simp only[hc,bs,↓reduceIte]at h)<;>try simp only[hc]
 |(with_reducible refine aD hQ ?_;exact fS)
 | (cases h;done))
   refine eJ 2 0 ?_ ?_ (IH (rest,k+1,(Sm.gp 1 n f.body).2) ⟨g2,h,hle.2 (by assumption)⟩ (Nat.lt_succ_self _))
   ·(simp only[go_sem,hD,hY,hZ,gA,aI bN];try exact bS)
   ·(simp only[go_sem,hD,hY,hZ,gA,aI bN];try exact bS)
  |cons a O4=>
   obtain⟨hY,b2,hD,b4⟩:=drop_cons j1
   have RF:j<4611686018427387904:=by omega
   have ha:=Bw a.name (hfp a (List.mem_of_getElem? hY))
   simp only[Pm.fK]at h
   repeat' (first
 |simp only[go_sem,hD,hY,hZ,gA]
 |(with_reducible refine CU (ha _) ?_)
 |(with_reducible first|refine bo fun hc=>?_|refine bp fun hc=>?_|refine bq (fun hc=>?_) fun hc=>?_)<;>(try simp only[hc,bs,↓reduceIte]at h)<;>try simp only[hc]
 |(with_reducible refine aD hQ ?_;exact fS)
 | (cases h;done))
   refine eJ 3 0 ?_ ?_ (By (O4,j+1) ⟨b2,h⟩ (Nat.lt_succ_self _))
   ·(simp only[go_sem,hD,hY,hZ,gA,aI RF];try exact bS)
   ·(simp only[go_sem,hD,hY,hZ,gA,aI RF];try exact bS)
theorem zr {s:aG} (h:isName s=true):s.length≤8:=by
 cases s with
 |nil=>simp
 | cons c r=>
  simp only[isName]at h
  split at h
  ·cases h
  ·rename_i hc
   simp only[Bool.or_eq_true,decide_eq_true_eq,not_or]at hc
   simp only[List.length_cons];omega
theorem o9 {t:aG} : ∀ {l:List aG},fa l=true→t∈l→isName t=true
 | s::l,h,m=>by
  simp only[fa]at h
  cases hs:isName s
  ·simp[hs]at h
  ·simp [hs]at h
   rcases List.mem_cons.1 m with rfl|m
   ·exact hs
   ·exact o9 h m
theorem JC {a:Ar} : ∀ {l:List Ar},Ar.fK l=true→a∈l→a.may=true
 | s::l,h,m=>by
  simp only[Ar.fK]at h
  cases hs:s.may
  ·simp[hs]at h
  ·simp [hs]at h
   rcases List.mem_cons.1 m with rfl|m
   ·exact hs
   ·exact JC h m
theorem GF {a:Pm} : ∀ {l:List Pm},Pm.fK l=true→a∈l→isName a.name=true
 | s::l,h,m=>by
  simp only[Pm.fK]at h
  cases hs:isName s.name
  ·simp[hs]at h
  ·simp [hs]at h
   rcases List.mem_cons.1 m with rfl|m
   ·exact hs
   ·exact GF h m
mutual
theorem EC : ∀ x:Ex,x.form=true→x.texts
 | ⟨op,n,name,kids⟩,h=>by
  simp only[Ex.form]at h
  split at h
  ·cases h
  ·rename_i hc
   refine⟨?_,C1 kids h⟩
   simp only[Bool.or_eq_true,Bool.and_eq_true,Bool.not_eq_true',not_or,not_and,Bool.not_eq_false]at hc
   cases hn:(name == [])
   ·have:=zr (hc.2 hn);omega
   ·simp at hn;subst hn;simp
theorem C1 : ∀ l:List Ex,Ex.sK l=true→Ex.vE l
 | [],_=>trivial
 | x::l,h=>by
  simp only[Ex.sK]at h
  cases hx:x.form
  ·simp[hx]at h
  ·simp [hx]at h
   exact⟨EC x hx,C1 l h⟩
end
theorem GG {x:Ex} (h:x.may=true):x.texts:=by
 unfold Ex.may at h
 simp only[Bool.and_eq_true]at h
 exact EC x h.2
theorem ED {x:Ex} (h:x.none=true):x.texts:=by
 obtain⟨op,n,name,kids⟩:=x
 simp[Ex.none]at h
 obtain⟨⟨_,h1⟩,h2⟩:=h
 subst h1 h2
 exact⟨by simp,trivial⟩
mutual
theorem RG {deep cy:Int} {aR:Bool} {out:List It} {i:It} : ∀ s:Sm,i∈iO deep cy aR out s→i∈out∨i.s.size≤s.size
 | ⟨id,kind,labels,name,proc,x,has,args,aZ,e⟩,h=>by
  simp only[iO]at h
  have key:i∈out++ [(⟨⟨id,kind,labels,name,proc,x,has,args,aZ,e⟩,deep,cy,aR⟩:It)]→i∈out∨i.s.size≤(⟨id,kind,labels,name,proc,x,has,args,aZ,e⟩:Sm).size:=by
   intro h
   rcases List.mem_append.1 h with h|h
   ·exact .inl h
   ·simp at h;subst h;exact .inr (Nat.le_refl _)
  split at h
  ·rcases wI e h with h | h
   ·rcases wI aZ h with h | h
    ·exact key h
    ·right;simp only[Sm.size];omega
   ·right;simp only[Sm.size];omega
  ·exact key h
theorem wI {deep cy:Int} {aR:Bool} {out:List It} {i:It} : ∀ l:List Sm,i∈dQ deep cy aR out l→i∈out∨i.s.size<Sm.aY l
 | [],h=>by simp only[dQ]at h;exact .inl h
 | s::l,h=>by
  simp only[dQ]at h
  split at h
  ·rcases wI l h with h | h
   ·rcases RG s h with h | h
    ·exact .inl h
    ·right;simp only[Sm.aY];omega
   ·right;simp only[Sm.aY];omega
  ·exact .inl h
end
theorem JD {i:It} : ∀ (l:List Pc) (out:List It),i∈allM out l→i∈out∨i.s.size<Pc.aY l
 | [],out,h=>by simp only[allM]at h;exact .inl h
 | f::l,out,h=>by
  have key:i∈out++f.flat→i∈out∨i.s.size<Pc.aY (f::l):=by
   intro h
   rcases List.mem_append.1 h with h|h
   ·exact .inl h
   ·rcases wI _ h with h | h
    ·simp at h
    ·right;simp only[Pc.aY,Pc.size];omega
  simp only[allM]at h
  split at h
  ·exact key h
  ·rcases JD l _ h with h | h
   ·exact key h
   ·right;simp only[Pc.aY];omega
theorem EE {i:It} : ∀ (l:List It) (n:Nat),It.fK n l=true→i∈l→i.s.one=true
 | s::l,n,h,m=>by
  simp only[It.fK]at h
  split at h
  ·cases h
  ·rename_i hc
   simp only[Bool.or_eq_true,Bool.not_eq_true',not_or,Bool.not_eq_false]at hc
   rcases List.mem_cons.1 m with rfl|m
   ·exact hc.2
   ·exact EE l (n+1) h m
theorem JE {s:Sm} (h:s.one=true) (hs:s.size<4611686018427387000):s.ui:=by
 unfold Sm.one at h
 split at h
 ·cases h
 split at h
 ·cases h
 split at h
 ·cases h
 split at h
 ·cases h
 rename_i c1 c2 c3 c4
 simp only[Bool.or_eq_true,Bool.and_eq_true,Bool.not_eq_true',not_or,not_and,Bool.not_eq_false,decide_eq_true_eq]at c1 c2 c3 c4
 obtain⟨⟨⟨⟨⟨_,_⟩,ans⟩,cx⟩,cn⟩,_⟩:=c1
 obtain⟨c21,c22⟩:=c2
 obtain⟨⟨c31,c32⟩,c33⟩:=c3
 have nm : ∀ {t:aG},isName t=true→t.length<4611686018427387904:=fun h=>by have:=zr h;omega
 have dM:1+s.labels.length+s.x.size+Ar.aY s.args≤s.size:=by cases s;simp only[Sm.size];omega
 have yc:=Ar.eB s.args
 refine⟨fun t ht=>nm (o9 ans ht),by omega, ?_, ?_,by omega, ?_,by omega,fun a ha=>?_⟩
 ·cases hn:s.hasName
  ·cases he:(s.name == [])
   ·exact nm (c22 ⟨hn,he⟩).2
   ·simp at he;rw[he];simp
  ·exact nm (c21 hn)
 ·cases oG:s.yr
  ·rw [oG]at c31
   have:s.proc = []:=by simpa using c31
   rw[this];simp
  ·exact nm (c32 oG)
 ·cases hx:s.OY
  ·exact ED (cn hx)
  ·exact GG (cx hx)
 ·have hm:=JC c4 ha
  have XD:=Ar.dc ha
  unfold Ar.may at hm
  split at hm
  ·simp only [Bool.and_eq_true]at hm
   exact⟨by omega,ED hm.2,nm hm.1⟩
  ·simp only [Bool.and_eq_true,beq_iff_eq]at hm
   exact⟨by omega,GG hm.2,by rw[hm.1];simp⟩
theorem GH {f:Pc} : ∀ {l:List Pc},Pc.nU l=true→f∈l→isName f.name=true∧fa f.vars=true∧fa f.fin=true∧Pm.fK f.params=true
 |s::l,h,m=>by
  simp only[Pc.nU]at h
  split at h
  ·cases h
  split at h
  ·cases h
  rename_i c1 c2
  simp only[Bool.or_eq_true,Bool.not_eq_true',not_or,Bool.not_eq_false]at c1 c2
  rcases List.mem_cons.1 m with rfl|m
  ·exact⟨c1.1.1.1.1,c1.1.2,c1.2,c2⟩
  ·exact GH h m
theorem Vb {p:Pg} (h:p.may=true) (hs:p.size<4611686018427387000):p.ui:=by
 unfold Pg.may at h
 split at h
 ·cases h
 split at h
 ·cases h
 split at h
 ·cases h
 rename_i c1 c2 c3
 simp only[Bool.or_eq_true,Bool.not_eq_true',not_or,Bool.not_eq_false]at c1 c2
 have nm : ∀ {t:aG},isName t=true→t.length<4611686018427387904:=fun h=>by have:=zr h;omega
 refine⟨hs,fun t ht=>nm (o9 c1.2 ht),fun f hf=>?_,fun i hi=>?_⟩
 ·obtain⟨a,b,c,d⟩:=GH c2 hf
  exact⟨nm a,fun t ht=>nm (o9 b ht),fun t ht=>nm (o9 c ht),fun t ht=>nm (GF d ht)⟩
 ·refine JE (EE _ _ h hi) ?_
  rcases JD _ _ hi with h1|h1
  ·simp at h1
  ·simp only[Pg.size]at hs;omega
theorem RH {t:aG} (h:isName t=true):t≠ []:=by rintro rfl;cases h
theorem Vc (op n:Int) (name:aG) (kids:List Ex):Ex.form ⟨op,n,name,kids⟩=true↔
 od op=(kids.length:Int)∧(op=1∨n=0)∧0≤n∧(op=2↔name≠ [])∧(name = []∨isName name=true)∧Ex.sK kids=true:=by
 simp only[Ex.form]
 split
 ·rename_i h
  simp only[Bool.or_eq_true,Bool.and_eq_true,bne_iff_ne,ne_eq,decide_eq_true_eq,Bool.not_eq_true']at h
  refine⟨fun h=>(Bool.false_ne_true h).elim,fun⟨h1,h2,h3,h4,h5,_⟩=>?_⟩
  exfalso
  rcases h with (((h|h)|h)|h)|h
  ·exact h h1
  ·rcases h2 with h2 | h2
   ·exact h.1 h2
   ·exact h.2 h2
  ·omega
  ·by_cases h2:op=2<;>cases name<;>simp_all
  ·rcases h5 with h5 | h5
   ·subst h5;simp at h
   ·rw[h5]at h;simp at h
 ·rename_i h
  simp only[Bool.or_eq_true,Bool.and_eq_true,bne_iff_ne,ne_eq,decide_eq_true_eq,Bool.not_eq_true',not_or,not_and,Decidable.not_not,Bool.not_eq_false]at h
  obtain⟨⟨⟨⟨h1,h2⟩,h3⟩,h4⟩,h5⟩:=h
  refine⟨fun h=>⟨h1, ?_,by omega, ?_, ?_,h⟩,fun h=>h.2.2.2.2.2⟩
  ·by_cases h:op=1
   ·exact .inl h
   ·exact .inr (h2 h)
  ·by_cases h2:op=2<;>cases name<;>simp_all
  ·cases name with
   |nil=>exact .inl rfl
   |cons c r=>exact .inr (h5 rfl)
theorem JF (op n:Int) (name:aG) (kids:List Ex) (k:Int):Ex.dp k ⟨op,n,name,kids⟩=true↔
 1≤k∧(kids.length:Int)=od op∧(if op=1 then 0≤n∧name = []else if op=2 then n=0∧isName name=true else n=0∧name = []∧Ex.Bx (k - 1) kids=true):=by
 simp only[Ex.dp]
 split
 ·rename_i h
  simp only[Bool.or_eq_true,decide_eq_true_eq,bne_iff_ne,ne_eq]at h
  refine⟨fun h=>(Bool.false_ne_true h).elim,fun⟨h1,h2,_⟩=>?_⟩
  rcases h with h|h
  ·omega
  ·exact(h h2).elim
 rename_i h
 simp only[Bool.or_eq_true,decide_eq_true_eq,bne_iff_ne,ne_eq,not_or,Decidable.not_not]at h
 have h1:1≤k:=by omega
 simp only[h1,h.2,true_and]
 by_cases o1:op=1
 ·subst o1
  cases name<;>simp
 ·have o1' : ¬ (op==1)=true:=by simpa using o1
  rw[if_neg o1',if_neg o1]
  by_cases o2:op=2
  ·subst o2;simp
  ·have o2' : ¬ (op==2)=true:=by simpa using o2
   rw[if_neg o2',if_neg o2]
   by_cases hn:n=0
   ·subst hn
    cases name<;>simp
   ·simp[hn]
mutual
theorem XE : ∀ (x:Ex) (k:Int),0≤k→(x.dp k=true↔(x.depth:Int)≤k∧x.form=true)
 | ⟨op,n,name,kids⟩,k,hk=>by
  rw[JF,Vc]
  have hd:Ex.depth ⟨op,n,name,kids⟩=Ex.p6 kids+1:=by simp only[Ex.depth]
  rw[hd]
  by_cases h1:1≤k
  ·have ih:=RI kids (k - 1) (by omega)
   by_cases o1:op=1
   ·subst o1
    have ha:od 1=0:=rfl
    rw[ha,if_pos rfl]
    constructor
    ·rintro⟨_,h2,h3,h4⟩
     have:kids = []:=List.eq_nil_of_length_eq_zero (by omega)
     subst this;subst h4
     simp[Ex.p6,Ex.sK,h3];omega
    ·rintro⟨h2,h3,_,h4,h5,_⟩
     refine⟨h1,h3.symm,h4, ?_⟩
     cases name
     ·rfl
     ·simp at h5
   ·rw [if_neg o1]
    by_cases o2:op=2
    ·subst o2
     have ha:od 2=0:=rfl
     rw[ha,if_pos rfl]
     constructor
     ·rintro⟨_,h2,h3,h4⟩
      have:kids = []:=List.eq_nil_of_length_eq_zero (by omega)
      subst this;subst h3
      have:=RH h4
      simp[Ex.p6,Ex.sK,h4,this];omega
     ·rintro⟨h2,h3,h4,_,h5,h6,_⟩
      refine⟨h1,h3.symm,h4.resolve_left o1, ?_⟩
      exact h6.resolve_left (h5.1 rfl)
    ·rw [if_neg o2,ih]
     constructor
     ·rintro⟨_,h2,h3,h4,h5,h6⟩
      subst h3;subst h4
      exact⟨by omega,h2.symm, .inr rfl,Int.le_refl _,by simp[o2], .inl rfl,h6⟩
     ·rintro⟨h2,h3,h4,_,h5,h6,h7⟩
      refine⟨h1,h3.symm,h4.resolve_left o1, ?_,by omega,h7⟩
      exact Decidable.byContradiction fun h=>o2 (h5.2 h)
  ·constructor
   ·rintro⟨h,_⟩;exact(h1 h).elim
   ·rintro⟨h,_⟩;omega
theorem RI : ∀ (l:List Ex) (k:Int),0≤k→(Ex.Bx k l=true↔(Ex.p6 l:Int)≤k∧Ex.sK l=true)
 | [],k,hk=>by simp[Ex.Bx,Ex.p6,Ex.sK,hk]
 | x::l,k,hk=>by
  have h1:=XE x k hk
  have h2:=RI l k hk
  have hd:Ex.p6 (x::l)=max x.depth (Ex.p6 l):=by simp only[Ex.p6]
  rw[hd]
  simp only[Ex.Bx,Ex.sK]
  cases hx:Ex.dp k x
  ·simp only [Bool.not_false, ↓reduceIte,Bool.false_eq_true,false_iff,not_and]
   intro h3
   have : ¬ ((x.depth:Int)≤k∧x.form=true):=by rw[← h1,hx];simp
   have hf:x.form=false:=by
    cases hf:x.form
    ·rfl
    ·exact(this ⟨by omega,hf⟩).elim
   simp[hf]
  ·have:=h1.1 hx
   simp only[Bool.not_true,Bool.false_eq_true,↓reduceIte,this.2,h2]
   have h3:=this.1
   refine and_congr_left fun _=>?_
   omega
end
theorem EF (x:Ex):x.dp 20=x.may:=by
 rw[Bool.eq_iff_iff,XE x 20 (by omega)]
 unfold Ex.may
 simp only[Bool.and_eq_true,decide_eq_true_eq]
 refine and_congr_left fun _=>?_
 omega
theorem GK (x:Ex) (b:Bool):vH x b=if b then x.may else x.none:=by
 unfold vH
 rw[EF]
 cases b<;>simp
theorem GM (t:aG) (b:Bool):tq t b=if b then isName t else t == []:=by
 unfold tq
 cases b<;>simp
theorem C2 : ∀ l:List Ar,pA l=Ar.fK l
 | []=>rfl
 |a::l=>by
  simp only[pA,Ar.fK,Ar.may,GK,GM,C2 l]
  grind
theorem M6 {α:Type} (l:List α):((l.length:Int)==0) = !(decide ((l.length:Int) > 0)):=by
 cases l with
 |nil=>rfl
 |cons a l=>
  have h1:(((a::l).length:Int)==0)=false:=by simp only[List.length_cons,beq_eq_false_iff_ne];omega
  have h2:decide (((a::l).length:Int) > 0)=true:=by simp only[List.length_cons,decide_eq_true_eq];omega
  rw[h1,h2];rfl
theorem EG (s:Sm):s.one=(fa s.labels && s.fields):=by
 have hk:s.kind=1∨s.kind=2∨s.kind=3∨s.kind=4∨s.kind=5∨s.kind=6∨s.kind=7∨s.kind=8∨s.kind=9∨s.kind=10∨s.kind<1∨s.kind > 10:=by omega
 unfold Sm.one Sm.fields Sm.flags Sm.OY Sm.hasName Sm.yr
 have p1:isName [] = false:=rfl
 rcases hk with h|h|h|h|h|h|h|h|h|h|h|h
 all_goals
  simp only[h,M6,C2,GK,GM,Sm.H4,Sm.H3]
  grind
mutual
def Ex.mB (out:List aG):Ex→List aG
 |⟨op,_,name,kids⟩=>Ex.lJ (if op==2 && !(fm out name)then out++ [name]else out) kids
def Ex.lJ (out:List aG):List Ex→List aG
 | []=>out
 |x::l=>Ex.lJ (Ex.mB out x) l
end
def Ex.names (x:Ex):List aG:=if x.may then x.mB []else []
mutual
theorem sj (out:List aG) : ∀ x:Ex,(Ex.mB out x).length≤out.length+x.size
 |⟨op,n,name,kids⟩=>by
  simp only[Ex.mB,Ex.size]
  have h:=GN (if op==2 && !(fm out name)then out++ [name]else out) kids
  refine Nat.le_trans h ?_
  split<;>simp<;>omega
theorem GN (out:List aG) : ∀ l:List Ex,(Ex.lJ out l).length≤out.length+Ex.aY l
 | []=>by simp[Ex.lJ,Ex.aY]
 |x::l=>by
  simp only[Ex.lJ,Ex.aY]
  have h1:=sj out x
  have h2:=GN (Ex.mB out x) l
  omega
end
def Ci (out:List aG) (x:aG):List aG:=if fm out x then out else out++ [x]
def agZ (x:aG):List aG→Bool
 | []=>false
 |s::l=>if s==x then true else agZ x l
abbrev RJ (N:Nat):Prop:=∀ (x:Ex),x.size≤N→∀ out:List aG,out.length+x.size≤1000000000→∀ {s:St} {t:Nat},s.aw[t]? = some (some out.length)→
 aF Tryz.prog iN [.agg (cd x), .slice (.tok t) 1 (out.map encStr)] s (.slice (.tok t) 1 ((x.mB out).map encStr)) ⟨s.ah,s.aw.set t (some (x.mB out).length)⟩
theorem acT {N:Nat} (ih:RJ N) {op m:Int} {name:aG} {kids:List Ex} (h:Ex.size ⟨op,m,name,kids⟩≤N+1) {out:List aG} (ho:out.length+Ex.size ⟨op,m,name,kids⟩≤1000000000) :
 aF Tryz.prog iN [.agg (cd ⟨op,m,name,kids⟩), .slice (.tok 0) 1 (out.map encStr)] ⟨[],[some out.length]⟩ (.slice (.tok 0) 1 ((Ex.mB out ⟨op,m,name,kids⟩).map encStr)) ⟨[],[some (Ex.mB out ⟨op,m,name,kids⟩).length]⟩:=by
 obtain⟨R,hG⟩ : ∃ R,Ex.mB out ⟨op,m,name,kids⟩=R:=⟨_,rfl⟩
 rw[hG]
 simp only[Ex.mB]at hG
 simp only[Ex.size]at h ho
 have hlen:kids.length<1000000000:=by have:=Ex.eB kids;omega
 have hk : ∀ y∈kids,∀ out:List aG,out.length+y.size≤1000000000→∀ {s:St} {t:Nat},s.aw[t]? = some (some out.length)→
  aF Tryz.prog iN [.agg (cd y), .slice (.tok t) 1 (out.map encStr)] s (.slice (.tok t) 1 ((y.mB out).map encStr)) ⟨s.ah,s.aw.set t (some (y.mB out).length)⟩:=fun y hy out ho=>
  ih y (by have:=Ex.dc hy;omega) out ho
 refine aF.go rD rfl fun B Q hB hQ=>?_
 have⟨hD,hY,hZ,gA⟩:=bQ
 have hZ:(out.length+1)*17≤bC:=by unfold bC;omega
 rcases Bool.eq_false_or_eq_true (op==2)with b1|b1
 ·rcases Bool.eq_false_or_eq_true (fm out name)with b2 | b2
  ·simp only [b1,b2,Bool.not_true,Bool.and_false,Bool.false_eq_true,if_false]at hG
   repeat' (first
 |simp only[go_sem,hD,hY,hZ,gA,b1,b2]
 |(with_reducible refine CU (jz (l:=out) (by omega) name _ _) ?_)
 | (with_reducible refine aD hQ ?_;exact bc))
   refine e8 1 1 (bl.ind (ι:=List Ex×Nat×List aG×Nat) (fun i=>kids.drop i.2.1=i.1∧Ex.lJ i.2.2.1 i.1=R∧i.2.2.1.length+Ex.aY i.1≤1000000000∧i.2.2.2=i.2.2.1.length) (fun i=>i.1.length)
    (fun i=> [(1, .slice (.tok 0) 1 (i.2.2.1.map encStr)),(2, .ptr 0 0),(23, .slice .shared 4 (kids.map cd)),(24, .int .i64 (kids.length:Int)),(25, .int .i64 (i.2.1:Int))]) (fun i=>⟨[cd ⟨op,m,name,kids⟩],[some i.2.2.2]⟩) ?_ (kids,0,out,out.length) ⟨rfl,hG,by simp;omega,by simp⟩)
   rintro⟨rest,k,cD,n'⟩ ⟨h1,h2,h3,h4⟩ IH
   dsimp only at h1 h2 h3 h4
   subst h4
   cases rest with
   |nil=>
    have hD:=drop_nil h1
    simp only[Ex.lJ]at h2
    subst h2
    repeat' (first
 |simp only[go_sem,hD,hY,hZ,gA]
 | (with_reducible refine aD hQ ?_;exact bc))
   |cons y rest=>
    obtain⟨hY,g2,hD,g4⟩:=drop_cons h1
    have bN:k<4611686018427387904:=by omega
    simp only[Ex.lJ]at h2
    simp only[Ex.aY]at h3
    have hy:=fun {s:St} {t:Nat} (ht:s.aw[t]? = some (some cD.length))=>hk y (List.mem_of_getElem? hY) cD (by omega) ht
    have hl:=sj cD y
    repeat' (first
 |simp only[go_sem,hD,hY,hZ,gA]
 |(with_reducible refine CU (hy (by with_unfolding_all rfl)) ?_)
 | (with_reducible refine aD hQ ?_;exact bc))
    refine eJ 1 1 ?_ ?_ (IH (rest,k+1,_,_) ⟨g2,h2,by dsimp only;omega,rfl⟩ (Nat.lt_succ_self _))
    ·(simp only[go_sem,hD,hY,hZ,gA,aI bN];try exact bS)
    ·(simp only[go_sem,hD,hY,hZ,gA,aI bN];try exact bS)
  ·simp only [b1,b2,Bool.not_false,Bool.and_true,if_true]at hG
   repeat' (first
 |simp only[go_sem,hD,hY,hZ,gA,b1,b2]
 |(with_reducible refine CU (jz (l:=out) (by omega) name _ _) ?_)
 | (with_reducible refine aD hQ ?_;exact bc))
   refine eJ 1 1 ?_ ?_ (bl.ind (ι:=List Ex×Nat×List aG×Nat) (fun i=>kids.drop i.2.1=i.1∧Ex.lJ i.2.2.1 i.1=R∧i.2.2.1.length+Ex.aY i.1≤1000000000∧i.2.2.2=i.2.2.1.length) (fun i=>i.1.length)
    (fun i=> [(1, .slice (.tok 0) 1 (i.2.2.1.map encStr)),(2, .ptr 0 0),(23, .slice .shared 4 (kids.map cd)),(24, .int .i64 (kids.length:Int)),(25, .int .i64 (i.2.1:Int))]) (fun i=>⟨[cd ⟨op,m,name,kids⟩],[some i.2.2.2]⟩) ?_ (kids,0,(out++ [name]),(out.length+1)) ⟨rfl,hG,by simp;omega,by simp⟩)
   ·(simp only[go_sem,hD,hY,hZ,gA,List.map_append,List.map_cons,List.map_nil,List.length_append,List.length_cons,List.length_nil,encStr];try exact bS)
   ·(simp only[go_sem,hD,hY,hZ,gA,List.map_append,List.map_cons,List.map_nil,List.length_append,List.length_cons,List.length_nil,encStr];try exact bS)
   rintro⟨rest,k,cD,n'⟩ ⟨h1,h2,h3,h4⟩ IH
   dsimp only at h1 h2 h3 h4
   subst h4
   cases rest with
   |nil=>
    have hD:=drop_nil h1
    simp only[Ex.lJ]at h2
    subst h2
    repeat' (first
 |simp only[go_sem,hD,hY,hZ,gA]
 | (with_reducible refine aD hQ ?_;exact bc))
   |cons y rest=>
    obtain⟨hY,g2,hD,g4⟩:=drop_cons h1
    have bN:k<4611686018427387904:=by omega
    simp only[Ex.lJ]at h2
    simp only[Ex.aY]at h3
    have hy:=fun {s:St} {t:Nat} (ht:s.aw[t]? = some (some cD.length))=>hk y (List.mem_of_getElem? hY) cD (by omega) ht
    have hl:=sj cD y
    repeat' (first
 |simp only[go_sem,hD,hY,hZ,gA]
 |(with_reducible refine CU (hy (by with_unfolding_all rfl)) ?_)
 | (with_reducible refine aD hQ ?_;exact bc))
    refine eJ 1 1 ?_ ?_ (IH (rest,k+1,_,_) ⟨g2,h2,by dsimp only;omega,rfl⟩ (Nat.lt_succ_self _))
    ·(simp only[go_sem,hD,hY,hZ,gA,aI bN];try exact bS)
    ·(simp only[go_sem,hD,hY,hZ,gA,aI bN];try exact bS)
 ·simp only [b1,Bool.false_and,Bool.false_eq_true,if_false]at hG
  repeat' (first
 |simp only[go_sem,hD,hY,hZ,gA,b1]
 | (with_reducible refine aD hQ ?_;exact bc))
  refine e8 1 1 (bl.ind (ι:=List Ex×Nat×List aG×Nat) (fun i=>kids.drop i.2.1=i.1∧Ex.lJ i.2.2.1 i.1=R∧i.2.2.1.length+Ex.aY i.1≤1000000000∧i.2.2.2=i.2.2.1.length) (fun i=>i.1.length)
   (fun i=> [(1, .slice (.tok 0) 1 (i.2.2.1.map encStr)),(2, .ptr 0 0),(23, .slice .shared 4 (kids.map cd)),(24, .int .i64 (kids.length:Int)),(25, .int .i64 (i.2.1:Int))]) (fun i=>⟨[cd ⟨op,m,name,kids⟩],[some i.2.2.2]⟩) ?_ (kids,0,out,out.length) ⟨rfl,hG,by simp;omega,by simp⟩)
  rintro⟨rest,k,cD,n'⟩ ⟨h1,h2,h3,h4⟩ IH
  dsimp only at h1 h2 h3 h4
  subst h4
  cases rest with
  |nil=>
   have hD:=drop_nil h1
   simp only[Ex.lJ]at h2
   subst h2
   repeat' (first
 |simp only[go_sem,hD,hY,hZ,gA]
 | (with_reducible refine aD hQ ?_;exact bc))
  |cons y rest=>
   obtain⟨hY,g2,hD,g4⟩:=drop_cons h1
   have bN:k<4611686018427387904:=by omega
   simp only[Ex.lJ]at h2
   simp only[Ex.aY]at h3
   have hy:=fun {s:St} {t:Nat} (ht:s.aw[t]? = some (some cD.length))=>hk y (List.mem_of_getElem? hY) cD (by omega) ht
   have hl:=sj cD y
   repeat' (first
 |simp only[go_sem,hD,hY,hZ,gA]
 |(with_reducible refine CU (hy (by with_unfolding_all rfl)) ?_)
 | (with_reducible refine aD hQ ?_;exact bc))
   refine eJ 1 1 ?_ ?_ (IH (rest,k+1,_,_) ⟨g2,h2,by dsimp only;omega,rfl⟩ (Nat.lt_succ_self _))
   ·(simp only[go_sem,hD,hY,hZ,gA,aI bN];try exact bS)
   ·(simp only[go_sem,hD,hY,hZ,gA,aI bN];try exact bS)
theorem Vd : ∀ N,RJ N:=by
 intro N
 induction N with
 |zero=>rintro⟨op,m,name,kids⟩ h;simp only[Ex.size]at h;omega
 |succ N ih=>
  rintro⟨op,m,name,kids⟩ h out ho s t ht
  exact(acT ih h ho).aa2 (pre:= [_]) (post:= []) (by simp only[D.bK,D.ok,lN];rfl) rfl (e9 out) (e9 _) ht
abbrev aod (N:Nat):Prop:=∀ (x:Ex),x.size≤N→∀ out:List aG,out.length+x.size≤1000000000→∀ {s:St} {t:Nat},s.aw[t]? = some (some out.length)→
 aF Tryz.prog Lc [.agg (cd x), .slice (.tok t) 1 (out.map encStr)] s (.slice (.tok t) 1 ((x.mB out).map encStr)) ⟨s.ah,s.aw.set t (some (x.mB out).length)⟩
theorem RK {op m:Int} {name:aG} {kids:List Ex} (h:Ex.form ⟨op,m,name,kids⟩=true) (h2:(op==2)=true):kids = []:=by
 have e:op=2:=by simpa using h2
 subst e
 simp only[Ex.form]at h
 split at h
 ·cases h
 ·rename_i hh
  simp only[Bool.or_eq_true,not_or,bne_iff_ne,ne_eq,Decidable.not_not]at hh
  have:=hh.1.1.1.1
  have e:od 2=0:=rfl
  rw[e]at this
  exact List.length_eq_zero_iff.1 (by omega)
theorem Ve {op m:Int} {name:aG} {kids:List Ex} (hf:(op==2)=true→kids = []) (ho:Ex.size ⟨op,m,name,kids⟩≤1000000000) (s:St) :
 aF Tryz.prog iN [.agg (cd ⟨op,m,name,kids⟩), .slice .full 0 []] s (.slice .shared 1 ((Ex.mB [] ⟨op,m,name,kids⟩).map encStr)) s:=by
 refine aF.pure ?_ (by simp only[D.bK,D.ok,lN];rfl) (by simp only[D.ok,Tag.ok,e9];rfl) s
 obtain⟨R,hG⟩ : ∃ R,Ex.mB [] ⟨op,m,name,kids⟩=R:=⟨_,rfl⟩
 rw[hG]
 simp only[Ex.mB]at hG
 simp only[Ex.size]at ho
 have hlen:kids.length<1000000000:=by have:=Ex.eB kids;omega
 have hk : ∀ y∈kids,∀ out:List aG,out.length+y.size≤1000000000→∀ {s:St} {t:Nat},s.aw[t]? = some (some out.length)→
  aF Tryz.prog iN [.agg (cd y), .slice (.tok t) 1 (out.map encStr)] s (.slice (.tok t) 1 ((y.mB out).map encStr)) ⟨s.ah,s.aw.set t (some (y.mB out).length)⟩:=fun y hy out ho=>
  Vd y.size y (Nat.le_refl _) out ho
 unfold S0
 rcases Bool.eq_false_or_eq_true (op==2)with b1|b1
 ·have hk0:=hf b1
  subst hk0
  have e:fm [] name=false:=rfl
  simp only[b1,e,Bool.not_false,Bool.and_true,if_true,Ex.lJ,List.nil_append]at hG
  subst hG
  refine aF.go rD rfl fun B Q hB hQ=>?_
  have⟨hD,hY,hZ,gA⟩:=bQ
  have hZ:17≤bC:=by unfold bC;omega
  repeat' (first
 |simp only[go_sem,hD,hY,hZ,gA,b1,List.map_nil,List.map_cons,List.length_nil,encStr,Int.natCast_zero,Int.lt_irrefl,decide_false]
 |(with_reducible refine CU (Jx name _ _ _) ?_)
 |(with_reducible refine bl.kQ ?_)
 |(with_reducible refine aD hQ ?_;exact bc))
 ·simp only [b1,Bool.false_and,Bool.false_eq_true,if_false]at hG
  refine aF.go rD rfl fun B Q hB hQ=>?_
  have⟨hD,hY,hZ,gA⟩:=bQ
  repeat' (first
 |simp only[go_sem,hD,hY,hZ,gA,b1]
 | (with_reducible refine aD hQ ?_;exact bc))
  refine bl.se 1 1 rfl ?_
  simp only[go_sem,hD,hY,hZ,gA]
  refine e8 1 1 (bl.ind (ι:=List Ex×Nat×List aG×Nat) (fun i=>kids.drop i.2.1=i.1∧Ex.lJ i.2.2.1 i.1=R∧i.2.2.1.length+Ex.aY i.1≤1000000000∧i.2.2.2=i.2.2.1.length) (fun i=>i.1.length)
   (fun i=> [(1, .slice (.tok 0) 1 (i.2.2.1.map encStr)),(2, .ptr 0 0),(23, .slice .shared 4 (kids.map cd)),(24, .int .i64 (kids.length:Int)),(25, .int .i64 (i.2.1:Int))]) (fun i=>⟨[cd ⟨op,m,name,kids⟩],[some i.2.2.2]⟩) ?_ (kids,0,[],0) ⟨rfl,hG,by simp;omega,by simp⟩)
  rintro⟨rest,k,cD,n'⟩ ⟨h1,h2,h3,h4⟩ IH
  dsimp only at h1 h2 h3 h4
  subst h4
  cases rest with
  |nil=>
   have hD:=drop_nil h1
   simp only[Ex.lJ]at h2
   subst h2
   repeat' (first
 |simp only[go_sem,hD,hY,hZ,gA]
 | (with_reducible refine aD hQ ?_;exact bc))
  |cons y rest=>
   obtain⟨hY,g2,hD,g4⟩:=drop_cons h1
   have bN:k<4611686018427387904:=by omega
   simp only[Ex.lJ]at h2
   simp only[Ex.aY]at h3
   have hy:=fun {s:St} {t:Nat} (ht:s.aw[t]? = some (some cD.length))=>hk y (List.mem_of_getElem? hY) cD (by omega) ht
   have hl:=sj cD y
   repeat' (first
 |simp only[go_sem,hD,hY,hZ,gA]
 |(with_reducible refine CU (hy (by with_unfolding_all rfl)) ?_)
 | (with_reducible refine aD hQ ?_;exact bc))
   refine eJ 1 1 ?_ ?_ (IH (rest,k+1,_,_) ⟨g2,h2,by dsimp only;omega,rfl⟩ (Nat.lt_succ_self _))
   ·(simp only[go_sem,hD,hY,hZ,gA,aI bN];try exact bS)
   ·(simp only[go_sem,hD,hY,hZ,gA,aI bN];try exact bS)
theorem nj {x:Ex} (hx:x.size≤1000000000) (ht:x.texts) (s:St):aF Tryz.prog rA [.agg (cd x)] s (.slice .shared 1 (x.names.map encStr)) s:=by
 refine aF.pure ?_ (by simp only[D.bK,D.ok,lN];rfl) (by simp only[D.ok,Tag.ok,e9];rfl) s
 have hm:=fun s=>zp (x:=x) (by omega) ht s
 simp only[EF]at hm
 unfold Ex.names
 unfold S0
 cases hb:x.may
 ·simp only [hb]at hm
  simp only[Bool.false_eq_true,if_false,List.map_nil]
  refine aF.go ym rfl fun B Q hB hQ=>?_
  have⟨hD,hY,hZ,gA⟩:=bQ
  repeat' (first
 |simp only[go_sem,hD,hY,hZ,gA]
 |(with_reducible refine CU (hm _) ?_)
 |(with_reducible refine aD hQ ?_;exact bc))
 ·simp only [hb]at hm
  simp only[if_true]
  have hg : ∀ s,aF Tryz.prog iN [.agg (cd x), .slice .full 0 []] s (.slice .shared 1 ((x.mB []).map encStr)) s:=by
   intro s
   obtain⟨op,m,name,kids⟩:=x
   exact Ve (fun h2=>RK (by simp only[Ex.may,Bool.and_eq_true]at hb;exact hb.2) h2) hx s
  refine aF.go ym rfl fun B Q hB hQ=>?_
  have⟨hD,hY,hZ,gA⟩:=bQ
  repeat' (first
 |simp only[go_sem,hD,hY,hZ,gA]
 |(with_reducible refine CU (hm _) ?_)
 |(with_reducible refine CU (hg _) ?_)
 |(with_reducible refine aD hQ ?_;exact bc))
def Ar.said (out:List aG):List Ar→List aG
 | []=>out
 |a::l=>Ar.said ((if a.ref then out++ [a.name]else out)++a.x.names) l
def Sm.sL (v:Sm):List aG:=if v.kind != 10 && v.name != []then [v.name]else []
def Sm.said (v:Sm):List aG:=Ar.said (v.sL++v.x.names) v.args
theorem lg (x:Ex):x.names.length≤x.size:=by
 unfold Ex.names
 split
 ·simpa using sj [] x
 ·exact Nat.zero_le _
def Ar.vE:List Ar→Prop
 | []=>True
 |a::l=>a.x.texts∧Ar.vE l
def Sm.nn (v:Sm):Prop:=v.x.texts∧(∀ a∈v.args,a.x.texts)∧v.x.size+Ar.aY v.args<1000000
theorem kH {l nx:List aG} {n:Nat} (hn:n=l.length) (h:l.length+nx.length≤1000000000) {g:Tag} (o:List (List D)) :
 ik 1 16 (.slice (.tok 0) 1 (l.map encStr)) (.slice g 1 (nx.map encStr)) ⟨o,[some n]⟩=some (.slice (.tok 0) 1 ((l++nx).map encStr),⟨o,[some (l++nx).length]⟩):=by
 subst hn
 have:=nR (size:=1) (bytes:=16) (t:=0) (rows:=l.map encStr) (new:=nx.map encStr) (g:=g) (s:=⟨o,[some l.length]⟩) (by simp only[List.length_map];unfold bC;omega) (by simp)
 rw[this]
 simp
theorem Bz {v:Sm} (hv:v.nn) (s:St):aF Tryz.prog ry [.agg (bb v)] s (.slice .shared 1 (v.said.map encStr)) s:=by
 refine aF.pure ?_ (by simp only[D.bK,D.ok,qv];rfl) (by simp only[D.ok,Tag.ok,e9];rfl) s
 obtain⟨wJ,tt,dM⟩:=hv
 obtain⟨R,hG⟩ : ∃ R,v.said=R:=⟨_,rfl⟩
 rw[hG]
 simp only[Sm.said]at hG
 have hlen:v.args.length<1000000000:=by have:=Ar.eB v.args;omega
 have hx:=fun s=>nj (x:=v.x) (by omega) wJ s
 have LS:=lg v.x
 unfold S0
 refine aF.go FI rfl fun B Q hB hQ=>?_
 have⟨hD,hY,hZ,gA⟩:=bQ
 have hZ:17≤bC:=by unfold bC;omega
 by_cases hb:(v.kind != 10 && v.name != [])=true
 ·simp only [Sm.sL,hb,if_true]at hG
  rw[Bool.and_eq_true]at hb
  obtain⟨b1,b2⟩:=hb
  have eO:=kH (l:= [v.name]) (nx:=v.x.names) (n:=1) rfl (by simp;omega) (g:= .shared)
  simp only[List.map_append,List.map_cons,List.map_nil,encStr]at eO
  have b3:(v.name == [])=false:=by simpa using b2
  repeat' (first
 |simp only[go_sem,hD,hY,hZ,gA,b1,b2,b3,eO]
 |(with_reducible refine CU (hx _) ?_)
 | (with_reducible refine aD hQ ?_;exact bc))
  refine eJ 1 1 ?_ ?_ (bl.ind (ι:=List Ar×Nat×List aG×Nat) (fun i=>v.args.drop i.2.1=i.1∧Ar.said i.2.2.1 i.1=R∧i.2.2.1.length+Ar.aY i.1≤2000000∧i.2.2.2=i.2.2.1.length) (fun i=>i.1.length)
   (fun i=> [(3, .slice (.tok 0) 1 (i.2.2.1.map encStr)),(1, .ptr 0 0),(25, .slice .shared 6 (v.args.map ey)),(26, .int .i64 (v.args.length:Int)),(27, .int .i64 (i.2.1:Int))]) (fun i=>⟨[bb v],[some i.2.2.2]⟩) ?_ (v.args,0,([v.name]++v.x.names),(v.x.names.length+1)) ⟨rfl,hG,by simp at LS ⊢;omega,by simp⟩)
  ·(simp only[go_sem,hD,hY,hZ,gA,List.map_append,List.map_cons,List.map_nil,encStr];try exact bS)
  ·(simp only[go_sem,hD,hY,hZ,gA,List.map_append,List.map_cons,List.map_nil,encStr];try exact bS)
  rintro⟨rest,k,out,n'⟩ ⟨h1,h2,h3,h4⟩ IH
  dsimp only at h1 h2 h3 h4
  subst h4
  cases rest with
  |nil=>
   have hD:=drop_nil h1
   simp only[Ar.said]at h2
   subst h2
   repeat' (first
 |simp only[go_sem,hD,hY,hZ,gA]
 | (with_reducible refine aD hQ ?_;exact bc))
  | cons a rest=>
   obtain⟨hY,g2,hD,g4⟩:=drop_cons h1
   have bN:k<4611686018427387904:=by omega
   simp only[Ar.said]at h2
   simp only[Ar.aY]at h3
   have wK:=fun s=>nj (x:=a.x) (by have:=Ar.dc (List.mem_of_getElem? hY);omega) (tt a (List.mem_of_getElem? hY)) s
   have hl:=lg a.x
   have hZ:(out.length+1)*17≤bC:=by unfold bC;omega
   rcases Bool.eq_false_or_eq_true a.ref with b1|b1
   ·simp only [b1,if_true]at h2
    have eO:=kH (l:=out++ [a.name]) (nx:=a.x.names) (n:=out.length+1) (by simp) (by simp;omega) (g:= .shared)
    simp only[List.map_append,List.map_cons,List.map_nil,encStr]at eO
    repeat' (first
 |simp only[go_sem,hD,hY,hZ,gA,b1,eO]
 |(with_reducible refine CU (wK _) ?_)
 | (with_reducible refine aD hQ ?_;exact bc))
    refine eJ 1 1 ?_ ?_ (IH (rest,k+1,out++ [a.name]++a.x.names,_) ⟨g2,h2,by simp;omega,by simp<;>omega⟩ (Nat.lt_succ_self _))
    ·(simp only[go_sem,hD,hY,hZ,gA,aI bN,List.map_append,List.map_cons,List.map_nil,encStr];try exact bS)
    ·(simp only[go_sem,hD,hY,hZ,gA,aI bN,List.map_append,List.map_cons,List.map_nil,encStr];try exact bS)
   ·simp only [b1,Bool.false_eq_true,if_false]at h2
    have eO:=kH (l:=out) (nx:=a.x.names) rfl (by omega) (g:= .shared)
    repeat' (first
 |simp only[go_sem,hD,hY,hZ,gA,b1,eO]
 |(with_reducible refine CU (wK _) ?_)
 | (with_reducible refine aD hQ ?_;exact bc))
    refine eJ 1 1 ?_ ?_ (IH (rest,k+1,out++a.x.names,_) ⟨g2,h2,by simp;omega,by simp<;>omega⟩ (Nat.lt_succ_self _))
    ·(simp only[go_sem,hD,hY,hZ,gA,aI bN];try exact bS)
    ·(simp only[go_sem,hD,hY,hZ,gA,aI bN];try exact bS)
 ·simp only [Sm.sL,hb,Bool.false_eq_true,if_false,List.nil_append]at hG
  have rQ:(v.kind != 10 && v.name != [])=false:=by simpa using hb
  obtain⟨nx,hnx⟩ : ∃ nx,nx=v.x.names:=⟨_,rfl⟩
  rw[← hnx]at hG LS
  simp only[← hnx]at hx
  by_cases IF:nx = []
  ·subst IF
   simp only[List.map_nil]at hx
   have eO : ∀ o:List (List D),ik 1 16 (.slice .full 0 []) (.slice .shared 1 []) ⟨o,[]⟩=some (.slice .full 0 [],⟨o,[]⟩):=fun o=>by simp[ik,bC]
   have HB:(v.kind != 10)=false∨(v.kind != 10)=true∧(v.name != [])=false:=by
    cases h1:(v.kind != 10)
    ·exact .inl rfl
    ·rw[h1]at rQ;exact .inr ⟨rfl,by simpa using rQ⟩
   rcases HB with b1|⟨b1,b2⟩
   ·rcases Bool.eq_false_or_eq_true (v.name != [])with b2 | b2
    all_goals
     have b3:(v.name == []) = !(v.name != []):=by simp only[bne,Bool.not_not]
     rw[b2]at b3
     repeat' (first
 |simp only[go_sem,hD,hY,hZ,gA,b1,b2,b3,Bool.not_true,Bool.not_false,eO]
 |(with_reducible refine CU (hx _) ?_)
 | (with_reducible refine aD hQ ?_;simp only [aU,aV,bI,bJ,go_sem,hD,hY,hZ,gA];repeat' (first | exact Ok.out | with_reducible refine iY ?_ ?_ | (simp;done))))
    all_goals
     refine bl.se 3 1 rfl ?_
     simp only[go_sem,hD,hY,hZ,gA]
     refine e8 1 1 (bl.ind (ι:=List Ar×Nat×List aG×Nat) (fun i=>v.args.drop i.2.1=i.1∧Ar.said i.2.2.1 i.1=R∧i.2.2.1.length+Ar.aY i.1≤2000000∧i.2.2.2=i.2.2.1.length) (fun i=>i.1.length)
      (fun i=> [(3, .slice (.tok 0) 1 (i.2.2.1.map encStr)),(1, .ptr 0 0),(25, .slice .shared 6 (v.args.map ey)),(26, .int .i64 (v.args.length:Int)),(27, .int .i64 (i.2.1:Int))]) (fun i=>⟨[bb v],[some i.2.2.2]⟩) ?_ (v.args,0,[],0) ⟨rfl,hG,by simp at LS ⊢;omega,by simp⟩)
     rintro⟨rest,k,out,n'⟩ ⟨h1,h2,h3,h4⟩ IH
     dsimp only at h1 h2 h3 h4
     subst h4
     cases rest with
     |nil=>
      have hD:=drop_nil h1
      simp only[Ar.said]at h2
      subst h2
      repeat' (first
 |simp only[go_sem,hD,hY,hZ,gA]
 |(with_reducible refine aD hQ ?_;exact bc))
     | cons a rest=>
      obtain⟨hY,g2,hD,g4⟩:=drop_cons h1
      have bN:k<4611686018427387904:=by omega
      simp only[Ar.said]at h2
      simp only[Ar.aY]at h3
      have wK:=fun s=>nj (x:=a.x) (by have:=Ar.dc (List.mem_of_getElem? hY);omega) (tt a (List.mem_of_getElem? hY)) s
      have hl:=lg a.x
      have hZ:(out.length+1)*17≤bC:=by unfold bC;omega
      rcases Bool.eq_false_or_eq_true a.ref with b1|b1
      ·simp only [b1,if_true]at h2
       have eO:=kH (l:=out++ [a.name]) (nx:=a.x.names) (n:=out.length+1) (by simp) (by simp;omega) (g:= .shared)
       simp only[List.map_append,List.map_cons,List.map_nil,encStr]at eO
       repeat' (first
 |simp only[go_sem,hD,hY,hZ,gA,b1,eO]
 |(with_reducible refine CU (wK _) ?_)
 |(with_reducible refine aD hQ ?_;exact bc))
       refine eJ 1 1 ?_ ?_ (IH (rest,k+1,out++ [a.name]++a.x.names,_) ⟨g2,h2,by simp;omega,by simp<;>omega⟩ (Nat.lt_succ_self _))
       ·(simp only[go_sem,hD,hY,hZ,gA,aI bN,List.map_append,List.map_cons,List.map_nil,encStr];try exact bS)
       ·(simp only[go_sem,hD,hY,hZ,gA,aI bN,List.map_append,List.map_cons,List.map_nil,encStr];try exact bS)
      ·simp only [b1,Bool.false_eq_true,if_false]at h2
       have eO:=kH (l:=out) (nx:=a.x.names) rfl (by omega) (g:= .shared)
       repeat' (first
 |simp only[go_sem,hD,hY,hZ,gA,b1,eO]
 |(with_reducible refine CU (wK _) ?_)
 | (with_reducible refine aD hQ ?_;exact bc))
       refine eJ 1 1 ?_ ?_ (IH (rest,k+1,out++a.x.names,_) ⟨g2,h2,by simp;omega,by simp<;>omega⟩ (Nat.lt_succ_self _))
       ·(simp only[go_sem,hD,hY,hZ,gA,aI bN];try exact bS)
       ·(simp only[go_sem,hD,hY,hZ,gA,aI bN];try exact bS)
   ·have b3:(v.name == [])=true:=by simpa using b2
    repeat' (first
 |simp only[go_sem,hD,hY,hZ,gA,b1,b2,b3,eO]
 |(with_reducible refine CU (hx _) ?_)
 | (with_reducible refine aD hQ ?_;exact bc))
    refine bl.se 3 1 rfl ?_
    simp only[go_sem,hD,hY,hZ,gA]
    refine e8 1 1 (bl.ind (ι:=List Ar×Nat×List aG×Nat) (fun i=>v.args.drop i.2.1=i.1∧Ar.said i.2.2.1 i.1=R∧i.2.2.1.length+Ar.aY i.1≤2000000∧i.2.2.2=i.2.2.1.length) (fun i=>i.1.length)
     (fun i=> [(3, .slice (.tok 0) 1 (i.2.2.1.map encStr)),(1, .ptr 0 0),(25, .slice .shared 6 (v.args.map ey)),(26, .int .i64 (v.args.length:Int)),(27, .int .i64 (i.2.1:Int))]) (fun i=>⟨[bb v],[some i.2.2.2]⟩) ?_ (v.args,0,[],0) ⟨rfl,hG,by simp at LS ⊢;omega,by simp⟩)
    rintro⟨rest,k,out,n'⟩ ⟨h1,h2,h3,h4⟩ IH
    dsimp only at h1 h2 h3 h4
    subst h4
    cases rest with
    |nil=>
     have hD:=drop_nil h1
     simp only[Ar.said]at h2
     subst h2
     repeat' (first
 |simp only[go_sem,hD,hY,hZ,gA]
 | (with_reducible refine aD hQ ?_;exact bc))
    | cons a rest=>
     obtain⟨hY,g2,hD,g4⟩:=drop_cons h1
     have bN:k<4611686018427387904:=by omega
     simp only[Ar.said]at h2
     simp only[Ar.aY]at h3
     have wK:=fun s=>nj (x:=a.x) (by have:=Ar.dc (List.mem_of_getElem? hY);omega) (tt a (List.mem_of_getElem? hY)) s
     have hl:=lg a.x
     have hZ:(out.length+1)*17≤bC:=by unfold bC;omega
     rcases Bool.eq_false_or_eq_true a.ref with b1|b1
     ·simp only [b1,if_true]at h2
      have eO:=kH (l:=out++ [a.name]) (nx:=a.x.names) (n:=out.length+1) (by simp) (by simp;omega) (g:= .shared)
      simp only[List.map_append,List.map_cons,List.map_nil,encStr]at eO
      repeat' (first
 |simp only[go_sem,hD,hY,hZ,gA,b1,eO]
 |(with_reducible refine CU (wK _) ?_)
 |(with_reducible refine aD hQ ?_;exact bc))
      refine eJ 1 1 ?_ ?_ (IH (rest,k+1,out++ [a.name]++a.x.names,_) ⟨g2,h2,by simp;omega,by simp<;>omega⟩ (Nat.lt_succ_self _))
      ·(simp only[go_sem,hD,hY,hZ,gA,aI bN,List.map_append,List.map_cons,List.map_nil,encStr];try exact bS)
      ·(simp only[go_sem,hD,hY,hZ,gA,aI bN,List.map_append,List.map_cons,List.map_nil,encStr];try exact bS)
     ·simp only [b1,Bool.false_eq_true,if_false]at h2
      have eO:=kH (l:=out) (nx:=a.x.names) rfl (by omega) (g:= .shared)
      repeat' (first
 |simp only[go_sem,hD,hY,hZ,gA,b1,eO]
 |(with_reducible refine CU (wK _) ?_)
 | (with_reducible refine aD hQ ?_;exact bc))
      refine eJ 1 1 ?_ ?_ (IH (rest,k+1,out++a.x.names,_) ⟨g2,h2,by simp;omega,by simp<;>omega⟩ (Nat.lt_succ_self _))
      ·(simp only[go_sem,hD,hY,hZ,gA,aI bN];try exact bS)
      ·(simp only[go_sem,hD,hY,hZ,gA,aI bN];try exact bS)
  ·have eO : ∀ o:List (List D),ik 1 16 (.slice .full 0 []) (.slice .shared 1 (nx.map encStr)) ⟨o,[]⟩=some (.slice (.tok 0) 1 (nx.map encStr),⟨o,[some nx.length]⟩):=fun o=>by
    have:nx.length*17≤bC:=by unfold bC;omega
    cases nx with
    |nil=>exact absurd rfl IF
    |cons a r=>simp only[List.length_cons]at this;simp[ik,this]
   have HB:(v.kind != 10)=false∨(v.kind != 10)=true∧(v.name != [])=false:=by
    cases h1:(v.kind != 10)
    ·exact .inl rfl
    ·rw[h1]at rQ;exact .inr ⟨rfl,by simpa using rQ⟩
   rcases HB with b1|⟨b1,b2⟩
   ·rcases Bool.eq_false_or_eq_true (v.name != [])with b2 | b2
    all_goals
     have b3:(v.name == []) = !(v.name != []):=by simp only[bne,Bool.not_not]
     rw[b2]at b3
     repeat' (first
 |simp only[go_sem,hD,hY,hZ,gA,b1,b2,b3,Bool.not_true,Bool.not_false,eO]
 |(with_reducible refine CU (hx _) ?_)
 | (with_reducible refine aD hQ ?_;simp only [aU,aV,bI,bJ,go_sem,hD,hY,hZ,gA];repeat' (first | exact Ok.out | with_reducible refine iY ?_ ?_ | (simp;done))))
    all_goals
     refine e8 1 1 (bl.ind (ι:=List Ar×Nat×List aG×Nat) (fun i=>v.args.drop i.2.1=i.1∧Ar.said i.2.2.1 i.1=R∧i.2.2.1.length+Ar.aY i.1≤2000000∧i.2.2.2=i.2.2.1.length) (fun i=>i.1.length)
      (fun i=> [(3, .slice (.tok 0) 1 (i.2.2.1.map encStr)),(1, .ptr 0 0),(25, .slice .shared 6 (v.args.map ey)),(26, .int .i64 (v.args.length:Int)),(27, .int .i64 (i.2.1:Int))]) (fun i=>⟨[bb v],[some i.2.2.2]⟩) ?_ (v.args,0,nx,_) ⟨rfl,hG,by simp at LS ⊢;omega,by simp⟩)
     rintro⟨rest,k,out,n'⟩ ⟨h1,h2,h3,h4⟩ IH
     dsimp only at h1 h2 h3 h4
     subst h4
     cases rest with
     |nil=>
      have hD:=drop_nil h1
      simp only[Ar.said]at h2
      subst h2
      repeat' (first
 |simp only[go_sem,hD,hY,hZ,gA]
 |(with_reducible refine aD hQ ?_;exact bc))
     | cons a rest=>
      obtain⟨hY,g2,hD,g4⟩:=drop_cons h1
      have bN:k<4611686018427387904:=by omega
      simp only[Ar.said]at h2
      simp only[Ar.aY]at h3
      have wK:=fun s=>nj (x:=a.x) (by have:=Ar.dc (List.mem_of_getElem? hY);omega) (tt a (List.mem_of_getElem? hY)) s
      have hl:=lg a.x
      have hZ:(out.length+1)*17≤bC:=by unfold bC;omega
      rcases Bool.eq_false_or_eq_true a.ref with b1|b1
      ·simp only [b1,if_true]at h2
       have eO:=kH (l:=out++ [a.name]) (nx:=a.x.names) (n:=out.length+1) (by simp) (by simp;omega) (g:= .shared)
       simp only[List.map_append,List.map_cons,List.map_nil,encStr]at eO
       repeat' (first
 |simp only[go_sem,hD,hY,hZ,gA,b1,eO]
 |(with_reducible refine CU (wK _) ?_)
 |(with_reducible refine aD hQ ?_;exact bc))
       refine eJ 1 1 ?_ ?_ (IH (rest,k+1,out++ [a.name]++a.x.names,_) ⟨g2,h2,by simp;omega,by simp<;>omega⟩ (Nat.lt_succ_self _))
       ·(simp only[go_sem,hD,hY,hZ,gA,aI bN,List.map_append,List.map_cons,List.map_nil,encStr];try exact bS)
       ·(simp only[go_sem,hD,hY,hZ,gA,aI bN,List.map_append,List.map_cons,List.map_nil,encStr];try exact bS)
      ·simp only [b1,Bool.false_eq_true,if_false]at h2
       have eO:=kH (l:=out) (nx:=a.x.names) rfl (by omega) (g:= .shared)
       repeat' (first
 |simp only[go_sem,hD,hY,hZ,gA,b1,eO]
 |(with_reducible refine CU (wK _) ?_)
 | (with_reducible refine aD hQ ?_;exact bc))
       refine eJ 1 1 ?_ ?_ (IH (rest,k+1,out++a.x.names,_) ⟨g2,h2,by simp;omega,by simp<;>omega⟩ (Nat.lt_succ_self _))
       ·(simp only[go_sem,hD,hY,hZ,gA,aI bN];try exact bS)
       ·(simp only[go_sem,hD,hY,hZ,gA,aI bN];try exact bS)
   ·have b3:(v.name == [])=true:=by simpa using b2
    repeat' (first
 |simp only[go_sem,hD,hY,hZ,gA,b1,b2,b3,eO]
 |(with_reducible refine CU (hx _) ?_)
 | (with_reducible refine aD hQ ?_;exact bc))
    refine e8 1 1 (bl.ind (ι:=List Ar×Nat×List aG×Nat) (fun i=>v.args.drop i.2.1=i.1∧Ar.said i.2.2.1 i.1=R∧i.2.2.1.length+Ar.aY i.1≤2000000∧i.2.2.2=i.2.2.1.length) (fun i=>i.1.length)
     (fun i=> [(3, .slice (.tok 0) 1 (i.2.2.1.map encStr)),(1, .ptr 0 0),(25, .slice .shared 6 (v.args.map ey)),(26, .int .i64 (v.args.length:Int)),(27, .int .i64 (i.2.1:Int))]) (fun i=>⟨[bb v],[some i.2.2.2]⟩) ?_ (v.args,0,nx,_) ⟨rfl,hG,by simp at LS ⊢;omega,by simp⟩)
    rintro⟨rest,k,out,n'⟩ ⟨h1,h2,h3,h4⟩ IH
    dsimp only at h1 h2 h3 h4
    subst h4
    cases rest with
    |nil=>
     have hD:=drop_nil h1
     simp only[Ar.said]at h2
     subst h2
     repeat' (first
 |simp only[go_sem,hD,hY,hZ,gA]
 | (with_reducible refine aD hQ ?_;exact bc))
    | cons a rest=>
     obtain⟨hY,g2,hD,g4⟩:=drop_cons h1
     have bN:k<4611686018427387904:=by omega
     simp only[Ar.said]at h2
     simp only[Ar.aY]at h3
     have wK:=fun s=>nj (x:=a.x) (by have:=Ar.dc (List.mem_of_getElem? hY);omega) (tt a (List.mem_of_getElem? hY)) s
     have hl:=lg a.x
     have hZ:(out.length+1)*17≤bC:=by unfold bC;omega
     rcases Bool.eq_false_or_eq_true a.ref with b1|b1
     ·simp only [b1,if_true]at h2
      have eO:=kH (l:=out++ [a.name]) (nx:=a.x.names) (n:=out.length+1) (by simp) (by simp;omega) (g:= .shared)
      simp only[List.map_append,List.map_cons,List.map_nil,encStr]at eO
      repeat' (first
 |simp only[go_sem,hD,hY,hZ,gA,b1,eO]
 |(with_reducible refine CU (wK _) ?_)
 |(with_reducible refine aD hQ ?_;exact bc))
      refine eJ 1 1 ?_ ?_ (IH (rest,k+1,out++ [a.name]++a.x.names,_) ⟨g2,h2,by simp;omega,by simp<;>omega⟩ (Nat.lt_succ_self _))
      ·(simp only[go_sem,hD,hY,hZ,gA,aI bN,List.map_append,List.map_cons,List.map_nil,encStr];try exact bS)
      ·(simp only[go_sem,hD,hY,hZ,gA,aI bN,List.map_append,List.map_cons,List.map_nil,encStr];try exact bS)
     ·simp only [b1,Bool.false_eq_true,if_false]at h2
      have eO:=kH (l:=out) (nx:=a.x.names) rfl (by omega) (g:= .shared)
      repeat' (first
 |simp only[go_sem,hD,hY,hZ,gA,b1,eO]
 |(with_reducible refine CU (wK _) ?_)
 |(with_reducible refine aD hQ ?_;exact bc))
      refine eJ 1 1 ?_ ?_ (IH (rest,k+1,out++a.x.names,_) ⟨g2,h2,by simp;omega,by simp<;>omega⟩ (Nat.lt_succ_self _))
      ·(simp only[go_sem,hD,hY,hZ,gA,aI bN];try exact bS)
      ·(simp only[go_sem,hD,hY,hZ,gA,aI bN];try exact bS)
theorem kY : ∀ (a b:List It) (n:Nat),It.fK n (a++b)=(It.fK n a && It.fK (n+a.length) b)
 | [],b,n=>by simp[It.fK]
 |i::a,b,n=>by
  simp only[List.cons_append,It.fK,kY a b (n+1),List.length_cons]
  have:n+1+a.length=n+(a.length+1):=by omega
  rw[this]
  split<;>simp
theorem EH (n:Nat) (i:It):It.fK n [i] = true↔i.s.id=((n+1:Nat):Int)∧i.deep≤12∧i.s.one=true:=by
 simp only[It.fK]
 split
 ·rename_i h
  simp only[Bool.or_eq_true,bne_iff_ne,ne_eq,decide_eq_true_eq,Bool.not_eq_true']at h
  refine⟨fun h=>(Bool.false_ne_true h).elim,fun⟨h1,h2,h3⟩=>?_⟩
  rcases h with (h|h)|h
  ·exact(h h1).elim
  ·omega
  ·rw[h]at h3;cases h3
 ·rename_i h
  simp only[Bool.or_eq_true,bne_iff_ne,ne_eq,decide_eq_true_eq,Bool.not_eq_true',not_or,Decidable.not_not,Bool.not_eq_false]at h
  exact⟨fun _=>⟨h.1.1,by omega,h.2⟩,fun _=>rfl⟩
mutual
theorem BA (deep cy:Int) (aR:Bool) : ∀ (s:Sm) (out:List It),∃ new,iO deep cy aR out s=out++(⟨s,deep,cy,aR⟩::new)
 | ⟨id,kind,labels,name,proc,x,has,args,aZ,e⟩,out=>by
  simp only[iO]
  split
  ·obtain⟨n1,h1⟩:=qN (deep+1) id false aZ (out++ [⟨⟨id,kind,labels,name,proc,x,has,args,aZ,e⟩,deep,cy,aR⟩])
   obtain⟨n2,h2⟩:=qN (deep+1) id true e (dQ (deep+1) id false (out++ [⟨⟨id,kind,labels,name,proc,x,has,args,aZ,e⟩,deep,cy,aR⟩]) aZ)
   rw[h2,h1]
   exact⟨n1++n2,by simp⟩
  ·exact⟨[],rfl⟩
theorem qN (deep cy:Int) (aR:Bool) : ∀ (l:List Sm) (out:List It),∃ new,dQ deep cy aR out l=out++new
 | [],out=>⟨[],by simp[dQ]⟩
 | s::l,out=>by
  simp only[dQ]
  split
  ·obtain⟨n1,h1⟩:=BA deep cy aR s out
   obtain⟨n2,h2⟩:=qN deep cy aR l (iO deep cy aR out s)
   rw[h2,h1]
   exact⟨⟨s,deep,cy,aR⟩::n1++n2,by simp⟩
  ·exact⟨[],by simp⟩
end
theorem GO {nest:Int} {n:Nat} {s:Sm} (h:(Sm.pQ nest n s).1=true) :
 n+1≤200∧s.id=((n+1:Nat):Int)∧s.one=true∧(Sm.gp (nest+1) (n+1) s.aZ).1=true∧(Sm.gp (nest+1) (Sm.gp (nest+1) (n+1) s.aZ).2 s.aR).1=true∧
 (Sm.pQ nest n s).2=(Sm.gp (nest+1) (Sm.gp (nest+1) (n+1) s.aZ).2 s.aR).2:=by
 rw[FT]at h ⊢
 split at h
 ·cases h
 rename_i h1
 simp only[Bool.or_eq_true,bne_iff_ne,ne_eq,decide_eq_true_eq,Bool.not_eq_true',not_or,Decidable.not_not,Bool.not_eq_false]at h1
 split at h
 ·cases h
 rename_i h2
 have uz:(Sm.gp (nest+1) (n+1) s.aZ).1=true:=by simpa using h2
 refine⟨by omega,h1.1.1.2, ?_,uz,h, ?_⟩
 ·rw[EG,h1.1.2,h1.2];rfl
 ·rw[if_neg (by simp only[Bool.or_eq_true,bne_iff_ne,ne_eq,decide_eq_true_eq,Bool.not_eq_true',not_or,Decidable.not_not,Bool.not_eq_false];exact h1),if_neg h2]
theorem tu {nest:Int} {n:Nat} {l:List Sm} (h:(Sm.gp nest n l).1=true):(l = []∨nest≤12)∧Sm.gp nest n l=Sm.fe nest n l:=by
 unfold Sm.gp gate at *
 split at h
 ·cases h
 ·rename_i hc
  rw[if_neg hc]
  refine⟨?_,rfl⟩
  simp only[Bool.and_eq_true,decide_eq_true_eq,not_and]at hc
  cases l with
  |nil=>exact .inl rfl
  |cons s l=>right;simp only[List.length_cons]at hc;omega
mutual
theorem RL : ∀ (s:Sm) (nest cy:Int) (aR:Bool) (n:Nat) (out:List It),nest≤12→out.length≤n→n≤200→(Sm.pQ nest n s).1=true→
 ∃ new,iO nest cy aR out s=out++new∧It.fK n new=true∧n+new.length=(Sm.pQ nest n s).2∧(Sm.pQ nest n s).2≤200
 | ⟨id,kind,labels,name,proc,x,has,args,aZ,e⟩,nest,cy,aR,n,out,RM,ho,hn,h=>by
  obtain⟨h1,h2,h3,h4,h5,h6⟩:=GO h
  dsimp only at h2 h4 h5 h6
  rw[h6]
  obtain⟨g1,e1⟩:=tu h4
  rw[e1]at h4 h5 ⊢
  obtain⟨g2,e2⟩:=tu h5
  rw[e2]at h5 ⊢
  have pI:It.fK n [(⟨⟨id,kind,labels,name,proc,x,has,args,aZ,e⟩,nest,cy,aR⟩:It)] = true:=(EH _ _).2 ⟨h2,RM,h3⟩
  obtain⟨n1,k1,k2,k3,k4⟩:=wL aZ (nest+1) id false (n+1) (out++ [⟨⟨id,kind,labels,name,proc,x,has,args,aZ,e⟩,nest,cy,aR⟩]) g1 (by simp;omega) h1 h4
  obtain⟨n2,j1,j2,j3,j4⟩:=wL e (nest+1) id true _ (out++ [⟨⟨id,kind,labels,name,proc,x,has,args,aZ,e⟩,nest,cy,aR⟩]++n1) g2 (by simp;omega) k4 h5
  simp only[iO]
  rw[if_pos (by simpa using RM),k1,j1]
  refine⟨⟨⟨id,kind,labels,name,proc,x,has,args,aZ,e⟩,nest,cy,aR⟩::(n1++n2),by simp, ?_, ?_,j4⟩
  ·have:(⟨⟨id,kind,labels,name,proc,x,has,args,aZ,e⟩,nest,cy,aR⟩:It)::(n1++n2) = [⟨⟨id,kind,labels,name,proc,x,has,args,aZ,e⟩,nest,cy,aR⟩]++n1++n2:=by simp
   rw[this,kY,kY,pI,Bool.true_and]
   have e3:n+([(⟨⟨id,kind,labels,name,proc,x,has,args,aZ,e⟩,nest,cy,aR⟩:It)]++n1).length=(Sm.fe (nest+1) (n+1) aZ).2:=by simp;omega
   rw[e3,j2]
   have e4:n + [(⟨⟨id,kind,labels,name,proc,x,has,args,aZ,e⟩,nest,cy,aR⟩:It)].length=n+1:=rfl
   rw[e4,k2];rfl
  ·simp only[List.length_cons,List.length_append];omega
theorem wL : ∀ (l:List Sm) (nest cy:Int) (aR:Bool) (n:Nat) (out:List It),(l = []∨nest≤12)→out.length≤n→n≤200→(Sm.fe nest n l).1=true→
 ∃ new,dQ nest cy aR out l=out++new∧It.fK n new=true∧n+new.length=(Sm.fe nest n l).2∧(Sm.fe nest n l).2≤200
 | [],nest,cy,aR,n,out,RM,ho,hn,h=>⟨[],by simp[dQ],rfl,by simp[Sm.fe],by simpa[Sm.fe]using hn⟩
 |s::l,nest,cy,aR,n,out,RM,ho,hn,h=>by
  have acV:nest≤12:=RM.resolve_left (by simp)
  simp only[Sm.fe]at h ⊢
  split at h
  ·cases h
  rename_i hc
  rw[if_neg hc]
  obtain⟨n1,k1,k2,k3,k4⟩:=RL s nest cy aR n out acV ho hn (by simpa using hc)
  obtain⟨n2,j1,j2,j3,j4⟩:=wL l nest cy aR _ (out++n1) (.inr acV) (by simp;omega) k4 h
  simp only[dQ]
  rw[if_pos (by simp only[decide_eq_true_eq];omega),k1,j1]
  refine⟨n1++n2,by simp, ?_,by simp;omega,j4⟩
  rw[kY,k2,k3,j2];rfl
end
mutual
theorem RN : ∀ (s:Sm) (nest cy:Int) (aR:Bool) (n:Nat) (out new:List It),iO nest cy aR out s=out++new→It.fK n new=true→out.length≤n→n+new.length≤200→
 Sm.pQ nest n s=(true,n+new.length)∧nest≤12
 | ⟨id,kind,labels,name,proc,x,has,args,aZ,e⟩,nest,cy,aR,n,out,new,gP,hm,ho,hn=>by
  obtain⟨n0,h0⟩:=BA nest cy aR ⟨id,kind,labels,name,proc,x,has,args,aZ,e⟩ out
  have e0:new = ⟨⟨id,kind,labels,name,proc,x,has,args,aZ,e⟩,nest,cy,aR⟩::n0:=List.append_cancel_left (gP.symm.trans h0)
  subst e0
  have ag0:(⟨⟨id,kind,labels,name,proc,x,has,args,aZ,e⟩,nest,cy,aR⟩:It)::n0 = [⟨⟨id,kind,labels,name,proc,x,has,args,aZ,e⟩,nest,cy,aR⟩]++n0:=rfl
  rw[ag0,kY,Bool.and_eq_true]at hm
  obtain⟨np,jA⟩:=hm
  obtain⟨c1,c2,c3⟩:=(EH _ _).1 np
  dsimp only at c1 c2 c3
  simp only[List.length_cons]at hn ⊢
  have Vf:dQ (nest+1) id true (dQ (nest+1) id false (out++ [⟨⟨id,kind,labels,name,proc,x,has,args,aZ,e⟩,nest,cy,aR⟩]) aZ) e=out++([⟨⟨id,kind,labels,name,proc,x,has,args,aZ,e⟩,nest,cy,aR⟩]++n0):=by
   simp only[iO]at gP
   rw[if_pos (by simpa using c2)]at gP
   exact gP
  obtain⟨n1,g1⟩:=qN (nest+1) id false aZ (out++ [⟨⟨id,kind,labels,name,proc,x,has,args,aZ,e⟩,nest,cy,aR⟩])
  obtain⟨n2,g2⟩:=qN (nest+1) id true e (dQ (nest+1) id false (out++ [⟨⟨id,kind,labels,name,proc,x,has,args,aZ,e⟩,nest,cy,aR⟩]) aZ)
  have en:n0=n1++n2:=by
   rw[g2,g1]at Vf
   simp only[List.append_assoc,List.append_cancel_left_eq]at Vf
   exact Vf.symm
  subst en
  have Vg:It.fK (n+1) (n1++n2)=true:=jA
  rw[kY,Bool.and_eq_true]at Vg
  simp only[List.length_append]at hn ⊢
  obtain⟨r1,r2⟩:=wM aZ (nest+1) id false (n+1) _ n1 g1 Vg.1 (by simp;omega) (by omega)
  obtain⟨q1,q2⟩:=wM e (nest+1) id true (n+1+n1.length) _ n2 g2 Vg.2 (by rw[g1];simp;omega) (by omega)
  refine⟨?_,c2⟩
  have gg : ∀ {l:List Sm} {m:Nat} {r:Bool×Nat},Sm.fe (nest+1) m l=r→(l = []∨nest+1≤12)→Sm.gp (nest+1) m l=r:=by
   intro l m r h1 h2
   unfold Sm.gp gate
   rw[if_neg]
   ·exact h1
   ·simp only [Bool.and_eq_true,decide_eq_true_eq,not_and]
    rcases h2 with h2|h2
    ·subst h2;simp
    ·omega
  have t1:=gg r1 r2
  have t2:=gg q1 q2
  rw[FT]
  dsimp only
  rw[t1]
  dsimp only
  rw[t2]
  rw[EG,Bool.and_eq_true]at c3
  rw[if_neg]
  ·simp;omega
  ·simp only [Bool.or_eq_true,bne_iff_ne,ne_eq,decide_eq_true_eq,Bool.not_eq_true',not_or,Decidable.not_not,Bool.not_eq_false]
   exact⟨⟨⟨by omega,c1⟩,c3.1⟩,c3.2⟩
theorem wM : ∀ (l:List Sm) (nest cy:Int) (aR:Bool) (n:Nat) (out new:List It),dQ nest cy aR out l=out++new→It.fK n new=true→out.length≤n→n+new.length≤200→
 Sm.fe nest n l=(true,n+new.length)∧(l = []∨nest≤12)
 | [],nest,cy,aR,n,out,new,gP,hm,ho,hn=>by
  simp only[dQ]at gP
  have:new = []:=by simpa using gP
  subst this
  exact⟨by simp[Sm.fe], .inl rfl⟩
 | s::l,nest,cy,aR,n,out,new,gP,hm,ho,hn=>by
  simp only[dQ]at gP
  rw[if_pos (by simp only[decide_eq_true_eq];omega)]at gP
  obtain⟨n1,g1⟩:=BA nest cy aR s out
  obtain⟨n2,g2⟩:=qN nest cy aR l (iO nest cy aR out s)
  have en:new=(⟨s,nest,cy,aR⟩::n1)++n2:=by
   rw[g2,g1,List.append_assoc,List.append_cancel_left_eq]at gP
   exact gP.symm
  subst en
  rw[kY,Bool.and_eq_true]at hm
  rw[List.length_append]at hn ⊢
  obtain⟨r1,r2⟩:=RN s nest cy aR n out _ g1 hm.1 ho (by omega)
  obtain⟨q1,q2⟩:=wM l nest cy aR (n+(⟨s,nest,cy,aR⟩::n1:List It).length) _ n2 g2 hm.2 (by rw[g1,List.length_append];omega) (by omega)
  refine⟨?_, .inr r2⟩
  simp only[Sm.fe,r1,Bool.not_true,Bool.false_eq_true,↓reduceIte,q1]
  congr 1;omega
end
theorem BB : ∀ (l:List Pc) (out:List It),out.length≤200→(Pc.fe out.length l=true↔Pc.nU l=true∧∃ new,allM out l=out++new∧(out++new).length≤200∧It.fK out.length new=true)
 | [],out,ho=>by simp[Pc.fe,Pc.nU,allM,It.fK];exact ho
 | f::l,out,ho=>by
  have pR : ∀ (l:List Pc) (out:List It),∃ new,allM out l=out++new:=by
   intro l
   induction l with
   |nil=>intro out;exact⟨[],by simp[allM]⟩
   | cons f l ih=>
    intro out
    simp only[allM]
    split
    ·exact⟨_,rfl⟩
    ·obtain⟨n1,h1⟩:=ih (out++f.flat)
     exact⟨f.flat++n1,by rw[h1,List.append_assoc]⟩
  simp only[Pc.fe,Pc.nU]
  have ag1:(decide ((f.params.length:Int) > 8) ||decide ((f.vars.length:Int) > 16) || !(isName f.name) || !(fa f.vars) || !(fa f.fin))=(!(isName f.name) ||decide ((f.params.length:Int) > 8) ||decide ((f.vars.length:Int) > 16) || !(fa f.vars) || !(fa f.fin)):=by
   cases isName f.name<;>simp
  rw[ag1]
  split
  ·simp
  split
  ·simp
  have hg:Sm.gp 1 out.length f.body=Sm.fe 1 out.length f.body:=by unfold Sm.gp gate;rw[if_neg (by simp)]
  rw[hg]
  constructor
  ·intro h
   split at h
   ·cases h
   rename_i hc
   obtain⟨n1,k1,k2,k3,k4⟩:=wL f.body 1 0 false out.length [] (.inr (by omega)) (by simp) ho (by simpa using hc)
   have gP:f.flat=n1:=by unfold Pc.flat;rw[k1];rfl
   rw[← k3, ← List.length_append]at h
   obtain⟨hh,n2,j1,j2,j3⟩:=(BB l (out++n1) (by rw[List.length_append];omega)).1 h
   refine⟨hh,n1++n2, ?_,by simpa using j2, ?_⟩
   ·simp only [allM,gP]
    rw[if_neg (by simp only[List.length_append,decide_eq_true_eq];omega),j1,List.append_assoc]
   ·rw[kY,k2, ← List.length_append,j3];rfl
  ·rintro⟨hh,new,j1,j2,j3⟩
   simp only[allM]at j1
   split at j1
   ·rename_i hc
    have:new=f.flat:=(List.append_cancel_left j1).symm
    subst this
    simp only[decide_eq_true_eq]at hc
    omega
   rename_i hc
   simp only[decide_eq_true_eq]at hc
   obtain⟨n2,g2⟩:=pR l (out++f.flat)
   have en:new=f.flat++n2:=by
    rw[g2,List.append_assoc]at j1
    exact(List.append_cancel_left j1).symm
   subst en
   rw[kY,Bool.and_eq_true]at j3
   rw[List.length_append,List.length_append]at j2
   obtain⟨r1,_⟩:=wM f.body 1 0 false out.length [] f.flat (by unfold Pc.flat;rfl) j3.1 (by simp) (by omega)
   rw[r1]
   simp only[Bool.not_true,Bool.false_eq_true,↓reduceIte]
   rw[← List.length_append]
   exact(BB l (out++f.flat) (by rw[List.length_append];omega)).2 ⟨hh,n2,g2,by simp;omega,by rw[List.length_append];exact j3.2⟩
theorem Cj (p:Pg):p.FV=p.may:=by
 have h:=BB p.procs [] (by simp)
 unfold Pg.FV Pg.may
 split
 ·rfl
 ·have e:Pc.fe 0 p.procs=(if !(Pc.nU p.procs)then false else if decide ((p.all.length:Int) > 200)then false else It.fK 0 p.all):=by
   rw[Bool.eq_iff_iff]
   have h':Pc.fe 0 p.procs=true↔_:=h
   rw[h']
   have ha:p.all=allM [] p.procs:=rfl
   constructor
   ·rintro⟨h1,new,h2,h3,h4⟩
    rw[ha,h2,h1]
    simp only[List.nil_append]at h3 ⊢
    simp only[Bool.not_true,Bool.false_eq_true,↓reduceIte]
    rw[if_neg (by simp only[decide_eq_true_eq];omega)]
    exact h4
   ·intro h1
    cases hh:Pc.nU p.procs
    ·rw[hh]at h1;simp at h1
    ·rw [hh]at h1
     simp only[Bool.not_true,Bool.false_eq_true,↓reduceIte]at h1
     split at h1
     ·cases h1
     ·rename_i hc
      simp only[decide_eq_true_eq]at hc
      exact⟨rfl,p.all,by rw[ha];rfl,by simp;omega,h1⟩
  exact e
def anu (x:aG):List aG→Bool
 | []=>false
 |s::l=>if x==s then true else anu x l
def qb (pre:List aG):List aG→Bool
 | []=>false
 |s::l=>if fm pre s then true else qb (pre++ [s]) l
def fD (l:List aG):Bool:=qb [] l
theorem RO {l:List aG} {k:Nat} {a:aG} (h:l[k]? = some a):l.take (k+1)=l.take k++ [a]:=by rw[List.take_add_one,h];rfl
theorem DB {l:List aG} (hl:l.length<4611686018427387904) (g:Tag) (s:St):aF Tryz.prog oa [.slice g 1 (l.map encStr)] s (.bool (fD l)) s:=by
 refine aF.XB (d':= .slice .shared 1 (l.map encStr)) ?_ (Wk.shared _ _ _)
 refine aF.pure ?_ (by simp[D.bK,D.ok,Tag.ok,e9]) rfl s
 generalize h:fD l=p
 simp only[fD]at h
 unfold S0
 refine aF.go Er rfl fun B Q hB hQ=>?_
 have⟨hD,hY,hZ,gA⟩:=bQ
 repeat' (first
 |simp only[go_sem,hD,hY,hZ,gA]
 |(with_reducible first|refine bo fun hc=>?_|refine bp fun hc=>?_|refine bq (fun hc=>?_) fun hc=>?_)<;>(try simp only[hc,bs,↓reduceIte]at h)<;>try simp only[hc]
 |(with_reducible refine aD hQ ?_;exact fS))
 refine e8 0 0 (bl.ind (ι:=List aG×Nat) (fun i=>l.drop i.2=i.1∧qb (l.take i.2) i.1=p) (fun i=>i.1.length)
  (fun i=> [(0, .slice .shared 1 (l.map encStr)),(5, .slice .shared 1 (l.map encStr)),(6, .int .i64 (l.length:Int)),(7, .int .i64 (i.2:Int))]) (fun i=>⟨[],[]⟩) ?_ (l,0) ⟨rfl,h⟩)
 rintro⟨rest,k⟩ ⟨h1,h⟩ IH
 dsimp only at h1 h
 cases rest with
 |nil=>
  have hD:=drop_nil h1
  simp only[qb]at h
  repeat' (first
 |simp only[go_sem,hD,hY,hZ,gA]
 |(with_reducible first|refine bo fun hc=>?_|refine bp fun hc=>?_|refine bq (fun hc=>?_) fun hc=>?_)<;>(try simp only[hc,bs,↓reduceIte]at h)<;>try simp only[hc]
 |(with_reducible refine aD hQ ?_;exact fS))
 |cons a rest=>
  obtain⟨hY,g2,hD,g4⟩:=drop_cons h1
  have bN:k<4611686018427387904:=by omega
  simp only[qb]at h
  have hc:=jz (l:=l.take k) (by rw[List.length_take];omega) a
  have e1:List.drop 0 (List.take k (l.map encStr))=(l.take k).map encStr:=by simp[List.map_take]
  have c1:((0:Int)≤(k:Int))=True:=by simp
  have c2:((k:Int)≤(l.length:Int))=True:=by simp only[eq_iff_iff,iff_true];omega
  have e2:List.take k (l.map encStr)=(l.take k).map encStr:=by simp[List.map_take]
  repeat' (first
 |simp only[go_sem,hD,hY,hZ,gA,e1,e2,c1,c2,or_true,true_and,and_self,ite_self,Int.toNat_natCast,List.drop_zero]
 |(with_reducible refine CU (hc _ _) ?_)
 |(with_reducible first|refine bo fun hc=>?_|refine bp fun hc=>?_|refine bq (fun hc=>?_) fun hc=>?_)<;>(try simp only[hc,bs,↓reduceIte]at h)<;>try simp only[hc]
 |(with_reducible refine aD hQ ?_;(try cases h);simp only[aU,aV,bI,bJ,go_sem,hD,hY,hZ,gA,e1,e2,c1,c2,or_true,true_and,and_self,ite_self,Int.toNat_natCast,List.drop_zero];try exact cv))
  refine eJ 0 0 ?_ ?_ (IH (rest,k+1) ⟨g2,by dsimp only;rw[RO (by assumption)];exact h⟩ (Nat.lt_succ_self _))
  ·(simp only[go_sem,hD,hY,hZ,gA,aI bN];try exact bS)
  ·(simp only[go_sem,hD,hY,hZ,gA,aI bN];try exact bS)
end Go.Abs
