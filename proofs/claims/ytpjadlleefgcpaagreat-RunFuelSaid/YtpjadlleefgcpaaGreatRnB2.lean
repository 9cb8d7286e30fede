/-
  What is proved here: part 2 of the road to the claim (Codes1, Have1, Codes2, Have2, Codes3, Codes4, Have4, Codes5, Have5, Have3, MirLex, MirMay, Prs, Lex1, Lex2, RefLex1, Prs2, Ref1, Ref2, RefMay2, Flat1, Flat2, Flat3, Sl1, MirFlat2, Sl2, TMay1, TMay2, RefMay3, RefMay4, TMay3, TMay4, MayFine, MayEq, Nm1, Nm2, Nm3, MayEq2, Sc1).
  No conditions.
-/
import Derived.Test.YtpjadlleefgcpaaGreatRnB1
import Derived.Test.YtpjadlleefgcpaaGreatProg
import Derived.KernelRfl

set_option linter.unusedSimpArgs false
set_option linter.unusedVariables false
namespace Go.Abs
abbrev Q8Y:AC:= .seq (.run [.o 1 (.box br),(.o 2 (.mv (.k (.val (.complex .f64 0 0)))))]) (.seq (.run [.o 3 (.aq bt 1), .o 4 (.load cB false 1), .o 5 (.qO (.ofInt .f64) fl fl), .o 6 (.aq bt 2), .o 7 (.load dD false 1), .o 8 (.qO (.ofInt .f64) da da), .o 9 (.qO .Iw cj dc), .m 2 df]) .ret)
abbrev Q90:AC:= .run [(.o 3 (.dA [(.str [])] 1 1 [(0,(.k (.str [118])))])), .c 4 rn [(.k (.int .i64 2))],(.o 5 (.build [(.int .i64 0),(.int .i64 0),(.slice .full 0 []),(.str []),(.str []),(.int .i64 0),(.int .i64 0),(.str []),(.slice .full 0 []),(.bool false),(.slice .full 0 []),(.slice .full 0 []),(.slice .full 0 [])] [(0,(1,(.k (.int .i64 1)))),(1,(1,(.k (.int .i64 1)))),(3,(1,(.k (.str [118])))),(5,(4,fl))])), .c 6 rn [(.k (.int .i64 3))], .o 7 (.build [(.bool false),(.str []),(.int .i64 0),(.int .i64 0),(.str []),(.slice .full 0 [])] [(2,(4,dD))]),(.o 8 (.build [(.bool false),(.str []),(.int .i64 0),(.int .i64 0),(.str []),(.slice .full 0 [])] [(0,(1,(.k (.bool true)))),(1,(1,(.k (.str [118]))))])), .o 9 (.dA [(.bool false),(.str []),(.int .i64 0),(.int .i64 0),(.str []),(.slice .full 0 [])] 6 2 [(0,da),(1,dc)]),(.o 10 (.build [(.int .i64 0),(.int .i64 0),(.slice .full 0 []),(.str []),(.str []),(.int .i64 0),(.int .i64 0),(.str []),(.slice .full 0 []),(.bool false),(.slice .full 0 []),(.slice .full 0 []),(.slice .full 0 [])] [(0,(1,(.k (.int .i64 2)))),(1,(1,(.k (.int .i64 4)))),(3,(1,(.k (.str [103])))),(4,(1,(.k (.str [112])))),(10,(1,df))])),(.c 11 lh [(.k (.str [118]))]),(.o 12 (.build [(.int .i64 0),(.int .i64 0),(.slice .full 0 []),(.str []),(.str []),(.int .i64 0),(.int .i64 0),(.str []),(.slice .full 0 []),(.bool false),(.slice .full 0 []),(.slice .full 0 []),(.slice .full 0 [])] [(0,(1,(.k (.int .i64 3)))),(1,(1,(.k (.int .i64 3)))),(5,(4,cJ))])),(.c 13 lh [(.k (.str [103]))]),(.o 14 (.build [(.int .i64 0),(.int .i64 0),(.slice .full 0 []),(.str []),(.str []),(.int .i64 0),(.int .i64 0),(.str []),(.slice .full 0 []),(.bool false),(.slice .full 0 []),(.slice .full 0 []),(.slice .full 0 [])] [(0,(1,(.k (.int .i64 4)))),(1,(1,(.k (.int .i64 3)))),(5,(4,cZ))])), .o 15 (.dA [(.int .i64 0),(.int .i64 0),(.slice .full 0 []),(.str []),(.str []),(.int .i64 0),(.int .i64 0),(.str []),(.slice .full 0 []),(.bool false),(.slice .full 0 []),(.slice .full 0 []),(.slice .full 0 [])] 13 4 [(0,cj),(1,bT),(2,cU),(3,cL)]),(.o 16 (.build [(.str []),(.slice .full 0 []),(.slice .full 0 []),(.slice .full 0 []),(.slice .full 0 [])] [(0,(1,(.k (.str [109,97,105,110])))),(2,(1,cB)),(3,(1,dE))])), .o 1 (.alloc [(.str []),(.slice .full 0 []),(.slice .full 0 []),(.slice .full 0 []),(.slice .full 0 [])]), .op none none (.store bt dh 5)]
abbrev Q91:AC:= .run [(.o 17 (.build [(.str []),(.bool false)] [(0,(1,(.k (.str [120]))))])),(.o 18 (.build [(.str []),(.bool false)] [(0,(1,(.k (.str [121])))),(1,(1,(.k (.bool true))))])), .o 19 (.dA [(.str []),(.bool false)] 2 2 [(0,dF),(1,dG)]),(.o 20 (.dA [(.str [])] 1 1 [(0,(.k (.str [101])))])),(.c 21 lh [(.k (.str [121]))]),(.c 22 lh [(.k (.str [120]))]), .c 23 uP [(.k (.int .i64 8)),ek,eD],(.o 24 (.build [(.int .i64 0),(.int .i64 0),(.slice .full 0 []),(.str []),(.str []),(.int .i64 0),(.int .i64 0),(.str []),(.slice .full 0 []),(.bool false),(.slice .full 0 []),(.slice .full 0 []),(.slice .full 0 [])] [(0,(1,(.k (.int .i64 5)))),(1,(1,(.k (.int .i64 1)))),(3,(1,(.k (.str [121])))),(5,(4,eH))])),(.c 25 lh [(.k (.str [121]))]), .c 26 rn [(.k (.int .i64 9))], .c 27 uP [(.k (.int .i64 12)),eW,fu],(.o 28 (.build [(.int .i64 0),(.int .i64 0),(.slice .full 0 []),(.str []),(.str []),(.int .i64 0),(.int .i64 0),(.str []),(.slice .full 0 []),(.bool false),(.slice .full 0 []),(.slice .full 0 []),(.slice .full 0 [])] [(0,(1,(.k (.int .i64 7)))),(1,(1,(.k (.int .i64 10)))),(3,(1,(.k (.str [101]))))])), .o 29 (.dA [(.int .i64 0),(.int .i64 0),(.slice .full 0 []),(.str []),(.str []),(.int .i64 0),(.int .i64 0),(.str []),(.slice .full 0 []),(.bool false),(.slice .full 0 []),(.slice .full 0 []),(.slice .full 0 [])] 13 1 [(0,gb)]),(.o 30 (.build [(.int .i64 0),(.int .i64 0),(.slice .full 0 []),(.str []),(.str []),(.int .i64 0),(.int .i64 0),(.str []),(.slice .full 0 []),(.bool false),(.slice .full 0 []),(.slice .full 0 []),(.slice .full 0 [])] [(0,(1,(.k (.int .i64 6)))),(1,(1,(.k (.int .i64 5)))),(5,(4,fx)),(11,(1,gf))])),(.c 31 lh [(.k (.str [121]))]),(.o 32 (.build [(.int .i64 0),(.int .i64 0),(.slice .full 0 []),(.str []),(.str []),(.int .i64 0),(.int .i64 0),(.str []),(.slice .full 0 []),(.bool false),(.slice .full 0 []),(.slice .full 0 []),(.slice .full 0 [])] [(0,(1,(.k (.int .i64 8)))),(1,(1,(.k (.int .i64 9)))),(9,(1,(.k (.bool true)))),(5,(4,gu))])), .o 33 (.dA [(.int .i64 0),(.int .i64 0),(.slice .full 0 []),(.str []),(.str []),(.int .i64 0),(.int .i64 0),(.str []),(.slice .full 0 []),(.bool false),(.slice .full 0 []),(.slice .full 0 []),(.slice .full 0 [])] 13 3 [(0,eU),(1,gy),(2,gS)]),(.o 34 (.build [(.str []),(.slice .full 0 []),(.slice .full 0 []),(.slice .full 0 []),(.slice .full 0 [])] [(0,(1,(.k (.str [112])))),(1,(1,dY)),(4,(1,ey)),(3,(1,gH))])), .o 2 (.alloc [(.str []),(.slice .full 0 []),(.slice .full 0 []),(.slice .full 0 []),(.slice .full 0 [])]), .op none none (.store dq iF 5)]
abbrev Q93:AC:= .seq (.run [(.o 35 (.dA [(.str [])] 1 1 [(0,(.k (.str [103])))])), .o 36 (.load bt true 5), .o 37 (.load dq true 5), .o 38 (.dA [(.str []),(.slice .full 0 []),(.slice .full 0 []),(.slice .full 0 []),(.slice .full 0 [])] 5 2 [(0,ix),(1,jf)]), .o 39 (.build [(.slice .full 0 []),(.slice .full 0 [])] [(0,(1,gT)),(1,(1,jQ))]), .op none none (.store br jB 2)]) .ret
abbrev Q96:AC:= .seq (.run [.o 0 (.alloc [(.slice .full 0 []),(.slice .full 0 [])])]) (.seq Q90 (.seq Q91 Q93))
abbrev Q9G:AC:= .seq (.seq (.run [.m 6 cj, .m 7 br, .o 8 (.len da), .o 9 (.bin .lss dD dc), .m 10 df, .g 11 10 true (.mv bt), .g 12 10 true (.bin .leq cJ (.k (.int .i64 20000))), .o 13 (.pick bT cU (.k (.bool false)))]) (.cond cZ .skip (.exit 0))) (.seq (.block 1 (.run [.m 16 br, .m 17 cj, .o 18 (.cf dh dF 1), .o 19 (.load dG false 1), .m 20 bt, .c 21 gp [dY,ey], .m 1 ek])) (.run [.m 14 cj, .o 15 (.bin .add cL (.k (.int .i64 1))), .m 5 dE]))
abbrev Q9M:AC:= .seq (.seq (.run [.o 5 (.mv (.k (.int .i64 0)))]) (.block 0 (.loop Q9G))) (.seq (.run [.m 22 bt, .m 4 eD]) .ret)
abbrev Q9N:AC:= .seq (.run [.o 4 (.mv (.k (.int .i64 0)))]) Q9M
abbrev Q9S:AC:= .cond cZ (.seq (.run [.o 4 (.mv (.k (.int .i64 20001)))]) .ret) .skip
abbrev Q9W:AC:= .seq (.seq (.run [.m 5 bt, .o 6 (.bin .gtr cj (.k (.int .i64 20000))), .m 7 dD, .g 8 7 false (.mv br), .g 9 7 false (.vb dc), .g 10 7 false (.mv bt), .g 11 7 false (.bin .sub (.k (.int .i64 20000)) bT), .g 12 7 false (.bin .geq df cJ), .o 13 (.pick da (.k (.bool true)) cU)]) Q9S) (.seq (.run [.m 14 bt, .o 15 (.bin .add cL (.k (.int .i64 1))), .m 16 br, .o 17 (.vb dh), .o 18 (.bin .add dE dF), .m 4 dG]) .ret)
abbrev Q9X:AC:= .seq (.run [.o 4 (.mv (.k (.int .i64 0)))]) Q9W
abbrev QA4:AC:= .par [.o 22 (.aq dD 4), .o 23 (.load eD false 1), .o 24 (.aq dD 3), .o 25 (.load eU false 1), .o 26 (.aq dD 2), .o 27 (.load fu false 1), .o 28 (.aq dD 5), .o 29 (.load gb true 4), .m 30 bt, .c 31 kb [gf,gy], .c 32 jJ [fx,gu], .c 33 gp [eW,gS], .c 34 gp [eH,gH], .m 1 iF] [(6,0),(7,0),(8,0),(9,0),(4,0),(5,1),(10,0),(2,0),(3,2),(11,0),(0,0),(1,3),(12,0),(13,0)]
abbrev QA9:AC:= .par [.o 46 (.aq dD 10), .o 47 (.load lL false 1), .m 48 da, .o 49 (.cf lW kY 6), .o 50 (.aq kZ 1), .o 51 (.load lM false 1), .o 52 (.aq dD 10), .o 53 (.load kM false 1), .m 54 da, .o 55 (.cf k6 lN 6), .o 56 (.aq lO 2), .o 57 (.load nr true 4), .m 58 bt, .c 59 kb [oJ,n7], .c 60 gp [kL,lX], .m 1 pf] [(6,0),(7,0),(8,0),(9,0),(10,0),(11,0),(12,0),(13,0),(0,0),(1,1),(2,0),(3,0),(4,0),(5,1),(14,0),(15,0)]
abbrev QAD:AC:= .seq (.seq (.run [.m 35 da, .o 36 (.aq dD 10), .o 37 (.load ix false 1), .o 38 (.len jf), .o 39 (.bin .lss gT jQ), .m 40 jB, .g 41 40 true (.mv bt), .g 42 40 true (.bin .leq jR (.k (.int .i64 20000))), .o 43 (.pick kg kJ (.k (.bool false)))]) (.cond kz .skip (.exit 2))) (.seq (.block 3 QA9) (.run [.m 44 da, .o 45 (.bin .add kK (.k (.int .i64 1))), .m 7 lK]))
abbrev QAH:AC:= .par [.o 61 (.aq dD 12), .o 62 (.load qz false 1), .o 63 (.aq dD 11), .o 64 (.load qA false 1), .m 65 bt, .c 66 kP [qB,uf], .c 67 kP [pV,vD], .m 1 vE] [(2,0),(3,0),(4,0),(5,0),(0,0),(1,1),(6,0),(7,0)]
abbrev QAI:AC:= .seq (.seq (.run [.o 7 (.mv (.k (.int .i64 0)))]) (.block 2 (.loop QAD))) QAH
abbrev QAN:AC:= .seq (.block 1 (.seq (.run [.m 18 br, .m 19 cj, .o 20 (.cf dG dY 13), .o 21 (.load ey true 13), .o 6 (.alloc [(.int .i64 0),(.int .i64 0),(.slice .full 0 []),(.str []),(.str []),(.int .i64 0),(.int .i64 0),(.str []),(.slice .full 0 []),(.bool false),(.slice .full 0 []),(.slice .full 0 []),(.slice .full 0 [])]), .op none none (.store dD ek 13)]) (.seq QA4 QAI))) (.run [.m 16 cj, .o 17 (.bin .add dh (.k (.int .i64 1))), .m 5 dF])
abbrev QAO:AC:= .seq (.seq (.run [.m 8 cj, .m 9 br, .o 10 (.len df), .o 11 (.bin .lss dc bT), .m 12 cJ, .g 13 12 true (.mv bt), .g 14 12 true (.bin .leq cZ (.k (.int .i64 20000))), .o 15 (.pick cU cL (.k (.bool false)))]) (.cond dE .skip (.exit 0))) QAN
abbrev QAU:AC:= .seq (.seq (.run [.o 5 (.mv (.k (.int .i64 0)))]) (.block 0 (.loop QAO))) (.seq (.run [.m 68 bt, .m 4 ug]) .ret)
abbrev QAV:AC:= .seq (.run [.o 4 (.mv (.k (.int .i64 0)))]) QAU
abbrev QB2:AC:= .par [.m 17 cB, .m 18 cB, .o 19 (.bV dG), .o 20 (.aq dY 3), .o 21 (.load ey false 1), .m 22 cB, .o 23 (.bV eD), .o 24 (.aq eH 2), .o 25 (.load eU false 1), .o 26 (.len eW), .o 27 (.bin .add fu (.k (.int .i64 1))), .o 28 (.dA [(.int .i64 0)] 1 1 [(0,fx)]), .o 29 (.app 1 8 ek gb), .o 30 (.bV dF), .o 31 (.aq gy 3), .op none none (.store gu gf 1)] [(1,0),(2,0),(3,0),(4,0),(5,0),(6,0),(7,0),(8,0),(9,0),(10,0),(11,0),(12,0),(0,0),(13,0),(14,0),(15,0)]
abbrev QB4:AC:= .par [.m 38 cB, .m 39 cB, .o 40 (.bV jB), .o 41 (.aq kg 4), .o 42 (.load jR false 1), .m 43 cB, .o 44 (.bV kz), .o 45 (.aq kK 2), .o 46 (.load lK false 1), .o 47 (.len lL), .o 48 (.bin .add lW (.k (.int .i64 1))), .o 49 (.dA [(.int .i64 0)] 1 1 [(0,kY)]), .o 50 (.app 1 8 kJ kZ), .o 51 (.bV jQ), .o 52 (.aq kL 4), .op none none (.store kM lM 1)] [(1,0),(2,0),(3,0),(4,0),(5,0),(6,0),(7,0),(8,0),(9,0),(10,0),(11,0),(12,0),(0,0),(13,0),(14,0),(15,0)]
abbrev QB5:AC:= .seq (.run [.m 32 cB, .o 33 (.aq cj 3), .o 34 (.load gH false 1), .m 35 fl,(.o 36 (.build [(.int .i64 0),(.int .i64 0),(.slice .full 0 []),(.str []),(.str []),(.int .i64 0),(.int .i64 0),(.str []),(.slice .full 0 []),(.bool false),(.slice .full 0 []),(.slice .full 0 []),(.slice .full 0 []),(.int .i64 0),(.int .i64 0),(.int .i64 0),(.int .i64 0)] [(13,(1,gT)),(15,(1,(.k (.int .i64 (-1)))))])), .c 37 ke [gS,iF,ix]]) QB4
abbrev QBA:AC:= .seq (.block 1 (.seq (.run [.m 14 cU, .o 15 (.cf bT cU 5), .o 16 (.load dE true 5), .o 5 (.alloc [(.str []),(.slice .full 0 []),(.slice .full 0 []),(.slice .full 0 []),(.slice .full 0 [])]), .m 4 cL, .op none none (.store cj dh 5)]) (.seq QB2 QB5))) (.run [.o 53 (.bin .add cU (.k (.int .i64 1))), .m 12 k6])
abbrev QBE:AC:= .block 0 (.loop (.seq (.run [.o 13 (.bin .lss cU cJ)]) (.seq (.cond cZ .skip (.exit 0)) QBA)))
abbrev QBI:AC:= .seq (.seq (.run [.o 9 (.aq bt 1), .o 10 (.load df false 1), .o 11 (.len bT), .o 12 (.mv (.k (.int .i64 0)))]) QBE) (.seq (.run [.m 54 cB, .m 2 lN]) .ret)
abbrev QBK:AC:= .seq (.run [.o 1 (.box br), .o 2 (.mv (.k .dS))]) (.seq (.run [.o 6 (.load bt true 2), .o 7 (.build [(.slice .full 0 []),(.slice .full 0 []),(.slice .full 0 []),(.slice .full 0 []),(.slice .full 0 [])] [(0,(2,dD))]), .o 8 (.box da), .m 3 dc]) QBI)
abbrev QBN:AC:= .par [.m 22 bt, .m 23 br, .o 24 (.bV eH), .o 25 (.aq eU 0), .o 26 (.load eW false 1), .o 27 (.bV fu), .o 28 (.aq fx 0), .o 29 (.load gb true 2), .o 30 (.aq df 0), .o 31 (.load gy false 1), .c 32 vx [gf,gu], .m 33 cB, .o 34 (.build [(.int .i64 0),(.slice .full 0 []),(.slice .full 0 []),(.int .i64 0)] [(0,(1,eD)),(1,(1,gS)),(3,(1,gH))]), .o 35 (.box iF), .m 10 gT] [(1,0),(2,0),(3,0),(4,0),(5,0),(6,0),(7,0),(8,0),(9,0),(10,0),(0,0),(11,0),(12,0),(13,0),(14,0)]
abbrev QBO:AC:= .par [.m 36 bT, .m 37 bT, .o 38 (.bV jf), .o 39 (.aq jQ 2), .o 40 (.load jB false 1), .m 41 br, .o 42 (.bV jR), .o 43 (.aq kJ 1), .o 44 (.load kz false 1), .o 45 (.app 1 8 kg kK), .m 46 dq, .o 47 (.app 1 8 lK lL), .o 48 (.bV ix), .o 49 (.aq kY 2), .op none none (.store kZ lW 1)] [(1,0),(2,0),(3,0),(4,0),(5,0),(6,0),(7,0),(8,0),(9,0),(10,0),(11,0),(0,0),(12,0),(13,0),(14,0)]
abbrev QBW:AC:= .seq (.cond lN .skip (.exit 0)) (.seq (.block 1 (.run [.m 55 bT, .m 56 bT, .o 57 (.bV nr), .o 58 (.aq oJ 2), .o 59 (.load n7 false 1), .o 60 (.alloc [(.int .i64 0)]), .o 61 (.dA [.dS] 1 1 [(0,pf)]), .o 62 (.app 1 8 lX qz), .o 63 (.bV lO), .o 64 (.aq qA 2), .op none none (.store qB pV 1)])) (.run [.o 65 (.bin .add k6 (.k (.int .i64 1))), .m 53 uf]))
abbrev QBX:AC:= .seq (.run [.o 54 (.bin .lss k6 kM)]) QBW
abbrev QC4:AC:= .seq (.run [.m 66 br, .m 67 br, .o 68 (.bV vE), .o 69 (.aq ug 4), .o 70 (.load xF false 1), .m 71 bT, .o 72 (.dA [.dS] 1 1 [(0,Bv)]), .o 73 (.app 1 8 xG zp), .o 74 (.bV vD), .o 75 (.aq Bw 4), .op none none (.store Bx zr 1)]) (.seq (.run [.m 76 br, .o 77 (.bV zt), .o 78 (.aq By 0), .o 79 (.load xH false 1), .m 80 bt, .c 81 pb [DC,DD], .m 8 DE]) .ret)
abbrev QC5:AC:= .seq (.seq (.run [.o 50 (.aq df 2), .o 51 (.load lM false 1), .o 52 (.len kL), .o 53 (.mv (.k (.int .i64 0)))]) (.block 0 (.loop QBX))) QC4
abbrev QC9:AC:= .seq (.run [.o 8 (.mv (.k (.int .i64 0)))]) (.seq (.run [.m 11 br, .o 12 (.bV cJ), .o 13 (.aq cU 0), .o 14 (.load cZ false 1), .o 15 (.bV cL), .o 16 (.aq dE 0), .o 17 (.aq dh 1), .o 18 (.load dF false 1), .m 19 bt, .o 20 (.cf dG dY 5), .o 21 (.load ey true 5), .o 9 (.alloc [(.str []),(.slice .full 0 []),(.slice .full 0 []),(.slice .full 0 []),(.slice .full 0 [])]), .op none none (.store df ek 5)]) (.seq QBN (.seq QBO QC5)))
abbrev QCD:AC:= .seq (.run [.o 3 (.box bt), .o 4 (.mv (.k (.int .i64 0)))]) (.seq (.run [.m 5 br, .o 6 (.bV cj), .o 7 (.aq dD 0), .o 8 (.aq da 1), .o 9 (.load dc false 1), .o 10 (.uK 76 [cB]), .c 11 gj [df,bT], .m 4 cJ]) .ret)
abbrev QCO:AC:= .seq (.run [.o 18 (.aq da 0), .o 19 (.load dG false 1)]) (.cond dY (.seq (.run [.m 20 cj, .m 21 br, .o 22 (.aq da 1), .o 23 (.load eD false 1), .c 24 iM [ek,eH], .o 25 (.dA [.dS] 1 1 [(0,eU)]), .o 26 (.app 1 8 ey eW), .m 5 fu]) (.exit 1)) .skip)
abbrev QCS:AC:= .seq (.run [(.o 4 (.mv (.k (.int .i64 (-1)))))]) .ret
abbrev QCZ:AC:= .seq (.run [.m 28 br, .o 29 (.aq da 2), .o 30 (.load gf true 4), .c 31 jW [gb,gy], .m 27 gu, .o 32 (.ext fx 0), .o 33 (.ext fx 1), .m 8 gS, .m 9 gH]) (.seq (.seq (.run [.m 34 df, .o 35 (.un .not iF)]) (.cond gT QCS .skip)) (.seq (.run [.m 36 dc, .o 10 (.alloc [(.int .i64 0)]), .op none none (.store bT ix 1)]) (.run [.m 37 cj, .o 38 (.dA [.dS] 1 1 [(0,bT)]), .o 39 (.app 1 8 jf jQ), .m 5 jB])))
abbrev QD4:AC:= .seq (.block 1 (.seq (.run [.o 16 (.cf cU cL 6), .o 17 (.load dh true 6), .o 7 (.alloc [(.bool false),(.str []),(.int .i64 0),(.int .i64 0),(.str []),(.slice .full 0 [])]), .op none none (.store da dF 6)]) (.seq QCO QCZ))) (.run [.o 40 (.bin .add cL (.k (.int .i64 1))), .m 14 kg])
abbrev QD6:AC:= .seq (.run [.o 15 (.bin .lss cL cZ)]) (.seq (.cond dE .skip (.exit 0)) QD4)
abbrev QDD:AC:= .seq (.run [(.o 4 (.mv (.k (.int .i64 (-1)))))]) .ret
abbrev QDF:AC:= .cond lL (.seq (.run [.m 47 br, .o 48 (.bV lW), .o 49 (.aq kY 6), .o 50 (.aq kZ 0), .op none none (.store lM (.k (.int .i64 5)) 1)]) QDD) .skip
abbrev QDI:AC:= .par [.m 55 br, .m 56 br, .o 57 (.bV nr), .o 58 (.aq oJ 0), .o 59 (.load n7 false 1), .o 60 (.aq cB 4), .o 61 (.load pf false 1), .c 62 iE [lX,qz], .m 63 cj, .o 64 (.aq cB 0), .o 65 (.load qB false 1), .c 66 jn [lO,pV,qA,uf], .m 4 vD] [(1,0),(2,0),(3,0),(4,0),(5,0),(6,0),(7,0),(0,0),(8,0),(9,0),(10,1),(11,0),(12,0)]
abbrev QDL:AC:= .seq (.seq (.run [.m 41 br, .o 42 (.bV jR), .o 43 (.aq kJ 4), .o 44 (.load kz false 1), .o 45 (.len kK), .o 46 (.bin .gtr lK (.k (.int .i64 100)))]) QDF) (.seq (.run [.m 51 br, .o 52 (.aq cB 0), .o 53 (.load kM false 1),(.c 54 ez [kL,k6,(.k (.slice .full 0 []))])]) (.seq QDI .ret))
abbrev QDM:AC:= .seq (.seq (.run [.o 11 (.aq cB 10), .o 12 (.load cJ false 1), .o 13 (.len cU), .o 14 (.mv (.k (.int .i64 0)))]) (.block 0 (.loop QD6))) QDL
abbrev QDO:AC:= .seq (.run [.o 3 (.box bt), .o 4 (.mv (.k (.int .i64 0)))]) (.seq (.run [.o 5 (.mv (.k (.slice .full 0 [])))]) QDM)
abbrev QDU:AC:= .seq (.run [.m 10 br, .o 11 (.aq cB 0), .o 12 (.load cJ false 1),(.c 13 ez [bT,cU,(.k (.slice .full 0 []))])]) (.seq (.run [.o 4 (.mv (.k (.int .i64 0)))]) .ret)
abbrev QE4:AC:= .seq (.seq (.run [.m 21 dD]) (.cond ek (.run [.m 22 br, .o 23 (.aq cB 0), .o 24 (.load eH false 1), .m 25 cj, .o 26 (.dA [(.int .i64 0)] 1 1 [(0,eW)]), .c 27 ez [eD,eU,fu]]) .skip)) (.seq (.run [.m 28 cj, .m 4 gb]) .ret)
abbrev QE7:AC:= .seq (.run [.o 3 (.box bt), .o 4 (.mv (.k (.int .i64 0)))]) (.seq (.seq (.run [.o 7 (.aq cB 9), .o 8 (.load da false 1), .o 9 (.un .not dc)]) (.cond df QDU .skip)) (.seq (.run [.m 15 br, .o 16 (.aq cB 5), .o 17 (.load dh true 4), .c 18 jW [dE,dF], .m 14 dG, .o 19 (.ext cL 0), .o 20 (.ext cL 1), .m 5 dY, .m 6 ey]) QE4))
abbrev QED:AC:= .par [.m 21 br, .o 22 (.bV ek), .o 23 (.aq eD 0), .o 24 (.load eH false 1), .o 25 (.bV eU), .o 26 (.aq eW 2), .o 27 (.load fu false 1), .o 28 (.aq cB 16), .o 29 (.load gb false 1), .o 30 (.bin .sub gf (.k (.int .i64 1))), .o 31 (.cf fx gy 17), .o 32 (.aq gu 15), .o 33 (.load gS false 1), .m 4 gH] [(0,0),(1,0),(2,0),(3,0),(4,0),(5,0),(6,0),(7,0),(8,0),(9,0),(10,0),(11,0),(12,0),(13,0)]
abbrev QEN:AC:= .par [.m 49 br, .o 50 (.bV kZ), .o 51 (.aq lM 0), .o 52 (.load kL false 1), .o 53 (.aq cB 13), .o 54 (.load k6 false 1), .o 55 (.aq cj 3), .o 56 (.load lO false 1), .c 57 oT [kM,lN,nr], .m 48 oJ, .o 58 (.ext kY 0), .o 59 (.ext kY 1), .m 6 n7, .m 7 lX] [(0,0),(1,0),(2,0),(3,0),(4,0),(5,0),(6,0),(7,0),(8,0),(9,0),(10,0),(11,0),(12,0),(13,0)]
abbrev QET:AC:= .par [.m 63 br, .o 64 (.bV qA), .o 65 (.aq qB 6), .o 66 (.aq uf 2), .o 67 (.load vD false 1), .m 68 br, .o 69 (.bV ug), .o 70 (.aq xF 2), .o 71 (.load xG false 1), .o 72 (.len Bv), .o 73 (.bin .geq vE zp)] [(0,0),(1,0),(2,0),(3,0),(4,0),(5,0),(6,0),(7,0),(8,0),(9,0),(10,0)]
abbrev QEW:AC:= .seq (.run [(.o 4 (.mv (.k (.int .i64 (-1)))))]) .ret
abbrev QEY:AC:= .cond zr (.seq (.run [.m 74 br, .o 75 (.bV Bw), .o 76 (.aq Bx 6), .o 77 (.aq zt 0), .op none none (.store By (.k (.int .i64 3)) 1)]) QEW) .skip
abbrev QF0:AC:= .par [.m 78 br, .o 79 (.bV xH), .o 80 (.aq DC 2), .o 81 (.load DD false 1), .m 82 br, .o 83 (.bV FP), .o 84 (.aq FQ 6), .o 85 (.aq FR 2), .o 86 (.load FT false 1), .o 87 (.cf DE FU 1), .o 88 (.load FV false 1), .m 8 FW] [(0,0),(1,0),(2,0),(3,0),(4,0),(5,0),(6,0),(7,0),(8,0),(9,0),(10,0),(11,0)]
abbrev QF8:AC:= .seq (.run [.m 89 br, .o 90 (.bV Bz), .o 91 (.aq DF 6), .o 92 (.aq FX 2), .o 93 (.load JC false 1), .o 94 (.bin .add Va (.k (.int .i64 1))), .o 95 (.bV Bz), .o 96 (.aq Vc 6), .o 97 (.aq acZ 2), .op none none (.store ac0 Vb 1)]) (.seq (.run [.m 98 br, .o 99 (.aq cj 3), .o 100 (.load ac2 false 1), .c 101 iM [ac1,Xq], .m 102 dc, .o 103 (.bV Xr), .op none none (.store Xt Xs 1)]) (.seq (.run [.m 104 br, .o 105 (.aq cj 0), .o 106 (.load Xv false 1), .m 107 dc, .o 108 (.dA [(.int .i64 0)] 1 1 [(0,Xx)]), .c 109 ez [Xu,Xw,Xy]]) (.seq (.run [.o 110 (.aq cB 15), .o 111 (.load Xz false 1), .m 4 XA]) .ret)))
abbrev QFD:AC:= .cond kJ (.seq (.run [.m 44 br, .o 45 (.aq cj 0), .o 46 (.load lK false 1),(.c 47 ez [kK,lL,(.k (.slice .full 0 []))])]) (.seq QEN (.seq (.run [.m 60 dD, .m 4 pf]) .ret))) (.seq (.run [.o 62 (.bin .eql cL (.k (.int .i64 2))), .m 61 pV]) (.cond qz (.seq (.seq QET QEY) (.seq QF0 QF8)) .skip))
abbrev QFF:AC:= .cond iF (.seq (.run [.m 36 br, .o 37 (.aq cj 0), .o 38 (.load jf false 1),(.c 39 ez [ix,jQ,(.k (.slice .full 0 []))])]) (.seq (.run [.o 40 (.aq cB 16), .o 41 (.load kg false 1), .m 4 jR]) .ret)) (.seq (.run [.o 43 (.bin .eql cL (.k (.int .i64 10))), .m 42 kz]) QFD)
abbrev QFH:AC:= .cond dE (.seq (.run [.m 17 br, .o 18 (.aq cj 0), .o 19 (.load dG false 1),(.c 20 ez [dF,dY,(.k (.slice .full 0 []))])]) (.seq QED .ret)) (.seq (.run [.o 35 (.bin .eql cL (.k (.int .i64 8))), .m 34 gT]) QFF)
abbrev QFJ:AC:= .block 0 (.seq (.run [.o 16 (.bin .eql cL (.k (.int .i64 7))), .m 15 dh]) QFH)
abbrev QFO:AC:= .seq (.run [(.o 4 (.mv (.k (.int .i64 (-1)))))]) .ret
abbrev QG5:AC:= .seq (.seq (.run [.m 153 df, .o 154 (.bin .neq agV (.k (.int .i64 0)))]) (.cond agW (.seq (.run [.o 155 (.aq cj 11), .o 156 (.load agX false 1), .o 157 (.aq cB 15), .o 158 (.load agZ false 1), .c 159 qc [agY,ag0], .m 4 ag1]) .ret) .skip)) (.seq (.run [.o 160 (.aq cj 12), .o 161 (.load ag2 false 1), .o 162 (.aq cB 15), .o 163 (.load ag4 false 1), .c 164 qc [ag3,ag5], .m 4 ag6]) .ret)
abbrev QGC:AC:= .cond ag7 (.seq (.run [.m 167 df, .o 168 (.bin .neq ag9 (.k (.int .i64 0)))]) (.cond aha (.seq (.run [.o 169 (.aq cj 11), .o 170 (.load ahb false 1), .o 171 (.aq cj 0), .o 172 (.load ahd false 1), .c 173 qc [ahc,ahe], .m 4 ahf]) .ret) .skip)) .skip
abbrev QGE:AC:= .cond agT QG5 (.seq (.run [.o 166 (.bin .eql Ez (.k (.int .i64 6))), .m 165 ag8]) QGC)
abbrev QGG:AC:= .cond agF (.run [.m 139 br, .m 140 br, .o 141 (.bV agI), .o 142 (.aq agJ 6), .o 143 (.aq agK 3), .o 144 (.load agL false 1), .m 145 df, .o 146 (.dA [(.int .i64 0)] 1 1 [(0,agN)]), .o 147 (.app 1 8 agM agO), .o 148 (.bV agH), .o 149 (.aq agQ 6), .o 150 (.aq agR 3), .op none none (.store agS agP 1)]) (.seq (.run [.o 152 (.bin .eql Ez (.k (.int .i64 5))), .m 151 agU]) QGE)
abbrev QGI:AC:= .cond XP (.run [.m 131 br, .o 132 (.aq cj 3), .o 133 (.load agA false 1), .c 134 iM [agz,agB], .m 135 df, .o 136 (.bV agC), .op none none (.store agE agD 1)]) (.seq (.run [.o 138 (.bin .eql Ez (.k (.int .i64 3))), .m 137 agG]) QGG)
abbrev QGK:AC:= .block 1 (.seq (.run [.o 130 (.bin .eql Ez (.k (.int .i64 1))), .m 129 XQ]) QGI)
abbrev QGQ:AC:= .seq (.seq (.run [.m 119 bT, .o 120 (.un .not XH)]) (.cond XI QFO .skip)) (.seq (.run [.m 121 br, .o 122 (.aq cj 0), .o 123 (.load XK false 1), .m 124 df, .o 125 (.dA [(.int .i64 0)] 1 1 [(0,XM)]), .c 126 ez [XJ,XL,XN]]) (.seq (.seq (.run [.o 127 (.aq cj 1), .o 128 (.load XO false 1)]) QGK) (.seq (.run [.o 174 (.aq cB 15), .o 175 (.load ahg false 1), .m 4 ahh]) .ret)))
abbrev QGU:AC:= .seq (.run [.o 3 (.box bt), .o 4 (.mv (.k (.int .i64 0)))]) (.seq (.run [.o 11 (.aq cB 0), .o 12 (.load cJ true 13), .o 5 (.alloc [(.int .i64 0),(.int .i64 0),(.slice .full 0 []),(.str []),(.str []),(.int .i64 0),(.int .i64 0),(.str []),(.slice .full 0 []),(.bool false),(.slice .full 0 []),(.slice .full 0 []),(.slice .full 0 [])]), .op none none (.store cj cU 13)]) (.seq (.seq (.run [.o 13 (.aq cj 1), .o 14 (.load cZ false 1)]) QFJ) (.seq (.run [.m 113 br, .o 114 (.aq cj 5), .o 115 (.load XC true 4), .c 116 jW [XB,XD], .m 112 XE, .o 117 (.ext O7 0), .o 118 (.ext O7 1), .m 9 XF, .m 10 XG]) QGQ)))
abbrev QGX:AC:= .par [.m 12 br, .m 13 br, .o 14 (.bV cZ), .o 15 (.aq cL 4), .o 16 (.load dE false 1), .m 17 br, .o 18 (.bV dF), .o 19 (.aq dG 4), .o 20 (.load dY false 1), .o 21 (.len ey), .o 22 (.bin .sub ek (.k (.int .i64 1))), .o 23 (.AU 1 dh none (some eD)), .o 24 (.bV cU), .o 25 (.aq eU 4), .op none none (.store eW eH 1)] [(0,0),(1,0),(2,0),(3,0),(4,0),(5,0),(6,0),(7,0),(8,0),(9,0),(10,0),(11,0),(12,0),(13,0),(14,0)]
abbrev QH1:AC:= .seq (.run [(.o 4 (.mv (.k (.int .i64 (-1)))))]) .ret
abbrev QH3:AC:= .cond fx (.seq (.run [.m 28 br, .o 29 (.bV gb), .o 30 (.aq gf 6), .o 31 (.aq gy 0), .op none none (.store gu (.k (.int .i64 1)) 1)]) QH1) .skip
abbrev QHC:AC:= .seq (.seq (.run [.o 43 (.aq dD 0), .o 44 (.aq kz 3), .o 45 (.load kK false 1), .o 46 (.bin .neq lK (.k (.str [])))]) (.cond lL (.run [.m 47 br, .o 48 (.aq dD 0), .o 49 (.aq kY 3), .o 50 (.load kZ false 1), .c 51 iM [lW,lM], .m 52 bt, .o 53 (.bV kL), .op none none (.store k6 kM 1)]) .skip)) (.seq (.run [.o 54 (.aq dD 15), .o 55 (.load lN false 1), .m 4 lO]) .ret)
abbrev QHE:AC:= .seq (.seq (.run [.m 26 cj, .o 27 (.bin .eql fu (.k (.int .i64 0)))]) QH3) (.seq (.run [.m 32 br, .o 33 (.bV gS), .o 34 (.aq gH 0), .o 35 (.load iF false 1), .o 36 (.bV gT), .o 37 (.aq ix 2), .o 38 (.load jf false 1), .m 39 cj, .o 40 (.bin .sub jB (.k (.int .i64 1))), .o 41 (.cf jQ kg 17), .o 42 (.load jR true 17), .o 6 (.alloc [(.int .i64 0),(.int .i64 0),(.slice .full 0 []),(.str []),(.str []),(.int .i64 0),(.int .i64 0),(.str []),(.slice .full 0 []),(.bool false),(.slice .full 0 []),(.slice .full 0 []),(.slice .full 0 []),(.int .i64 0),(.int .i64 0),(.int .i64 0),(.int .i64 0)]), .op none none (.store dD kJ 17)]) QHC)
abbrev QHH:AC:= .seq (.run [.o 4 (.mv (.k (.int .i64 0)))]) (.seq (.run [.m 7 br, .c 8 kQ [da], .o 9 (.bV dc), .o 10 (.aq df 3), .o 11 (.load bT false 1), .m 5 cJ]) (.seq QGX QHE))
abbrev QHL:AC:= .seq (.run [(.o 7 (.build [(.int .i64 0),(.int .i64 0)] [(0,(1,(.k (.int .i64 1))))])), .op none none (.store dq da 2)]) .ret
abbrev QI3:AC:= .seq (.seq (.run [.o 20 (.aq cB 0), .o 21 (.load ey false 1), .o 22 (.bin .eql ek (.k (.int .i64 0)))]) (.cond eD (.run [.o 23 (.load bt true 2), .c 24 tX [eH], .op none none (.store cB eU 2)]) .skip)) (.seq (.run [.o 25 (.load cB true 2), .op none none (.store dq eW 2)]) .ret)
abbrev QI4:AC:= .seq (.seq (.run [.o 15 (.aq cB 0), .o 16 (.load dE false 1), .o 17 (.bin .eql dh (.k (.int .i64 0)))]) (.cond dF (.run [.o 18 (.load bt true 2), .c 19 vy [dG], .op none none (.store cB dY 2)]) .skip)) QI3
abbrev QI5:AC:= .seq (.seq (.run [.o 10 (.aq cB 0), .o 11 (.load bT false 1), .o 12 (.bin .eql cJ (.k (.int .i64 0)))]) (.cond cU (.run [.o 13 (.load bt true 2), .c 14 qn [cZ], .op none none (.store cB cL 2)]) .skip)) QI4
abbrev QI8:AC:= .seq (.run [.o 1 (.box br), .o 2 (.alloc [(.int .i64 0),(.int .i64 0)])]) (.seq (.seq (.run [.o 4 (.load bt true 2), .c 5 rm [fl], .o 6 (.un .not cj)]) (.cond dD QHL .skip)) (.seq (.run [.o 8 (.load bt true 2), .c 9 lZ [dc], .o 3 (.alloc [(.int .i64 0),(.int .i64 0)]), .op none none (.store cB df 2)]) QI5))
abbrev QIA:AC:= .par [.m 7 bt, .o 8 (.bin .lss da (.k (.int .i64 1))), .m 9 dc, .g 10 9 false (.aq dq 3), .g 11 9 false (.load bT false 1), .g 12 9 false (.len cJ), .g 13 9 false (.aq dq 0), .g 14 9 false (.load cZ false 1), .d 15 9 false xB [cL], .g 16 9 false (.bin .neq cU dE), .o 17 (.pick df (.k (.bool true)) dh)] [(0,0),(1,0),(2,0),(6,0),(7,0),(8,0),(3,0),(4,1),(5,0),(9,0),(10,0)]
abbrev QID:AC:= .cond dF (.seq (.run [.o 4 (.mv (.k (.bool false)))]) .ret) .skip
abbrev QIM:AC:= .cond gy (.seq (.run [.o 32 (.aq dq 1), .o 33 (.load gS false 1), .o 34 (.bin .eql gH (.k (.int .i64 0))), .m 35 iF, .g 36 35 true (.aq dq 2), .g 37 35 true (.load ix false 1), .d 38 35 true n6 [jf], .o 39 (.pick gT jQ (.k (.bool false))), .m 4 jB]) .ret) .skip
abbrev QIO:AC:= .cond ey (.seq (.run [.o 22 (.aq dq 1), .o 23 (.load eD false 1), .o 24 (.bin .geq eH (.k (.int .i64 0))), .m 25 eU, .g 26 25 true (.aq dq 2), .g 27 25 true (.load fu false 1), .g 28 25 true (.bin .eql fx (.k (.str []))), .o 29 (.pick eW gb (.k (.bool false))), .m 4 gf]) .ret) (.seq (.run [.o 31 (.bin .eql dY (.k (.int .i64 2))), .m 30 gu]) QIM)
abbrev QIQ:AC:= .block 0 (.seq (.run [.o 21 (.bin .eql dY (.k (.int .i64 1))), .m 20 ek]) QIO)
abbrev QIV:AC:= .cond lW (.seq (.run [.o 4 (.mv (.k (.bool false)))]) .ret) .skip
abbrev QJ4:AC:= .cond lX (.seq (.run [.o 4 (.mv (.k (.bool false)))]) .ret) .skip
abbrev QJ6:AC:= .seq (.run [.o 53 (.cf kZ kL 4), .o 54 (.load k6 true 4), .o 6 (.alloc [(.int .i64 0),(.int .i64 0),(.str []),(.slice .full 0 [])]), .op none none (.store dD lN 4)]) (.seq (.run [.o 55 (.load dD true 4), .m 56 bt, .o 57 (.bin .sub nr (.k (.int .i64 1))), .c 58 qb [lO,oJ], .o 59 (.un .not n7)]) QJ4)
abbrev QJA:AC:= .seq (.cond kM .skip (.exit 1)) (.seq (.block 2 QJ6) (.run [.o 60 (.bin .add kL (.k (.int .i64 1))), .m 51 pf]))
abbrev QJE:AC:= .seq (.run [.o 48 (.aq dq 3), .o 49 (.load kY false 1), .o 50 (.len kZ), .o 51 (.mv (.k (.int .i64 0)))]) (.block 1 (.loop (.seq (.run [.o 52 (.bin .lss kL lM)]) QJA)))
abbrev QJH:AC:= .seq QJE (.seq (.run [.o 4 (.mv (.k (.bool true)))]) .ret)
abbrev QJI:AC:= .seq (.seq (.run [.o 40 (.aq dq 1), .o 41 (.load kg false 1), .o 42 (.bin .neq jR (.k (.int .i64 0))), .m 43 kJ, .g 44 43 false (.aq dq 2), .g 45 43 false (.load kK false 1), .g 46 43 false (.bin .neq lK (.k (.str []))), .o 47 (.pick kz (.k (.bool true)) lL)]) QIV) QJH
abbrev QJL:AC:= .seq (.run [.o 2 (.box br), .o 4 (.mv (.k (.bool false)))]) (.seq (.seq QIA QID) (.seq (.seq (.run [.o 18 (.aq dq 0), .o 19 (.load dG false 1)]) QIQ) QJI))
abbrev QJY:AC:= .seq (.run [.m 13 cB, .o 14 (.load cj true 5), .c 15 xA [cL], .o 16 (.app 16 232 cZ dE), .m 3 dh]) (.seq (.run [.m 17 cB, .o 18 (.len dF), .o 19 (.bin .gtr dG (.k (.int .i64 200)))]) (.cond dY (.seq (.run [.m 20 cB, .m 2 ey]) .ret) .skip))
abbrev QK2:AC:= .seq (.block 1 (.seq (.run [.o 11 (.cf da df 5), .o 12 (.load cJ true 5), .o 5 (.alloc [(.str []),(.slice .full 0 []),(.slice .full 0 []),(.slice .full 0 []),(.slice .full 0 [])]), .op none none (.store cj cU 5)]) QJY)) (.run [.o 21 (.bin .add df (.k (.int .i64 1))), .m 9 ek])
abbrev QK6:AC:= .block 0 (.loop (.seq (.run [.o 10 (.bin .lss df dc)]) (.seq (.cond bT .skip (.exit 0)) QK2)))
abbrev QKA:AC:= .seq (.seq (.run [.o 6 (.aq bt 1), .o 7 (.load dD false 1), .o 8 (.len da), .o 9 (.mv (.k (.int .i64 0)))]) QK6) (.seq (.run [.m 22 cB, .m 2 eD]) .ret)
abbrev QKC:AC:= .seq (.run [.o 1 (.box br), .o 2 (.mv (.k (.slice .full 0 [])))]) (.seq (.run [.o 3 (.mv (.k (.slice .full 0 [])))]) QKA)
open Go.Proofs
theorem HU:Has Tryz.prog xw 10 [(2,none)] Q8Y:=⟨Tryz.f38,by kernel_rfl,by kernel_rfl⟩
theorem HV:Has Tryz.prog xx 40 [(0,(some (true,2)))] Q96:=⟨Tryz.f39,by kernel_rfl,by kernel_rfl⟩
theorem AE:Has Tryz.prog jJ 23 [(4,none)] Q9N:=⟨Tryz.f40,by kernel_rfl,by kernel_rfl⟩
theorem pg:Has Tryz.prog gp 19 [(4,none)] Q9X:=⟨Tryz.f41,by kernel_rfl,by kernel_rfl⟩
theorem rY:Has Tryz.prog kP 69 [(4,none)] QAV:=⟨Tryz.f42,by kernel_rfl,by kernel_rfl⟩
theorem JF:Has Tryz.prog kW 55 [(2,none)] QBK:=⟨Tryz.f43,by kernel_rfl,by kernel_rfl⟩
theorem zu:Has Tryz.prog jn 82 [(8,none)] QC9:=⟨Tryz.f44,by kernel_rfl,by kernel_rfl⟩
theorem AG:Has Tryz.prog iE 12 [(4,none)] QCD:=⟨Tryz.f45,by kernel_rfl,by kernel_rfl⟩
theorem zv:Has Tryz.prog o9 67 [(4,none)] QDO:=⟨Tryz.f46,by kernel_rfl,by kernel_rfl⟩
theorem yo:Has Tryz.prog oH 29 [(4,none)] QE7:=⟨Tryz.f47,by kernel_rfl,by kernel_rfl⟩
theorem ig:Has Tryz.prog qy 176 [(4,none)] QGU:=⟨Tryz.f48,by kernel_rfl,by kernel_rfl⟩
theorem qL:Has Tryz.prog oI 56 [(4,none)] QHH:=⟨Tryz.f49,by kernel_rfl,by kernel_rfl⟩
theorem om:Has Tryz.prog xy 26 [(2,(some (true,2)))] QI8:=⟨Tryz.f53,by kernel_rfl,by kernel_rfl⟩
theorem Au:Has Tryz.prog qb 61 [(4,none)] QJL:=⟨Tryz.f55,by kernel_rfl,by kernel_rfl⟩
theorem JG:Has Tryz.prog zl 23 [(2,none)] QKC:=⟨Tryz.f62,by kernel_rfl,by kernel_rfl⟩
abbrev QKL:AC:= .cond cZ (.seq (.run [.o 2 (.mv (.k (.bool false)))]) .ret) .skip
abbrev QKQ:AC:= .seq (.block 1 (.seq (.run [.o 9 (.cf cj da 1), .o 10 (.load df false 1), .m 4 bT]) (.seq (.run [.m 11 fl, .c 12 n6 [cJ], .o 13 (.un .not cU)]) QKL))) (.run [.o 14 (.bin .add da (.k (.int .i64 1))), .m 7 cL])
abbrev QKU:AC:= .block 0 (.loop (.seq (.run [.o 8 (.bin .lss da dD)]) (.seq (.cond dc .skip (.exit 0)) QKQ)))
abbrev QKY:AC:= .seq (.seq (.run [.m 5 br, .o 6 (.len cj), .o 7 (.mv (.k (.int .i64 0)))]) QKU) (.seq (.run [.o 2 (.mv (.k (.bool true)))]) .ret)
abbrev QKZ:AC:= .seq (.run [.o 2 (.mv (.k (.bool false)))]) QKY
abbrev QL4:AC:= .cond dh (.seq (.run [.o 2 (.mv (.k (.bool false)))]) .ret) .skip
abbrev QL8:AC:= .seq (.seq (.run [.m 3 br, .o 4 (.vb cB), .o 5 (.bin .lss fl (.k (.int .i64 1))), .m 6 cj, .g 7 6 false (.mv br), .g 8 6 false (.vb da), .g 9 6 false (.bin .gtr dc (.k (.int .i64 8))), .o 10 (.pick dD (.k (.bool true)) df), .m 11 bT, .g 12 11 false (.mv br), .g 13 11 false (.AV cU (.k (.int .i64 0))), .d 14 11 false rp [cZ], .g 15 11 false (.un .not cL), .o 16 (.pick cJ (.k (.bool true)) dE)]) QL4) (.seq (.run [.m 17 br, .c 18 Bs [dF,(.k (.int .i64 0))], .m 19 br, .o 20 (.vb dY), .o 21 (.bin .eql dG ey), .m 22 ek, .g 23 22 true (.mv br), .d 24 22 true zm [eH], .g 25 22 true (.un .not eU), .o 26 (.pick eD eW (.k (.bool false))), .m 2 fu]) .ret)
abbrev QL9:AC:= .seq (.run [.o 2 (.mv (.k (.bool false)))]) QL8
abbrev QLE:AC:= .cond dE (.seq (.run [.o 6 (.mv (.k (.bool false)))]) .ret) .skip
abbrev QLL:AC:= .par [.m 29 br, .o 30 (.bV gf), .o 31 (.aq gy 0), .o 32 (.load gu false 1), .o 33 (.bin .gtr gS (.k (.int .i64 200))), .m 34 gH, .g 35 34 false (.aq dc 0), .g 36 34 false (.load gT false 1), .g 37 34 false (.mv br), .g 38 34 false (.bV jf), .g 39 34 false (.aq jQ 0), .g 40 34 false (.load jB false 1), .g 41 34 false (.bin .neq ix kg), .o 42 (.pick iF (.k (.bool true)) jR), .m 43 kJ, .g 44 43 false (.aq dc 2), .g 45 43 false (.load kK false 1), .d 46 43 false np [lK], .g 47 43 false (.un .not lL), .o 48 (.pick kz (.k (.bool true)) lW), .m 49 kY, .g 50 49 false (.load dc true 13), .d 51 49 false tY [lM], .g 52 49 false (.un .not kL), .o 53 (.pick kZ (.k (.bool true)) kM)] [(0,0),(1,0),(2,0),(3,0),(4,0),(5,0),(6,0),(7,0),(8,0),(9,0),(10,0),(11,0),(12,0),(13,0),(14,0),(15,0),(16,0),(17,0),(18,0),(19,0),(20,0),(21,0),(22,0),(23,0),(24,0)]
abbrev QLO:AC:= .cond k6 (.seq (.run [.o 6 (.mv (.k (.bool false)))]) .ret) .skip
abbrev QLT:AC:= .cond xF (.seq (.run [.o 6 (.mv (.k (.bool false)))]) .ret) .skip
abbrev QLV:AC:= .seq (.seq QLL QLO) (.seq (.run [.m 54 br, .o 55 (.aq dc 11), .o 56 (.load lO false 1), .m 57 dq, .o 58 (.bin .add oJ (.k (.int .i64 1))), .c 59 ky [lN,nr,n7], .o 60 (.un .not lX), .m 61 pf, .g 62 61 false (.mv br), .g 63 61 false (.aq dc 12), .g 64 61 false (.load qA false 1), .g 65 61 false (.mv dq), .g 66 61 false (.bin .add uf (.k (.int .i64 1))), .d 67 61 false ky [pV,qB,vD], .g 68 61 false (.un .not vE), .o 69 (.pick qz (.k (.bool true)) ug)]) QLT)
abbrev QLX:AC:= .seq (.run [.o 20 (.cf dh dG 13), .o 21 (.load ey true 13), .o 8 (.alloc [(.int .i64 0),(.int .i64 0),(.slice .full 0 []),(.str []),(.str []),(.int .i64 0),(.int .i64 0),(.str []),(.slice .full 0 []),(.bool false),(.slice .full 0 []),(.slice .full 0 []),(.slice .full 0 [])]), .op none none (.store dc ek 13)]) (.seq (.run [.m 22 br, .o 23 (.bV eD), .o 24 (.aq eH 0), .o 25 (.load eU false 1), .o 26 (.bin .add eW (.k (.int .i64 1))), .o 27 (.bV eD), .o 28 (.aq fx 0), .op none none (.store gb fu 1)]) QLV)
abbrev QM1:AC:= .seq (.cond dY .skip (.exit 0)) (.seq (.block 1 QLX) (.run [.o 70 (.bin .add dG (.k (.int .i64 1))), .m 18 xG]))
abbrev QM5:AC:= .seq (.run [.m 16 bt, .o 17 (.len dh), .o 18 (.mv (.k (.int .i64 0)))]) (.block 0 (.loop (.seq (.run [.o 19 (.bin .lss dG dF)]) QM1)))
abbrev QM8:AC:= .seq QM5 (.seq (.run [.o 6 (.mv (.k (.bool true)))]) .ret)
abbrev QM9:AC:= .seq (.seq (.run [.m 9 dq, .o 10 (.bin .gtr df (.k (.int .i64 12))), .m 11 bT, .g 12 11 true (.mv bt), .g 13 11 true (.len cU), .g 14 11 true (.bin .gtr cZ (.k (.int .i64 0))), .o 15 (.pick cJ cL (.k (.bool false)))]) QLE) QM8
abbrev QMA:AC:= .seq (.run [.o 6 (.mv (.k (.bool false)))]) QM9
abbrev QMD:AC:= .seq (.run [.m 3 br,(.o 4 (.build [(.int .i64 0),(.int .i64 0),(.str []),(.slice .full 0 [])] [(0,(1,(.k (.int .i64 1)))),(1,(1,cB))])), .op none none (.store dq fl 4)]) .ret
abbrev QME:AC:= .seq (.run [.o 2 (.alloc [(.int .i64 0),(.int .i64 0),(.str []),(.slice .full 0 [])])]) QMD
abbrev QMH:AC:= .seq (.run [.m 3 br,(.o 4 (.build [(.int .i64 0),(.int .i64 0),(.str []),(.slice .full 0 [])] [(0,(1,(.k (.int .i64 2)))),(2,(1,cB))])), .op none none (.store dq fl 4)]) .ret
abbrev QMI:AC:= .seq (.run [.o 2 (.alloc [(.int .i64 0),(.int .i64 0),(.str []),(.slice .full 0 [])])]) QMH
abbrev QMM:AC:= .seq (.run [.o 4 (.box bt), .o 5 (.box dq), .o 6 (.alloc [(.int .i64 0),(.int .i64 0),(.str []),(.slice .full 0 [])])]) (.seq (.run [.m 7 br, .o 8 (.load fl true 4), .o 9 (.load cj true 4), .o 10 (.dA [(.int .i64 0),(.int .i64 0),(.str []),(.slice .full 0 [])] 4 2 [(0,dc),(1,df)]), .o 11 (.build [(.int .i64 0),(.int .i64 0),(.str []),(.slice .full 0 [])] [(0,(1,da)),(3,(1,bT))]), .op none none (.store dD cJ 4)]) .ret)
abbrev QMX:AC:= .seq (.seq (.run [.m 10 cj, .o 11 (.aq dq 3), .o 12 (.load cJ false 1), .o 13 (.len cU), .o 14 (.bin .lss bT cZ), .m 15 cL, .g 16 15 true (.mv bt), .g 17 15 true (.bin .leq dh (.k (.int .i64 20000))), .o 18 (.pick dE dF (.k (.bool false)))]) (.cond dG .skip (.exit 0))) (.seq (.block 1 (.run [.o 21 (.aq dq 3), .o 22 (.load ek false 1), .m 23 cj, .o 24 (.cf eD eH 4), .o 25 (.load eU true 4), .m 26 bt, .c 27 kb [eW,fu], .m 1 fx])) (.run [.m 19 cj, .o 20 (.bin .add dY (.k (.int .i64 1))), .m 5 ey]))
abbrev QN3:AC:= .seq (.seq (.run [.o 5 (.mv (.k (.int .i64 0)))]) (.block 0 (.loop QMX))) (.seq (.run [.m 28 bt, .m 4 gb]) .ret)
abbrev QN5:AC:= .seq (.run [.o 2 (.box br), .o 4 (.mv (.k (.int .i64 0)))]) (.seq (.run [.o 6 (.aq dq 2), .o 7 (.load dD false 1), .m 8 bt, .c 9 gp [da,dc], .m 1 df]) QN3)
abbrev QNI:AC:= .par [.m 37 br, .m 38 br, .o 39 (.bV jQ), .o 40 (.aq jB 2), .o 41 (.load kg false 1), .o 42 (.load df true 17), .o 43 (.dA [(.int .i64 0),(.int .i64 0),(.slice .full 0 []),(.str []),(.str []),(.int .i64 0),(.int .i64 0),(.str []),(.slice .full 0 []),(.bool false),(.slice .full 0 []),(.slice .full 0 []),(.slice .full 0 []),(.int .i64 0),(.int .i64 0),(.int .i64 0),(.int .i64 0)] 17 1 [(0,kJ)]), .o 44 (.app 17 240 jR kz), .o 45 (.bV jf), .o 46 (.aq lK 2), .op none none (.store lL kK 1)] [(1,0),(2,0),(3,0),(4,0),(5,0),(6,0),(7,0),(0,0),(8,0),(9,0),(10,0)]
abbrev QNJ:AC:= .run [.o 47 (.aq cj 13), .o 48 (.load lW false 1), .m 49 dc, .o 50 (.aq df 15), .o 51 (.load lM false 1), .o 52 (.aq cj 16), .o 53 (.load kM false 1), .o 54 (.build [(.int .i64 0),(.int .i64 0),(.slice .full 0 []),(.str []),(.str []),(.int .i64 0),(.int .i64 0),(.str []),(.slice .full 0 []),(.bool false),(.slice .full 0 []),(.slice .full 0 []),(.slice .full 0 []),(.int .i64 0),(.int .i64 0),(.int .i64 0),(.int .i64 0)] [(13,(1,kY)),(14,(1,kZ)),(15,(1,kL)),(16,(1,k6))]), .o 10 (.alloc [(.int .i64 0),(.int .i64 0),(.slice .full 0 []),(.str []),(.str []),(.int .i64 0),(.int .i64 0),(.str []),(.slice .full 0 []),(.bool false),(.slice .full 0 []),(.slice .full 0 []),(.slice .full 0 []),(.int .i64 0),(.int .i64 0),(.int .i64 0),(.int .i64 0)]), .op none none (.store bT lN 17)]
abbrev QNR:AC:= .seq (.seq (.run [.o 55 (.aq da 1), .o 56 (.load lO false 1), .o 57 (.bin .eql nr (.k (.int .i64 6)))]) (.cond oJ (.run [.m 58 dc, .m 59 dc, .o 60 (.aq bT 15), .op none none (.store pf n7 1), .o 61 (.aq bT 16), .op none none (.store qz lX 1)]) .skip)) (.seq (.run [.m 62 br, .o 63 (.aq da 11), .o 64 (.load qA false 1), .o 65 (.load bT true 17), .c 66 ke [pV,qB,uf]]) (.run [.m 67 br, .o 68 (.aq da 12), .o 69 (.load ug false 1), .o 70 (.load bT true 17), .c 71 ke [vE,xF,xG]]))
abbrev QNU:AC:= .seq (.seq (.run [.m 27 dD, .o 28 (.bin .add fx (.k (.int .i64 1))), .m 29 bt, .o 30 (.len gf), .o 31 (.bin .lss gb gy)]) (.cond gu (.run [.m 32 dc, .o 33 (.load da true 13), .c 34 mH [gH], .o 35 (.bin .add gS iF), .o 36 (.aq df 15), .op none none (.store ix gT 1)]) .skip)) (.seq QNI (.seq QNJ QNR))
abbrev QNY:AC:= .seq (.run [.m 15 cZ, .o 16 (.cf cJ cZ 13), .o 17 (.load dh true 13), .o 7 (.alloc [(.int .i64 0),(.int .i64 0),(.slice .full 0 []),(.str []),(.str []),(.int .i64 0),(.int .i64 0),(.str []),(.slice .full 0 []),(.bool false),(.slice .full 0 []),(.slice .full 0 []),(.slice .full 0 [])]), .m 6 dE, .op none none (.store da dF 13)]) (.seq (.run [.m 18 br, .o 19 (.bV dG), .o 20 (.aq dY 2), .o 21 (.load ey false 1), .o 22 (.len ek), .o 23 (.bin .add eD (.k (.int .i64 1))), .m 8 eH]) (.seq (.run [.o 24 (.load cj true 17), .o 9 (.alloc [(.int .i64 0),(.int .i64 0),(.slice .full 0 []),(.str []),(.str []),(.int .i64 0),(.int .i64 0),(.str []),(.slice .full 0 []),(.bool false),(.slice .full 0 []),(.slice .full 0 []),(.slice .full 0 []),(.int .i64 0),(.int .i64 0),(.int .i64 0),(.int .i64 0)]), .op none none (.store df eU 17)]) (.seq (.run [.o 25 (.load da true 13), .o 26 (.aq df 0), .op none none (.store fu eW 13)]) QNU)))
abbrev QO2:AC:= .seq (.cond cL .skip (.exit 0)) (.seq (.block 1 QNY) (.run [.o 72 (.bin .add cZ (.k (.int .i64 1))), .m 13 zp]))
abbrev QO6:AC:= .seq (.run [.m 11 bt, .o 12 (.len cJ), .o 13 (.mv (.k (.int .i64 0)))]) (.block 0 (.loop (.seq (.run [.o 14 (.bin .lss cZ cU)]) QO2)))
abbrev QO7:AC:= .seq (.run [.o 5 (.box dq)]) QO6
abbrev QOC:AC:= .cond df (.seq (.run [.o 4 (.mv (.k (.slice .full 0 [])))]) .ret) .skip
abbrev QOJ:AC:= .par [.o 21 (.aq dq 0), .o 22 (.load ek false 1), .c 23 kE [eD], .o 24 (.load dD true 5), .c 25 sM [eU], .o 26 (.app 1 16 eH eW), .m 4 fu] [(0,0),(1,0),(2,0),(3,1),(4,0),(5,0),(6,0)]
abbrev QOQ:AC:= .seq (.block 1 (.seq (.run [.o 15 (.cf cJ cZ 5), .o 16 (.load dE true 5), .o 6 (.alloc [(.str []),(.slice .full 0 []),(.slice .full 0 []),(.slice .full 0 []),(.slice .full 0 [])]), .op none none (.store dD dh 5)]) (.seq (.run [.o 17 (.aq dD 0), .o 18 (.load dF false 1), .m 19 bt, .o 20 (.bin .eql dG dY)]) (.cond ey (.seq QOJ .ret) .skip)))) (.run [.o 27 (.bin .add cZ (.k (.int .i64 1))), .m 13 fx])
abbrev QOU:AC:= .block 0 (.loop (.seq (.run [.o 14 (.bin .lss cZ cU)]) (.seq (.cond cL .skip (.exit 0)) QOQ)))
abbrev QOY:AC:= .seq (.seq (.run [.o 10 (.aq dq 1), .o 11 (.load bT false 1), .o 12 (.len cJ), .o 13 (.mv (.k (.int .i64 0)))]) QOU) (.seq (.run [.o 4 (.mv (.k (.slice .full 0 [])))]) .ret)
abbrev QP0:AC:= .seq (.run [.o 2 (.box br), .o 4 (.mv (.k (.slice .full 0 [])))]) (.seq (.seq (.run [.o 7 (.load dq true 2), .c 8 rm [da], .o 9 (.un .not dc)]) QOC) QOY)
abbrev QP2:AC:= .par [.m 5 br, .o 6 (.bV cj), .o 7 (.aq dD 3), .o 8 (.load da false 1), .m 9 bt, .o 10 (.cf dc df 1), .o 11 (.load bT false 1), .m 12 br, .o 13 (.bV cU), .o 14 (.aq cZ 4), .o 15 (.load cL false 1), .m 16 bt, .o 17 (.cf dE dh 1), .o 18 (.load dF false 1), .o 19 (.bin .lss cJ dG)] [(0,0),(1,0),(2,0),(3,0),(4,0),(5,0),(6,0),(7,0),(8,0),(9,0),(10,0),(11,0),(12,0),(13,0),(14,0)]
abbrev QP8:AC:= .seq (.run [(.o 4 (.mv (.k (.int .i64 (-1)))))]) .ret
abbrev QP9:AC:= .seq (.seq QP2 (.cond dY (.seq (.run [.m 20 br, .o 21 (.bV ey), .o 22 (.aq ek 3), .o 23 (.load eD false 1), .m 24 bt, .o 25 (.cf eH eU 1), .o 26 (.load eW false 1), .m 4 fu]) .ret) .skip)) QP8
abbrev QPA:AC:= .seq (.run [.o 4 (.mv (.k (.int .i64 0)))]) QP9
abbrev QPM:AC:= .block 1 (.seq (.run [.m 10 dc, .m 5 bT]) (.seq (.run [.m 11 bt, .m 12 br, .m 13 cj, .o 14 (.cf cU cZ 5), .o 15 (.load cL true 5),(.jt (some 16) none 11 [dE])]) (.cond dh (.seq (.run [.m 17 cj, .m 4 dF]) .ret) .skip)))
abbrev QPP:AC:= .seq (.cond df .skip (.exit 0)) (.seq QPM (.run [.o 18 (.bin .add dc (.k (.int .i64 1))), .m 8 dG]))
abbrev QPT:AC:= .seq (.run [.m 6 br, .o 7 (.len dD), .o 8 (.mv (.k (.int .i64 0)))]) (.block 0 (.loop (.seq (.run [.o 9 (.bin .lss dc da)]) QPP)))
abbrev QPV:AC:= .seq (.run [(.o 4 (.mv (.k (.int .i64 (-1)))))]) .ret
abbrev QPX:AC:= .seq (.run [.o 4 (.mv (.k (.int .i64 0)))]) (.seq QPT QPV)
abbrev QQ1:AC:= .seq (.run [.o 2 (.box br), .o 3 (.mv (.k (.bool false)))]) (.seq (.run [.o 4 (.aq dq 0), .o 5 (.load fl false 1), .o 6 (.load bt false 1), .o 7 (.bin .eql cj dD), .m 3 da]) .ret)
abbrev QQ4:AC:= .par [.m 8 cj, .o 9 (.bV dc), .o 10 (.aq df 2), .o 11 (.load bT false 1), .m 12 cj, .o 13 (.bV cU), .o 14 (.aq cZ 1), .o 15 (.load cL false 1), .m 16 bt, .c 17 fZ [dE,dh], .o 18 (.cf cJ dF 1), .o 19 (.load dG false 1), .m 4 dY] [(4,0),(5,0),(6,0),(7,0),(8,0),(9,0),(0,0),(1,0),(2,0),(3,1),(10,0),(11,0),(12,0)]
abbrev QQ7:AC:= .seq (.run [.o 4 (.mv (.k .dS))]) (.seq (.run [.m 6 br, .c 7 kQ [dD], .m 5 da]) (.seq QQ4 .ret))
abbrev QQF:AC:= .par [.m 30 br, .m 31 br, .o 32 (.bV gu), .o 33 (.aq gS 5), .o 34 (.load gH false 1), .m 35 dc, .o 36 (.bV gT), .o 37 (.load ix false 1), .o 38 (.dA [(.int .i64 0)] 1 1 [(0,jf)]), .o 39 (.app 1 8 iF jQ), .o 40 (.bV gy), .o 41 (.aq kg 5), .op none none (.store jR jB 1)] [(1,0),(2,0),(3,0),(4,0),(5,0),(6,0),(7,0),(8,0),(9,0),(0,0),(10,0),(11,0),(12,0)]
abbrev QQK:AC:= .seq (.cond fx .skip (.exit 0)) (.seq (.block 1 (.seq (.run [.o 28 (.cf eU fu 1), .o 29 (.load gb false 1), .m 8 gf]) QQF)) (.run [.o 42 (.bin .add fu (.k (.int .i64 1))), .m 26 kJ]))
abbrev QQL:AC:= .seq (.run [.o 27 (.bin .lss fu eW)]) QQK
abbrev QQP:AC:= .par [.o 44 (.load cB true 4), .m 45 dD, .o 46 (.bV lK), .o 47 (.aq lL 1), .o 48 (.load lW false 1), .m 49 br, .o 50 (.bV kZ), .o 51 (.aq lM 5), .o 52 (.load kL false 1), .c 53 wI [kK,kY,kM], .m 43 k6, .o 54 (.ext kz 0), .o 55 (.ext kz 1), .m 9 lN, .m 10 lO] [(0,0),(1,0),(2,0),(3,0),(4,0),(5,0),(6,0),(7,0),(8,0),(9,0),(10,0),(11,0),(12,0),(13,0),(14,0)]
abbrev QQT:AC:= .seq (.run [.m 56 bT, .o 57 (.un .not nr)]) (.cond oJ (.run [.m 58 br, .o 59 (.bV n7), .o 60 (.aq lX 6), .o 61 (.aq pf 0), .op none none (.store qz (.k (.int .i64 4)) 1)]) .skip)
abbrev QQX:AC:= .seq QQP (.seq QQT (.seq (.run [.m 62 df, .m 63 bT, .m 4 pV, .m 5 qA]) .ret))
abbrev QQY:AC:= .seq (.seq (.run [.m 21 dD, .o 22 (.bV ek), .o 23 (.aq eD 2), .o 24 (.load eH false 1), .o 25 (.len eU), .o 26 (.mv (.k (.int .i64 0)))]) (.block 0 (.loop QQL))) QQX
abbrev QQZ:AC:= .seq (.run [.m 13 br, .m 14 br, .o 15 (.bV cL), .o 16 (.aq dE 5), .o 17 (.load dh false 1),(.o 18 (.AU 1 dF none (some (.k (.int .i64 0))))), .o 19 (.bV cZ), .o 20 (.aq dY 5), .op none none (.store ey dG 1)]) QQY
abbrev QR1:AC:= .seq (.run [.o 3 (.box bt), .o 4 (.mv (.k (.int .i64 0))), .o 5 (.mv (.k (.bool false)))]) (.seq (.run [.m 11 br, .c 12 kQ [cJ], .m 6 cU]) QQZ)
abbrev QR5:AC:= .seq (.run [.m 6 br, .o 7 (.bV dD), .o 8 (.aq da 3), .o 9 (.load dc false 1), .m 10 bt, .c 11 nq [df,bT]]) (.cond cJ (.run [.m 12 br, .m 13 br, .o 14 (.bV cZ), .o 15 (.aq cL 6), .o 16 (.aq dE 4), .o 17 (.load dh false 1), .m 18 bt, .m 19 dq, .o 20 (.build [(.int .i64 0),(.slice .full 0 [])] [(0,(1,dG)),(1,(1,dY))]), .o 21 (.dA [(.int .i64 0),(.slice .full 0 [])] 2 1 [(0,ey)]), .o 22 (.app 2 32 dF ek), .o 23 (.bV cU), .o 24 (.aq eH 6), .o 25 (.aq eU 4), .op none none (.store eW eD 1)]) .skip)
abbrev QRE:AC:= .cond eD (.seq (.run [.o 23 (.aq df 0), .o 24 (.aq eH 0), .o 25 (.load eU false 1), .m 6 eW, .o 7 (.mv (.k (.bool true)))]) .ret) .skip
abbrev QRJ:AC:= .seq (.block 1 (.seq (.run [.o 16 (.cf cU cL 17), .o 17 (.load dh true 17), .o 9 (.alloc [(.int .i64 0),(.int .i64 0),(.slice .full 0 []),(.str []),(.str []),(.int .i64 0),(.int .i64 0),(.str []),(.slice .full 0 []),(.bool false),(.slice .full 0 []),(.slice .full 0 []),(.slice .full 0 []),(.int .i64 0),(.int .i64 0),(.int .i64 0),(.int .i64 0)]), .op none none (.store df dF 17)]) (.seq (.run [.o 18 (.aq df 0), .o 19 (.aq dG 2), .o 20 (.load dY false 1), .m 21 dq, .c 22 ct [ey,ek]]) QRE))) (.run [.o 26 (.bin .add cL (.k (.int .i64 1))), .m 14 fu])
abbrev QRN:AC:= .block 0 (.loop (.seq (.run [.o 15 (.bin .lss cL cZ)]) (.seq (.cond dE .skip (.exit 0)) QRJ)))
abbrev QRR:AC:= .seq (.run [(.o 6 (.mv (.k (.int .i64 (-1))))), .o 7 (.mv (.k (.bool true)))]) .ret
abbrev QRW:AC:= .seq (.seq (.run [.m 27 br, .o 28 (.bV fx), .o 29 (.aq gb 0), .o 30 (.aq gf 1), .o 31 (.load gy false 1), .m 32 bt, .o 33 (.cf gu gS 5), .o 34 (.aq gH 4), .o 35 (.load iF false 1), .m 36 dq, .c 37 ct [gT,ix]]) (.cond jf QRR .skip)) (.seq (.run [.o 6 (.mv (.k (.int .i64 0))), .o 7 (.mv (.k (.bool false)))]) .ret)
abbrev QRX:AC:= .seq (.seq (.run [.m 10 br, .m 11 bt, .c 12 gP [bT,cJ], .o 13 (.len cU), .o 14 (.mv (.k (.int .i64 0)))]) QRN) QRW
abbrev QRY:AC:= .seq (.run [.o 6 (.mv (.k (.int .i64 0))), .o 7 (.mv (.k (.bool false)))]) QRX
abbrev QS3:AC:= .cond da (.seq (.run [.m 8 br, .o 9 (.cf dc (.k (.int .i64 0)) 13), .o 10 (.aq df 0), .o 11 (.load bT false 1), .m 4 cJ]) .ret) .skip
abbrev QS7:AC:= .seq (.seq (.run [.m 5 br, .o 6 (.len cj), .o 7 (.bin .gtr dD (.k (.int .i64 0)))]) QS3) (.seq (.run [.m 12 bt, .m 4 cU]) .ret)
abbrev QS8:AC:= .seq (.run [.o 4 (.mv (.k (.int .i64 0)))]) QS7
abbrev QSA:AC:= .par [.m 3 br, .o 4 (.bV cB), .o 5 (.aq fl 4), .o 6 (.load cj false 1), .m 7 br, .o 8 (.bV da), .o 9 (.aq dc 4), .o 10 (.load df false 1), .o 11 (.len bT), .o 12 (.bin .sub cJ (.k (.int .i64 1))), .o 13 (.cf dD cU 1), .o 14 (.load cZ false 1), .m 2 cL] [(0,0),(1,0),(2,0),(3,0),(4,0),(5,0),(6,0),(7,0),(8,0),(9,0),(10,0),(11,0),(12,0)]
abbrev QSC:AC:= .seq (.run [.o 2 (.mv (.k .dS))]) (.seq QSA .ret)
abbrev QSG:AC:= .seq (.run [.o 1 (.box br), .o 2 (.mv (.k (.slice .full 0 [])))]) (.seq (.run [.o 3 (.aq bt 3), .o 4 (.load cB false 1),(.c 5 mI [fl,(.k (.int .i64 1)),(.k (.int .i64 0)),(.k (.bool false)),(.k (.slice .full 0 []))]), .m 2 cj]) .ret)
abbrev QSK:AC:= .seq (.run [(.o 16 (.build [(.int .i64 0),(.int .i64 0)] [(0,(1,(.k (.int .i64 1))))])), .op none none (.store dq dh 2)]) .ret
abbrev QSW:AC:= .seq (.block 1 (.seq (.run [.o 22 (.cf dG ey 5), .o 23 (.load eD true 5), .o 5 (.alloc [(.str []),(.slice .full 0 []),(.slice .full 0 []),(.slice .full 0 []),(.slice .full 0 [])]), .op none none (.store cj eH 5)]) (.run [.m 24 cB, .o 25 (.aq cj 0), .o 26 (.load eW false 1), .o 27 (.dA [(.str [])] 1 1 [(0,fu)]), .o 28 (.app 1 16 eU fx), .m 3 gb]))) (.run [.o 29 (.bin .add ey (.k (.int .i64 1))), .m 20 gf])
abbrev QT0:AC:= .block 0 (.loop (.seq (.run [.o 21 (.bin .lss ey dY)]) (.seq (.cond ek .skip (.exit 0)) QSW)))
abbrev QT5:AC:= .seq (.run [(.o 53 (.build [(.int .i64 0),(.int .i64 0)] [(0,(1,(.k (.int .i64 5))))])), .op none none (.store dq k6 2)]) .ret
abbrev QTG:AC:= .seq (.run [(.o 73 (.build [(.int .i64 0),(.int .i64 0)] [(0,(1,(.k (.int .i64 5))))])), .op none none (.store dq zr 2)]) .ret
abbrev QTP:AC:= .seq (.run [.o 89 (.aq cU 0), .o 90 (.aq Bz 0), .o 91 (.load DF false 1),(.o 92 (.build [(.int .i64 0),(.int .i64 0)] [(0,(1,(.k (.int .i64 5)))),(1,(1,FX))])), .op none none (.store dq JC 2)]) .ret
abbrev QTV:AC:= .seq (.block 5 (.seq (.run [.o 80 (.cf zt xH 17), .o 81 (.load DD true 17), .o 12 (.alloc [(.int .i64 0),(.int .i64 0),(.slice .full 0 []),(.str []),(.str []),(.int .i64 0),(.int .i64 0),(.str []),(.slice .full 0 []),(.bool false),(.slice .full 0 []),(.slice .full 0 []),(.slice .full 0 []),(.int .i64 0),(.int .i64 0),(.int .i64 0),(.int .i64 0)]), .op none none (.store cU DE 17)]) (.seq (.run [.o 82 (.load bt true 2), .o 83 (.load df true 5), .m 84 cB, .o 85 (.aq cU 0), .o 86 (.load FT true 13), .c 87 qo [FP,FQ,FR,FU], .o 88 (.un .not FV)]) (.cond FW QTP .skip)))) (.run [.o 93 (.bin .add xH (.k (.int .i64 1))), .m 78 Va])
abbrev QTZ:AC:= .block 4 (.loop (.seq (.run [.o 79 (.bin .lss xH By)]) (.seq (.cond DC .skip (.exit 4)) QTV)))
abbrev QU1:AC:= .seq (.seq (.run [.m 66 bT, .c 67 oj [vD], .m 68 vE, .g 69 68 false (.mv bT), .g 70 68 false (.uK 130 [bt]), .d 71 68 false ga [xF,xG], .o 72 (.pick ug (.k (.bool true)) Bv)]) (.cond zp QTG .skip)) (.seq (.run [.m 74 da, .m 75 dc, .c 76 gP [Bw,Bx], .o 77 (.len zt), .o 78 (.mv (.k (.int .i64 0)))]) QTZ)
abbrev QU6:AC:= .seq (.block 3 (.seq (.run [.m 61 lX, .o 62 (.cf oJ lX 5), .o 63 (.load pV true 5), .o 9 (.alloc [(.str []),(.slice .full 0 []),(.slice .full 0 []),(.slice .full 0 []),(.slice .full 0 [])]), .m 8 qz, .op none none (.store df qA 5)]) (.seq (.run [.o 64 (.load df true 5), .c 65 sM [qB], .m 10 uf]) QU1))) (.run [.o 94 (.bin .add lX (.k (.int .i64 1))), .m 59 Vb])
abbrev QUA:AC:= .block 2 (.loop (.seq (.run [.o 60 (.bin .lss lX n7)]) (.seq (.cond pf .skip (.exit 2)) QU6)))
abbrev QUE:AC:= .seq (.seq (.run [.o 56 (.aq bt 1), .o 57 (.load nr false 1), .o 58 (.len oJ), .o 59 (.mv (.k (.int .i64 0)))]) QUA) (.seq (.run [.o 95 (.build [(.int .i64 0),(.int .i64 0)] []), .op none none (.store dq Vc 2)]) .ret)
abbrev QUG:AC:= .seq (.seq (.run [.o 32 (.aq bt 0), .o 33 (.load gS false 1), .c 34 oj [gH], .m 35 iF, .g 36 35 false (.mv cB), .d 37 35 false oj [ix], .o 38 (.pick gT (.k (.bool true)) jf), .m 39 jQ, .g 40 39 false (.mv dD), .g 41 39 false (.bin .lss kg (.k (.int .i64 0))), .o 42 (.pick jB (.k (.bool true)) jR), .m 43 kJ, .g 44 43 false (.aq bt 1), .g 45 43 false (.load kK false 1), .g 46 43 false (.mv dD), .g 47 43 false (.cf lK lL 5), .g 48 43 false (.aq lW 1), .g 49 43 false (.load kY false 1), .g 50 43 false (.len kZ), .g 51 43 false (.bin .gtr lM (.k (.int .i64 0))), .o 52 (.pick kz (.k (.bool true)) kL)]) (.cond kM QT5 .skip)) (.seq (.run [.o 54 (.load bt true 2), .c 55 kW [lN], .m 7 lO]) QUE)
abbrev QUI:AC:= .seq (.seq (.run [.o 17 (.aq bt 1), .o 18 (.load dF false 1), .o 19 (.len dG), .o 20 (.mv (.k (.int .i64 0)))]) QT0) (.seq (.run [.m 30 cB,(.c 31 fZ [gy,(.k (.str [109,97,105,110]))]), .m 6 gu]) QUG)
abbrev QUK:AC:= .seq (.seq (.run [.o 13 (.load bt true 2), .c 14 rm [cZ], .o 15 (.un .not cL)]) (.cond dE QSK .skip)) (.seq (.run [.o 3 (.mv (.k (.slice .full 0 [])))]) QUI)
abbrev QUL:AC:= .seq (.run [.o 1 (.box br), .o 2 (.alloc [(.int .i64 0),(.int .i64 0)])]) QUK
abbrev QUP:AC:= .seq (.run [(.o 9 (.build [(.int .i64 0),(.int .i64 0)] [(0,(1,(.k (.int .i64 1))))])), .op none none (.store dq df 2)]) .ret
abbrev QUY:AC:= .seq (.run [.o 31 (.aq fl 0), .o 32 (.aq gu 0), .o 33 (.load gS false 1),(.o 34 (.build [(.int .i64 0),(.int .i64 0)] [(0,(1,(.k (.int .i64 6)))),(1,(1,gH))])), .op none none (.store dq iF 2)]) .ret
abbrev QV1:AC:= .seq (.run [.o 18 (.cf cL dh 17), .o 19 (.load dG true 17), .o 4 (.alloc [(.int .i64 0),(.int .i64 0),(.slice .full 0 []),(.str []),(.str []),(.int .i64 0),(.int .i64 0),(.str []),(.slice .full 0 []),(.bool false),(.slice .full 0 []),(.slice .full 0 []),(.slice .full 0 []),(.int .i64 0),(.int .i64 0),(.int .i64 0),(.int .i64 0)]), .op none none (.store fl dY 17)]) (.seq (.run [.o 20 (.aq fl 0), .o 21 (.aq ey 1), .o 22 (.load ek false 1), .o 23 (.bin .eql eD (.k (.int .i64 4))), .m 24 eH, .g 25 24 true (.load bt true 2), .g 26 24 true (.aq fl 0), .g 27 24 true (.load fu true 13), .d 28 24 true vz [eW,fx], .g 29 24 true (.un .not gb), .o 30 (.pick eU gf (.k (.bool false)))]) (.cond gy QUY .skip))
abbrev QV5:AC:= .seq (.cond dF .skip (.exit 0)) (.seq (.block 1 QV1) (.run [.o 35 (.bin .add dh (.k (.int .i64 1))), .m 16 gT]))
abbrev QV9:AC:= .seq (.run [.o 10 (.load bt true 2), .c 11 kW [bT], .o 12 (.bV cJ), .o 13 (.aq cU 2), .o 14 (.load cZ false 1), .o 15 (.len cL), .o 16 (.mv (.k (.int .i64 0)))]) (.block 0 (.loop (.seq (.run [.o 17 (.bin .lss dh dE)]) QV5)))
abbrev QVD:AC:= .seq (.seq (.run [.o 5 (.load bt true 2), .c 6 lZ [cj], .o 7 (.CT dD 0 false 1), .o 8 (.bin .neq da (.k (.int .i64 0)))]) (.cond dc QUP .skip)) (.seq QV9 (.seq (.run [.o 36 (.build [(.int .i64 0),(.int .i64 0)] []), .op none none (.store dq ix 2)]) .ret))
abbrev QVE:AC:= .seq (.run [.o 1 (.box br), .o 2 (.alloc [(.int .i64 0),(.int .i64 0)])]) QVD
abbrev QVJ:AC:= .seq (.run [(.o 14 (.build [(.int .i64 0),(.int .i64 0)] [(0,(1,(.k (.int .i64 1))))])), .op none none (.store dq cL 2)]) .ret
abbrev QVZ:AC:= .seq (.run [.o 47 (.aq df 0), .o 48 (.aq lW 0), .o 49 (.load kY false 1),(.o 50 (.build [(.int .i64 0),(.int .i64 0)] [(0,(1,(.k (.int .i64 7)))),(1,(1,kZ))])), .op none none (.store dq lM 2)]) .ret
abbrev QW2:AC:= .seq (.run [.m 32 dD, .o 33 (.aq df 0), .o 34 (.aq gH 2), .o 35 (.load iF false 1), .c 36 qd [gS,gT], .m 31 ix, .o 37 (.ext gu 0), .o 38 (.ext gu 1), .m 6 jf, .m 7 jQ]) (.seq (.run [.m 39 da, .o 40 (.un .not jB), .m 41 kg, .g 42 41 false (.mv cB), .g 43 41 false (.load df true 17), .d 44 41 false vA [kJ,kz], .g 45 41 false (.un .not kK), .o 46 (.pick jR (.k (.bool true)) lK)]) (.cond lL QVZ .skip))
abbrev QW6:AC:= .seq (.block 3 (.seq (.run [.o 29 (.cf eW fx 17), .o 30 (.load gf true 17), .o 9 (.alloc [(.int .i64 0),(.int .i64 0),(.slice .full 0 []),(.str []),(.str []),(.int .i64 0),(.int .i64 0),(.str []),(.slice .full 0 []),(.bool false),(.slice .full 0 []),(.slice .full 0 []),(.slice .full 0 []),(.int .i64 0),(.int .i64 0),(.int .i64 0),(.int .i64 0)]), .op none none (.store df gy 17)]) QW2)) (.run [.o 51 (.bin .add fx (.k (.int .i64 1))), .m 27 kL])
abbrev QWA:AC:= .block 2 (.loop (.seq (.run [.o 28 (.bin .lss fx fu)]) (.seq (.cond gb .skip (.exit 2)) QW6)))
abbrev QWF:AC:= .seq (.run [(.o 61 (.build [(.int .i64 0),(.int .i64 0)] [(0,(1,(.k (.int .i64 7))))])), .op none none (.store dq qz 2)]) .ret
abbrev QWJ:AC:= .seq (.seq (.run [.m 23 cB, .m 24 fl, .c 25 gP [eH,eU], .o 26 (.len eW), .o 27 (.mv (.k (.int .i64 0)))]) QWA) (.seq (.run [.m 53 dD, .o 54 (.aq cj 4), .o 55 (.load lN false 1), .c 56 qd [k6,lO], .m 52 nr, .o 57 (.ext kM 0), .o 58 (.ext kM 1), .m 7 n7]) (.seq (.run [.m 59 da, .o 60 (.un .not lX)]) (.cond pf QWF .skip)))
abbrev QWL:AC:= .seq (.run [.o 6 (.mv (.k (.slice .full 0 [])))]) (.seq (.run [.o 7 (.mv (.k (.bool true)))]) QWJ)
abbrev QWP:AC:= .seq (.block 1 (.seq (.run [.m 20 dG, .o 21 (.cf dh dG 5), .o 22 (.load ek true 5), .o 5 (.alloc [(.str []),(.slice .full 0 []),(.slice .full 0 []),(.slice .full 0 []),(.slice .full 0 [])]), .m 4 ey, .op none none (.store cj eD 5)]) QWL)) (.run [.o 62 (.bin .add dG (.k (.int .i64 1))), .m 18 pV])
abbrev QWT:AC:= .block 0 (.loop (.seq (.run [.o 19 (.bin .lss dG dF)]) (.seq (.cond dY .skip (.exit 0)) QWP)))
abbrev QWX:AC:= .seq (.seq (.run [.o 15 (.aq bt 1), .o 16 (.load dE false 1), .o 17 (.len dh), .o 18 (.mv (.k (.int .i64 0)))]) QWT) (.seq (.run [.o 63 (.build [(.int .i64 0),(.int .i64 0)] []), .op none none (.store dq qA 2)]) .ret)
abbrev QWZ:AC:= .seq (.run [.o 10 (.load bt true 2), .c 11 rr [bT], .m 3 cJ]) (.seq (.seq (.run [.m 12 cB, .o 13 (.Gx false cU (.k .dS))]) (.cond cZ QVJ .skip)) QWX)
abbrev QX0:AC:= .seq (.run [.o 1 (.box br), .o 2 (.alloc [(.int .i64 0),(.int .i64 0)])]) QWZ
abbrev QX4:AC:= .seq (.run [(.o 12 (.build [(.int .i64 0),(.int .i64 0)] [(0,(1,(.k (.int .i64 1))))])), .op none none (.store dq cU 2)]) .ret
abbrev QXC:AC:= .par [.m 21 cB, .o 22 (.aq cj 0), .o 23 (.load eD false 1), .o 24 (.load bt true 2), .o 25 (.aq cj 0), .o 26 (.load eW false 1), .c 27 ry [eU,fu], .op none none (.yP ek eH fx)] [(3,0),(4,0),(5,0),(6,0),(0,0),(1,0),(2,1),(7,0)]
abbrev QXG:AC:= .seq (.block 1 (.seq (.run [.o 19 (.cf dE dF 5), .o 20 (.load dY true 5), .o 5 (.alloc [(.str []),(.slice .full 0 []),(.slice .full 0 []),(.slice .full 0 []),(.slice .full 0 [])]), .op none none (.store cj ey 5)]) QXC)) (.run [.o 28 (.bin .add dF (.k (.int .i64 1))), .m 17 gb])
abbrev QXK:AC:= .block 0 (.loop (.seq (.run [.o 18 (.bin .lss dF dh)]) (.seq (.cond dG .skip (.exit 0)) QXG)))
abbrev QXS:AC:= .seq (.run [.o 54 (.aq da 0), .o 55 (.aq lN 0), .o 56 (.load lO false 1),(.o 57 (.build [(.int .i64 0),(.int .i64 0)] [(0,(1,(.k (.int .i64 8)))),(1,(1,nr))])), .op none none (.store dq oJ 2)]) .ret
abbrev QXV:AC:= .seq (.run [.o 37 (.cf gH gT 17), .o 38 (.load jf true 17), .o 7 (.alloc [(.int .i64 0),(.int .i64 0),(.slice .full 0 []),(.str []),(.str []),(.int .i64 0),(.int .i64 0),(.str []),(.slice .full 0 []),(.bool false),(.slice .full 0 []),(.slice .full 0 []),(.slice .full 0 []),(.int .i64 0),(.int .i64 0),(.int .i64 0),(.int .i64 0)]), .op none none (.store da jQ 17)]) (.seq (.run [.o 39 (.aq da 0), .o 40 (.aq jB 1), .o 41 (.load kg false 1), .o 42 (.bin .eql jR (.k (.int .i64 4))), .m 43 kJ, .g 44 43 true (.aq da 0), .g 45 43 true (.load kK true 13), .g 46 43 true (.mv cB), .g 47 43 true (.aq da 0), .g 48 43 true (.aq lW 4), .g 49 43 true (.load kY false 1), .g 50 43 true (.wj lL kZ (.slice .full 0 [])), .d 51 43 true sk [lK,lM], .g 52 43 true (.un .not kL), .o 53 (.pick kz kM (.k (.bool false)))]) (.cond k6 QXS .skip))
abbrev QXZ:AC:= .seq (.cond ix .skip (.exit 2)) (.seq (.block 3 QXV) (.run [.o 58 (.bin .add gT (.k (.int .i64 1))), .m 35 n7]))
abbrev QY3:AC:= .seq (.run [.o 29 (.load bt true 2), .c 30 kW [gf], .o 31 (.bV gy), .o 32 (.aq gu 2), .o 33 (.load gS false 1), .o 34 (.len gH), .o 35 (.mv (.k (.int .i64 0)))]) (.block 2 (.loop (.seq (.run [.o 36 (.bin .lss gT iF)]) QXZ)))
abbrev QY7:AC:= .seq (.seq (.run [.o 14 (.aq bt 1), .o 15 (.load cL false 1), .o 16 (.len dE), .o 17 (.mv (.k (.int .i64 0)))]) QXK) (.seq QY3 (.seq (.run [.o 59 (.build [(.int .i64 0),(.int .i64 0)] []), .op none none (.store dq lX 2)]) .ret))
abbrev QY9:AC:= .seq (.seq (.run [.o 8 (.load bt true 2), .c 9 qn [dc], .o 10 (.CT df 0 false 1), .o 11 (.bin .neq bT (.k (.int .i64 0)))]) (.cond cJ QX4 .skip)) (.seq (.run [.op (some 13) none .uL, .m 3 cZ]) QY7)
abbrev QYA:AC:= .seq (.run [.o 1 (.box br), .o 2 (.alloc [(.int .i64 0),(.int .i64 0)])]) QY9
abbrev QYL:AC:= .cond dF (.seq (.run [.o 2 (.mv (.k (.int .i64 2)))]) .ret) .skip
abbrev QYN:AC:= .cond bT (.seq (.run [.o 2 (.mv (.k (.int .i64 1)))]) .ret) (.seq (.run [.m 18 br, .o 19 (.bin .geq dG (.k (.int .i64 5))), .m 20 dY, .g 21 20 true (.mv br), .g 22 20 true (.bin .leq ek (.k (.int .i64 17))), .o 23 (.pick ey eD (.k (.bool false))), .m 17 eH]) QYL)
abbrev QYP:AC:= .cond cB (.seq (.run [.o 2 (.mv (.k (.int .i64 0)))]) .ret) (.seq (.run [.m 11 br, .o 12 (.bin .eql cJ (.k (.int .i64 3))), .m 13 cU, .g 14 13 false (.mv br), .g 15 13 false (.bin .eql cL (.k (.int .i64 4))), .o 16 (.pick cZ (.k (.bool true)) dE), .m 10 dh]) QYN)
abbrev QYR:AC:= .block 0 (.seq (.run [.m 4 br, .o 5 (.bin .eql fl (.k (.int .i64 1))), .m 6 cj, .g 7 6 false (.mv br), .g 8 6 false (.bin .eql da (.k (.int .i64 2))), .o 9 (.pick dD (.k (.bool true)) dc), .m 3 df]) QYP)
abbrev QYT:AC:= .seq (.run [(.o 2 (.mv (.k (.int .i64 (-1)))))]) .ret
abbrev QYV:AC:= .seq (.run [.o 2 (.mv (.k (.int .i64 0)))]) (.seq QYR QYT)
open Go.Proofs
theorem FY:Has Tryz.prog np 15 [(2,none)] QKZ:=⟨Tryz.f64,by kernel_rfl,by kernel_rfl⟩
theorem nu:Has Tryz.prog n6 27 [(2,none)] QL9:=⟨Tryz.f65,by kernel_rfl,by kernel_rfl⟩
theorem rD:Has Tryz.prog ky 71 [(6,none)] QMA:=⟨Tryz.f66,by kernel_rfl,by kernel_rfl⟩
theorem JH:Has Tryz.prog rn 5 [(2,(some (true,4)))] QME:=⟨Tryz.f68,by kernel_rfl,by kernel_rfl⟩
theorem HW:Has Tryz.prog lh 5 [(2,(some (true,4)))] QMI:=⟨Tryz.f69,by kernel_rfl,by kernel_rfl⟩
theorem JI:Has Tryz.prog uP 12 [(6,(some (true,4)))] QMM:=⟨Tryz.f70,by kernel_rfl,by kernel_rfl⟩
theorem BA:Has Tryz.prog kb 29 [(4,none)] QN5:=⟨Tryz.f71,by kernel_rfl,by kernel_rfl⟩
theorem BB:Has Tryz.prog ke 73 [] QO7:=⟨Tryz.f72,by kernel_rfl,by kernel_rfl⟩
theorem FZ:Has Tryz.prog vx 28 [(4,none)] QP0:=⟨Tryz.f73,by kernel_rfl,by kernel_rfl⟩
theorem zw:Has Tryz.prog pb 27 [(4,none)] QPA:=⟨Tryz.f74,by kernel_rfl,by kernel_rfl⟩
theorem rR:Has Tryz.prog gj 19 [(4,none)] QPX:=⟨Tryz.f75,by kernel_rfl,by kernel_rfl⟩
theorem yp:Has Tryz.prog lP 8 [(3,none)] QQ1:=⟨Tryz.f76,by kernel_rfl,by kernel_rfl⟩
theorem yr:Has Tryz.prog iM 20 [(4,none)] QQ7:=⟨Tryz.f77,by kernel_rfl,by kernel_rfl⟩
theorem yu:Has Tryz.prog jW 64 [(4,none),(5,none)] QR1:=⟨Tryz.f78,by kernel_rfl,by kernel_rfl⟩
theorem yv:Has Tryz.prog ez 26 [] QR5:=⟨Tryz.f79,by kernel_rfl,by kernel_rfl⟩
theorem CK:Has Tryz.prog oT 38 [(6,none),(7,none)] QRY:=⟨Tryz.f80,by kernel_rfl,by kernel_rfl⟩
theorem Av:Has Tryz.prog qc 13 [(4,none)] QS8:=⟨Tryz.f81,by kernel_rfl,by kernel_rfl⟩
theorem AH:Has Tryz.prog kQ 15 [(2,none)] QSC:=⟨Tryz.f82,by kernel_rfl,by kernel_rfl⟩
theorem HX:Has Tryz.prog xA 6 [(2,none)] QSG:=⟨Tryz.f85,by kernel_rfl,by kernel_rfl⟩
theorem wK:Has Tryz.prog lZ 96 [(2,(some (true,2)))] QUL:=⟨Tryz.f95,by kernel_rfl,by kernel_rfl⟩
theorem wL:Has Tryz.prog qn 37 [(2,(some (true,2)))] QVE:=⟨Tryz.f96,by kernel_rfl,by kernel_rfl⟩
theorem yw:Has Tryz.prog vy 64 [(2,(some (true,2)))] QX0:=⟨Tryz.f97,by kernel_rfl,by kernel_rfl⟩
theorem wM:Has Tryz.prog tX 60 [(2,(some (true,2)))] QYA:=⟨Tryz.f98,by kernel_rfl,by kernel_rfl⟩
theorem HY:Has Tryz.prog xB 24 [(2,none)] QYV:=⟨Tryz.f99,by kernel_rfl,by kernel_rfl⟩
abbrev QYZ:AC:= .seq (.run [.o 2 (.mv (.k (.bool false)))]) (.seq (.run [.m 3 br, .o 4 (.bin .geq cB (.k (.int .u8 97))), .m 5 fl, .g 6 5 true (.mv br), .g 7 5 true (.bin .leq dD (.k (.int .u8 122))), .o 8 (.pick cj da (.k (.bool false))), .m 2 dc]) .ret)
abbrev QZ6:AC:= .seq (.seq (.run [.m 5 bt, .m 6 br, .o 7 (.vb dD), .o 8 (.bin .lss cj da), .m 9 dc, .g 10 9 true (.mv br), .g 11 9 true (.mv bt), .g 12 9 true (.AV bT cJ), .d 13 9 true rp [cU], .g 14 9 true (.mv cZ), .g 15 14 false (.mv br), .g 16 14 false (.mv bt), .g 17 14 false (.AV dE dh), .d 18 14 false xC [dF], .g 19 9 true (.pick cL (.k (.bool true)) dG), .o 20 (.pick df dY (.k (.bool false)))]) (.cond ey .skip (.exit 0))) (.block 1 (.run [.m 21 bt, .o 22 (.bin .add ek (.k (.int .i64 1))), .m 1 eD]))
abbrev QZC:AC:= .seq (.run [.o 4 (.mv (.k (.int .i64 0)))]) (.seq (.block 0 (.loop QZ6)) (.seq (.run [.m 23 bt, .m 4 eH]) .ret))
abbrev QZT:AC:= .seq (.run [.o 16 (.bin .eql cB (.k (.str [114,101,97,100]))), .m 4 dh]) (.cond fl .skip (.run [.o 17 (.bin .eql cB (.k (.str [112,114,105,110,116]))), .m 4 dF]))
abbrev QZW:AC:= .cond fl .skip (.seq (.run [.o 15 (.bin .eql cB (.k (.str [103,111,116,111]))), .m 4 dE]) (.cond fl .skip QZT))
abbrev QZY:AC:= .cond fl .skip (.seq (.run [.o 14 (.bin .eql cB (.k (.str [114,101,116,117,114,110]))), .m 4 cL]) QZW)
abbrev aj6:AC:= .cond fl .skip (.seq (.run [.o 13 (.bin .eql cB (.k (.str [99,111,110,116,105,110,117,101]))), .m 4 cZ]) QZY)
abbrev aj7:AC:= .cond fl .skip (.seq (.run [.o 12 (.bin .eql cB (.k (.str [98,114,101,97,107]))), .m 4 cU]) aj6)
abbrev aj8:AC:= .cond fl .skip (.seq (.run [.o 11 (.bin .eql cB (.k (.str [119,104,105,108,101]))), .m 4 cJ]) aj7)
abbrev aj9:AC:= .cond fl .skip (.seq (.run [.o 10 (.bin .eql cB (.k (.str [101,108,115,101]))), .m 4 bT]) aj8)
abbrev aka:AC:= .cond fl .skip (.seq (.run [.o 9 (.bin .eql cB (.k (.str [105,102]))), .m 4 df]) aj9)
abbrev akb:AC:= .cond fl .skip (.seq (.run [.o 8 (.bin .eql cB (.k (.str [114,101,102]))), .m 4 dc]) aka)
abbrev akc:AC:= .cond fl .skip (.seq (.run [.o 7 (.bin .eql cB (.k (.str [118,97,114]))), .m 4 da]) akb)
abbrev akd:AC:= .cond fl .skip (.seq (.run [.o 6 (.bin .eql cB (.k (.str [112,114,111,99]))), .m 4 dD]) akc)
abbrev ake:AC:= .cond fl (.seq (.run [.o 2 (.mv (.k (.bool true)))]) .ret) .skip
abbrev akf:AC:= .seq (.seq (.run [.o 5 (.bin .eql cB (.k (.str [103,108,111,98,97,108]))), .m 4 cj]) akd) ake
abbrev akg:AC:= .seq (.seq (.run [.m 3 br]) (.block 0 akf)) (.seq (.run [.o 2 (.mv (.k (.bool false)))]) .ret)
abbrev akh:AC:= .seq (.run [.o 2 (.mv (.k (.bool false)))]) akg
abbrev aki:AC:= .par [.o 10 (.aq bt 9), .o 11 (.load bT false 1), .o 3 (.mv (.k (.bool false))), .o 4 (.mv (.k (.bool false))), .o 5 (.mv (.k (.bool false))), .m 6 cJ, .o 7 (.mv (.k (.bool false))), .o 8 (.mv (.k (.bool false)))] [(0,0),(1,0),(2,0),(3,0),(4,0),(5,0),(6,0),(7,0)]
abbrev akj:AC:= .seq (.run [.o 20 (.bin .eql dh (.k (.int .i64 2))), .m 19 ey]) (.cond dY .skip (.run [.o 21 (.bin .eql dh (.k (.int .i64 10))), .m 19 ek]))
abbrev akk:AC:= .seq (.run [.o 38 (.bin .eql dh (.k (.int .i64 7))), .m 37 jQ]) (.cond jf .skip (.run [.o 39 (.bin .eql dh (.k (.int .i64 8))), .m 37 jB]))
abbrev akl:AC:= .cond jf .skip (.seq (.run [.o 2 (.mv (.k (.bool false)))]) .ret)
abbrev akm:AC:= .seq (.run [.o 34 (.bin .eql dh (.k (.int .i64 9))), .m 33 iF]) (.cond gH (.run [.o 35 (.aq bt 9), .o 36 (.load gT false 1), .m 5 ix, .o 6 (.mv (.k (.bool false)))]) (.seq akk akl))
abbrev akn:AC:= .seq (.run [.o 32 (.bin .eql dh (.k (.int .i64 6))), .m 31 gS]) (.cond gu (.run [.o 5 (.mv (.k (.bool true))), .o 7 (.mv (.k (.bool true)))]) akm)
abbrev ako:AC:= .seq (.run [.o 30 (.bin .eql dh (.k (.int .i64 5))), .m 29 gy]) (.cond gf (.run [.o 5 (.mv (.k (.bool true))), .o 7 (.mv (.k (.bool true))), .o 8 (.mv (.k (.bool true)))]) akn)
abbrev akp:AC:= .seq (.run [.o 25 (.bin .eql dh (.k (.int .i64 4))), .m 24 eW]) (.cond eU (.run [.o 26 (.aq bt 3), .o 27 (.load fu false 1), .o 28 (.bin .neq fx (.k (.str []))), .m 3 gb, .o 4 (.mv (.k (.bool true)))]) ako)
abbrev akq:AC:= .seq (.run [.o 23 (.bin .eql dh (.k (.int .i64 3))), .m 22 eH]) (.cond eD (.run [.o 5 (.mv (.k (.bool true)))]) akp)
abbrev akr:AC:= .seq akj (.cond dY (.run [.o 3 (.mv (.k (.bool true)))]) akq)
abbrev aks:AC:= .seq (.run [.o 18 (.bin .eql dh (.k (.int .i64 1))), .m 17 dG]) (.cond dF (.run [.o 3 (.mv (.k (.bool true))), .o 5 (.mv (.k (.bool true)))]) akr)
abbrev akt:AC:= .run [.m 40 dD, .m 41 kg, .g 42 41 false (.mv da), .g 43 41 false (.un .not kJ), .g 44 41 false (.mv kz), .g 45 44 true (.aq bt 11), .g 46 44 true (.load lK false 1), .g 47 44 true (.len lL), .g 48 44 true (.bin .gtr lW (.k (.int .i64 0))), .g 49 41 false (.pick kK kY (.k (.bool false))), .o 50 (.pick jR (.k (.bool true)) kZ), .m 51 lM, .g 52 51 false (.mv dc), .g 53 51 false (.un .not kM), .g 54 51 false (.mv k6), .g 55 54 true (.aq bt 12), .g 56 54 true (.load lO false 1), .g 57 54 true (.len nr), .g 58 54 true (.bin .gtr oJ (.k (.int .i64 0))), .g 59 51 false (.pick lN n7 (.k (.bool false))), .o 60 (.pick kL (.k (.bool true)) lX), .m 61 pf, .g 62 61 false (.mv df), .g 63 61 false (.un .not pV), .g 64 61 false (.mv qA), .g 65 64 true (.aq bt 10), .g 66 64 true (.load uf false 1), .g 67 64 true (.len vD), .g 68 64 true (.bin .gtr vE (.k (.int .i64 0))), .g 69 61 false (.pick qB ug (.k (.bool false))), .o 70 (.pick qz (.k (.bool true)) xF)]
abbrev aku:AC:= .cond xG (.seq (.run [.o 2 (.mv (.k (.bool false)))]) .ret) .skip
abbrev akv:AC:= .cond Bz (.seq (.run [.o 2 (.mv (.k (.bool false)))]) .ret) .skip
abbrev ac5:AC:= .seq (.seq (.run [.o 71 (.aq bt 3), .o 72 (.load Bv false 1), .m 73 cB, .c 74 pd [zp,zr], .o 75 (.un .not Bw), .m 76 Bx, .g 77 76 false (.aq bt 4), .g 78 76 false (.load By false 1), .g 79 76 false (.mv fl), .d 80 76 false pd [xH,DC], .g 81 76 false (.un .not DD), .o 82 (.pick zt (.k (.bool true)) DE), .m 83 FP, .g 84 83 false (.aq bt 5), .g 85 83 false (.load FR true 4), .g 86 83 false (.mv cj), .d 87 83 false rz [FT,FU], .g 88 83 false (.un .not FV), .o 89 (.pick FQ (.k (.bool true)) FW)]) akv) (.seq (.run [.o 90 (.aq bt 10), .o 91 (.load DF false 1), .c 92 tZ [FX], .m 2 JC]) .ret)
abbrev ac6:AC:= .seq (.seq akt aku) ac5
abbrev Vd:AC:= .seq (.seq (.run [.o 15 (.aq bt 1), .o 16 (.load dE false 1)]) (.block 0 aks)) ac6
abbrev ac7:AC:= .seq (.run [.o 12 (.aq bt 1), .o 13 (.load cU false 1), .o 14 (.bin .eql cZ (.k (.int .i64 4))), .m 9 cL]) Vd
abbrev ac8:AC:= .seq aki ac7
abbrev akw:AC:= .seq (.run [.o 1 (.box br), .o 2 (.mv (.k (.bool false)))]) ac8
abbrev akx:AC:= .seq (.block 1 (.seq (.run [.o 13 (.cf df cJ 13), .o 14 (.load cZ true 13), .o 5 (.alloc [(.int .i64 0),(.int .i64 0),(.slice .full 0 []),(.str []),(.str []),(.int .i64 0),(.int .i64 0),(.str []),(.slice .full 0 []),(.bool false),(.slice .full 0 []),(.slice .full 0 []),(.slice .full 0 [])]), .op none none (.store cj cL 13)]) (.run [.m 15 cB, .o 16 (.load cj true 13), .c 17 mH [dh], .o 18 (.bin .add dE dF), .m 3 dG]))) (.run [.o 19 (.bin .add cJ (.k (.int .i64 1))), .m 11 dY])
abbrev aky:AC:= .block 0 (.loop (.seq (.run [.o 12 (.bin .lss cJ bT)]) (.seq (.cond cU .skip (.exit 0)) akx)))
abbrev akz:AC:= .seq (.block 3 (.seq (.run [.o 25 (.cf ek eH 13), .o 26 (.load eW true 13), .o 7 (.alloc [(.int .i64 0),(.int .i64 0),(.slice .full 0 []),(.str []),(.str []),(.int .i64 0),(.int .i64 0),(.str []),(.slice .full 0 []),(.bool false),(.slice .full 0 []),(.slice .full 0 []),(.slice .full 0 [])]), .op none none (.store da fu 13)]) (.run [.m 27 cB, .o 28 (.load da true 13), .c 29 mH [gb], .o 30 (.bin .add fx gf), .m 3 gy]))) (.run [.o 31 (.bin .add eH (.k (.int .i64 1))), .m 23 gu])
abbrev akA:AC:= .block 2 (.loop (.seq (.run [.o 24 (.bin .lss eH eD)]) (.seq (.cond eU .skip (.exit 2)) akz)))
abbrev akB:AC:= .seq (.seq (.run [.o 20 (.aq bt 12), .o 21 (.load ey false 1), .o 22 (.len ek), .o 23 (.mv (.k (.int .i64 0)))]) akA) (.seq (.run [.m 32 cB, .m 2 gS]) .ret)
abbrev akC:AC:= .seq (.seq (.run [.o 8 (.aq bt 11), .o 9 (.load dc false 1), .o 10 (.len df), .o 11 (.mv (.k (.int .i64 0)))]) aky) akB
abbrev akD:AC:= .seq (.run [.o 1 (.box br), .o 2 (.mv (.k (.int .i64 0)))]) (.seq (.run [.o 3 (.mv (.k (.int .i64 1)))]) akC)
abbrev akE:AC:= .cond fl (.seq (.run [.o 2 (.mv (.k (.slice .full 0 [])))]) .ret) .skip
abbrev akF:AC:= .seq (.run [.o 2 (.mv (.k (.slice .full 0 [])))]) (.seq (.seq (.run [.m 3 br, .nil (some 4) none false cB]) akE) (.seq (.run [.o 5 (.dA [(.str [])] 1 0 []), .m 6 br, .o 7 (.app 1 16 cj dD), .m 2 da]) .ret))
abbrev akG:AC:= .seq (.block 1 (.seq (.run [.o 11 (.cf da df 2), .o 12 (.load cJ true 2), .o 5 (.alloc [(.str []),(.bool false)]), .op none none (.store cj cU 2)]) (.run [.m 13 cB, .o 14 (.aq cj 0), .o 15 (.load cL false 1), .o 16 (.dA [(.str [])] 1 1 [(0,dE)]), .o 17 (.app 1 16 cZ dh), .m 3 dF]))) (.run [.o 18 (.bin .add df (.k (.int .i64 1))), .m 9 dG])
abbrev akH:AC:= .block 0 (.loop (.seq (.run [.o 10 (.bin .lss df dc)]) (.seq (.cond bT .skip (.exit 0)) akG)))
abbrev akI:AC:= .seq (.seq (.run [.o 6 (.aq bt 1), .o 7 (.load dD false 1), .o 8 (.len da), .o 9 (.mv (.k (.int .i64 0)))]) akH) (.seq (.run [.m 19 cB, .o 20 (.aq bt 2), .o 21 (.load ey false 1), .o 22 (.app 1 16 dY ek), .m 2 eD]) .ret)
abbrev akJ:AC:= .seq (.run [.o 1 (.box br), .o 2 (.mv (.k (.slice .full 0 [])))]) (.seq (.run [.o 3 (.mv (.k (.slice .full 0 [])))]) akI)
abbrev akK:AC:= .block 1 (.seq (.run [.m 10 dc, .m 5 bT]) (.seq (.run [.m 11 bt, .m 12 br, .m 13 cj, .o 14 (.cf cU cZ 1), .o 15 (.load cL false 1), .o 16 (.bin .eql cJ dE)]) (.cond dh (.seq (.run [.m 17 cj, .m 4 dF]) .ret) .skip)))
abbrev akL:AC:= .seq (.cond df .skip (.exit 0)) (.seq akK (.run [.o 18 (.bin .add dc (.k (.int .i64 1))), .m 8 dG]))
abbrev akM:AC:= .seq (.run [.m 6 br, .o 7 (.len dD), .o 8 (.mv (.k (.int .i64 0)))]) (.block 0 (.loop (.seq (.run [.o 9 (.bin .lss dc da)]) akL)))
abbrev akN:AC:= .seq (.run [(.o 4 (.mv (.k (.int .i64 (-1)))))]) .ret
abbrev akO:AC:= .seq (.run [.o 4 (.mv (.k (.int .i64 0)))]) (.seq akM akN)
abbrev akP:AC:= .cond bT (.seq (.run [.o 6 (.mv (.k (.int .i64 0))), .o 7 (.mv (.k (.bool false)))]) .ret) .skip
abbrev akQ:AC:= .seq (.run [.o 3 (.box br), .o 6 (.mv (.k (.int .i64 0))), .o 7 (.mv (.k (.bool false)))]) (.seq (.seq (.run [.o 8 (.load cB true 4), .c 9 nn [dc], .o 10 (.un .not df)]) akP) (.seq (.run [.o 11 (.load cB true 4), .m 12 bt, .m 13 dq, .c 14 lj [cJ,cU,cZ], .o 15 (.ext cL 0), .o 16 (.ext cL 1), .m 6 dE, .m 7 dh]) .ret))
abbrev akR:AC:= .seq (.run [.o 4 (.mv (.k (.bool false)))]) (.seq (.run [.m 5 br, .m 6 bt, .c 7 pe [cj,dD], .o 8 (.bin .geq da (.k (.int .i64 0))), .m 4 dc]) .ret)
abbrev akS:AC:= .par [.m 5 br, .o 6 (.bV cj), .o 7 (.aq dD 2), .o 8 (.load da false 1), .m 9 br, .o 10 (.bV df), .o 11 (.aq bT 3), .o 12 (.load cJ false 1), .m 13 bt, .o 14 (.cf cU cZ 1), .o 15 (.load cL false 1), .o 16 (.bin .sub dE (.k (.int .i64 1))), .m 17 br, .o 18 (.bV dF), .o 19 (.aq dG 4), .o 20 (.load dY false 1), .m 21 bt, .o 22 (.cf ey ek 1), .o 23 (.load eD false 1), .o 24 (.bin .sub eH (.k (.int .i64 1))), .o 25 (.AU 17 dc (some dh) (some eU)), .m 4 eW] [(0,0),(1,0),(2,0),(3,0),(4,0),(5,0),(6,0),(7,0),(8,0),(9,0),(10,0),(11,0),(12,0),(13,0),(14,0),(15,0),(16,0),(17,0),(18,0),(19,0),(20,0),(21,0)]
abbrev akT:AC:= .seq (.run [.o 4 (.mv (.k (.slice .full 0 [])))]) (.seq akS .ret)
abbrev akU:AC:= .seq (.run [.o 4 (.mv (.k (.bool false)))]) (.seq (.run [.m 5 br, .m 6 bt, .c 7 fZ [cj,dD], .o 8 (.bin .geq da (.k (.int .i64 0))), .m 4 dc]) .ret)
abbrev akV:AC:= .run [.m 23 fl, .m 24 br, .m 25 cJ, .o 26 (.cf eU eW 13), .o 27 (.load fu true 13), .m 28 bt, .m 29 dq, .m 30 cB, .o 31 (.build [(.int .i64 0),(.int .i64 0),(.slice .full 0 []),(.str []),(.str []),(.int .i64 0),(.int .i64 0),(.str []),(.slice .full 0 []),(.bool false),(.slice .full 0 []),(.slice .full 0 []),(.slice .full 0 []),(.int .i64 0),(.int .i64 0),(.bool false)] [(0,(13,fx)),(13,(1,gb)),(14,(1,gf)),(15,(1,gy))]), .o 32 (.dA [(.int .i64 0),(.int .i64 0),(.slice .full 0 []),(.str []),(.str []),(.int .i64 0),(.int .i64 0),(.str []),(.slice .full 0 []),(.bool false),(.slice .full 0 []),(.slice .full 0 []),(.slice .full 0 []),(.int .i64 0),(.int .i64 0),(.bool false)] 16 1 [(0,gu)]), .o 33 (.app 16 232 eH gS), .m 4 gH]
abbrev akW:AC:= .par [.m 36 br, .m 37 cJ, .o 38 (.cf ix jf 13), .o 39 (.aq jQ 11), .o 40 (.load jB false 1), .m 41 bt, .o 42 (.bin .add jR (.k (.int .i64 1))), .m 43 br, .m 44 cJ, .o 45 (.cf kz kK 13), .o 46 (.aq lK 0), .o 47 (.load lL false 1), .m 48 fl, .c 49 mI [kg,kJ,lW,(.k (.bool false)),kY], .m 4 kZ] [(0,0),(1,0),(2,0),(3,0),(4,0),(5,0),(6,0),(7,0),(8,0),(9,0),(10,0),(11,0),(12,0),(13,0),(14,0)]
abbrev akX:AC:= .par [.m 50 br, .m 51 cJ, .o 52 (.cf lM kL 13), .o 53 (.aq kM 12), .o 54 (.load k6 false 1), .m 55 bt, .o 56 (.bin .add lO (.k (.int .i64 1))), .m 57 br, .m 58 cJ, .o 59 (.cf oJ n7 13), .o 60 (.aq lX 0), .o 61 (.load pf false 1), .m 62 fl, .c 63 mI [lN,nr,qz,(.k (.bool true)),pV], .m 4 qA] [(0,0),(1,0),(2,0),(3,0),(4,0),(5,0),(6,0),(7,0),(8,0),(9,0),(10,0),(11,0),(12,0),(13,0),(14,0)]
abbrev akY:AC:= .seq akV (.seq (.run [.m 34 bt, .o 35 (.bin .leq iF (.k (.int .i64 12)))]) (.cond gT (.seq akW akX) .skip))
abbrev akZ:AC:= .seq (.seq (.run [.m 12 cJ, .m 13 br, .o 14 (.len cZ), .o 15 (.bin .lss cU cL), .m 16 dE, .g 17 16 true (.mv fl), .g 18 16 true (.len dF), .g 19 16 true (.bin .leq dG (.k (.int .i64 200))), .o 20 (.pick dh dY (.k (.bool false)))]) (.cond ey .skip (.exit 0))) (.seq (.block 1 akY) (.run [.m 21 cJ, .o 22 (.bin .add ek (.k (.int .i64 1))), .m 11 eD]))
abbrev ak0:AC:= .seq (.seq (.run [.o 11 (.mv (.k (.int .i64 0)))]) (.block 0 (.loop akZ))) (.seq (.run [.m 64 fl, .m 10 qB]) .ret)
abbrev ak1:AC:= .seq (.run [.o 10 (.mv (.k (.slice .full 0 [])))]) ak0
abbrev ak2:AC:= .cond dh (.seq (.run [.o 2 (.mv (.k (.bool true)))]) .ret) .skip
abbrev ak3:AC:= .block 1 (.seq (.run [.m 9 da, .o 10 (.cf cj da 1), .o 11 (.load bT false 1), .m 3 df, .m 4 cJ]) (.seq (.run [.m 12 br, .m 13 cB, .o 14 (.AU 1 cU none (some cZ)), .m 15 fl, .c 16 ct [cL,dE]]) ak2))
abbrev ak4:AC:= .seq (.cond dc .skip (.exit 0)) (.seq ak3 (.run [.o 17 (.bin .add da (.k (.int .i64 1))), .m 7 dF]))
abbrev ak5:AC:= .seq (.run [.m 5 br, .o 6 (.len cj), .o 7 (.mv (.k (.int .i64 0)))]) (.block 0 (.loop (.seq (.run [.o 8 (.bin .lss da dD)]) ak4)))
abbrev ak6:AC:= .seq ak5 (.seq (.run [.o 2 (.mv (.k (.bool false)))]) .ret)
abbrev ak7:AC:= .seq (.run [.o 2 (.mv (.k (.bool false)))]) ak6
abbrev ak8:AC:= .seq (.run [.o 4 (.mv (.k (.bool false)))]) (.seq (.run [.m 5 br, .m 6 bt, .c 7 kX [cj,dD], .o 8 (.bin .geq da (.k (.int .i64 0))), .m 4 dc]) .ret)
abbrev ak9:AC:= .seq (.run [.o 3 (.mv (.k (.bool false)))]) (.seq (.run [.o 4 (.aq bt 0), .o 5 (.load fl false 1), .m 6 br, .c 7 ct [cj,dD], .m 3 da]) .ret)
abbrev ala:AC:= .cond eD (.seq (.run [.o 8 (.mv (.k (.bool false)))]) .ret) .skip
abbrev alb:AC:= .seq (.run [.o 16 (.cf cU cL 1), .o 17 (.load dh false 1), .m 10 dF]) (.seq (.run [.o 18 (.load fl true 2), .o 19 (.load cj true 5), .m 20 bT, .c 21 vB [dG,dY,ey], .o 22 (.bin .eql ek (.k (.int .i64 0)))]) ala)
abbrev alc:AC:= .seq (.cond dE .skip (.exit 0)) (.seq (.block 1 alb) (.run [.o 23 (.bin .add cL (.k (.int .i64 1))), .m 14 eH]))
abbrev ald:AC:= .seq (.run [.o 11 (.load da true 13), .c 12 rA [cJ], .o 13 (.len cU), .o 14 (.mv (.k (.int .i64 0)))]) (.block 0 (.loop (.seq (.run [.o 15 (.bin .lss cL cZ)]) alc)))
abbrev ale:AC:= .seq ald (.seq (.run [.o 24 (.aq da 1), .o 25 (.load eU false 1), .o 26 (.bin .neq eW (.k (.int .i64 4))), .m 27 fu, .g 28 27 false (.aq da 4), .g 29 27 false (.load gb false 1), .g 30 27 false (.bin .neq gf (.k (.str [109,97,105,110]))), .g 31 27 false (.mv gy), .g 32 31 true (.mv dq), .g 33 31 true (.aq da 4), .g 34 31 true (.load gH false 1), .d 35 31 true ct [gS,iF], .g 36 27 false (.pick gu gT (.k (.bool false))), .o 37 (.pick fx (.k (.bool true)) ix), .m 8 jf]) .ret)
abbrev alf:AC:= .seq (.run [.o 4 (.box br), .o 5 (.box bt), .o 7 (.box cB), .o 8 (.mv (.k (.bool false)))]) ale
abbrev alg:AC:= .cond df (.seq (.run [.o 4 (.mv (.k (.bool false)))]) .ret) .skip
abbrev alh:AC:= .seq (.run [.o 15 (.cf cJ cZ 5), .o 16 (.load dE true 5), .o 6 (.alloc [(.str []),(.slice .full 0 []),(.slice .full 0 []),(.slice .full 0 []),(.slice .full 0 [])]), .op none none (.store dD dh 5)]) (.seq (.run [.o 17 (.aq dD 0), .o 18 (.load dF false 1), .o 19 (.aq cB 4), .o 20 (.load dY false 1), .o 21 (.bin .eql dG ey)]) (.cond ek (.seq (.run [.o 22 (.aq dD 1), .o 23 (.load eD false 1), .o 24 (.aq cB 10), .o 25 (.load eU false 1), .c 26 vC [eH,eW], .m 4 fu]) .ret) .skip))
abbrev ali:AC:= .seq (.cond cL .skip (.exit 0)) (.seq (.block 1 alh) (.run [.o 27 (.bin .add cZ (.k (.int .i64 1))), .m 13 fx]))
abbrev alj:AC:= .seq (.run [.o 10 (.aq dq 1), .o 11 (.load bT false 1), .o 12 (.len cJ), .o 13 (.mv (.k (.int .i64 0)))]) (.block 0 (.loop (.seq (.run [.o 14 (.bin .lss cZ cU)]) ali)))
abbrev alk:AC:= .seq alj (.seq (.run [.o 4 (.mv (.k (.bool false)))]) .ret)
abbrev alm:AC:= .seq (.seq (.run [.o 7 (.aq cB 1), .o 8 (.load da false 1), .o 9 (.bin .neq dc (.k (.int .i64 4)))]) alg) alk
abbrev aln:AC:= .seq (.run [.o 2 (.box br), .o 3 (.box bt), .o 4 (.mv (.k (.bool false)))]) alm
abbrev alo:AC:= .seq (.run [.o 3 (.load bt true 2), .c 4 lZ [cB], .o 5 (.CT fl 0 false 1), .o 6 (.bin .neq cj (.k (.int .i64 0)))]) (.cond dD (.seq (.run [.o 2 (.mv (.k .dS))]) .ret) .skip)
abbrev alp:AC:= .seq (.run [.o 1 (.box br), .o 2 (.mv (.k .dS))]) (.seq alo (.seq (.run [.o 7 (.load bt true 2), .c 8 kW [da], .m 2 dc]) .ret))
abbrev alq:AC:= .cond dh (.seq (.run [.m 17 br, .m 4 dF, .o 5 (.mv (.k (.bool false)))]) .ret) .skip
abbrev alr:AC:= .block 1 (.seq (.run [.o 12 (.cf dc bT 1), .o 13 (.load cU false 1), .m 7 cZ]) (.seq (.seq (.run [.m 14 br, .m 15 da, .c 16 ct [cL,dE]]) alq) (.run [.m 18 br, .m 19 da, .o 20 (.dA [(.str [])] 1 1 [(0,dY)]), .o 21 (.app 1 16 dG ey), .m 0 ek])))
abbrev als:AC:= .seq (.cond cJ .skip (.exit 0)) (.seq alr (.run [.o 22 (.bin .add bT (.k (.int .i64 1))), .m 10 eD]))
abbrev alu:AC:= .seq (.run [.m 8 bt, .o 9 (.len dc), .o 10 (.mv (.k (.int .i64 0)))]) (.block 0 (.loop (.seq (.run [.o 11 (.bin .lss bT df)]) als)))
abbrev alv:AC:= .seq alu (.seq (.run [.m 23 br, .m 4 eH, .o 5 (.mv (.k (.bool true)))]) .ret)
abbrev alw:AC:= .seq (.run [.o 4 (.mv (.k (.slice .full 0 []))), .o 5 (.mv (.k (.bool false)))]) alv
abbrev alx:AC:= .seq (.run [.o 11 (.bin .eql df (.k (.int .i64 7))), .m 10 cJ]) (.cond bT .skip (.run [.o 12 (.bin .eql df (.k (.int .i64 8))), .m 10 cU]))
abbrev aly:AC:= .cond bT (.seq (.run [.o 13 (.aq cB 16), .o 14 (.load cZ false 1), .o 15 (.bin .neq cL (.k (.int .i64 0))), .m 4 dE]) .ret) (.seq (.run [.o 17 (.bin .eql df (.k (.int .i64 10))), .m 16 dF]) (.cond dh (.seq (.run [.m 19 br, .o 20 (.aq cB 13), .o 21 (.load ey false 1), .o 22 (.aq cB 0), .o 23 (.aq eD 3), .o 24 (.load eH false 1), .c 25 oT [dY,ek,eU], .m 18 eW, .o 26 (.ext dG 0), .o 27 (.ext dG 1), .m 5 fu, .m 6 fx]) (.seq (.run [.m 28 dD, .m 4 gb]) .ret)) .skip))
abbrev alz:AC:= .seq (.seq (.run [.o 7 (.aq cB 0), .o 8 (.aq da 1), .o 9 (.load dc false 1)]) (.block 0 (.seq alx aly))) (.seq (.run [.o 4 (.mv (.k (.bool true)))]) .ret)
abbrev alA:AC:= .seq (.run [.o 3 (.box bt), .o 4 (.mv (.k (.bool false)))]) alz
abbrev alB:AC:= .cond dh (.seq (.run [.o 4 (.mv (.k (.slice .full 0 [])))]) .ret) .skip
abbrev alC:AC:= .seq (.run [.o 43 (.cf jB jR 1), .o 44 (.load kz false 1), .m 12 kK]) (.seq (.run [.o 45 (.aq dq 0), .o 46 (.load lK false 1), .m 47 cU, .c 48 ct [lL,lW]]) (.cond kY (.run [.m 49 dD, .m 50 cU, .o 51 (.dA [(.str [])] 1 1 [(0,lM)]), .o 52 (.app 1 16 kZ kL), .m 6 kM]) .skip))
abbrev alD:AC:= .seq (.cond kJ .skip (.exit 4)) (.seq (.block 5 alC) (.run [.o 53 (.bin .add jR (.k (.int .i64 1))), .m 41 k6]))
abbrev alE:AC:= .seq (.run [.o 37 (.aq bT 0), .o 38 (.load jf true 13), .c 39 rA [jQ], .o 40 (.len jB), .o 41 (.mv (.k (.int .i64 0)))]) (.block 4 (.loop (.seq (.run [.o 42 (.bin .lss jR kg)]) alD)))
abbrev alG:AC:= .seq (.block 3 (.seq (.run [.o 35 (.cf gu gH 17), .o 36 (.load gT true 17), .o 10 (.alloc [(.int .i64 0),(.int .i64 0),(.slice .full 0 []),(.str []),(.str []),(.int .i64 0),(.int .i64 0),(.str []),(.slice .full 0 []),(.bool false),(.slice .full 0 []),(.slice .full 0 []),(.slice .full 0 []),(.int .i64 0),(.int .i64 0),(.int .i64 0),(.int .i64 0)]), .op none none (.store bT ix 17)]) alE)) (.run [.o 54 (.bin .add gH (.k (.int .i64 1))), .m 33 lN])
abbrev alH:AC:= .block 2 (.loop (.seq (.run [.o 34 (.bin .lss gH gS)]) (.seq (.cond iF .skip (.exit 2)) alG)))
abbrev alI:AC:= .seq (.run [.o 25 (.cf ek eH 1), .o 26 (.load eW false 1), .m 8 fu]) (.seq (.run [.m 27 cj, .m 28 cj, .m 29 dc, .c 30 iE [gb,gf], .c 31 gP [fx,gy], .o 32 (.len gu), .o 33 (.mv (.k (.int .i64 0)))]) alH)
abbrev alJ:AC:= .seq (.cond eU .skip (.exit 0)) (.seq (.block 1 alI) (.run [.o 55 (.bin .add eH (.k (.int .i64 1))), .m 23 lO]))
abbrev alK:AC:= .seq (.run [.m 19 cj, .m 20 bt, .c 21 xD [dY,ey], .o 22 (.len ek), .o 23 (.mv (.k (.int .i64 0)))]) (.block 0 (.loop (.seq (.run [.o 24 (.bin .lss eH eD)]) alJ)))
abbrev alL:AC:= .seq (.run [.o 17 (.load dq true 2), .c 18 kW [dF], .m 5 dG]) (.seq (.run [.o 6 (.mv (.k (.slice .full 0 [])))]) (.seq alK (.seq (.run [.m 56 dD, .c 57 jz [nr]]) (.seq (.run [.m 58 dD, .c 59 jT [n7], .m 4 lX]) .ret))))
abbrev alM:AC:= .seq (.run [.o 2 (.box br), .o 4 (.mv (.k (.slice .full 0 [])))]) (.seq (.seq (.run [.o 13 (.load dq true 2), .m 14 bt, .c 15 ub [cZ,cL], .o 16 (.un .not dE)]) alB) alL)
abbrev alN:AC:= .cond iF (.seq (.run [.o 4 (.mv (.k (.bool false)))]) .ret) .skip
abbrev alO:AC:= .seq (.seq (.run [.m 18 cj, .o 19 (.aq da 1), .o 20 (.load dY false 1), .c 21 ct [dG,ey], .m 22 ek, .g 23 22 false (.aq da 1), .g 24 22 false (.load eH false 1), .g 25 22 false (.aq dq 3), .g 26 22 false (.load eW false 1), .g 27 22 false (.bin .eql eU fu), .o 28 (.pick eD (.k (.bool true)) fx), .m 29 gb, .g 30 29 false (.mv bt), .g 31 29 false (.aq da 1), .g 32 29 false (.load gu false 1), .d 33 29 false ct [gy,gS], .o 34 (.pick gf (.k (.bool true)) gH)]) alN) (.run [.m 35 cj, .o 36 (.aq da 1), .o 37 (.load ix false 1), .o 38 (.dA [(.str [])] 1 1 [(0,jf)]), .o 39 (.app 1 16 gT jQ), .m 5 jB])
abbrev alP:AC:= .block 1 (.seq (.run [.o 13 (.cf df cJ 6), .o 14 (.load cZ true 6), .o 7 (.alloc [(.bool false),(.str []),(.int .i64 0),(.int .i64 0),(.str []),(.slice .full 0 [])]), .op none none (.store da cL 6)]) (.seq (.seq (.run [.o 15 (.aq da 0), .o 16 (.load dE false 1), .o 17 (.un .not dh)]) (.cond dF (.exit 1) .skip)) alO))
abbrev alQ:AC:= .seq (.cond cU .skip (.exit 0)) (.seq alP (.run [.o 40 (.bin .add cJ (.k (.int .i64 1))), .m 11 kg]))
abbrev alR:AC:= .seq (.run [.o 8 (.aq dq 10), .o 9 (.load dc false 1), .o 10 (.len df), .o 11 (.mv (.k (.int .i64 0)))]) (.block 0 (.loop (.seq (.run [.o 12 (.bin .lss cJ bT)]) alQ)))
abbrev alS:AC:= .seq alR (.seq (.run [.o 4 (.mv (.k (.bool true)))]) .ret)
abbrev alT:AC:= .seq (.run [.o 2 (.box br), .o 4 (.mv (.k (.bool false)))]) (.seq (.run [.o 5 (.mv (.k (.slice .full 0 [])))]) alS)
abbrev alU:AC:= .seq (.run [.o 2 (.mv (.k (.bool false)))]) (.seq (.run [.m 3 br, .o 4 (.bin .geq cB (.k (.int .u8 48))), .m 5 fl, .g 6 5 true (.mv br), .g 7 5 true (.bin .leq dD (.k (.int .u8 57))), .o 8 (.pick cj da (.k (.bool false))), .m 2 dc]) .ret)
abbrev alV:AC:= .seq (.run [.o 4 (.mv (.k (.bool false)))]) (.seq (.run [.m 5 bt, .m 6 cj, .g 7 6 true (.mv br), .d 8 6 true n6 [da], .o 9 (.pick dD dc (.k (.bool false))), .m 10 df, .g 11 10 false (.mv bt), .g 12 10 false (.un .not cJ), .g 13 10 false (.mv cU), .g 14 13 true (.mv br), .g 15 13 true (.bin .eql cL (.k (.str []))), .g 16 10 false (.pick cZ dE (.k (.bool false))), .o 17 (.pick bT (.k (.bool true)) dh), .m 4 dF]) .ret)
abbrev alW:AC:= .seq (.run [.o 2 (.box br), .o 4 (.mv (.k (.bool false)))]) (.seq (.run [.m 5 bt, .m 6 cj, .g 7 6 true (.load dq true 4), .d 8 6 true nn [da], .o 9 (.pick dD dc (.k (.bool false))), .m 10 df, .g 11 10 false (.mv bt), .g 12 10 false (.un .not cJ), .g 13 10 false (.mv cU), .g 14 13 true (.load dq true 4), .d 15 13 true xE [cL], .g 16 10 false (.pick cZ dE (.k (.bool false))), .o 17 (.pick bT (.k (.bool true)) dh), .m 4 dF]) .ret)
abbrev alX:AC:= .cond eW (.seq (.run [.o 2 (.mv (.k (.bool false)))]) .ret) .skip
abbrev alY:AC:= .seq (.run [.o 9 (.cf cj da 6), .o 10 (.load df true 6), .o 4 (.alloc [(.bool false),(.str []),(.int .i64 0),(.int .i64 0),(.str []),(.slice .full 0 [])]), .op none none (.store fl bT 6)]) (.seq (.run [.o 11 (.aq fl 1), .o 12 (.load cJ false 1), .o 13 (.aq fl 0), .o 14 (.load cZ false 1), .c 15 pd [cU,cL], .o 16 (.un .not dE), .m 17 dh, .g 18 17 false (.aq fl 2), .g 19 17 false (.load dG true 4), .g 20 17 false (.aq fl 0), .g 21 17 false (.load ey false 1), .g 22 17 false (.un .not ek), .d 23 17 false rz [dY,eD], .g 24 17 false (.un .not eH), .o 25 (.pick dF (.k (.bool true)) eU)]) alX)
abbrev alZ:AC:= .seq (.cond dc .skip (.exit 0)) (.seq (.block 1 alY) (.run [.o 26 (.bin .add da (.k (.int .i64 1))), .m 7 fu]))
abbrev al0:AC:= .seq (.run [.m 5 br, .o 6 (.len cj), .o 7 (.mv (.k (.int .i64 0)))]) (.block 0 (.loop (.seq (.run [.o 8 (.bin .lss da dD)]) alZ)))
abbrev al1:AC:= .seq al0 (.seq (.run [.o 2 (.mv (.k (.bool true)))]) .ret)
abbrev al2:AC:= .seq (.run [.o 2 (.mv (.k (.bool false)))]) al1
abbrev al3:AC:= .cond gu (.seq (.run [.m 32 dq, .m 33 dc, .o 34 (.cf gS gH 1), .o 35 (.load iF false 1), .m 6 gT, .o 7 (.mv (.k (.bool true)))]) .ret) .skip
abbrev al4:AC:= .seq (.run [.m 20 bt, .o 21 (.aq cB 2), .o 22 (.load ek false 1), .c 23 fZ [ey,eD], .m 8 eH]) (.seq (.run [.m 24 dc, .o 25 (.bin .geq eU (.k (.int .i64 0))), .m 26 eW, .g 27 26 true (.mv dc), .g 28 26 true (.mv dq), .g 29 26 true (.len gb), .g 30 26 true (.bin .lss fx gf), .o 31 (.pick fu gy (.k (.bool false)))]) al3)
abbrev al5:AC:= .seq al4 (.seq (.run [.o 6 (.mv (.k (.int .i64 0))), .o 7 (.mv (.k (.bool true)))]) .ret)
abbrev al6:AC:= .cond cL (.seq (.run [.o 16 (.aq cB 1), .o 17 (.load dh false 1), .m 6 dF, .o 7 (.mv (.k (.bool true)))]) .ret) (.seq (.run [.o 19 (.bin .eql cZ (.k (.int .i64 2))), .m 18 dY]) (.cond dG al5 .skip))
abbrev al7:AC:= .block 0 (.seq (.run [.o 15 (.bin .eql cZ (.k (.int .i64 1))), .m 14 dE]) al6)
abbrev al8:AC:= .cond lW (.seq (.run [.o 6 (.mv (.k (.int .i64 0))), .o 7 (.mv (.k (.bool false)))]) .ret) .skip
abbrev al9:AC:= .cond uf (.seq (.run [.o 6 (.mv (.k (.int .i64 0))), .o 7 (.mv (.k (.bool true)))]) .ret) .skip
abbrev ama:AC:= .cond zp (.seq (.run [.o 6 (.mv (.k (.int .i64 1))), .o 7 (.mv (.k (.bool true)))]) .ret) .skip
abbrev amb:AC:= .cond FR (.seq (.run [.o 6 (.mv (.k (.int .i64 0))), .o 7 (.mv (.k (.bool false)))]) .ret) .skip
abbrev amc:AC:= .seq (.seq (.run [.o 66 (.aq cB 0), .o 67 (.load vD false 1), .o 68 (.bin .eql vE (.k (.int .i64 17))), .m 69 ug, .g 70 69 true (.mv df), .d 71 69 true rB [xG], .o 72 (.pick xF Bv (.k (.bool false)))]) ama) (.seq (.run [.o 74 (.aq cB 3), .o 75 (.load Bw false 1), .o 76 (.cf Bx (.k (.int .i64 1)) 4), .o 77 (.load zt true 4), .m 78 bt, .m 79 dq, .c 80 lj [By,xH,DC], .m 73 DD, .o 81 (.ext zr 0), .o 82 (.ext zr 1), .m 11 DE, .m 10 FP]) (.seq (.seq (.run [.m 83 bT, .o 84 (.un .not FQ)]) amb) (.seq (.run [.o 85 (.aq cB 0), .o 86 (.load FT false 1), .m 87 df, .m 88 cJ, .c 89 zo [FU,FV,FW], .o 90 (.ext Bz 0), .o 91 (.ext Bz 1), .m 6 DF, .m 7 FX]) .ret)))
abbrev amd:AC:= .seq (.seq (.run [.o 58 (.aq cB 0), .o 59 (.load n7 false 1), .o 60 (.bin .eql lX (.k (.int .i64 16))), .m 61 pf, .g 62 61 true (.mv df), .d 63 61 true rB [pV], .g 64 61 true (.un .not qA), .o 65 (.pick qz qB (.k (.bool false)))]) al9) amc
abbrev ame:AC:= .seq (.seq (.run [.o 48 (.aq cB 3), .o 49 (.load kY false 1), .o 50 (.len kZ), .o 51 (.bin .eql lM (.k (.int .i64 1)))]) (.cond kL (.seq (.run [.o 52 (.aq cB 0), .o 53 (.load kM false 1), .m 54 df, .c 55 zn [k6,lN], .o 56 (.ext lO 0), .o 57 (.ext lO 1), .m 6 nr, .m 7 oJ]) .ret) .skip)) amd
abbrev amf:AC:= .seq (.seq (.run [.o 12 (.aq cB 0), .o 13 (.load cU false 1)]) al7) (.seq (.run [.o 37 (.aq cB 3), .o 38 (.load jf false 1), .o 39 (.cf jQ (.k (.int .i64 0)) 4), .o 40 (.load jB true 4), .m 41 bt, .m 42 dq, .c 43 lj [kg,jR,kJ], .m 36 kz, .o 44 (.ext ix 0), .o 45 (.ext ix 1), .m 9 kK, .m 10 lK]) (.seq (.seq (.run [.m 46 bT, .o 47 (.un .not lL)]) al8) ame))
abbrev amg:AC:= .seq (.run [.o 3 (.box br), .o 6 (.mv (.k (.int .i64 0))), .o 7 (.mv (.k (.bool false)))]) amf
abbrev amh:AC:= .block 1 (.seq (.run [.m 10 dc, .m 5 bT]) (.seq (.run [.m 11 bt, .m 12 br, .m 13 cj, .o 14 (.cf cU cZ 1), .o 15 (.load cL false 1), .o 16 (.bin .eql cJ dE)]) (.cond dh (.seq (.run [.m 17 cj, .m 4 dF]) .ret) .skip)))
abbrev ami:AC:= .seq (.cond df .skip (.exit 0)) (.seq amh (.run [.o 18 (.bin .add dc (.k (.int .i64 1))), .m 8 dG]))
abbrev amj:AC:= .seq (.run [.m 6 br, .o 7 (.len dD), .o 8 (.mv (.k (.int .i64 0)))]) (.block 0 (.loop (.seq (.run [.o 9 (.bin .lss dc da)]) ami)))
abbrev amk:AC:= .seq (.run [(.o 4 (.mv (.k (.int .i64 (-1)))))]) .ret
abbrev aml:AC:= .seq (.run [.o 4 (.mv (.k (.int .i64 0)))]) (.seq amj amk)
abbrev amm:AC:= .block 1 (.seq (.run [.m 10 dc, .m 5 bT]) (.seq (.run [.m 11 bt, .m 12 br, .m 13 cj, .o 14 (.cf cU cZ 1), .o 15 (.load cL false 1),(.jt (some 16) none 11 [dE])]) (.cond dh (.seq (.run [.m 17 cj, .m 4 dF]) .ret) .skip)))
abbrev amn:AC:= .seq (.cond df .skip (.exit 0)) (.seq amm (.run [.o 18 (.bin .add dc (.k (.int .i64 1))), .m 8 dG]))
abbrev amo:AC:= .seq (.run [.m 6 br, .o 7 (.len dD), .o 8 (.mv (.k (.int .i64 0)))]) (.block 0 (.loop (.seq (.run [.o 9 (.bin .lss dc da)]) amn)))
abbrev amp:AC:= .seq (.run [(.o 4 (.mv (.k (.int .i64 (-1)))))]) .ret
abbrev amq:AC:= .seq (.run [.o 4 (.mv (.k (.int .i64 0)))]) (.seq amo amp)
abbrev amr:AC:= .seq (.seq (.run [.o 31 (.aq cj 0), .o 32 (.load gu false 1)]) (.cond gS (.run [.m 33 cB, .o 34 (.aq cj 1), .o 35 (.load iF false 1), .o 36 (.dA [(.str [])] 1 1 [(0,gT)]), .o 37 (.app 1 16 gH ix), .m 3 jf]) .skip)) (.run [.m 38 cB, .o 39 (.aq cj 2), .o 40 (.load jB true 4), .c 41 rC [kg], .o 42 (.app 1 16 jQ jR), .m 3 kJ])
abbrev ams:AC:= .seq (.block 1 (.seq (.run [.o 29 (.cf eW fx 6), .o 30 (.load gf true 6), .o 5 (.alloc [(.bool false),(.str []),(.int .i64 0),(.int .i64 0),(.str []),(.slice .full 0 [])]), .op none none (.store cj gy 6)]) amr)) (.run [.o 43 (.bin .add fx (.k (.int .i64 1))), .m 27 kz])
abbrev amt:AC:= .block 0 (.loop (.seq (.run [.o 28 (.bin .lss fx fu)]) (.seq (.cond gb .skip (.exit 0)) ams)))
abbrev amu:AC:= .seq (.seq (.run [.o 24 (.aq bt 10), .o 25 (.load eU false 1), .o 26 (.len eW), .o 27 (.mv (.k (.int .i64 0)))]) amt) (.seq (.run [.m 44 cB, .m 2 kK]) .ret)
abbrev amv:AC:= .seq (.seq (.run [.o 6 (.aq bt 1), .o 7 (.load dD false 1), .o 8 (.bin .neq da (.k (.int .i64 10))), .m 9 dc, .g 10 9 true (.aq bt 3), .g 11 9 true (.load bT false 1), .g 12 9 true (.bin .neq cJ (.k (.str []))), .o 13 (.pick df cU (.k (.bool false)))]) (.cond cZ (.run [.m 14 cB, .o 15 (.aq bt 3), .o 16 (.load dE false 1), .o 17 (.dA [(.str [])] 1 1 [(0,dh)]), .o 18 (.app 1 16 cL dF), .m 3 dG]) .skip)) (.seq (.run [.m 19 cB, .o 20 (.aq bt 5), .o 21 (.load ey true 4), .c 22 rC [ek], .o 23 (.app 1 16 dY eD), .m 3 eH]) amu)
abbrev amw:AC:= .seq (.run [.o 1 (.box br), .o 2 (.mv (.k (.slice .full 0 [])))]) (.seq (.run [.o 3 (.mv (.k (.slice .full 0 [])))]) amv)
abbrev amx:AC:= .cond eH (.seq (.run [.o 6 (.mv (.k (.int .i64 3)))]) .ret) .skip
abbrev amy:AC:= .cond fx (.seq (.run [.o 6 (.mv (.k (.int .i64 2)))]) .ret) .skip
abbrev amz:AC:= .seq (.seq (.run [.o 16 (.aq dc 0), .o 17 (.load dh false 1), .m 18 dq, .o 19 (.bin .eql dF dG), .m 20 dY, .g 21 20 true (.aq dc 1), .g 22 20 true (.load ek false 1), .o 23 (.pick ey eD (.k (.bool false)))]) amx) (.seq (.run [.o 24 (.aq dc 0), .o 25 (.load eU false 1), .m 26 dq, .o 27 (.bin .eql eW fu)]) amy)
abbrev amA:AC:= .seq (.block 1 (.seq (.run [.o 14 (.cf bT cU 2), .o 15 (.load cL true 2), .o 8 (.alloc [(.str []),(.bool false)]), .op none none (.store dc dE 2)]) amz)) (.run [.o 28 (.bin .add cU (.k (.int .i64 1))), .m 12 gb])
abbrev amB:AC:= .block 0 (.loop (.seq (.run [.o 13 (.bin .lss cU cJ)]) (.seq (.cond cZ .skip (.exit 0)) amA)))
abbrev amC:AC:= .cond gS (.seq (.run [.o 6 (.mv (.k (.int .i64 4)))]) .ret) .skip
abbrev amD:AC:= .cond ix (.seq (.run [.o 6 (.mv (.k (.int .i64 1)))]) .ret) .skip
abbrev amE:AC:= .seq (.seq (.run [.o 33 (.aq cB 0), .o 34 (.load gH false 1), .m 35 dq, .c 36 ct [iF,gT]]) amD) (.seq (.run [.o 6 (.mv (.k (.int .i64 0)))]) .ret)
abbrev amF:AC:= .seq (.seq (.run [.o 9 (.aq fl 1), .o 10 (.load df false 1), .o 11 (.len bT), .o 12 (.mv (.k (.int .i64 0)))]) amB) (.seq (.seq (.run [.o 29 (.aq fl 2), .o 30 (.load gf false 1), .m 31 dq, .c 32 ct [gy,gu]]) amC) amE)
abbrev amG:AC:= .seq (.run [.o 3 (.box br), .o 4 (.box bt), .o 6 (.mv (.k (.int .i64 0)))]) amF
abbrev amH:AC:= .cond cJ (.seq (.run [.o 4 (.mv (.k (.bool false)))]) .ret) .skip
abbrev amI:AC:= .par [.o 19 (.aq dD 1), .o 20 (.load dY false 1), .m 21 bt, .m 22 cj, .o 23 (.cf ek eD 6), .o 24 (.aq eH 0), .o 25 (.load eU false 1), .o 26 (.Gw true ey eW)] [(0,0),(1,0),(2,0),(3,0),(4,0),(5,0),(6,0),(7,0)]
abbrev amJ:AC:= .cond fu (.seq (.run [.o 4 (.mv (.k (.bool false)))]) .ret) .skip
abbrev amK:AC:= .seq (.block 1 (.seq (.run [.m 16 cL, .o 17 (.cf cU cL 2), .o 18 (.load dF true 2), .o 6 (.alloc [(.str []),(.bool false)]), .m 5 dh, .op none none (.store dD dG 2)]) (.seq amI amJ))) (.run [.o 27 (.bin .add cL (.k (.int .i64 1))), .m 14 fx])
abbrev amL:AC:= .block 0 (.loop (.seq (.run [.o 15 (.bin .lss cL cZ)]) (.seq (.cond dE .skip (.exit 0)) amK)))
abbrev amM:AC:= .seq (.seq (.run [.m 12 br, .o 13 (.len cU), .o 14 (.mv (.k (.int .i64 0)))]) amL) (.seq (.run [.o 4 (.mv (.k (.bool true)))]) .ret)
abbrev amN:AC:= .seq (.run [.o 4 (.mv (.k (.bool false)))]) (.seq (.seq (.run [.m 7 br, .o 8 (.len da), .m 9 bt, .o 10 (.len df), .o 11 (.bin .neq dc bT)]) amH) amM)
abbrev amO:AC:= .seq (.run [.o 2 (.box br), .o 3 (.box bt), .o 4 (.mv (.k (.bool false)))]) (.seq (.run [.o 5 (.load dq true 2), .c 6 lZ [cj], .o 7 (.CT dD 0 false 1), .o 8 (.bin .eql da (.k (.int .i64 0))), .m 9 dc, .g 10 9 true (.aq dq 1), .g 11 9 true (.load bT false 1), .g 12 9 true (.uK 191 [cB]), .d 13 9 true gQ [cJ,cU], .o 14 (.pick df cZ (.k (.bool false))), .m 4 cL]) .ret)
abbrev amP:AC:= .seq (.run [.o 26 (.cf eD eU 1), .o 27 (.load fu false 1), .m 8 fx]) (.seq (.run [.m 28 cj, .m 29 dc, .c 30 ct [gb,gf], .o 31 (.un .not gy)]) (.cond gu (.run [.m 32 cj, .m 33 dc, .o 34 (.dA [(.str [])] 1 1 [(0,gH)]), .o 35 (.app 1 16 gS iF), .m 5 gT]) .skip))
abbrev amQ:AC:= .seq (.cond eW .skip (.exit 2)) (.seq (.block 3 amP) (.run [.o 36 (.bin .add eU (.k (.int .i64 1))), .m 24 ix]))
abbrev amR:AC:= .seq (.run [.m 17 br, .m 18 cj, .m 19 dD, .o 20 (.cf dG dY 1), .o 21 (.load ey false 1), .c 22 uc [dF,ek], .o 23 (.len eD), .o 24 (.mv (.k (.int .i64 0)))]) (.block 2 (.loop (.seq (.run [.o 25 (.bin .lss eU eH)]) amQ)))
abbrev amS:AC:= .seq (.seq (.run [.m 11 dD, .m 12 cj, .o 13 (.len cU), .o 14 (.bin .lss cJ cZ)]) (.cond cL .skip (.exit 0))) (.seq (.block 1 amR) (.run [.m 15 dD, .o 16 (.bin .add dE (.k (.int .i64 1))), .m 6 dh]))
abbrev ac9:AC:= .seq (.run [.m 39 cj, .m 4 jB]) .ret
abbrev amT:AC:= .seq (.seq (.run [.o 6 (.mv (.k (.int .i64 0)))]) (.block 0 (.loop amS))) (.seq (.run [.m 37 cj, .c 38 jz [jf]]) ac9)
abbrev amU:AC:= .seq (.run [.o 4 (.mv (.k (.slice .full 0 [])))]) (.seq (.run [.m 9 bt, .o 10 (.dA [(.str [])] 1 1 [(0,df)]), .m 5 bT]) amT)
abbrev amV:AC:= .seq (.run [.o 1 (.box br), .o 2 (.mv (.k (.bool false)))]) (.seq (.run [.o 3 (.aq bt 0), .o 4 (.load cB false 1), .o 5 (.bin .eql fl (.k (.int .i64 0))), .m 6 cj, .g 7 6 true (.aq bt 1), .g 8 6 true (.load da false 1), .g 9 6 true (.bin .eql dc (.k (.int .i64 0))), .o 10 (.pick dD df (.k (.bool false))), .m 11 bT, .g 12 11 true (.aq bt 2), .g 13 11 true (.load cU false 1), .g 14 11 true (.bin .eql cZ (.k (.str []))), .o 15 (.pick cJ cL (.k (.bool false))), .m 16 dE, .g 17 16 true (.aq bt 3), .g 18 16 true (.load dF false 1), .g 19 16 true (.len dG), .g 20 16 true (.bin .eql dY (.k (.int .i64 0))), .o 21 (.pick dh ey (.k (.bool false))), .m 2 ek]) .ret)
abbrev amW:AC:= .cond cJ (.seq (.run [.m 13 bt, .o 14 (.bin .eql cZ (.k (.int .i64 0))), .c 15 jA [cL], .m 4 dE, .o 5 (.mv (.k (.bool true)))]) .ret) .skip
abbrev amX:AC:= .cond da (.seq (.run [.m 9 bt, .o 10 (.bin .sub (.k (.int .i64 0)) df), .m 4 bT, .o 5 (.mv (.k (.bool true)))]) .ret) (.seq (.run [.o 12 (.bin .eql dD (.k (.int .i64 4))), .m 11 cU]) amW)
abbrev amY:AC:= .block 0 (.seq (.run [.o 8 (.bin .eql dD (.k (.int .i64 3))), .m 7 dc]) amX)
abbrev amZ:AC:= .seq (.seq (.run [.m 6 br]) amY) (.seq (.run [.o 4 (.mv (.k (.int .i64 0))), .o 5 (.mv (.k (.bool false)))]) .ret)
abbrev am0:AC:= .seq (.run [.o 4 (.mv (.k (.int .i64 0))), .o 5 (.mv (.k (.bool false)))]) amZ
abbrev am1:AC:= .seq (.run [.o 2 (.mv (.k (.bool false)))]) (.seq (.run [.m 3 br, .o 4 (.bin .neq cB (.k (.int .i64 0))), .m 2 fl]) .ret)
abbrev am2:AC:= .seq (.run [.o 25 (.bin .eql dc (.k (.int .i64 6))), .m 24 eW]) (.cond eU .skip (.run [.o 26 (.bin .eql dc (.k (.int .i64 7))), .m 24 fu]))
abbrev am3:AC:= .cond kJ (.seq (.run [.m 44 bt, .o 45 (.bin .neq kK (.k (.int .i64 0))), .m 46 lK, .g 47 46 false (.mv dq), .g 48 46 false (.bin .neq lW (.k (.int .i64 0))), .o 49 (.pick lL (.k (.bool true)) kY), .c 50 jA [kZ], .m 6 lM, .o 7 (.mv (.k (.bool true)))]) .ret) .skip
abbrev am4:AC:= .cond gH (.seq (.run [.m 35 bt, .o 36 (.bin .neq gT (.k (.int .i64 0))), .m 37 ix, .g 38 37 true (.mv dq), .g 39 37 true (.bin .neq jQ (.k (.int .i64 0))), .o 40 (.pick jf jB (.k (.bool false))), .c 41 jA [kg], .m 6 jR, .o 7 (.mv (.k (.bool true)))]) .ret) (.seq (.run [.o 43 (.bin .eql dc (.k (.int .i64 17))), .m 42 kz]) am3)
abbrev am5:AC:= .cond eU (.seq (.run [.m 27 br, .m 28 bt, .m 29 dq, .c 30 ud [fx,gb,gf], .o 31 (.ext gy 0), .o 32 (.ext gy 1), .m 6 gu, .m 7 gS]) .ret) (.seq (.run [.o 34 (.bin .eql dc (.k (.int .i64 16))), .m 33 iF]) am4)
abbrev am6:AC:= .cond dY (.seq (.run [.m 21 bt, .m 22 dq, .o 23 (.bin .mul ek eD), .m 6 eH, .o 7 (.mv (.k (.bool true)))]) .ret) (.seq am2 am5)
abbrev am7:AC:= .cond cL (.seq (.run [.m 16 bt, .m 17 dq, .o 18 (.bin .sub dh dF), .m 6 dG, .o 7 (.mv (.k (.bool true)))]) .ret) (.seq (.run [.o 20 (.bin .eql dc (.k (.int .i64 5))), .m 19 ey]) am6)
abbrev am8:AC:= .cond df (.seq (.run [.m 11 bt, .m 12 dq, .o 13 (.bin .add cJ cU), .m 6 cZ, .o 7 (.mv (.k (.bool true)))]) .ret) (.seq (.run [.o 15 (.bin .eql dc (.k (.int .i64 9))), .m 14 dE]) am7)
abbrev am9:AC:= .block 0 (.seq (.run [.o 10 (.bin .eql dc (.k (.int .i64 8))), .m 9 bT]) am8)
abbrev ana:AC:= .seq (.run [.o 6 (.mv (.k (.int .i64 0))), .o 7 (.mv (.k (.bool false)))]) (.seq (.seq (.run [.m 8 br]) am9) (.seq (.run [.m 51 br, .m 52 bt, .m 53 dq, .c 54 sm [kL,kM,k6], .o 55 (.ext lN 0), .o 56 (.ext lN 1), .m 6 lO, .m 7 nr]) .ret))
abbrev anb:AC:= .cond cj (.seq (.run [.o 2 (.mv (.k (.slice .full 0 [])))]) .ret) .skip
abbrev anc:AC:= .seq (.seq (.run [.o 3 (.load bt true 4), .c 4 nn [cB], .o 5 (.un .not fl)]) anb) (.seq (.run [.o 6 (.load bt true 4),(.c 7 iS [dD,(.k (.slice .full 0 []))]), .m 2 da]) .ret)
abbrev ane:AC:= .seq (.run [.o 1 (.box br), .o 2 (.mv (.k (.slice .full 0 [])))]) anc
abbrev anf:AC:= .seq (.run [.o 4 (.mv (.k (.bool false)))]) (.seq (.run [.m 5 br, .m 6 bt, .c 7 gj [cj,dD], .o 8 (.bin .geq da (.k (.int .i64 0))), .m 4 dc]) .ret)
abbrev ang:AC:= .seq (.run [.o 2 (.box br), .o 3 (.mv (.k (.bool false)))]) (.seq (.run [.o 4 (.aq dq 0), .o 5 (.load fl false 1), .o 6 (.load bt false 1), .o 7 (.bin .eql cj dD), .m 3 da]) .ret)
abbrev anh:AC:= .seq (.run [.o 16 (.cf cU cL 17), .o 17 (.load dh true 17), .o 7 (.alloc [(.int .i64 0),(.int .i64 0),(.slice .full 0 []),(.str []),(.str []),(.int .i64 0),(.int .i64 0),(.str []),(.slice .full 0 []),(.bool false),(.slice .full 0 []),(.slice .full 0 []),(.slice .full 0 []),(.int .i64 0),(.int .i64 0),(.int .i64 0),(.int .i64 0)]), .op none none (.store da dF 17)]) (.seq (.run [.o 18 (.aq da 0), .o 19 (.aq dG 1), .o 20 (.load dY false 1), .o 21 (.bin .eql ey (.k (.int .i64 4)))]) (.cond ek (.run [.m 22 cj, .o 23 (.aq da 0), .o 24 (.aq eH 4), .o 25 (.load eU false 1), .o 26 (.dA [(.str [])] 1 1 [(0,eW)]), .o 27 (.app 1 16 eD fu), .m 5 fx]) .skip))
abbrev ani:AC:= .seq (.cond dE .skip (.exit 0)) (.seq (.block 1 anh) (.run [.o 28 (.bin .add cL (.k (.int .i64 1))), .m 14 gb]))
abbrev anj:AC:= .seq (.run [.m 8 br, .m 9 br, .m 10 bt, .c 11 iE [df,bT], .c 12 gP [dc,cJ], .o 13 (.len cU), .o 14 (.mv (.k (.int .i64 0)))]) (.block 0 (.loop (.seq (.run [.o 15 (.bin .lss cL cZ)]) ani)))
abbrev ank:AC:= .seq (.run [.o 4 (.mv (.k (.slice .full 0 [])))]) (.seq (.run [.o 5 (.mv (.k (.slice .full 0 [])))]) (.seq anj (.seq (.run [.m 29 cj, .c 30 jz [gf]]) (.seq (.run [.m 31 cj, .c 32 jT [gu], .m 4 gS]) .ret))))
open Go.Proofs
theorem zz:Has Tryz.prog pe 19 [(4,none)] aml:=⟨Tryz.f146,by kernel_rfl,by kernel_rfl⟩
theorem tj:Has Tryz.prog kX 19 [(4,none)] amq:=⟨Tryz.f167,by kernel_rfl,by kernel_rfl⟩
theorem F0:Has Tryz.prog rA 45 [(2,none)] amw:=⟨Tryz.f168,by kernel_rfl,by kernel_rfl⟩
theorem F1:Has Tryz.prog vB 37 [(6,none)] amG:=⟨Tryz.f169,by kernel_rfl,by kernel_rfl⟩
theorem yx:Has Tryz.prog vC 28 [(4,none)] amN:=⟨Tryz.f170,by kernel_rfl,by kernel_rfl⟩
theorem wN:Has Tryz.prog ub 15 [(4,none)] amO:=⟨Tryz.f171,by kernel_rfl,by kernel_rfl⟩
theorem HZ:Has Tryz.prog xD 40 [(4,none)] amU:=⟨Tryz.f172,by kernel_rfl,by kernel_rfl⟩
theorem H0:Has Tryz.prog xE 22 [(2,none)] amV:=⟨Tryz.f175,by kernel_rfl,by kernel_rfl⟩
theorem JK:Has Tryz.prog zn 16 [(4,none),(5,none)] am0:=⟨Tryz.f176,by kernel_rfl,by kernel_rfl⟩
theorem F2:Has Tryz.prog rB 5 [(2,none)] am1:=⟨Tryz.f177,by kernel_rfl,by kernel_rfl⟩
theorem JL:Has Tryz.prog zo 57 [(6,none),(7,none)] ana:=⟨Tryz.f178,by kernel_rfl,by kernel_rfl⟩
theorem yy:Has Tryz.prog rC 8 [(2,none)] ane:=⟨Tryz.f189,by kernel_rfl,by kernel_rfl⟩
theorem qC:Has Tryz.prog gQ 9 [(4,none)] anf:=⟨Tryz.f190,by kernel_rfl,by kernel_rfl⟩
theorem CM:Has Tryz.prog oV 8 [(3,none)] ang:=⟨Tryz.f191,by kernel_rfl,by kernel_rfl⟩
theorem EE:Has Tryz.prog uc 33 [(4,none)] ank:=⟨Tryz.f192,by kernel_rfl,by kernel_rfl⟩
abbrev anl:AC:= .cond cB (.seq (.run [.o 2 (.mv (.k (.int .i64 1)))]) .ret) .skip
abbrev anm:AC:= .seq (.seq (.run [.m 3 br]) anl) (.seq (.run [.o 2 (.mv (.k (.int .i64 0)))]) .ret)
abbrev ann:AC:= .seq (.run [.o 2 (.mv (.k (.int .i64 0)))]) anm
abbrev ano:AC:= .cond df (.seq (.run [.o 6 (.mv (.k (.int .i64 0))), .o 7 (.mv (.k (.bool false)))]) .ret) .skip
abbrev anp:AC:= .cond cZ (.seq (.run [.o 6 (.mv (.k (.int .i64 0))), .o 7 (.mv (.k (.bool true)))]) .ret) .skip
abbrev anq:AC:= .cond dE (.seq (.run [.m 16 bt, .m 6 dh, .o 7 (.mv (.k (.bool true)))]) .ret) .skip
abbrev anr:AC:= .seq (.run [.m 14 bt,(.o 15 (.bin .eql cL (.k (.int .i64 (-9223372036854775808)))))]) anq
abbrev ans:AC:= .seq anr (.seq (.run [.m 17 bt, .o 18 (.bin .sub (.k (.int .i64 0)) dF), .m 6 dG, .o 7 (.mv (.k (.bool true)))]) .ret)
abbrev ant:AC:= .seq (.seq (.run [.m 12 br, .o 13 (.bin .eql cU (.k (.int .i64 7)))]) anp) ans
abbrev anu:AC:= .seq (.run [.m 10 dq,(.o 11 (.bin .eql bT (.k (.int .i64 (-1)))))]) (.cond cJ ant .skip)
abbrev anv:AC:= .cond ey (.seq (.run [.m 21 bt, .m 22 dq, .o 23 (.bin .rem ek eD), .m 6 eH, .o 7 (.mv (.k (.bool true)))]) .ret) .skip
abbrev anw:AC:= .seq (.seq (.run [.m 19 br, .o 20 (.bin .eql dY (.k (.int .i64 7)))]) anv) (.seq (.run [.m 24 bt, .m 25 dq, .o 26 (.bin .quo eU eW), .m 6 fu, .o 7 (.mv (.k (.bool true)))]) .ret)
abbrev anx:AC:= .seq (.seq (.run [.m 8 dq, .o 9 (.bin .eql dc (.k (.int .i64 0)))]) ano) (.seq anu anw)
abbrev anz:AC:= .seq (.run [.o 6 (.mv (.k (.int .i64 0))), .o 7 (.mv (.k (.bool false)))]) anx
abbrev anA:AC:= .cond jB (.seq (.run [.m 41 bt, .m 42 dq, .o 43 (.bin .neq jR kJ), .c 44 jA [kz], .m 6 kK, .o 7 (.mv (.k (.bool true)))]) .ret) .skip
abbrev anB:AC:= .cond gH (.seq (.run [.m 35 bt, .m 36 dq, .o 37 (.bin .eql gT ix), .c 38 jA [jf], .m 6 jQ, .o 7 (.mv (.k (.bool true)))]) .ret) (.seq (.run [.o 40 (.bin .eql dc (.k (.int .i64 15))), .m 39 kg]) anA)
abbrev anC:AC:= .cond fx (.seq (.run [.m 29 bt, .m 30 dq, .o 31 (.bin .geq gf gy), .c 32 jA [gu], .m 6 gS, .o 7 (.mv (.k (.bool true)))]) .ret) (.seq (.run [.o 34 (.bin .eql dc (.k (.int .i64 14))), .m 33 iF]) anB)
abbrev anD:AC:= .cond ek (.seq (.run [.m 23 bt, .m 24 dq, .o 25 (.bin .gtr eH eU), .c 26 jA [eW], .m 6 fu, .o 7 (.mv (.k (.bool true)))]) .ret) (.seq (.run [.o 28 (.bin .eql dc (.k (.int .i64 13))), .m 27 gb]) anC)
abbrev anE:AC:= .cond dE (.seq (.run [.m 17 bt, .m 18 dq, .o 19 (.bin .leq dF dG), .c 20 jA [dY], .m 6 ey, .o 7 (.mv (.k (.bool true)))]) .ret) (.seq (.run [.o 22 (.bin .eql dc (.k (.int .i64 12))), .m 21 eD]) anD)
abbrev anF:AC:= .cond df (.seq (.run [.m 11 bt, .m 12 dq, .o 13 (.bin .lss cJ cU), .c 14 jA [cZ], .m 6 cL, .o 7 (.mv (.k (.bool true)))]) .ret) (.seq (.run [.o 16 (.bin .eql dc (.k (.int .i64 11))), .m 15 dh]) anE)
abbrev anG:AC:= .block 0 (.seq (.run [.o 10 (.bin .eql dc (.k (.int .i64 10))), .m 9 bT]) anF)
abbrev anH:AC:= .seq (.seq (.run [.m 8 br]) anG) (.seq (.run [.o 6 (.mv (.k (.int .i64 0))), .o 7 (.mv (.k (.bool false)))]) .ret)
abbrev anI:AC:= .seq (.run [.o 6 (.mv (.k (.int .i64 0))), .o 7 (.mv (.k (.bool false)))]) anH
abbrev anJ:AC:= .seq (.block 1 (.seq (.run [.o 27 (.cf eH eW 4), .o 28 (.load fx true 4), .o 6 (.alloc [(.int .i64 0),(.int .i64 0),(.str []),(.slice .full 0 [])]), .op none none (.store dD gb 4)]) (.run [.o 29 (.load dD true 4), .m 30 bt, .c 31 iS [gf,gy], .m 1 gu]))) (.run [.o 32 (.bin .add eW (.k (.int .i64 1))), .m 25 gS])
abbrev anK:AC:= .block 0 (.loop (.seq (.run [.o 26 (.bin .lss eW eU)]) (.seq (.cond fu .skip (.exit 0)) anJ)))
abbrev anL:AC:= .seq (.seq (.run [.o 22 (.aq dq 3), .o 23 (.load eD false 1), .o 24 (.len eH), .o 25 (.mv (.k (.int .i64 0)))]) anK) (.seq (.run [.m 33 bt, .m 4 gH]) .ret)
abbrev anM:AC:= .seq (.seq (.run [.o 7 (.aq dq 0), .o 8 (.load da false 1), .o 9 (.bin .eql dc (.k (.int .i64 2))), .m 10 df, .g 11 10 true (.mv bt), .g 12 10 true (.aq dq 2), .g 13 10 true (.load cU false 1), .d 14 10 true ct [cJ,cZ], .g 15 10 true (.un .not cL), .o 16 (.pick bT dE (.k (.bool false)))]) (.cond dh (.run [.m 17 bt, .o 18 (.aq dq 2), .o 19 (.load dG false 1), .o 20 (.dA [(.str [])] 1 1 [(0,dY)]), .o 21 (.app 1 16 dF ey), .m 1 ek]) .skip)) anL
abbrev anN:AC:= .seq (.run [.o 2 (.box br), .o 4 (.mv (.k (.slice .full 0 [])))]) anM
open Go.Proofs
theorem JM:Has Tryz.prog jA 4 [(2,none)] ann:=⟨Tryz.f195,by kernel_rfl,by kernel_rfl⟩
theorem wO:Has Tryz.prog ud 27 [(6,none),(7,none)] anz:=⟨Tryz.f196,by kernel_rfl,by kernel_rfl⟩
theorem DH:Has Tryz.prog sm 45 [(6,none),(7,none)] anI:=⟨Tryz.f197,by kernel_rfl,by kernel_rfl⟩
theorem rE:Has Tryz.prog iS 34 [(4,none)] anN:=⟨Tryz.f207,by kernel_rfl,by kernel_rfl⟩
open Go.Proofs
theorem F3:Has Tryz.prog rp 9 [(2,none)] QYZ:=⟨Tryz.f104,by kernel_rfl,by kernel_rfl⟩
theorem Lq:Has Tryz.prog Bs 24 [(4,none)] QZC:=⟨Tryz.f105,by kernel_rfl,by kernel_rfl⟩
theorem JN:Has Tryz.prog zm 18 [(2,none)] akh:=⟨Tryz.f106,by kernel_rfl,by kernel_rfl⟩
theorem EF:Has Tryz.prog tY 93 [(2,none)] akw:=⟨Tryz.f107,by kernel_rfl,by kernel_rfl⟩
theorem H2:Has Tryz.prog mH 33 [(2,none)] akD:=⟨Tryz.f108,by kernel_rfl,by kernel_rfl⟩
theorem pP:Has Tryz.prog kE 8 [(2,none)] akF:=⟨Tryz.f109,by kernel_rfl,by kernel_rfl⟩
theorem H3:Has Tryz.prog sM 23 [(2,none)] akJ:=⟨Tryz.f110,by kernel_rfl,by kernel_rfl⟩
theorem wh:Has Tryz.prog fZ 19 [(4,none)] akO:=⟨Tryz.f111,by kernel_rfl,by kernel_rfl⟩
theorem Da:Has Tryz.prog wI 17 [(6,none),(7,none)] akQ:=⟨Tryz.f112,by kernel_rfl,by kernel_rfl⟩
theorem wi:Has Tryz.prog nq 9 [(4,none)] akR:=⟨Tryz.f113,by kernel_rfl,by kernel_rfl⟩
theorem CN:Has Tryz.prog gP 26 [(4,none)] akT:=⟨Tryz.f114,by kernel_rfl,by kernel_rfl⟩
theorem uh:Has Tryz.prog ct 9 [(4,none)] akU:=⟨Tryz.f115,by kernel_rfl,by kernel_rfl⟩
theorem Aw:Has Tryz.prog mI 65 [(10,none)] ak1:=⟨Tryz.f120,by kernel_rfl,by kernel_rfl⟩
theorem EG:Has Tryz.prog oj 18 [(2,none)] ak7:=⟨Tryz.f128,by kernel_rfl,by kernel_rfl⟩
theorem rF:Has Tryz.prog ga 9 [(4,none)] ak8:=⟨Tryz.f129,by kernel_rfl,by kernel_rfl⟩
theorem CO:Has Tryz.prog oU 8 [(3,none)] ak9:=⟨Tryz.f130,by kernel_rfl,by kernel_rfl⟩
theorem EH:Has Tryz.prog qo 38 [(8,none)] alf:=⟨Tryz.f131,by kernel_rfl,by kernel_rfl⟩
theorem yz:Has Tryz.prog vz 28 [(4,none)] aln:=⟨Tryz.f132,by kernel_rfl,by kernel_rfl⟩
theorem yA:Has Tryz.prog rr 9 [(2,none)] alp:=⟨Tryz.f133,by kernel_rfl,by kernel_rfl⟩
theorem H4:Has Tryz.prog qd 24 [(4,none),(5,none)] alw:=⟨Tryz.f134,by kernel_rfl,by kernel_rfl⟩
theorem pH:Has Tryz.prog vA 29 [(4,none)] alA:=⟨Tryz.f135,by kernel_rfl,by kernel_rfl⟩
theorem uF:Has Tryz.prog ry 60 [(4,none)] alM:=⟨Tryz.f136,by kernel_rfl,by kernel_rfl⟩
theorem DI:Has Tryz.prog sk 41 [(4,none)] alT:=⟨Tryz.f137,by kernel_rfl,by kernel_rfl⟩
theorem H5:Has Tryz.prog xC 9 [(2,none)] alU:=⟨Tryz.f141,by kernel_rfl,by kernel_rfl⟩
theorem F4:Has Tryz.prog pd 18 [(4,none)] alV:=⟨Tryz.f142,by kernel_rfl,by kernel_rfl⟩
theorem F5:Has Tryz.prog rz 18 [(4,none)] alW:=⟨Tryz.f143,by kernel_rfl,by kernel_rfl⟩
theorem EI:Has Tryz.prog tZ 27 [(2,none)] al2:=⟨Tryz.f144,by kernel_rfl,by kernel_rfl⟩
theorem oz:Has Tryz.prog lj 92 [(6,none),(7,none)] amg:=⟨Tryz.f145,by kernel_rfl,by kernel_rfl⟩
def BD (c:UInt8):Bool:=decide ((c.toNat:Int)≥97) && decide ((c.toNat:Int)≤122)
def EJ (c:UInt8):Bool:=decide ((c.toNat:Int)≥48) && decide ((c.toNat:Int)≤57)
def isB (c:UInt8):Bool:=(c.toNat:Int)==32 ||(c.toNat:Int)==9 ||(c.toNat:Int)==10 ||(c.toNat:Int)==13
def ph:aG→Nat
 | []=>0
 |c::r=>if BD c ||EJ c then ph r+1 else 0
def ada:aG→Nat
 | []=>0
 |c::r=>if EJ c then ada r+1 else 0
def O8:aG→Nat
 | []=>0
 |c::r=>if(c.toNat:Int) != 10 then O8 r+1 else 0
def isWord (s:aG):Bool:=
 s == [103,108,111,98,97,108] ||s == [112,114,111,99] ||s == [118,97,114] ||s == [114,101,102] ||s == [105,102] ||s == [101,108,115,101] ||s == [119,104,105,108,101] ||s == [98,114,101,97,107] ||s == [99,111,110,116,105,110,117,101] ||s == [114,101,116,117,114,110] ||s == [103,111,116,111] ||s == [114,101,97,100] ||s == [112,114,105,110,116]
def ahi (s:aG):Bool:=s == [61,61] ||s == [33,61] ||s == [60,61] ||s == [62,61] ||s == [38,38] ||s == [124,124]
def XR (c:UInt8):Bool:=
 (c.toNat:Int)==40 ||(c.toNat:Int)==41 ||(c.toNat:Int)==123 ||(c.toNat:Int)==125 ||(c.toNat:Int)==44 ||(c.toNat:Int)==59 ||(c.toNat:Int)==58 ||(c.toNat:Int)==61 ||
 (c.toNat:Int)==33 ||(c.toNat:Int)==60 ||(c.toNat:Int)==62 ||(c.toNat:Int)==43 ||(c.toNat:Int)==45 ||(c.toNat:Int)==42 ||(c.toNat:Int)==47 ||(c.toNat:Int)==37
def XS:aG→Nat
 | []=>0
 | [c]=>if XR c then 1 else 0
 |c::d::_=>if ahi [c,d]then 2 else if XR c then 1 else 0
def bC:Int→aG→Option Int
 |n,[]=>some n
 |n,c::r=>if n > (9223372036854775807 - ((c.toNat:Int) - 48)) / 10 then none else bC (n*10+((c.toNat:Int) - 48)) r
def anO (pos:Nat):aG→p9 ⊕ Int
 | []=> .inr 2
 | c::r=>
  if BD c then
   let s:=(c::r).take (ph (c::r))
   if s.length > 8 then .inr 4 else .inl ⟨if isWord s then 3 else 1,s,0,pos⟩
  else if EJ c then
   let s:=(c::r).take (ada (c::r))
   if s.length > 1∧(c.toNat:Int)=48 then .inr 2 else
   match bC 0 s with
   |some n=> .inl ⟨2,s,n,pos⟩
   |none=> .inr 4
  else
   if XS (c::r)=0 then .inr 2 else .inl ⟨4,(c::r).take (XS (c::r)),0,pos⟩
def O9:Nat→Nat→aG→List p9→List p9×Int×Int
 | 0,_,_,_=>([],0,0)
 |_+1,pos,[],out=>(out++ [⟨0,[],0,pos⟩],0,0)
 | n+1,pos,c::r,out=>
  if isB c then O9 n (pos+1) r out
  else if(c.toNat:Int)==35 then O9 n (pos+O8 (c::r)) ((c::r).drop (O8 (c::r))) out
  else match anO pos (c::r)with
   | .inr e=>([],e,pos)
   | .inl t=>if out.length=2000 then([],4,pos)else O9 n (pos+t.text.length) ((c::r).drop t.text.length) (out++ [t])
def yB (text:aG):List p9×Int×Int:=if text.length > 100000 then([],4,0)else O9 (text.length+1) 0 text []
def Ck:aG→Bool
 | []=>true
 |c::r=>if !(BD c) && !(EJ c)then false else Ck r
def isName:aG→Bool
 | []=>false
 |c::r=>if decide (((r.length+1:Nat):Int) > 8) || !(BD c)then false else if Ck r then !(isWord (c::r))else false
def oo (op:Int):Int:=if op==1 ||op==2 then 0 else if op==3 ||op==4 then 1 else if decide (op≥5) && decide (op≤17)then 2 else -1
mutual
def Ex.form:Ex→Bool
 |⟨op,n,name,kids⟩=>
  if oo op != (kids.length:Int) ||(op != 1 && n != 0) ||decide (n<0) || !((op==2) == !(name == [])) ||(!(name == []) && !(isName name))then false else Ex.sN kids
def Ex.sN:List Ex→Bool
 | []=>true
 |x::l=>if !(Ex.form x)then false else Ex.sN l
end
mutual
def Ex.texts:Ex→Prop
 |⟨_,_,name,kids⟩=>name.length<4611686018427387904∧Ex.vG kids
def Ex.vG:List Ex→Prop
 | []=>True
 |x::l=>x.texts∧Ex.vG l
end
theorem Ex.EK {x:Ex} : ∀ {l:List Ex},Ex.vG l→x∈l→x.texts
 |y::l,h,m=>by
  rcases List.mem_cons.1 m with rfl|m
  ·exact h.1
  ·exact Ex.EK h.2 m
theorem Ex.RG {op n:Int} {name:aG} {kids:List Ex} (h:Ex.texts ⟨op,n,name,kids⟩) {y:Ex} (m:y∈kids):y.texts:=Ex.EK h.2 m
def Ex.may (x:Ex):Bool:=decide (((min x.depth 21:Nat):Int)≤20) && x.form
def Ex.none (x:Ex):Bool:=x.op==0 && x.n==0 && x.name == [] && (x.kids.length:Int)==0
def fc:List aG→Bool
 | []=>true
 |s::l=>if !(isName s)then false else fc l
def Ar.may (a:Ar):Bool:=if a.ref then isName a.name && a.x.none else a.name == [] && a.x.may
def Ar.fO:List Ar→Bool
 | []=>true
 |a::l=>if !(a.may)then false else Ar.fO l
def Sm.Pa (s:Sm):Bool:=s.kind==1 ||s.kind==3 ||s.kind==5 ||s.kind==6 ||(s.kind==9 && s.has)
def Sm.hasName (s:Sm):Bool:=s.kind==1 ||s.kind==2 ||s.kind==10
def Sm.yC (s:Sm):Bool:=s.kind==4
def Sm.one (s:Sm):Bool:=
 if decide (s.kind<1) ||decide (s.kind > 10) || !(fc s.labels) ||(s.Pa && !(s.x.may)) ||(!(s.Pa) && !(s.x.none)) ||(s.has && s.kind != 9)then false
 else if(s.hasName && !(isName s.name)) ||(!(s.hasName) && !(s.name == []) && !(s.yC && isName s.name))then false
 else if !(s.yC == !(s.proc == [])) ||(s.yC && !(isName s.proc)) ||(!(s.yC) && decide ((s.args.length:Int) > 0))then false
 else if !(Ar.fO s.args)then false
 else((s.a8.length:Int)==0 ||s.kind==5 ||s.kind==6) && ((s.aR.length:Int)==0 ||s.kind==5)
structure It where
 s:Sm
 deep:Int
 cz:Int
 aR:Bool
mutual
def iT (deep cz:Int) (aR:Bool) (out:List It):Sm→List It
 |⟨id,kind,labels,name,proc,x,has,args,a8,e⟩=>
  if decide (deep≤12)then dR (deep+1) id true (dR (deep+1) id false (out++ [⟨⟨id,kind,labels,name,proc,x,has,args,a8,e⟩,deep,cz,aR⟩]) a8) e
  else out++ [⟨⟨id,kind,labels,name,proc,x,has,args,a8,e⟩,deep,cz,aR⟩]
def dR (deep cz:Int) (aR:Bool) (out:List It):List Sm→List It
 | []=>out
 |s::l=>if decide ((out.length:Int)≤200)then dR deep cz aR (iT deep cz aR out s) l else out
end
def Pc.flat (f:Pc):List It:=dR 1 0 false [] f.body
def allM (out:List It):List Pc→List It
 | []=>out
 |f::l=>if decide (((out++f.flat).length:Int) > 200)then out++f.flat else allM (out++f.flat) l
def Pg.all (p:Pg):List It:=allM [] p.procs
def Pm.fO:List Pm→Bool
 | []=>true
 |a::l=>if !(isName a.name)then false else Pm.fO l
def Pc.n8:List Pc→Bool
 | []=>true
 |f::l=>
  if !(isName f.name) ||decide ((f.params.length:Int) > 8) ||decide ((f.vars.length:Int) > 16) || !(fc f.vars) || !(fc f.fin)then false
  else if !(Pm.fO f.params)then false else Pc.n8 l
def It.fO (n:Nat):List It→Bool
 | []=>true
 |i::l=>if i.s.id != ((n+1:Nat):Int) ||decide (i.deep > 12) || !(i.s.one)then false else It.fO (n+1) l
def Pg.may (p:Pg):Bool:=
 if decide ((p.globals.length:Int) > 16) ||decide ((p.procs.length:Int) > 16) || !(fc p.globals)then false
 else if !(Pc.n8 p.procs)then false
 else if decide ((p.all.length:Int) > 200)then false else It.fO 0 p.all
open Go.Proofs
@[go_sem] def avR (r:Rd):List D:= [.slice .shared 4 (r.l.map jV), .int .i64 r.i, .int .i64 r.code, .int .i64 r.JB, .int .i64 r.n]
set_option maxRecDepth 8000
open Go.Proofs
theorem sn (c:UInt8) (s:St):aF Tryz.prog rp [.int .u8 (c.toNat:Int)] s (.bool (BD c)) s:=by
 refine aF.pure ?_ rfl rfl s
 generalize h:BD c=b
 unfold BD at h
 unfold S0
 refine aF.go F3 rfl fun B Q hB hQ=>?_
 have⟨hD,hY,hZ,gA⟩:=bN
 repeat' (first
 |simp only[go_sem,hD,hY,hZ,gA]
 |(with_reducible first|refine bn fun hc=>?_|refine bo fun hc=>?_|refine bp (fun hc=>?_) fun hc=>?_)<;>(try simp only[hc,bs,↓reduceIte]at h)<;>try simp only[hc]
 |(with_reducible refine aE hQ ?_;exact fX))
theorem F6 (c:UInt8) (s:St):aF Tryz.prog xC [.int .u8 (c.toNat:Int)] s (.bool (EJ c)) s:=by
 refine aF.pure ?_ rfl rfl s
 generalize h:EJ c=b
 unfold EJ at h
 unfold S0
 refine aF.go H5 rfl fun B Q hB hQ=>?_
 have⟨hD,hY,hZ,gA⟩:=bN
 repeat' (first
 |simp only[go_sem,hD,hY,hZ,gA]
 |(with_reducible first|refine bn fun hc=>?_|refine bo fun hc=>?_|refine bp (fun hc=>?_) fun hc=>?_)<;>(try simp only[hc,bs,↓reduceIte]at h)<;>try simp only[hc]
 |(with_reducible refine aE hQ ?_;exact fX))
theorem adb (t:aG) (s:St):aF Tryz.prog zm [.str t] s (.bool (isWord t)) s:=by
 refine aF.pure ?_ rfl rfl s
 generalize h:isWord t=b
 unfold isWord at h
 unfold S0
 refine aF.go JN rfl fun B Q hB hQ=>?_
 have⟨hD,hY,hZ,gA⟩:=bN
 repeat' (first
 |simp only[go_sem,hD,hY,hZ,gA]
 |(with_reducible first|refine bn fun hc=>?_|refine bo fun hc=>?_|refine bp (fun hc=>?_) fun hc=>?_)<;>(try simp only[hc,bs,↓reduceIte]at h)<;>try simp only[hc]
 |(with_reducible refine aE hQ ?_;exact fX))
theorem ahj {text:aG} {pos:Nat} (hl:text.length<4611686018427387904) (s:St):aF Tryz.prog Bs [.str text, .int .i64 (pos:Int)] s (.int .i64 ((pos+ph (text.drop pos):Nat):Int)) s:=by
 refine aF.pure ?_ rfl rfl s
 unfold S0
 refine aF.go Lq rfl fun B Q hB hQ=>?_
 have⟨hD,hY,hZ,gA⟩:=bN
 repeat' (first
 |simp only[go_sem,hD,hY,hZ,gA]
 |(with_reducible refine aE hQ ?_;exact bd))
 refine fk 0 0 (bu.ind (ι:=aG×Nat) (fun i=>text.drop i.2=i.1∧i.2+ph i.1=pos+ph (text.drop pos)) (fun i=>i.1.length)
  (fun i=> [(0, .str text),(1, .int .i64 (i.2:Int))]) (fun i=>⟨[],[]⟩) ?_ (text.drop pos,pos) ⟨rfl,rfl⟩)
 rintro⟨rest,k⟩ ⟨h1,h2⟩ IH
 dsimp only at h1 h2
 cases rest with
 |nil=>
  have hD:=drop_nil h1
  simp only[ph,Nat.add_zero]at h2
  rw[← h2]at hQ
  repeat' (first
 |simp only[go_sem,hD,hY,hZ,gA]
 |(with_reducible refine aE hQ ?_;exact bd))
 | cons c rest=>
  obtain⟨hY,g2,hD,g4⟩:=drop_cons h1
  have hZ:k<4611686018427387904:=by omega
  cases hb:(BD c ||EJ c)
  ·simp only [ph,hb,Bool.false_eq_true, ↓reduceIte,Nat.add_zero]at h2
   rw[← h2]at hQ
   simp only[Bool.or_eq_false_iff]at hb
   repeat' (first
 |simp only[go_sem,hD,hY,hZ,gA,hb.1,hb.2]
 |(with_reducible refine CU (sn _ _) ?_)
 |(with_reducible refine CU (F6 _ _) ?_)
 | (with_reducible refine aE hQ ?_;exact bd))
  ·simp only [ph,hb, ↓reduceIte]at h2
   cases I1:BD c
   ·rw [I1,Bool.false_or]at hb
    repeat' (first
 |simp only[go_sem,hD,hY,hZ,gA,hb,I1]
 |(with_reducible refine CU (sn _ _) ?_)
 |(with_reducible refine CU (F6 _ _) ?_)
 | (with_reducible refine aE hQ ?_;exact bd))
    refine fk 0 0 (IH (rest,k+1) ⟨g2,by dsimp only;omega⟩ (Nat.lt_succ_self _))
   ·repeat' (first
 |simp only[go_sem,hD,hY,hZ,gA,I1]
 |(with_reducible refine CU (sn _ _) ?_)
 |(with_reducible refine CU (F6 _ _) ?_)
 | (with_reducible refine aE hQ ?_;exact bd))
    refine fk 0 0 (IH (rest,k+1) ⟨g2,by dsimp only;omega⟩ (Nat.lt_succ_self _))
def auq (s:aG):Int×Bool:=match bC 0 s with|some n=>(n,true)|none=>(0,false)
open Go.Proofs
def anP (f:Int×Int):List D:= [.int .i64 f.1, .int .i64 f.2]
def ahk (text:aG) (out:List p9) (pos:Nat):Tm:= [(0, .str text),(3, .ptr 0 0),(4, .slice (.tok 0) 4 (out.map jV)),(5, .ptr 1 0),(6, .int .i64 (pos:Int))]
def ahl (out:List p9):St:=⟨[[.int .i64 0, .int .i64 0],[.junk, .junk, .junk, .junk]],[some out.length]⟩
attribute [go_sem] ahk ahl anP
end Go.Abs
namespace Go.Abs
set_option maxRecDepth 8000
open Go.Proofs
def aoD (s:aG):Bool:=
 [103,108,111,98,97,108] == s || [112,114,111,99] == s || [118,97,114] == s || [114,101,102] == s || [105,102] == s || [101,108,115,101] == s || [119,104,105,108,101] == s || [98,114,101,97,107] == s || [99,111,110,116,105,110,117,101] == s || [114,101,116,117,114,110] == s || [103,111,116,111] == s || [114,101,97,100] == s || [112,114,105,110,116] == s
def OpR (p:Int×Int):Prop:=0≤p.2∧p.2≤6
@[go_sem] def avS (z:D) (r:Rd):List D:= [.slice .shared 4 (r.l.map jV), .int .i64 r.i, .int .i64 r.code, .int .i64 r.JB,z]
class Cell (z:D):Prop where
 ok:D.ok 0 0 z=true
 fg : ∀ n m,D.fg n m z=z
instance (n:Int):Cell (.int .i64 n):=⟨rfl,fun _ _=>rfl⟩
instance:Cell .junk:=⟨rfl,fun _ _=>rfl⟩
theorem ZH (z:D) [h:Cell z] (n m:Nat):D.fg n m z=z:=h.fg n m
attribute [go_sem] ZH
def Rd.isO (text:aG) (r:Rd):Option Bool:=if r.good then r.is text else some false
end Go.Abs
namespace Go.Abs
open Go.Proofs
def ade (s:aG):Int×Int:=
 if [42] == s then(6,5)else if [47] == s then(6,6)else if [37] == s then(6,7)else if [43] == s then(5,8)else if [45] == s then(5,9)
 else if [60] == s then(4,10)else if [60,61] == s then(4,11)else if [62] == s then(4,12)else if [62,61] == s then(4,13)
 else if [61,61] == s then(3,14)else if [33,61] == s then(3,15)else if [38,38] == s then(2,16)else if [124,124] == s then(1,17)else(0,0)
def BZ (p:Int×Int):Prop:=(p.2==0)=(p.1==0)
set_option maxRecDepth 8000
open Go.Proofs
structure Sm.ui (s:Sm):Prop where
 XT : ∀ t∈s.labels,t.length<4611686018427387904
 anQ:s.labels.length<4611686018427387904
 name:s.name.length<4611686018427387904
 proc:s.proc.length<4611686018427387904
 x:s.x.size<4611686018427387904
 xt:s.x.texts
 anR:s.args.length<4611686018427387904
 arg : ∀ a∈s.args,a.x.size<4611686018427387904∧a.x.texts∧a.name.length<4611686018427387904
section
variable {v:Sm} {B:fW} {Q:Exit→Tm→St→Prop} {p:Bool}
end
theorem aF.goS {P:Program} {f:FuncId} {nt:Nat} {res:List (Nat×Option (Bool×Nat))} {body:AC} {args:List D} {s:St} {d:D} {s':St} (h0:Has P f nt res body) (hl:Nat.ble args.length nt=true)
 (h : ∀ (B:fW) (Q:Exit→Tm→St→Prop),B.s=s→pT s.ah.length s.aw.length res d s'=Q→Sem P B nt body Q (mT 0 args) s):aF P f args s d s':=by
 obtain⟨fn,hf,hc⟩:=h0
 exact aF.intro ⟨fn,hf,hc⟩ (Nat.le_of_ble_eq_true hl) fun B hB=>h B _ hB rfl
end Go.Abs
namespace Go.Abs
set_option maxRecDepth 8000
open Go.Proofs
def dz (i:Im):List D:= [.int .i64 i.s.id, .int .i64 i.s.kind, .slice .shared 1 (i.s.labels.map encStr), .str i.s.name, .str i.s.proc,
 .int .i64 i.s.x.op, .int .i64 i.s.x.n, .str i.s.x.name, .slice .shared 4 (i.s.x.kids.map cb), .bool i.s.has, .slice .shared 6 (i.s.args.map eB), .slice .shared 13 (i.s.a8.map bj), .slice .shared 13 (i.s.aR.map bj), .int .i64 i.proc, .int .i64 i.up, .int .i64 i.next, .int .i64 i.loop]
def cd (n:Int):List D:= [.int .i64 n]
theorem Pb (i:Im):D.bK 0 0 (dz i)=true:=by simp[dz,D.bK,D.ok,Tag.ok,fb,W5,Ij,pG]
theorem Il (l:List Im):D.gU 0 0 (l.map dz)=true:=gV Pb l
theorem XU (n m:Nat) (l:List Im):D.kB n m (l.map dz)=l.map dz:=lY Pb n m l
theorem ahm (n m:Nat) (i:Im):D.gw n m (dz i)=dz i:=ie n m _ (Pb i)
theorem ahn (x:Im):(dz x).length=17:=nd rfl
theorem ZI (x:Im):List.take 17 (dz x)=dz x:=nd rfl
theorem adf (x:Im):List.drop 17 (dz x) = []:=nd rfl
theorem adg (x:Im):List.take 13 (dz x)=bj x.s:=by simp only[dz,ew];rfl
theorem Ve (x:Im):(dz x)[0]? = some (.int .i64 x.s.id):=nd rfl
theorem Vf (x:Im):(dz x)[1]? = some (.int .i64 x.s.kind):=nd rfl
theorem Vg (x:Im):(dz x)[4]? = some (.str x.s.proc):=nd rfl
theorem RH (x:Im):(dz x)[13]? = some (.int .i64 x.proc):=nd rfl
theorem RI (x:Im):(dz x)[14]? = some (.int .i64 x.up):=nd rfl
theorem RJ (x:Im):(dz x)[15]? = some (.int .i64 x.next):=nd rfl
theorem RK (x:Im):(dz x)[16]? = some (.int .i64 x.loop):=nd rfl
theorem Pe (s:Sm) (a b c d:Int):dz ⟨s,a,b,c,d⟩ = [.int .i64 s.id, .int .i64 s.kind, .slice .shared 1 (s.labels.map encStr), .str s.name, .str s.proc,
 .int .i64 s.x.op, .int .i64 s.x.n, .str s.x.name, .slice .shared 4 (s.x.kids.map cb), .bool s.has, .slice .shared 6 (s.args.map eB), .slice .shared 13 (s.a8.map bj), .slice .shared 13 (s.aR.map bj), .int .i64 a, .int .i64 b, .int .i64 c, .int .i64 d]:=nd rfl
theorem XV (n:Int):D.bK 0 0 (cd n)=true:=rfl
theorem iB (l:List Int):D.gU 0 0 (l.map cd)=true:=gV XV l
theorem RL (n m:Nat) (l:List Int):D.kB n m (l.map cd)=l.map cd:=lY XV n m l
attribute [go_sem] XU ahm ahn ZI adf adg Ve Vf Vg RH RI RJ RK RL cd
theorem adh : ∀ n,n<1000000000→∀ v:Sm,v.size≤n→aF Tryz.prog mH [.agg (bj v)] S0 (.int .i64 (v.jy:Int)) S0:=by
 intro n
 induction n with
 |zero=>intro _ v h;obtain⟨_,_,_,_,_,_,_,_,_,_⟩:=v;simp only[Sm.size]at h;omega
 |succ n ih=>
 intro hn v hv
 have dP:Sm.a7 v.a8≤n∧Sm.a7 v.aR≤n∧v.jy=1+Sm.je v.a8+Sm.je v.aR:=by
  obtain⟨_,_,_,_,_,_,_,_,_,_⟩:=v
  simp only[Sm.size]at hv;exact⟨by dsimp only;omega,by dsimp only;omega,rfl⟩
 obtain⟨h1,h2,h3⟩:=dP
 have c1:=nP v.a8
 have c2:=nP v.aR
 have l1:=Sm.eI v.a8
 have l2:=Sm.eI v.aR
 have hk : ∀ y,y∈v.a8∨y∈v.aR→∀ s,aF Tryz.prog mH [.agg (bj y)] s (.int .i64 (y.jy:Int)) s:=fun y hy s=>
  (ih (by omega) y (by rcases hy with hy|hy<;>(have:=Sm.dn hy;omega))).pure (by simp only[D.bK,D.ok,rj];rfl) rfl s
 rw[h3]
 unfold S0
 refine aF.go H2 rfl fun B Q hB hQ=>?_
 have⟨hD,hY,hZ,gA⟩:=bN
 repeat' (first
 |simp only[go_sem,hD,hY,hZ,gA]
 |(with_reducible refine aE hQ ?_;exact bd))
 refine fk 1 0 (bu.ind (ι:=List Sm×Nat×Nat) (fun i=>v.a8.drop i.2.1=i.1∧i.2.2+Sm.je i.1=1+Sm.je v.a8) (fun i=>i.1.length)
  (fun i=> [(1, .ptr 0 0),(3, .int .i64 (i.2.2:Int)),(9, .slice .shared 13 (v.a8.map bj)),(10, .int .i64 (v.a8.length:Int)),(11, .int .i64 (i.2.1:Int))]) (fun i=>⟨[bj v],[]⟩) ?_ (v.a8,0,1) ⟨rfl,rfl⟩)
 rintro⟨rest,k,c⟩ ⟨g1,g2⟩ IH
 dsimp only at g1 g2
 cases rest with
 |cons y rest=>
  obtain⟨hY,g3,hD,g4⟩:=drop_cons g1
  have hy:=hk y (.inl (List.mem_of_getElem? hY))
  simp only[Sm.je]at g2
  have hcy:=DA y
  have GF:=Sm.dn (List.mem_of_getElem? hY)
  have w1:IntKind.wrap .i64 ((k:Int)+1)=((k+1:Nat):Int):=by rw[dX]<;>omega
  have w2:IntKind.wrap .i64 ((c:Int)+(y.jy:Int))=((c+y.jy:Nat):Int):=by rw[dX]<;>omega
  repeat' (first
 |simp only[go_sem,hD,hY,hZ,gA,w1,w2]
 |(with_reducible refine CU (hy _) ?_)
 |(with_reducible refine aE hQ ?_;exact bd))
  refine fk 1 0 (IH (rest,k+1,c+y.jy) ⟨g3,by dsimp only;omega⟩ (Nat.lt_succ_self _))
 |nil=>
  have hD:=drop_nil g1
  simp only[Sm.je,Nat.add_zero]at g2
  subst g2
  repeat' (first
 |simp only[go_sem,hD,hY,hZ,gA]
 | (with_reducible refine aE hQ ?_;exact bd))
  refine fk 1 0 (bu.ind (ι:=List Sm×Nat×Nat) (fun i=>v.aR.drop i.2.1=i.1∧i.2.2+Sm.je i.1=1+Sm.je v.a8+Sm.je v.aR) (fun i=>i.1.length)
   (fun i=> [(1, .ptr 0 0),(3, .int .i64 (i.2.2:Int)),(21, .slice .shared 13 (v.aR.map bj)),(22, .int .i64 (v.aR.length:Int)),(23, .int .i64 (i.2.1:Int))]) (fun i=>⟨[bj v],[]⟩) ?_ (v.aR,0,1+Sm.je v.a8) ⟨rfl,rfl⟩)
  rintro⟨rest,k,c⟩ ⟨g1,g2⟩ IH
  dsimp only at g1 g2
  cases rest with
  |cons y rest=>
   obtain⟨hY,g3,hD,g4⟩:=drop_cons g1
   have hy:=hk y (.inr (List.mem_of_getElem? hY))
   simp only[Sm.je]at g2
   have hcy:=DA y
   have GF:=Sm.dn (List.mem_of_getElem? hY)
   have w1:IntKind.wrap .i64 ((k:Int)+1)=((k+1:Nat):Int):=by rw[dX]<;>omega
   have w2:IntKind.wrap .i64 ((c:Int)+(y.jy:Int))=((c+y.jy:Nat):Int):=by rw[dX]<;>omega
   repeat' (first
 |simp only[go_sem,hD,hY,hZ,gA,w1,w2]
 |(with_reducible refine CU (hy _) ?_)
 | (with_reducible refine aE hQ ?_;exact bd))
   refine fk 1 0 (IH (rest,k+1,c+y.jy) ⟨g3,by dsimp only;omega⟩ (Nat.lt_succ_self _))
  |nil=>
   have hD:=drop_nil g1
   simp only[Sm.je,Nat.add_zero]at g2
   subst g2
   repeat' (first
 |simp only[go_sem,hD,hY,hZ,gA]
 |(with_reducible refine aE hQ ?_;exact bd))
theorem adi {v:Sm} (h:v.size<1000000000) (s:St):aF Tryz.prog mH [.agg (bj v)] s (.int .i64 (v.jy:Int)) s:=
 (adh v.size h v (Nat.le_refl _)).pure (by simp only[D.bK,D.ok,rj];rfl) rfl s
end Go.Abs
namespace Go.Abs
set_option maxRecDepth 8000
open Go.Proofs
abbrev iU (g ps:D) (L:List Im) (lo hi:List Int):List D:= [g,ps, .slice (.tok 0) 17 (L.map dz), .slice (.tok 1) 1 (lo.map cd), .slice (.tok 2) 1 (hi.map cd)]
abbrev Vh (proc up next loop:Int):List D:= [.int .i64 0, .int .i64 0, .slice .full 0 [], .str [], .str [], .int .i64 0, .int .i64 0, .str [], .slice .full 0 [], .bool false, .slice .full 0 [], .slice .full 0 [], .slice .full 0 [], .int .i64 proc, .int .i64 up, .int .i64 next, .int .i64 loop]
theorem aF.aho {P:Program} {f:Nat} {args:List D} {g ps:D} {L L':List Im} {lo hi GN ib:List Int} {a b c a' b' c':Option Nat}
 (h:aF P f (.ptr 0 0::args) ⟨[iU g ps L lo hi],[a,b,c]⟩ (.tuple []) ⟨[iU g ps L' GN ib],[a',b',c']⟩)
 (ha:D.bK 0 0 args=true) (hg:D.ok 0 0 g=true) (hp:D.ok 0 0 ps=true)
 {s:St} {o:Nat} (ho:s.ah[o]? = some (iU g ps L lo hi)) (ht:s.aw = [a,b,c]):aF P f (.ptr o 0::args) s (.tuple []) ⟨s.ah.set o (iU g ps L' GN ib),[a',b',c']⟩:=by
 have hr : ∀ (L:List Im) (lo hi:List Int),D.e9 [o] [0,1,2] (iU g ps L lo hi)=iU g ps L lo hi:=fun L lo hi=>by
  simp[D.e9,D.cW,Tag.cW,qx _ _ _ hg,qx _ _ _ hp,jm _ _ _ (Il L),jm _ _ _ (iB lo),jm _ _ _ (iB hi)]
 have hk : ∀ (L:List Im) (lo hi:List Int),D.bK 1 3 (iU g ps L lo hi)=true:=fun L lo hi=>by
  simp[D.bK,D.ok,Tag.ok,FI (Nat.zero_le 1) (Nat.zero_le 3) _ hg,FI (Nat.zero_le 1) (Nat.zero_le 3) _ hp,mD (Nat.zero_le 1) (Nat.zero_le 3) _ (Il L),mD (Nat.zero_le 1) (Nat.zero_le 3) _ (iB lo),mD (Nat.zero_le 1) (Nat.zero_le 3) _ (iB hi)]
 refine bM.frame [o] [0,1,2] h (by simp) (by decide) (by simpa using (List.getElem?_eq_some_iff.1 ho).1) (by rw[ht];simp) rfl (fun i o' ds e1 e2=>?_) rfl (fun i t' e1=>?_)
  (by simp[D.e9,D.cW,fD _ _ _ ha])
  (by simp[D.bK,D.ok,iD (Nat.zero_le 1) (Nat.zero_le 3) _ ha]) ?_
 ·cases i with
  |zero=>simp only[List.getElem?_cons_zero,Option.some.injEq]at e1 e2;subst e1;subst e2;exact⟨by rw[hr];exact ho,hk L lo hi⟩
  |succ i=>simp at e1
 ·rw [ht]
  match i,e1 with
  | 0,e1=>simp at e1;subst e1;rfl
  | 1,e1=>simp at e1;subst e1;rfl
  | 2,e1=>simp at e1;subst e1;rfl
  |i+3,e1=>simp at e1
 ·rintro _ _ ⟨rfl,rfl⟩
  refine⟨by simp[D.back,D.cW,D.e9], ?_⟩
  have:=hr L' GN ib
  simp[St.back,kH,kD,this,ht]
abbrev XW (N:Nat):Prop:=∀ (l:List Sm) (proc up next loop:Int) (out:List Im) (g ps:D) (lo hi:List Int) (b c:Option Nat),Sm.a7 l<N→out.length+Sm.je l<1000000000→D.ok 0 0 g=true→D.ok 0 0 ps=true→
 ∀ {s:St} {o:Nat},s.ah[o]? = some (iU g ps out lo hi)→s.aw = [some out.length,b,c]→
 aF Tryz.prog ke [.ptr o 0, .slice .shared 13 (l.map bj), .agg (Vh proc up next loop)] s (.tuple []) ⟨s.ah.set o (iU g ps (Im.rows proc up next loop out l) lo hi),[some (Im.rows proc up next loop out l).length,b,c]⟩
theorem ahp {N:Nat} (ih:XW N) {l:List Sm} {proc up next loop:Int} {out:List Im} {g ps:D} {lo hi:List Int} {b c:Option Nat} (hs:Sm.a7 l<N+1) (hc:out.length+Sm.je l<1000000000) (hg:D.ok 0 0 g=true) (hp:D.ok 0 0 ps=true) (hN:N<1000000000) :
 aF Tryz.prog ke [.ptr 0 0, .slice .shared 13 (l.map bj), .agg (Vh proc up next loop)] ⟨[iU g ps out lo hi],[some out.length,b,c]⟩ (.tuple []) ⟨[iU g ps (Im.rows proc up next loop out l) lo hi],[some (Im.rows proc up next loop out l).length,b,c]⟩:=by
 obtain⟨R,hR⟩ : ∃ R,R=Im.rows proc up next loop out l:=⟨_,rfl⟩
 have hlR:R.length=out.length+Sm.je l:=by rw[hR,gG]
 rw[← hR]
 have k1 : ∀ n m,D.fg n m g=g:=fun n m=>OT n m _ hg
 have k2 : ∀ n m,D.fg n m ps=ps:=fun n m=>OT n m _ hp
 refine aF.go BB rfl fun B Q hB hQ=>?_
 have⟨hD,hY,hZ,gA⟩:=bN
 repeat' (first
 |simp only[go_sem,hD,hY,hZ,gA,k1,k2]
 |(with_reducible first|refine bn fun hc=>?_|refine bo fun hc=>?_|refine bp (fun hc=>?_) fun hc=>?_)<;>(try simp only[hc,bs,↓reduceIte]at h)<;>try simp only[hc]
 |(with_reducible refine aE hQ ?_;simp only[aT,aW,bE,bF,go_sem,hD,hY,hZ,gA,k1,k2];try exact cm))
 refine eY 2 3 ?_ ?_ (bu.ind (ι:=List Sm×Nat×List Im) (fun i=>l.drop i.2.1=i.1∧Im.rows proc up next loop i.2.2 i.1=R∧i.2.2.length+Sm.je i.1=out.length+Sm.je l) (fun i=>i.1.length)
  (fun i=> [(0, .ptr 0 0),(1, .slice .shared 13 (l.map bj)),(5, .ptr 1 0),(11, .slice .shared 13 (l.map bj)),(12, .int .i64 (l.length:Int)),(13, .int .i64 (i.2.1:Int))]) (fun i=>⟨[iU g ps i.2.2 lo hi,Vh proc up next loop],[some i.2.2.length,b,c]⟩) ?_ (l,0,out) ⟨rfl,hR.symm,rfl⟩)
 ·(simp only[go_sem,hD,hY,hZ,gA,k1,k2];try exact cq)
 ·(simp only[go_sem,hD,hY,hZ,gA,k1,k2];try exact cq)
 rintro⟨rest,k,cG⟩ ⟨h1,h2,h3⟩ IH
 dsimp only at h1 h2 h3
 have hlen:l.length<1000000000:=by have:=Sm.eI l;omega
 cases rest with
 |nil=>
  have hD:=drop_nil h1
  simp only[Im.rows]at h2
  subst h2
  repeat' (first
 |simp only[go_sem,hD,hY,hZ,gA,k1,k2]
 |(with_reducible first|refine bn fun hc=>?_|refine bo fun hc=>?_|refine bp (fun hc=>?_) fun hc=>?_)<;>(try simp only[hc,bs,↓reduceIte]at h)<;>try simp only[hc]
 |(with_reducible refine aE hQ ?_;simp only[aT,aW,bE,bF,go_sem,hD,hY,hZ,gA,k1,k2];try exact cm))
 | cons v rest=>
  obtain⟨hY,g2,hD,g4⟩:=drop_cons h1
  have bU:k<4611686018427387904:=by omega
  have hv:=Sm.dn (List.mem_of_getElem? hY)
  have o5:Sm.a7 v.a8<N∧Sm.a7 v.aR<N∧v.jy=1+Sm.je v.a8+Sm.je v.aR:=by
   obtain⟨_,_,_,_,_,_,_,_,_,_⟩:=v
   simp only[Sm.size]at hv
   exact⟨by dsimp only;omega,by dsimp only;omega,rfl⟩
  obtain⟨yd,IZ,hv3⟩:=o5
  simp only[Sm.je]at h3
  simp only[Im.rows,Im.acB]at h2
  have hZ:(cG.length+1)*241≤bH:=by unfold bH;omega
  have L0:IntKind.wrap .i64 ((cG.length:Int)+1)=(cG.length:Int)+1:=dX (by omega) (by omega)
  have tn:IntKind.wrap .i64 ((k:Int)+1)=((k+1:Nat):Int):=by rw[dX]<;>omega
  have XX:IntKind.wrap .i64 ((cG.length:Int)+1+(v.jy:Int))=(cG.length:Int)+1+(v.jy:Int):=dX (by omega) (by omega)
  have dP:=fun s=>adi (v:=v) (by omega) s
  simp only[ew]at dP
  have Ba:rest.length=l.length - (k+1):=by rw[← g2,List.length_drop]
  by_cases avT:k+1<l.length
  ·have d1:decide (((k+1:Nat):Int)<(l.length:Int))=true:=by simp;omega
   have e1:(rest.length=0)=False:=by simp;intro h;rw[h]at Ba;simp at Ba;omega
   by_cases RM:v.kind=6
   ·have d2:(v.kind==6)=true:=by simp [RM]
    simp only[e1,d2,↓reduceIte,Bool.false_eq_true]at h2
    have f1:=fun {s:St} {o:Nat}=>@ih v.a8 proc ((cG.length:Int)+1) ((cG.length:Int)+1) ((cG.length:Int)+1) (cG++ [⟨v,proc,up,((cG.length:Int)+1+(v.jy:Int)),loop⟩]) g ps lo hi b c yd (by simp;omega) hg hp s o
    have f2:=fun {s:St} {o:Nat}=>@ih v.aR proc ((cG.length:Int)+1) ((cG.length:Int)+1) ((cG.length:Int)+1) _ g ps lo hi b c IZ (by rw[gG proc ((cG.length:Int)+1) ((cG.length:Int)+1) ((cG.length:Int)+1) (cG++ [⟨v,proc,up,((cG.length:Int)+1+(v.jy:Int)),loop⟩]) v.a8];simp;omega) hg hp s o
    have hl:(Im.rows proc ((cG.length:Int)+1) ((cG.length:Int)+1) ((cG.length:Int)+1) (Im.rows proc ((cG.length:Int)+1) ((cG.length:Int)+1) ((cG.length:Int)+1) (cG++ [⟨v,proc,up,((cG.length:Int)+1+(v.jy:Int)),loop⟩]) v.a8) v.aR).length=cG.length+v.jy:=by rw[gG,gG];simp;omega
    simp only[iU,List.map_append,List.map_cons,List.map_nil,Pe,List.length_append,List.length_cons,List.length_nil]at f1
    repeat' (first
 |simp only[go_sem,hD,hY,hZ,gA,k1,k2,L0,tn,XX,d1,d2,ew]
 |(with_reducible refine CU (dP _) ?_)
 |(with_reducible refine CU (f1 (by with_unfolding_all rfl) (by with_unfolding_all rfl)) ?_)
 |(with_reducible refine CU (f2 (by with_unfolding_all rfl) (by with_unfolding_all rfl)) ?_)
 | (with_reducible refine aE hQ ?_;exact bd))
    refine eY 2 3 ?_ ?_ (IH (rest,k+1,_) ⟨g2,h2,by dsimp only;rw[hl];omega⟩ (Nat.lt_succ_self _))
    ·(simp only[go_sem,hD,hY,hZ,gA,tn,k1,k2];try exact cq)
    ·(simp only[go_sem,hD,hY,hZ,gA,tn,k1,k2];try exact cq)
   ·have d2:(v.kind==6)=false:=by simp [RM]
    simp only[e1,d2,↓reduceIte,Bool.false_eq_true]at h2
    have f1:=fun {s:St} {o:Nat}=>@ih v.a8 proc ((cG.length:Int)+1) ((cG.length:Int)+1+(v.jy:Int)) loop (cG++ [⟨v,proc,up,((cG.length:Int)+1+(v.jy:Int)),loop⟩]) g ps lo hi b c yd (by simp;omega) hg hp s o
    have f2:=fun {s:St} {o:Nat}=>@ih v.aR proc ((cG.length:Int)+1) ((cG.length:Int)+1+(v.jy:Int)) loop _ g ps lo hi b c IZ (by rw[gG proc ((cG.length:Int)+1) ((cG.length:Int)+1+(v.jy:Int)) loop (cG++ [⟨v,proc,up,((cG.length:Int)+1+(v.jy:Int)),loop⟩]) v.a8];simp;omega) hg hp s o
    have hl:(Im.rows proc ((cG.length:Int)+1) ((cG.length:Int)+1+(v.jy:Int)) loop (Im.rows proc ((cG.length:Int)+1) ((cG.length:Int)+1+(v.jy:Int)) loop (cG++ [⟨v,proc,up,((cG.length:Int)+1+(v.jy:Int)),loop⟩]) v.a8) v.aR).length=cG.length+v.jy:=by rw[gG,gG];simp;omega
    simp only[iU,List.map_append,List.map_cons,List.map_nil,Pe,List.length_append,List.length_cons,List.length_nil]at f1
    repeat' (first
 |simp only[go_sem,hD,hY,hZ,gA,k1,k2,L0,tn,XX,d1,d2,ew]
 |(with_reducible refine CU (dP _) ?_)
 |(with_reducible refine CU (f1 (by with_unfolding_all rfl) (by with_unfolding_all rfl)) ?_)
 |(with_reducible refine CU (f2 (by with_unfolding_all rfl) (by with_unfolding_all rfl)) ?_)
 | (with_reducible refine aE hQ ?_;exact bd))
    refine eY 2 3 ?_ ?_ (IH (rest,k+1,_) ⟨g2,h2,by dsimp only;rw[hl];omega⟩ (Nat.lt_succ_self _))
    ·(simp only[go_sem,hD,hY,hZ,gA,tn,k1,k2];try exact cq)
    ·(simp only[go_sem,hD,hY,hZ,gA,tn,k1,k2];try exact cq)
  ·have d1:decide (((k+1:Nat):Int)<(l.length:Int))=false:=by simp;omega
   have e1:(rest.length=0)=True:=by simp only[eq_iff_iff,iff_true];omega
   by_cases RM:v.kind=6
   ·have d2:(v.kind==6)=true:=by simp [RM]
    simp only[e1,d2,↓reduceIte,Bool.false_eq_true]at h2
    have f1:=fun {s:St} {o:Nat}=>@ih v.a8 proc ((cG.length:Int)+1) ((cG.length:Int)+1) ((cG.length:Int)+1) (cG++ [⟨v,proc,up,next,loop⟩]) g ps lo hi b c yd (by simp;omega) hg hp s o
    have f2:=fun {s:St} {o:Nat}=>@ih v.aR proc ((cG.length:Int)+1) ((cG.length:Int)+1) ((cG.length:Int)+1) _ g ps lo hi b c IZ (by rw[gG proc ((cG.length:Int)+1) ((cG.length:Int)+1) ((cG.length:Int)+1) (cG++ [⟨v,proc,up,next,loop⟩]) v.a8];simp;omega) hg hp s o
    have hl:(Im.rows proc ((cG.length:Int)+1) ((cG.length:Int)+1) ((cG.length:Int)+1) (Im.rows proc ((cG.length:Int)+1) ((cG.length:Int)+1) ((cG.length:Int)+1) (cG++ [⟨v,proc,up,next,loop⟩]) v.a8) v.aR).length=cG.length+v.jy:=by rw[gG,gG];simp;omega
    simp only[iU,List.map_append,List.map_cons,List.map_nil,Pe,List.length_append,List.length_cons,List.length_nil]at f1
    repeat' (first
 |simp only[go_sem,hD,hY,hZ,gA,k1,k2,L0,tn,XX,d1,d2,ew]
 |(with_reducible refine CU (dP _) ?_)
 |(with_reducible refine CU (f1 (by with_unfolding_all rfl) (by with_unfolding_all rfl)) ?_)
 |(with_reducible refine CU (f2 (by with_unfolding_all rfl) (by with_unfolding_all rfl)) ?_)
 | (with_reducible refine aE hQ ?_;exact bd))
    refine eY 2 3 ?_ ?_ (IH (rest,k+1,_) ⟨g2,h2,by dsimp only;rw[hl];omega⟩ (Nat.lt_succ_self _))
    ·(simp only[go_sem,hD,hY,hZ,gA,tn,k1,k2];try exact cq)
    ·(simp only[go_sem,hD,hY,hZ,gA,tn,k1,k2];try exact cq)
   ·have d2:(v.kind==6)=false:=by simp [RM]
    simp only[e1,d2,↓reduceIte,Bool.false_eq_true]at h2
    have f1:=fun {s:St} {o:Nat}=>@ih v.a8 proc ((cG.length:Int)+1) next loop (cG++ [⟨v,proc,up,next,loop⟩]) g ps lo hi b c yd (by simp;omega) hg hp s o
    have f2:=fun {s:St} {o:Nat}=>@ih v.aR proc ((cG.length:Int)+1) next loop _ g ps lo hi b c IZ (by rw[gG proc ((cG.length:Int)+1) next loop (cG++ [⟨v,proc,up,next,loop⟩]) v.a8];simp;omega) hg hp s o
    have hl:(Im.rows proc ((cG.length:Int)+1) next loop (Im.rows proc ((cG.length:Int)+1) next loop (cG++ [⟨v,proc,up,next,loop⟩]) v.a8) v.aR).length=cG.length+v.jy:=by rw[gG,gG];simp;omega
    simp only[iU,List.map_append,List.map_cons,List.map_nil,Pe,List.length_append,List.length_cons,List.length_nil]at f1
    repeat' (first
 |simp only[go_sem,hD,hY,hZ,gA,k1,k2,L0,tn,XX,d1,d2,ew]
 |(with_reducible refine CU (dP _) ?_)
 |(with_reducible refine CU (f1 (by with_unfolding_all rfl) (by with_unfolding_all rfl)) ?_)
 |(with_reducible refine CU (f2 (by with_unfolding_all rfl) (by with_unfolding_all rfl)) ?_)
 | (with_reducible refine aE hQ ?_;exact bd))
    refine eY 2 3 ?_ ?_ (IH (rest,k+1,_) ⟨g2,h2,by dsimp only;rw[hl];omega⟩ (Nat.lt_succ_self _))
    ·(simp only[go_sem,hD,hY,hZ,gA,tn,k1,k2];try exact cq)
    ·(simp only[go_sem,hD,hY,hZ,gA,tn,k1,k2];try exact cq)
theorem ZJ : ∀ N,N<1000000000→XW N:=by
 intro N
 induction N with
 |zero=>exact fun _ l proc up next loop out g ps lo hi b c h=>absurd h (Nat.not_lt_zero _)
 |succ N ih=>
  intro h l proc up next loop out g ps lo hi b c hs hc hg hp s o ho ht
  exact(ahp (ih (by omega)) hs hc hg hp (by omega)).aho (by simp[D.bK,D.ok,Tag.ok,pG,D.gU]) hg hp ho ht
def fC (p:Pg):List D:= [.slice .shared 1 (p.globals.map encStr), .slice .shared 5 (p.procs.map cu), .slice .shared 17 (p.aY.L.map dz), .slice .shared 1 (p.aY.lo.map cd), .slice .shared 1 (p.aY.hi.map cd)]
theorem n9 (p:Pg):fC p = [.slice .shared 1 (p.globals.map encStr), .slice .shared 5 (p.procs.map cu), .slice .shared 17 (p.aY.L.map dz), .slice .shared 1 (p.aY.lo.map cd), .slice .shared 1 (p.aY.hi.map cd)]:=nd rfl
theorem uj (p:Pg):D.bK 0 0 (fC p)=true:=by simp[fC,D.bK,D.ok,Tag.ok,fb,wE,Il,iB]
theorem EL (p:Pg):cD p = [.slice .shared 1 (p.globals.map encStr), .slice .shared 5 (p.procs.map cu)]:=nd rfl
theorem ahq {p:Pg} (hs:Pc.a7 p.procs<1000000000):aF Tryz.prog kW [.agg (cD p)] S0 (.ptr 1 0) ⟨[cD p,iU (.slice .shared 1 (p.globals.map encStr)) (.slice .shared 5 (p.procs.map cu)) p.aY.L p.aY.lo p.aY.hi],[some p.aY.L.length,some p.aY.lo.length,some p.aY.hi.length]⟩:=by
 have hlen:p.procs.length<1000000000:=by have:=Pc.eI p.procs;omega
 obtain⟨R,hR⟩ : ∃ R,R=p.aY:=⟨_,rfl⟩
 have hR':=hR
 unfold Pg.aY at hR'
 unfold S0
 rw[EL, ← hR]
 refine aF.goK 2 3 (Nat.zero_le _) (Nat.zero_le _) JF rfl fun B Q hB hQ=>?_
 have⟨hD,hY,hZ,gA⟩:=bN
 repeat' (first
 |simp only[go_sem,hD,hY,hZ,gA,EL]
 |(with_reducible refine aE hQ ?_;exact bd))
 refine bu.Dy 1 2 17 rfl rfl ?_
 simp only[go_sem,hD,hY,hZ,gA]
 refine bu.Dy 1 3 1 rfl rfl ?_
 simp only[go_sem,hD,hY,hZ,gA]
 refine bu.Dy 1 4 1 rfl rfl ?_
 simp only[go_sem,hD,hY,hZ,gA]
 refine eY 2 3 ?_ ?_ (bu.ind (ι:=List Pc×Nat×Sh×Nat×Nat) (fun i=>p.procs.drop i.2.1=i.1∧Sh.go i.2.1 i.2.2.1 i.1=R∧i.2.2.1.L.length+Pc.a7 i.1≤Pc.a7 p.procs∧i.2.2.1.lo.length=i.2.1∧i.2.2.1.hi.length=i.2.1∧i.2.2.2.1=i.2.2.1.lo.length∧i.2.2.2.2=i.2.2.1.hi.length) (fun i=>i.1.length)
  (fun i=> [(1, .ptr 0 0),(3, .ptr 1 0),(10, .slice .shared 5 (p.procs.map cu)),(11, .int .i64 (p.procs.length:Int)),(12, .int .i64 (i.2.1:Int))]) (fun i=>⟨[[.slice .shared 1 (p.globals.map encStr), .slice .shared 5 (p.procs.map cu)],iU (.slice .shared 1 (p.globals.map encStr)) (.slice .shared 5 (p.procs.map cu)) i.2.2.1.L i.2.2.1.lo i.2.2.1.hi],[some i.2.2.1.L.length,some i.2.2.2.1,some i.2.2.2.2]⟩) ?_ (p.procs,0,⟨[],[],[]⟩,0,0) ⟨rfl,hR'.symm,by simp,rfl,rfl,rfl,rfl⟩)
 ·(simp only[go_sem,hD,hY,hZ,gA,iU];try exact cq)
 ·(simp only[go_sem,hD,hY,hZ,gA,iU];try exact cq)
 rintro⟨rest,k,h,n1,n2⟩ ⟨h1,h2,h3,h4,h5,h6,h7⟩ IH
 dsimp only at h1 h2 h3 h4 h5 h6 h7
 subst h6 h7
 cases rest with
 |nil=>
  have hD:=drop_nil h1
  simp only[Sh.go]at h2
  rw[← h2]at hQ
  repeat' (first
 |simp only[go_sem,hD,hY,hZ,gA,iU]
 |(with_reducible refine aE hQ ?_;exact bd))
 |cons f rest=>
  obtain⟨hY,g2,hD,g4⟩:=drop_cons h1
  have bU:k<4611686018427387904:=by omega
  simp only[Pc.a7,Pc.size]at h3
  simp only[Sh.go]at h2
  have c1:=nP f.body
  have hZ:(h.lo.length+1)*9≤bH:=by unfold bH;omega
  have anT:(h.hi.length+1)*9≤bH:=by unfold bH;omega
  have L0:IntKind.wrap .i64 ((h.L.length:Int)+1)=(h.L.length:Int)+1:=dX (by omega) (by omega)
  have hl:(Im.rows (k:Int) 0 (-1) 0 h.L f.body).length=h.L.length+Sm.je f.body:=gG ..
  have tn:IntKind.wrap .i64 (((Im.rows (k:Int) 0 (-1) 0 h.L f.body).length:Int)+1)=((Im.rows (k:Int) 0 (-1) 0 h.L f.body).length:Int)+1:=dX (by omega) (by omega)
  have hr:=fun {s:St} {o:Nat}=>@ZJ (Sm.a7 f.body+1) (by omega) f.body (k:Int) 0 (-1) 0 h.L (.slice .shared 1 (p.globals.map encStr)) (.slice .shared 5 (p.procs.map cu)) (h.lo++ [(h.L.length:Int)+1]) h.hi (some (h.lo.length+1)) (some h.hi.length) (Nat.lt_succ_self _) (by omega) (by simp[D.ok,Tag.ok,fb]) (by simp[D.ok,Tag.ok,wE]) s o
  simp only[iU,List.map_append,List.map_cons,List.map_nil,cd]at hr
  repeat' (first
 |simp only[go_sem,hD,hY,hZ,gA,L0,tn,anT,iU]
 |(with_reducible refine CU (hr (by with_unfolding_all rfl) (by with_unfolding_all rfl)) ?_)
 |(with_reducible refine aE hQ ?_;exact bd))
  refine eY 2 3 ?_ ?_ (IH (rest,k+1,⟨Im.rows (k:Int) 0 (-1) 0 h.L f.body,h.lo++ [(h.L.length:Int)+1],h.hi++ [((Im.rows (k:Int) 0 (-1) 0 h.L f.body).length:Int)+1]⟩,_,_) ⟨g2,h2,by dsimp only;rw[hl];omega,by simp[h4],by simp[h5],by simp,by simp⟩ (Nat.lt_succ_self _))
  ·(simp only[go_sem,hD,hY,hZ,gA,iU,aI bU,List.map_append,List.map_cons,List.map_nil,cd];try exact cq)
  ·(simp only[go_sem,hD,hY,hZ,gA,iU,aI bU,List.map_append,List.map_cons,List.map_nil,cd];try exact cq)
theorem Cl {p:Pg} (hs:Pc.a7 p.procs<1000000000) (s:St):aF Tryz.prog kW [.agg (cD p)] s (.dB (fC p) 0) s:=by
 refine aF.pure ?_ (by simp only[D.bK,D.ok,jw];rfl) (by simp only[D.ok,uj]) s
 have h:=(ahq hs).AT (n:=0) (m:=0) rfl (Nat.le_refl _) (Nat.zero_le _) (Nat.le_refl _)
 simpa[D.gw,D.fg,Tag.fg,Rx,W6,XU,RL,St.cut,fC,S0]using h
def jg (x:aG) (k:Int):List aG→Int
 | []=> -1
 |s::l=>if x==s then k else jg x (k+1) l
def fy (l:List aG) (x:aG):Bool:=decide (jg x 0 l≥0)
def k8 {α:Type} (b:α→Bool) (k:Int):List α→Int
 | []=> -1
 |s::l=>if b s then k else k8 b (k+1) l
theorem L1 (x:aG) : ∀ (l:List aG) (k:Int),0≤k→(jg x k l≥0↔x∈l)
 | [],k,h=>by simp[jg]
 | s::l,k,h=>by
  by_cases e:x=s
  ·simp[jg,e];omega
  ·have e':(x==s)=false:=by simp [e]
   simp only[jg,e',Bool.false_eq_true,if_false,List.mem_cons,e,false_or]
   exact L1 x l (k+1) (by omega)
theorem jh (l:List aG) (x:aG):fy l x=true↔x∈l:=by
 simp only[fy,decide_eq_true_eq];exact L1 x l 0 (Int.le_refl 0)
theorem F7 {α:Type} (b:α→Bool) : ∀ (l:List α) (k:Int),0≤k→(k8 b k l≥0↔l.any b=true)
 | [],k,h=>by simp[k8]
 | s::l,k,h=>by
  by_cases e:b s=true
  ·simp[k8,e];omega
  ·have e':b s=false:=by simpa using e
   simp only[k8,e',Bool.false_eq_true,if_false,List.any_cons,Bool.or_eq_true,false_or]
   exact F7 b l (k+1) (by omega)
theorem Cm {l:List aG} (hl:l.length<4611686018427387904) (x:aG) (s:St):aF Tryz.prog fZ [.slice .shared 1 (l.map encStr), .str x] s (.int .i64 (jg x 0 l)) s:=by
 refine aF.pure ?_ (by simp[D.bK,D.ok,Tag.ok,fb]) rfl s
 generalize h:jg x 0 l=p
 unfold S0
 refine aF.go wh rfl fun B Q hB hQ=>?_
 have⟨hD,hY,hZ,gA⟩:=bN
 repeat' (first
 |simp only[go_sem,hD,hY,hZ,gA]
 |(with_reducible first|refine bn fun hc=>?_|refine bo fun hc=>?_|refine bp (fun hc=>?_) fun hc=>?_)<;>(try simp only[hc,bs,↓reduceIte]at h)<;>try simp only[hc]
 |(with_reducible refine aE hQ ?_;exact fX))
 refine fk 0 0 (bu.ind (ι:=List aG×Nat) (fun i=>l.drop i.2=i.1∧jg x (i.2:Int) i.1=p) (fun i=>i.1.length)
  (fun i=> [(0, .slice .shared 1 (l.map encStr)),(1, .str x),(7, .int .i64 (l.length:Int)),(8, .int .i64 (i.2:Int))]) (fun i=>⟨[],[]⟩) ?_ (l,0) ⟨rfl,h⟩)
 rintro⟨rest,k⟩ ⟨h1,h⟩ IH
 dsimp only at h1 h
 cases rest with
 |nil=>
  have hD:=drop_nil h1
  simp only[jg]at h
  repeat' (first
 |simp only[go_sem,hD,hY,hZ,gA]
 |(with_reducible first|refine bn fun hc=>?_|refine bo fun hc=>?_|refine bp (fun hc=>?_) fun hc=>?_)<;>(try simp only[hc,bs,↓reduceIte]at h)<;>try simp only[hc]
 |(with_reducible refine aE hQ ?_;exact fX))
 |cons a rest=>
  obtain⟨hY,g2,hD,g4⟩:=drop_cons h1
  have bU:k<4611686018427387904:=by omega
  simp only[jg]at h
  repeat' (first
 |simp only[go_sem,hD,hY,hZ,gA]
 |(with_reducible first|refine bn fun hc=>?_|refine bo fun hc=>?_|refine bp (fun hc=>?_) fun hc=>?_)<;>(try simp only[hc,bs,↓reduceIte]at h)<;>try simp only[hc]
 |(with_reducible refine aE hQ ?_;exact fX))
  refine eY 0 0 ?_ ?_ (IH (rest,k+1) ⟨g2,h⟩ (Nat.lt_succ_self _))
  ·(simp only[go_sem,hD,hY,hZ,gA,aI bU];try exact cq)
  ·(simp only[go_sem,hD,hY,hZ,gA,aI bU];try exact cq)
theorem rG {l:List aG} (hl:l.length<4611686018427387904) (x:aG) (s:St):aF Tryz.prog ct [.slice .shared 1 (l.map encStr), .str x] s (.bool (fy l x)) s:=by
 refine aF.pure ?_ (by simp[D.bK,D.ok,Tag.ok,fb]) rfl s
 have hi:=fun s=>Cm hl x s
 unfold S0
 refine aF.go uh rfl fun B Q hB hQ=>?_
 have⟨hD,hY,hZ,gA⟩:=bN
 repeat' (first
 |simp only[go_sem,hD,hY,hZ,gA,fy]
 |(with_reducible refine CU (hi _) ?_)
 |(with_reducible first|refine bn fun hc=>?_|refine bo fun hc=>?_|refine bp (fun hc=>?_) fun hc=>?_)<;>(try simp only[hc,bs,↓reduceIte]at h)<;>try simp only[hc]
 |(with_reducible refine aE hQ ?_;simp only[aT,aW,bE,bF,go_sem,hD,hY,hZ,gA,fy];try exact cm))
theorem aF.XY {P:Program} {f:Nat} {d d':D} {r:List D} {s s':St} {x:D} (h:aF P f (d'::r) s x s') (hw:Wk d d'):aF P f (d::r) s x s':=bM.q9 (.cons hw (jr.refl r)) h
theorem jC {l:List aG} (hl:l.length<4611686018427387904) (x:aG) (g:Tag) (s:St):aF Tryz.prog ct [.slice g 1 (l.map encStr), .str x] s (.bool (fy l x)) s:=
 (rG hl x s).XY (Wk.shared _ _ _)
theorem JO (x:aG) (z:Nat) (g:Tag) (s:St):aF Tryz.prog ct [.slice g z [], .str x] s (.bool false) s:=
 (rG (l:= []) (by simp) x s).XY (Wk.nil _ _ _)
theorem BE {l:List aG} (hl:l.length<4611686018427387904) {f:Nat} {row:List D} {b:aG→Bool} (uG:D.bK 0 0 row=true) (he:enters Tryz.prog f=true)
 (hb : ∀ x∈l,aF Tryz.prog f ([.str x]++ [.ptr 0 0]) ⟨[row],[]⟩ (.bool (b x)) ⟨[row],[]⟩) :
 aF Tryz.prog kX [.slice .shared 1 (l.map encStr), .gh f [.ptr 0 0]] ⟨[row],[]⟩ (.int .i64 (k8 b 0 l)) ⟨[row],[]⟩:=by
 generalize h:k8 b 0 l=p
 have k1 : ∀ n m,D.gw n m row=row:=fun n m=>ie n m _ uG
 refine aF.go tj rfl fun B Q hB hQ=>?_
 have⟨hD,hY,hZ,gA⟩:=bN
 repeat' (first
 |simp only[go_sem,hD,hY,hZ,gA,k1]
 |(with_reducible first|refine bn fun hc=>?_|refine bo fun hc=>?_|refine bp (fun hc=>?_) fun hc=>?_)<;>(try simp only[hc,bs,↓reduceIte]at h)<;>try simp only[hc]
 |(with_reducible refine aE hQ ?_;(try cases h);simp only[aT,aW,bE,bF,go_sem,hD,hY,hZ,gA,k1];try exact cm))
 refine eY 1 0 ?_ ?_ (bu.ind (ι:=List aG×Nat) (fun i=>l.drop i.2=i.1∧k8 b (i.2:Int) i.1=p) (fun i=>i.1.length)
  (fun i=> [(0, .slice .shared 1 (l.map encStr)),(1, .gh f [.ptr 0 0]),(7, .int .i64 (l.length:Int)),(8, .int .i64 (i.2:Int))]) (fun i=>⟨[row],[]⟩) ?_ (l,0) ⟨rfl,h⟩)
 ·(simp only[go_sem,hD,hY,hZ,gA,k1];try exact cq)
 ·(simp only[go_sem,hD,hY,hZ,gA,k1];try exact cq)
 rintro⟨rest,k⟩ ⟨h1,h⟩ IH
 dsimp only at h1 h
 cases rest with
 |nil=>
  have hD:=drop_nil h1
  simp only[k8]at h
  repeat' (first
 |simp only[go_sem,hD,hY,hZ,gA,k1]
 |(with_reducible first|refine bn fun hc=>?_|refine bo fun hc=>?_|refine bp (fun hc=>?_) fun hc=>?_)<;>(try simp only[hc,bs,↓reduceIte]at h)<;>try simp only[hc]
 |(with_reducible refine aE hQ ?_;(try cases h);simp only[aT,aW,bE,bF,go_sem,hD,hY,hZ,gA,k1];try exact cm))
 |cons a rest=>
  obtain⟨hY,g2,hD,g4⟩:=drop_cons h1
  have bU:k<4611686018427387904:=by omega
  have hba:=hb a (List.mem_of_getElem? hY)
  simp only[k8]at h
  repeat' (first
 |simp only[go_sem,hD,hY,hZ,gA,k1]
 |(with_reducible refine CV.use (he) (hba) ?_)
 |(with_reducible first|refine bn fun hc=>?_|refine bo fun hc=>?_|refine bp (fun hc=>?_) fun hc=>?_)<;>(try simp only[hc,bs,↓reduceIte]at h)<;>try simp only[hc]
 |(with_reducible refine aE hQ ?_;(try cases h);simp only[aT,aW,bE,bF,go_sem,hD,hY,hZ,gA,k1];try exact cm))
  refine eY 1 0 ?_ ?_ (IH (rest,k+1) ⟨g2,h⟩ (Nat.lt_succ_self _))
  ·(simp only[go_sem,hD,hY,hZ,gA,k1,aI bU];try exact cq)
  ·(simp only[go_sem,hD,hY,hZ,gA,k1,aI bU];try exact cq)
theorem BF {P:Program} {g f:Nat} {row:List D} {rows:List (List D)} {z:Nat} {d:D} (h:aF P g [.slice .shared z rows, .gh f [.ptr 0 0]] ⟨[row],[]⟩ d ⟨[row],[]⟩) (uG:D.bK 0 0 row=true) (hw:D.gU 0 0 rows=true) (hd:D.ok 0 0 d=true) {s:St} {o:Nat} (ho:s.ah[o]? = some row) :
 aF P g [.slice .shared z rows, .gh f [.ptr o 0]] s d s:=by
 refine bM.frame [o] [] h (by simp) List.nodup_nil (by simpa using (List.getElem?_eq_some_iff.1 ho).1) (by simp) rfl (fun i o' ds e1 e2=>?_) rfl (by simp) (by simp[D.e9,D.cW,Tag.cW,jm _ _ _ hw])
  (by simp[D.bK,D.ok,Tag.ok,mD (Nat.zero_le 1) (Nat.le_refl 0) _ hw]) ?_
 ·cases i with
  |zero=>simp at e1 e2;subst e1;subst e2;exact⟨by rw[fD _ _ _ uG];exact ho,iD (Nat.zero_le 1) (Nat.le_refl 0) _ uG⟩
  |succ i=>simp at e1
 ·rintro _ _ ⟨rfl,rfl⟩
  refine⟨qx _ _ _ hd, ?_⟩
  have:s.ah.set o row=s.ah:=by
   apply List.ext_getElem?
   intro i
   rw[List.getElem?_set]
   split
   ·rename_i e;subst e;rw [ho];split
    ·rfl
    ·rename_i hh;exact absurd (List.getElem?_eq_some_iff.1 ho).1 hh
   ·rfl
  simp[St.back,kH,fD _ _ _ uG,this]
theorem yD {l:List aG} (hl:l.length<4611686018427387904) {f:Nat} {row:List D} {b:aG→Bool} (uG:D.bK 0 0 row=true) (he:enters Tryz.prog f=true)
 (hb : ∀ x∈l,aF Tryz.prog f ([.str x]++ [.ptr 0 0]) ⟨[row],[]⟩ (.bool (b x)) ⟨[row],[]⟩) :
 aF Tryz.prog ga [.slice .shared 1 (l.map encStr), .gh f [.ptr 0 0]] ⟨[row],[]⟩ (.bool (l.any b)) ⟨[row],[]⟩:=by
 have k1 : ∀ n m,D.gw n m row=row:=fun n m=>ie n m _ uG
 have hi:=BE hl uG he hb
 have e:decide (k8 b 0 l≥0)=l.any b:=by
  have:=F7 b l 0 (Int.le_refl 0)
  cases hh:l.any b<;>simp_all
 refine aF.go rF rfl fun B Q hB hQ=>?_
 have⟨hD,hY,hZ,gA⟩:=bN
 repeat' (first
 |simp only[go_sem,hD,hY,hZ,gA,k1,e]
 |(with_reducible refine CU (hi) ?_)
 |(with_reducible first|refine bn fun hc=>?_|refine bo fun hc=>?_|refine bp (fun hc=>?_) fun hc=>?_)<;>(try simp only[hc,bs,↓reduceIte]at h)<;>try simp only[hc]
 |(with_reducible refine aE hQ ?_;simp only[aT,aW,bE,bF,go_sem,hD,hY,hZ,gA,k1,e];try exact cm))
theorem yE {l:List aG} (hl:l.length<4611686018427387904) {f:Nat} {row:List D} {b:aG→Bool} (uG:D.bK 0 0 row=true) (he:enters Tryz.prog f=true)
 (hb : ∀ x∈l,aF Tryz.prog f ([.str x]++ [.ptr 0 0]) ⟨[row],[]⟩ (.bool (b x)) ⟨[row],[]⟩) {s:St} {o:Nat} (ho:s.ah[o]? = some row) :
 aF Tryz.prog ga [.slice .shared 1 (l.map encStr), .gh f [.ptr o 0]] s (.bool (l.any b)) s:=
 BF (yD hl uG he hb) uG (fb l) rfl ho
theorem vH {l:List Pc} (hl:l.length<4611686018427387904) {f:Nat} {row:List D} {b:Pc→Bool} (uG:D.bK 0 0 row=true) (he:enters Tryz.prog f=true)
 (hb : ∀ x∈l,aF Tryz.prog f ([.agg (cu x)]++ [.ptr 0 0]) ⟨[row],[]⟩ (.bool (b x)) ⟨[row],[]⟩) :
 aF Tryz.prog gj [.slice .shared 5 (l.map cu), .gh f [.ptr 0 0]] ⟨[row],[]⟩ (.int .i64 (k8 b 0 l)) ⟨[row],[]⟩:=by
 generalize h:k8 b 0 l=p
 have k1 : ∀ n m,D.gw n m row=row:=fun n m=>ie n m _ uG
 refine aF.go rR rfl fun B Q hB hQ=>?_
 have⟨hD,hY,hZ,gA⟩:=bN
 repeat' (first
 |simp only[go_sem,hD,hY,hZ,gA,k1]
 |(with_reducible first|refine bn fun hc=>?_|refine bo fun hc=>?_|refine bp (fun hc=>?_) fun hc=>?_)<;>(try simp only[hc,bs,↓reduceIte]at h)<;>try simp only[hc]
 |(with_reducible refine aE hQ ?_;(try cases h);simp only[aT,aW,bE,bF,go_sem,hD,hY,hZ,gA,k1];try exact cm))
 refine eY 1 0 ?_ ?_ (bu.ind (ι:=List Pc×Nat) (fun i=>l.drop i.2=i.1∧k8 b (i.2:Int) i.1=p) (fun i=>i.1.length)
  (fun i=> [(0, .slice .shared 5 (l.map cu)),(1, .gh f [.ptr 0 0]),(7, .int .i64 (l.length:Int)),(8, .int .i64 (i.2:Int))]) (fun i=>⟨[row],[]⟩) ?_ (l,0) ⟨rfl,h⟩)
 ·(simp only[go_sem,hD,hY,hZ,gA,k1];try exact cq)
 ·(simp only[go_sem,hD,hY,hZ,gA,k1];try exact cq)
 rintro⟨rest,k⟩ ⟨h1,h⟩ IH
 dsimp only at h1 h
 cases rest with
 |nil=>
  have hD:=drop_nil h1
  simp only[k8]at h
  repeat' (first
 |simp only[go_sem,hD,hY,hZ,gA,k1]
 |(with_reducible first|refine bn fun hc=>?_|refine bo fun hc=>?_|refine bp (fun hc=>?_) fun hc=>?_)<;>(try simp only[hc,bs,↓reduceIte]at h)<;>try simp only[hc]
 |(with_reducible refine aE hQ ?_;(try cases h);simp only[aT,aW,bE,bF,go_sem,hD,hY,hZ,gA,k1];try exact cm))
 |cons a rest=>
  obtain⟨hY,g2,hD,g4⟩:=drop_cons h1
  have bU:k<4611686018427387904:=by omega
  have hba:=hb a (List.mem_of_getElem? hY)
  simp only[k8]at h
  repeat' (first
 |simp only[go_sem,hD,hY,hZ,gA,k1]
 |(with_reducible refine CV.use (he) (hba) ?_)
 |(with_reducible first|refine bn fun hc=>?_|refine bo fun hc=>?_|refine bp (fun hc=>?_) fun hc=>?_)<;>(try simp only[hc,bs,↓reduceIte]at h)<;>try simp only[hc]
 |(with_reducible refine aE hQ ?_;(try cases h);simp only[aT,aW,bE,bF,go_sem,hD,hY,hZ,gA,k1];try exact cm))
  refine eY 1 0 ?_ ?_ (IH (rest,k+1) ⟨g2,h⟩ (Nat.lt_succ_self _))
  ·(simp only[go_sem,hD,hY,hZ,gA,k1,aI bU];try exact cq)
  ·(simp only[go_sem,hD,hY,hZ,gA,k1,aI bU];try exact cq)
theorem AJ {l:List Pc} (hl:l.length<4611686018427387904) {f:Nat} {row:List D} {b:Pc→Bool} (uG:D.bK 0 0 row=true) (he:enters Tryz.prog f=true)
 (hb : ∀ x∈l,aF Tryz.prog f ([.agg (cu x)]++ [.ptr 0 0]) ⟨[row],[]⟩ (.bool (b x)) ⟨[row],[]⟩) :
 aF Tryz.prog gQ [.slice .shared 5 (l.map cu), .gh f [.ptr 0 0]] ⟨[row],[]⟩ (.bool (l.any b)) ⟨[row],[]⟩:=by
 have k1 : ∀ n m,D.gw n m row=row:=fun n m=>ie n m _ uG
 have hi:=vH hl uG he hb
 have e:decide (k8 b 0 l≥0)=l.any b:=by
  have:=F7 b l 0 (Int.le_refl 0)
  cases hh:l.any b<;>simp_all
 refine aF.go qC rfl fun B Q hB hQ=>?_
 have⟨hD,hY,hZ,gA⟩:=bN
 repeat' (first
 |simp only[go_sem,hD,hY,hZ,gA,k1,e]
 |(with_reducible refine CU (hi) ?_)
 |(with_reducible first|refine bn fun hc=>?_|refine bo fun hc=>?_|refine bp (fun hc=>?_) fun hc=>?_)<;>(try simp only[hc,bs,↓reduceIte]at h)<;>try simp only[hc]
 |(with_reducible refine aE hQ ?_;simp only[aT,aW,bE,bF,go_sem,hD,hY,hZ,gA,k1,e];try exact cm))
mutual
def Sm.pre:Sm→List Sm
 |⟨id,kind,labels,name,pc,x,has,args,a8,aR⟩=>⟨id,kind,labels,name,pc,x,has,args,a8,aR⟩::(Sm.de a8++Sm.de aR)
def Sm.de:List Sm→List Sm
 | []=> []
 |s::l=>s.pre++Sm.de l
end
def Pg.pre (p:Pg):List Sm:=(p.procs.map fun f=>Sm.de f.body).flatten
theorem Sm.qe (s:Sm):s.pre=s::(Sm.de s.a8++Sm.de s.aR):=by cases s;simp only[Sm.pre]
mutual
theorem ZK (proc up next loop:Int) (out:List Im) : ∀ s:Sm,∃ e:List Im,Im.one proc up next loop out s=out++e∧e.map Im.s=s.pre
 |⟨id,kind,labels,name,pc,x,has,args,a8,aR⟩=>by
  simp only[Im.one,Sm.pre]
  obtain⟨e1,h1,k1⟩:=zA proc ((out.length:Int)+1) (if kind==6 then(out.length:Int)+1 else next) (if kind==6 then(out.length:Int)+1 else loop) (out++ [⟨⟨id,kind,labels,name,pc,x,has,args,a8,aR⟩,proc,up,next,loop⟩]) a8
  obtain⟨e2,h2,k2⟩:=zA proc ((out.length:Int)+1) (if kind==6 then(out.length:Int)+1 else next) (if kind==6 then(out.length:Int)+1 else loop) (Im.rows proc ((out.length:Int)+1) (if kind==6 then(out.length:Int)+1 else next) (if kind==6 then(out.length:Int)+1 else loop) (out++ [⟨⟨id,kind,labels,name,pc,x,has,args,a8,aR⟩,proc,up,next,loop⟩]) a8) aR
  refine⟨⟨⟨id,kind,labels,name,pc,x,has,args,a8,aR⟩,proc,up,next,loop⟩::(e1++e2), ?_, ?_⟩
  ·rw[h2,h1];simp
  ·simp[k1,k2]
theorem zA (proc up next loop:Int) (out:List Im) : ∀ l:List Sm,∃ e:List Im,Im.rows proc up next loop out l=out++e∧e.map Im.s=Sm.de l
 | []=>⟨[],by simp[Im.rows],rfl⟩
 |s::l=>by
  simp only[Im.rows,Sm.de]
  obtain⟨e1,h1,k1⟩:=ZK proc up (if l.length=0 then next else(out.length:Int)+1+(s.jy:Int)) loop out s
  obtain⟨e2,h2,k2⟩:=zA proc up next loop (Im.one proc up (if l.length=0 then next else(out.length:Int)+1+(s.jy:Int)) loop out s) l
  refine⟨e1++e2, ?_,by simp[k1,k2]⟩
  rw[h2,h1];simp
end
theorem RN : ∀ (l:List Pc) (n:Nat) (h:Sh),h.lo.length=n→h.hi.length=n→
 ∃ e lo hi,Sh.go n h l = ⟨h.L++e,h.lo++lo,h.hi++hi⟩∧e.map Im.s=(l.map fun f=>Sm.de f.body).flatten∧lo.length=l.length∧hi.length=l.length∧
  ∀ (i:Nat) (f:Pc),l[i]? = some f→∃ a b e' LF:List Im,lo[i]? = some (((h.L++a).length:Int)+1)∧hi[i]? = some (((h.L++a++b).length:Int)+1)∧b.map Im.s=Sm.de f.body∧e=a++b++e'
 | [],n,h,hl,hh=>⟨[],[],[],by simp[Sh.go],rfl,rfl,rfl,fun i f h=>by simp at h⟩
 | f::l,n,h,hl,hh=>by
  simp only[Sh.go]
  obtain⟨e1,h1,k1⟩:=zA (n:Int) 0 (-1) 0 h.L f.body
  obtain⟨e2,lo,hi,h2,k2,h3,h4,h5⟩:=RN l (n+1) ⟨Im.rows (n:Int) 0 (-1) 0 h.L f.body,h.lo++ [(h.L.length:Int)+1],h.hi++ [((Im.rows (n:Int) 0 (-1) 0 h.L f.body).length:Int)+1]⟩ (by simp[hl]) (by simp[hh])
  refine⟨e1++e2,((h.L.length:Int)+1)::lo,(((Im.rows (n:Int) 0 (-1) 0 h.L f.body).length:Int)+1)::hi, ?_,by simp[k1,k2],by simp[h3],by simp[h4],fun i g ib=>?_⟩
  ·rw[h2,h1];simp
  ·cases i with
   |zero=>
    simp only[List.getElem?_cons_zero,Option.some.injEq]at ib
    subst ib
    exact⟨[],e1,e2,[],by simp,by rw[h1];simp,k1,by simp⟩
   |succ i=>
    simp only[List.getElem?_cons_succ]at ib
    obtain⟨a,b,e',LF,g1,g2,g3,g4⟩:=h5 i g ib
    refine⟨e1++a,b,e',LF, ?_, ?_,g3,by rw[g4];simp⟩
    ·rw[List.getElem?_cons_succ,g1,h1];simp
    ·rw[List.getElem?_cons_succ,g2,h1];simp
theorem lk (p:Pg):p.aY.L.map Im.s=p.pre∧∀ (i:Nat) (f:Pc),p.procs[i]? = some f→∃ a b e:List Im,p.aY.lo[i]? = some ((a.length:Int)+1)∧p.aY.hi[i]? = some (((a++b).length:Int)+1)∧b.map Im.s=Sm.de f.body∧p.aY.L=a++b++e:=by
 obtain⟨e,lo,hi,h1,h2,h3,h4,h5⟩:=RN p.procs 0 ⟨[],[],[]⟩ rfl rfl
 unfold Pg.aY
 rw[h1]
 refine⟨by simpa[Pg.pre]using h2,fun i f hf=>?_⟩
 obtain⟨a,b,e',_,g1,g2,g3,g4⟩:=h5 i f hf
 exact⟨a,b,e',by simpa using g1,by simpa using g2,g3,by simpa using g4⟩
def Pg.at (p:Pg) (name:aG):Int:=k8 (fun f:Pc=>f.name==name) 0 p.procs
theorem ZL (name:aG) (f:Pc):aF Tryz.prog lP ([.agg (cu f)]++ [.ptr 0 0]) ⟨[[.str name]],[]⟩ (.bool (f.name==name)) ⟨[[.str name]],[]⟩:=by
 show aF Tryz.prog lP [.agg (cu f), .ptr 0 0] _ _ _
 refine aF.go yp rfl fun B Q hB hQ=>?_
 have⟨hD,hY,hZ,gA⟩:=bN
 repeat' (first
 |simp only[go_sem,hD,hY,hZ,gA]
 |(with_reducible refine aE hQ ?_;exact bd))
theorem EM {p:Pg} (hs:p.procs.length<4611686018427387904) (name:aG) (s:St):aF Tryz.prog iE [.dB (fC p) 0, .str name] s (.int .i64 (p.at name)) s:=by
 refine aF.pure ?_ (by simp[D.bK,D.ok,uj]) rfl s
 have hi:=fun {s:St} {o:Nat} (ho:s.ah[o]? = some [.str name])=>BF (vH (l:=p.procs) (f:=lP) (row:= [.str name]) (b:=fun f:Pc=>f.name==name) hs rfl (by with_unfolding_all rfl) (fun x _=>ZL name x)) rfl (wE _) rfl ho
 have ib:=fun {s:St} {o:Nat} (ho:s.ah[o]? = some [.str name])=>(show aF Tryz.prog gj [.slice .shared 5 (p.procs.map cu), .gh 76 [.ptr o 0]] s (.int .i64 (p.at name)) s from hi ho)
 unfold S0
 rw[n9]
 refine aF.go AG rfl fun B Q hB hQ=>?_
 have⟨hD,hY,hZ,gA⟩:=bN
 repeat' (first
 |simp only[go_sem,hD,hY,hZ,gA]
 |(with_reducible refine CU (ib (by with_unfolding_all rfl)) ?_)
 |(with_reducible refine aE hQ ?_;exact bd))
theorem RO : ∀ (l:List Pc) (n:Nat) (h:Sh),(Sh.go n h l).L.length≤h.L.length+Pc.a7 l
 | [],n,h=>by simp[Sh.go]
 |f::l,n,h=>by
  simp only[Sh.go]
  refine Nat.le_trans (RO l _ _) ?_
  have:=gG (n:Int) 0 (-1) 0 h.L f.body
  have:=nP f.body
  simp only[Pc.a7,Pc.size];omega
theorem pj (p:Pg):p.aY.L.length≤Pc.a7 p.procs:=by have:=RO p.procs 0 ⟨[],[],[]⟩;simpa[Pg.aY]using this
theorem adk {p:Pg} {i:Nat} (hs:Pc.a7 p.procs<1000000000) {a b e:List Im} (h1:p.aY.lo[i]? = some ((a.length:Int)+1)) (h2:p.aY.hi[i]? = some (((a++b).length:Int)+1)) (h4:p.aY.L=a++b++e) (s:St) :
 aF Tryz.prog gP [.dB (fC p) 0, .int .i64 (i:Int)] s (.slice .shared 17 (b.map dz)) s:=by
 refine aF.pure ?_ (by simp[D.bK,D.ok,uj]) (by simp[D.ok,Tag.ok,Il]) s
 have hL:p.aY.L.length<1000000000:=Nat.lt_of_le_of_lt (pj p) hs
 have l1:(i:Int)<(p.aY.lo.length:Int):=by have:=(List.getElem?_eq_some_iff.1 h1).1;omega
 have l2:(i:Int)<(p.aY.hi.length:Int):=by have:=(List.getElem?_eq_some_iff.1 h2).1;omega
 have XZ:a.length+b.length≤p.aY.L.length:=by rw[h4];simp
 have w1:IntKind.wrap .i64 ((a.length:Int)+1 - 1)=(a.length:Int):=by rw[show(a.length:Int)+1 - 1=(a.length:Int) by omega];exact dX (by omega) (by omega)
 have w2:IntKind.wrap .i64 (((a.length+b.length:Nat):Int)+1 - 1)=((a.length+b.length:Nat):Int):=by rw[show((a.length+b.length:Nat):Int)+1 - 1=((a.length+b.length:Nat):Int) by omega];exact dX (by omega) (by omega)
 have c1:((a.length:Int)≤((a.length+b.length:Nat):Int))=True:=by simp only[eq_iff_iff,iff_true];omega
 have c2:(((a.length+b.length:Nat):Int)≤(p.aY.L.length:Int))=True:=by simp only[eq_iff_iff,iff_true];omega
 have hb:List.drop a.length (List.take (a.length+b.length) (List.map dz p.aY.L))=List.map dz b:=by rw[h4];simp[List.map_append,List.take_append,List.drop_append]
 unfold S0
 rw[n9]
 refine aF.go CN rfl fun B Q hB hQ=>?_
 have⟨hD,hY,hZ,gA⟩:=bN
 repeat' (first
 |simp only[go_sem,hD,hY,hZ,gA,h1,h2,List.length_append,w1,w2,c1,c2,or_true,true_and,and_self,ite_self,Int.toNat_natCast,hb]
 |(with_reducible first|refine bn fun hc=>?_|refine bo fun hc=>?_|refine bp (fun hc=>?_) fun hc=>?_)<;>(try simp only[hc,bs,↓reduceIte]at h)<;>try simp only[hc]
 |(with_reducible refine aE hQ ?_;(try cases h);simp only[aT,aW,bE,bF,go_sem,hD,hY,hZ,gA,h1,h2,List.length_append,w1,w2,c1,c2,or_true,true_and,and_self,ite_self,Int.toNat_natCast,hb];try exact cm)
 |(cases h;done))
theorem Vi {p:Pg} {i:Nat} {f:Pc} (hf:p.procs[i]? = some f) (hs:Pc.a7 p.procs<1000000000) : ∃ it:List Im,it.map Im.s=Sm.de f.body∧∀ s,aF Tryz.prog gP [.dB (fC p) 0, .int .i64 (i:Int)] s (.slice .shared 17 (it.map dz)) s:=by
 obtain⟨a,b,e,h1,h2,h3,h4⟩:=(lk p).2 i f hf
 exact⟨b,h3,adk hs h1 h2 h4⟩
theorem G2 {r:aG} : Ck r=true↔ph r=r.length:=by
 induction r with
 |nil=>simp[Ck,ph]
 |cons c r ih=>
  simp only[Ck,ph]
  cases h1:BD c<;>cases h2:EJ c<;>simp[ih]
theorem BG (t:aG) (hl:t.length<4611686018427387904) (s:St):aF Tryz.prog n6 [.str t] s (.bool (isName t)) s:=by
 refine aF.pure ?_ rfl rfl s
 have hr:=fun s=>ahj (pos:=0) hl s
 simp only[List.drop_zero,Nat.zero_add]at hr
 unfold S0
 cases t with
 |nil=>
  have z:decide (((0:Nat):Int)<1)=true:=rfl
  have z':decide ((0:Int)<1)=true:=rfl
  have e:isName [] = false:=rfl
  rw[e]
  refine aF.go nu rfl fun B Q hB hQ=>?_
  have⟨hD,hY,hZ,gA⟩:=bN
  repeat' (first
 |simp only[go_sem,hD,hY,hZ,gA,z,z']
 |(with_reducible refine aE hQ ?_;exact bd))
 | cons c r=>
  have l1:decide (((r.length+1:Nat):Int)<1)=false:=by simp;omega
  generalize h:isName (c::r)=p
  simp only[isName]at h
  cases hL:BD c
  ·simp only [hL,Bool.not_false,Bool.or_true, ↓reduceIte]at h
   subst h
   by_cases c8:decide (((r.length+1:Nat):Int) > 8)=true
   ·refine aF.go nu rfl fun B Q hB hQ=> ?_
    have⟨hD,hY,hZ,gA⟩:=bN
    repeat' (first
 |simp only[go_sem,hD,hY,hZ,gA,l1,c8]
 | (with_reducible refine aE hQ ?_;exact bd))
   ·have c8:decide (((r.length+1:Nat):Int) > 8)=false:=by simpa using c8
    refine aF.go nu rfl fun B Q hB hQ=>?_
    have⟨hD,hY,hZ,gA⟩:=bN
    repeat' (first
 |simp only[go_sem,hD,hY,hZ,gA,l1,c8,hL]
 |(with_reducible refine CU (sn _ _) ?_)
 | (with_reducible refine aE hQ ?_;exact bd))
  ·simp only [hL,Bool.not_true,Bool.or_false]at h
   by_cases c8:decide (((r.length+1:Nat):Int) > 8)=true
   ·simp only [c8, ↓reduceIte]at h
    subst h
    refine aF.go nu rfl fun B Q hB hQ=>?_
    have⟨hD,hY,hZ,gA⟩:=bN
    repeat' (first
 |simp only[go_sem,hD,hY,hZ,gA,l1,c8]
 | (with_reducible refine aE hQ ?_;exact bd))
   ·have c8:decide (((r.length+1:Nat):Int) > 8)=false:=by simpa using c8
    simp only[c8,Bool.false_eq_true,↓reduceIte]at h
    have dI:ph (c::r)=ph r+1:=by simp[ph,hL]
    cases hn:Ck r
    ·simp only [hn,Bool.false_eq_true, ↓reduceIte]at h
     have:ph r≠r.length:=fun e=>by rw[G2.2 e]at hn;cases hn
     have e:(((ph (c::r):Nat):Int)==((r.length+1:Nat):Int))=false:=by rw[dI];simp;omega
     subst h
     refine aF.go nu rfl fun B Q hB hQ=>?_
     have⟨hD,hY,hZ,gA⟩:=bN
     repeat' (first
 |simp only[go_sem,hD,hY,hZ,gA,l1,c8,hL,e]
 |(with_reducible refine CU (sn _ _) ?_)
 |(with_reducible refine CU (hr _) ?_)
 | (with_reducible refine aE hQ ?_;exact bd))
    ·simp only [hn, ↓reduceIte]at h
     have:=G2.1 hn
     have e:(((ph (c::r):Nat):Int)==((r.length+1:Nat):Int))=true:=by rw[dI];simp;omega
     subst h
     refine aF.go nu rfl fun B Q hB hQ=>?_
     have⟨hD,hY,hZ,gA⟩:=bN
     repeat' (first
 |simp only[go_sem,hD,hY,hZ,gA,l1,c8,hL,e]
 |(with_reducible refine CU (sn _ _) ?_)
 |(with_reducible refine CU (hr _) ?_)
 |(with_reducible refine CU (adb _ _) ?_)
 |(with_reducible refine aE hQ ?_;exact bd))
theorem L2 (op:Int) (s:St):aF Tryz.prog xB [.int .i64 op] s (.int .i64 (oo op)) s:=by
 refine aF.pure ?_ rfl rfl s
 unfold S0
 generalize h:oo op=p
 unfold oo at h
 refine aF.go HY rfl fun B Q hB hQ=>?_
 have⟨hD,hY,hZ,gA⟩:=bN
 repeat' (first
 |simp only[go_sem,hD,hY,hZ,gA]
 |(with_reducible first|refine bn fun hc=>?_|refine bo fun hc=>?_|refine bp (fun hc=>?_) fun hc=>?_)<;>(try simp only[hc,bs,↓reduceIte]at h)<;>try simp only[hc]
 |(with_reducible refine aE hQ ?_;exact fX))
theorem zB {l:List aG} (hl:l.length<4611686018427387904) (hs : ∀ t∈l,t.length<4611686018427387904) (s:St):aF Tryz.prog np [.slice .shared 1 (l.map encStr)] s (.bool (fc l)) s:=by
 refine aF.pure ?_ (by simp[D.bK,D.ok,fb,Tag.ok]) rfl s
 unfold S0
 generalize h:fc l=p
 refine aF.go FY rfl fun B Q hB hQ=>?_
 have⟨hD,hY,hZ,gA⟩:=bN
 repeat' (first
 |simp only[go_sem,hD,hY,hZ,gA]
 |(with_reducible first|refine bn fun hc=>?_|refine bo fun hc=>?_|refine bp (fun hc=>?_) fun hc=>?_)<;>(try simp only[hc,bs,↓reduceIte]at h)<;>try simp only[hc]
 |(with_reducible refine aE hQ ?_;exact fX))
 refine fk 0 0 (bu.ind (ι:=List aG×Nat) (fun i=>l.drop i.2=i.1∧fc i.1=p) (fun i=>i.1.length)
  (fun i=> [(5, .slice .shared 1 (l.map encStr)),(6, .int .i64 (l.length:Int)),(7, .int .i64 (i.2:Int))]) (fun i=>⟨[],[]⟩) ?_ (l,0) ⟨rfl,h⟩)
 rintro⟨rest,k⟩ ⟨h1,h⟩ IH
 dsimp only at h1 h
 cases rest with
 |nil=>
  have hD:=drop_nil h1
  simp only[fc]at h
  repeat' (first
 |simp only[go_sem,hD,hY,hZ,gA]
 |(with_reducible first|refine bn fun hc=>?_|refine bo fun hc=>?_|refine bp (fun hc=>?_) fun hc=>?_)<;>(try simp only[hc,bs,↓reduceIte]at h)<;>try simp only[hc]
 |(with_reducible refine aE hQ ?_;exact fX))
 |cons t rest=>
  obtain⟨hY,g2,hD,g4⟩:=drop_cons h1
  have hZ:k<4611686018427387904:=by omega
  have hn:=BG t (hs t (List.mem_of_getElem? hY))
  simp only[fc]at h
  repeat' (first
 |simp only[go_sem,hD,hY,hZ,gA]
 |(with_reducible refine CU (hn _) ?_)
 |(with_reducible first|refine bn fun hc=>?_|refine bo fun hc=>?_|refine bp (fun hc=>?_) fun hc=>?_)<;>(try simp only[hc,bs,↓reduceIte]at h)<;>try simp only[hc]
 |(with_reducible refine aE hQ ?_;exact fX))
  refine fk 0 0 (IH (rest,k+1) ⟨g2,h⟩ (Nat.lt_succ_self _))
mutual
def Ex.dp (left:Int):Ex→Bool
 |⟨op,n,name,kids⟩=>
  if decide (left<1) ||(kids.length:Int) != oo op then false
  else if op==1 then decide (n≥0) && name == []
  else if op==2 then n==0 && isName name
  else if n != 0 || !(name == [])then false
  else Ex.BH (left - 1) kids
def Ex.BH (left:Int):List Ex→Bool
 | []=>true
 |x::l=>if !(Ex.dp left x)then false else Ex.BH left l
end
theorem ZM : ∀ (m:Nat) (x:Ex),x.size≤m→x.size<4611686018427387904→x.texts→∀ left:Int,0≤left→left≤100→∀ s:St,aF Tryz.prog qb [.agg (cb x), .int .i64 left] s (.bool (x.dp left)) s:=by
 intro m
 induction m with
 |zero=>rintro⟨op,v,name,kids⟩ h;simp only[Ex.size]at h;omega
 | succ m ih=>
  rintro⟨op,v,name,kids⟩ h hx ht left h0 Vj s
  refine aF.pure ?_ (by simp[D.bK,D.ok,lV]) rfl s
  have hlen:kids.length<4611686018427387904:=by simp only[Ex.size]at hx;have:=Ex.eI kids;omega
  have hn:=BG name ht.1
  generalize hp:Ex.dp left ⟨op,v,name,kids⟩=p
  simp only[Ex.dp]at hp
  unfold S0
  by_cases vI:left<1
  ·have d1:decide (left<1)=true:=by simpa using vI
   simp only[d1,Bool.true_or,↓reduceIte]at hp
   subst hp
   refine aF.go Au rfl fun B Q hB hQ=>?_
   have⟨hD,hY,hZ,gA⟩:=bN
   repeat' (first
 |simp only[go_sem,hD,hY,hZ,gA,d1]
 |(with_reducible refine CU (L2 _ _) ?_)
 |(with_reducible refine CU (hn _) ?_)
 | (with_reducible refine aE hQ ?_;exact bd))
  ·have d1:decide (left<1)=false:=by simpa using vI
   have w1:IntKind.wrap .i64 (left - 1)=left - 1:=dX (by omega) (by omega)
   have hk : ∀ y∈kids,∀ s,aF Tryz.prog qb [.agg (cb y), .int .i64 (left - 1)] s (.bool (y.dp (left - 1))) s:=fun y hy s=>
    ih y (by simp only[Ex.size]at h;have:=Ex.dn hy;omega) (by simp only[Ex.size]at hx;have:=Ex.dn hy;omega) (Ex.RG ht hy) (left - 1) (by omega) (by omega) s
   simp only[d1,Bool.false_or]at hp
   have h:=hp
   clear hp
   refine aF.go Au rfl fun B Q hB hQ=>?_
   have⟨hD,hY,hZ,gA⟩:=bN
   repeat' (first
 |simp only[go_sem,hD,hY,hZ,gA,d1]
 |(with_reducible refine CU (L2 _ _) ?_)
 |(with_reducible refine CU (hn _) ?_)
 |(with_reducible first|refine bn fun hc=>?_|refine bo fun hc=>?_|refine bp (fun hc=>?_) fun hc=>?_)<;>(try simp only[hc,bs,↓reduceIte]at h)<;>try simp only[hc]
 | (with_reducible refine aE hQ ?_;(try cases h);simp only [aT,aW,bE,bF,go_sem,hD,hY,hZ,gA,d1];repeat' (first | exact Ok.out | with_reducible refine ja ?_ ?_ | (simp;done))))
   all_goals
    refine fk 1 0 (bu.ind (ι:=List Ex×Nat) (fun i=>kids.drop i.2=i.1∧Ex.BH (left - 1) i.1=p) (fun i=>i.1.length)
     (fun i=> [(1, .int .i64 left),(49, .slice .shared 4 (kids.map cb)),(50, .int .i64 (kids.length:Int)),(51, .int .i64 (i.2:Int))]) (fun i=>⟨[cb ⟨op,v,name,kids⟩],[]⟩) ?_ (kids,0) ⟨rfl,h⟩)
    rintro⟨rest,k⟩ ⟨h1,h⟩ IH
    dsimp only at h1 h
    cases rest with
    |nil=>
     have hD:=drop_nil h1
     simp only[Ex.BH]at h
     repeat' (first
 |simp only[go_sem,hD,hY,hZ,gA]
 |(with_reducible first|refine bn fun hc=>?_|refine bo fun hc=>?_|refine bp (fun hc=>?_) fun hc=>?_)<;>(try simp only[hc,bs,↓reduceIte]at h)<;>try simp only[hc]
 |(with_reducible refine aE hQ ?_;exact fX)
 | (cases h;done))
    |cons y rest=>
     obtain⟨hY,g2,hD,g4⟩:=drop_cons h1
     have hy:=hk y (List.mem_of_getElem? hY)
     have hZ:k<4611686018427387904:=by omega
     simp only[Ex.BH]at h
     repeat' (first
 |simp only[go_sem,hD,hY,hZ,gA,w1]
 |(with_reducible refine CU (hy _) ?_)
 |(with_reducible first|refine bn fun hc=>?_|refine bo fun hc=>?_|refine bp (fun hc=>?_) fun hc=>?_)<;>(try simp only[hc,bs,↓reduceIte]at h)<;>try simp only[hc]
 |(with_reducible refine aE hQ ?_;(try cases h);simp only[aT,aW,bE,bF,go_sem,hD,hY,hZ,gA,w1];try exact cm))
     refine fk 1 0 (IH (rest,k+1) ⟨g2,h⟩ (Nat.lt_succ_self _))
theorem zC {x:Ex} (hx:x.size<4611686018427387904) (ht:x.texts) (s:St):aF Tryz.prog nn [.agg (cb x)] s (.bool (x.dp 20)) s:=by
 refine aF.pure ?_ (by simp[D.bK,D.ok,lV]) rfl s
 have hd:=fun s=>ZM _ x (Nat.le_refl _) hx ht 20 (by omega) (by omega) s
 unfold S0
 refine aF.go DG rfl fun B Q hB hQ=>?_
 have⟨hD,hY,hZ,gA⟩:=bN
 repeat' (first
 |simp only[go_sem,hD,hY,hZ,gA]
 |(with_reducible refine CU (hd _) ?_)
 |(with_reducible refine aE hQ ?_;exact bd))
theorem ZN (x:Ex) (s:St):aF Tryz.prog xE [.agg (cb x)] s (.bool x.none) s:=by
 refine aF.pure ?_ (by simp[D.bK,D.ok,lV]) rfl s
 unfold S0
 generalize h:Ex.none x=p
 unfold Ex.none at h
 refine aF.go H0 rfl fun B Q hB hQ=>?_
 have⟨hD,hY,hZ,gA⟩:=bN
 repeat' (first
 |simp only[go_sem,hD,hY,hZ,gA]
 |(with_reducible first|refine bn fun hc=>?_|refine bo fun hc=>?_|refine bp (fun hc=>?_) fun hc=>?_)<;>(try simp only[hc,bs,↓reduceIte]at h)<;>try simp only[hc]
 |(with_reducible refine aE hQ ?_;exact fX))
def tq (t:aG) (is:Bool):Bool:=(is && isName t) ||(!is && t == [])
theorem DJ (t:aG) (is:Bool) (hl:t.length<4611686018427387904) (s:St):aF Tryz.prog pd [.str t, .bool is] s (.bool (tq t is)) s:=by
 refine aF.pure ?_ rfl rfl s
 have hn:=BG t hl
 unfold S0
 generalize h:tq t is=p
 unfold tq at h
 refine aF.go F4 rfl fun B Q hB hQ=>?_
 have⟨hD,hY,hZ,gA⟩:=bN
 repeat' (first
 |simp only[go_sem,hD,hY,hZ,gA]
 |(with_reducible refine CU (hn _) ?_)
 |(with_reducible first|refine bn fun hc=>?_|refine bo fun hc=>?_|refine bp (fun hc=>?_) fun hc=>?_)<;>(try simp only[hc,bs,↓reduceIte]at h)<;>try simp only[hc]
 |(with_reducible refine aE hQ ?_;exact fX))
def vJ (x:Ex) (is:Bool):Bool:=(is && x.dp 20) ||(!is && x.none)
theorem L3 {x:Ex} (is:Bool) (hx:x.size<4611686018427387904) (ht:x.texts) (s:St):aF Tryz.prog rz [.agg (cb x), .bool is] s (.bool (vJ x is)) s:=by
 refine aF.pure ?_ (by simp[D.bK,D.ok,lV]) rfl s
 have hm:=zC hx ht
 unfold S0
 generalize h:vJ x is=p
 unfold vJ at h
 refine aF.go F5 rfl fun B Q hB hQ=>?_
 have⟨hD,hY,hZ,gA⟩:=bN
 repeat' (first
 |simp only[go_sem,hD,hY,hZ,gA]
 |(with_reducible refine CU (hm _) ?_)
 |(with_reducible refine CU (ZN _ _) ?_)
 |(with_reducible first|refine bn fun hc=>?_|refine bo fun hc=>?_|refine bp (fun hc=>?_) fun hc=>?_)<;>(try simp only[hc,bs,↓reduceIte]at h)<;>try simp only[hc]
 |(with_reducible refine aE hQ ?_;exact fX))
def pI:List Ar→Bool
 | []=>true
 |a::l=>if !(tq a.name a.ref) || !(vJ a.x !a.ref)then false else pI l
theorem Vk {l:List Ar} (hl:l.length<4611686018427387904) (hs : ∀ a∈l,a.x.size<4611686018427387904∧a.x.texts∧a.name.length<4611686018427387904) (s:St) :
 aF Tryz.prog tZ [.slice .shared 6 (l.map eB)] s (.bool (pI l)) s:=by
 refine aF.pure ?_ (by simp[D.bK,D.ok,Ij,Tag.ok]) rfl s
 unfold S0
 generalize h:pI l=p
 refine aF.go EI rfl fun B Q hB hQ=>?_
 have⟨hD,hY,hZ,gA⟩:=bN
 repeat' (first
 |simp only[go_sem,hD,hY,hZ,gA]
 |(with_reducible first|refine bn fun hc=>?_|refine bo fun hc=>?_|refine bp (fun hc=>?_) fun hc=>?_)<;>(try simp only[hc,bs,↓reduceIte]at h)<;>try simp only[hc]
 |(with_reducible refine aE hQ ?_;exact fX))
 refine fk 0 0 (bu.ind (ι:=List Ar×Nat) (fun i=>l.drop i.2=i.1∧pI i.1=p) (fun i=>i.1.length)
  (fun i=> [(5, .slice .shared 6 (l.map eB)),(6, .int .i64 (l.length:Int)),(7, .int .i64 (i.2:Int))]) (fun i=>⟨[],[]⟩) ?_ (l,0) ⟨rfl,h⟩)
 rintro⟨rest,k⟩ ⟨h1,h⟩ IH
 dsimp only at h1 h
 cases rest with
 |nil=>
  have hD:=drop_nil h1
  simp only[pI]at h
  repeat' (first
 |simp only[go_sem,hD,hY,hZ,gA]
 |(with_reducible first|refine bn fun hc=>?_|refine bo fun hc=>?_|refine bp (fun hc=>?_) fun hc=>?_)<;>(try simp only[hc,bs,↓reduceIte]at h)<;>try simp only[hc]
 |(with_reducible refine aE hQ ?_;exact fX))
 |cons a rest=>
  obtain⟨hY,g2,hD,g4⟩:=drop_cons h1
  have hZ:k<4611686018427387904:=by omega
  obtain⟨a1,a2,a3⟩:=hs a (List.mem_of_getElem? hY)
  have hn:=fun b s=>DJ a.name b a3 s
  have hw:=fun b s=>L3 b a1 a2 s
  simp only[pI]at h
  repeat' (first
 |simp only[go_sem,hD,hY,hZ,gA]
 |(with_reducible refine CU (hn _ _) ?_)
 |(with_reducible refine CU (hw _ _) ?_)
 |(with_reducible first|refine bn fun hc=>?_|refine bo fun hc=>?_|refine bp (fun hc=>?_) fun hc=>?_)<;>(try simp only[hc,bs,↓reduceIte]at h)<;>try simp only[hc]
 |(with_reducible refine aE hQ ?_;exact fX))
  refine fk 0 0 (IH (rest,k+1) ⟨g2,h⟩ (Nat.lt_succ_self _))
def Sm.flags (s:Sm):Option (Bool×Bool×Bool×Bool×Bool×Bool):=
 if s.kind==1 then some (true,false,true,s.has,false,false)
 else if s.kind==2 ||s.kind==10 then some (true,false,false,s.has,false,false)
 else if s.kind==3 then some (false,false,true,s.has,false,false)
 else if s.kind==4 then some (!(s.name == []),true,false,s.has,false,false)
 else if s.kind==5 then some (false,false,true,s.has,true,true)
 else if s.kind==6 then some (false,false,true,s.has,true,false)
 else if s.kind==9 then some (false,false,s.has,false,false,false)
 else if s.kind==7 ||s.kind==8 then some (false,false,false,s.has,false,false)
 else none
def Sm.Io (s:Sm) (nm pr x:Bool):Bool:=if !(tq s.name nm) || !(tq s.proc pr) || !(vJ s.x x)then false else pI s.args
def Sm.Ip (s:Sm) (f:Bool×Bool×Bool×Bool×Bool×Bool):Bool:=
 if f.2.2.2.1 ||(!f.2.2.2.2.1 && decide ((s.a8.length:Int) > 0)) ||(!f.2.2.2.2.2 && decide ((s.aR.length:Int) > 0)) ||(!(s.kind==4) && decide ((s.args.length:Int) > 0))then false
 else s.Io f.1 f.2.1 f.2.2.1
def Sm.fields (s:Sm):Bool:=match s.flags with
 |none=>false
 |some f=>s.Ip f
section
variable {v:Sm} {B:fW} {Q:Exit→Tm→St→Prop} {p:Bool}
theorem Vl {nm pr x:Bool} (hf:v.ui) (hB:B.s = ⟨[],[]⟩) (hQ:pT 0 0 [(2,none)] (.bool p) ⟨[],[]⟩=Q) (h:v.Io nm pr x=p) :
 Sem Tryz.prog B 93 ac5 Q [(1, .ptr 0 0),(3, .bool nm),(4, .bool pr),(5, .bool x)] ⟨[bj v],[]⟩:=by
 have h1:=fun b s=>DJ v.name b hf.name s
 have h2:=fun b s=>DJ v.proc b hf.proc s
 have h3:=fun b s=>L3 b hf.x hf.xt s
 have h4:=fun s=>Vk hf.anR hf.arg s
 unfold Sm.Io at h
 have⟨hD,hY,hZ,gA⟩:=bN
 refine iJ ?_
 repeat' (first
 |simp only[go_sem,hD,hY,hZ,gA]
 |(with_reducible refine CU (h1 _ _) ?_)
 |(with_reducible refine CU (h2 _ _) ?_)
 |(with_reducible refine CU (h3 _ _) ?_)
 |(with_reducible refine CU (h4 _) ?_)
 |(with_reducible first|refine bn fun hc=>?_|refine bo fun hc=>?_|refine bp (fun hc=>?_) fun hc=>?_)<;>(try simp only[hc,bs,↓reduceIte]at h)<;>try simp only[hc]
 |(with_reducible refine aE hQ ?_;exact fX))
theorem Vm {nm pr x has th ot ar:Bool} (hf:v.ui) (hB:B.s = ⟨[],[]⟩) (hQ:pT 0 0 [(2,none)] (.bool p) ⟨[],[]⟩=Q) (e:(v.kind==4)=ar) (h:v.Ip (nm,pr,x,has,th,ot)=p) :
 Sem Tryz.prog B 93 ac6 Q [(1, .ptr 0 0),(3, .bool nm),(4, .bool pr),(5, .bool x),(6, .bool has),(7, .bool th),(8, .bool ot),(9, .bool ar)] ⟨[bj v],[]⟩:=by
 simp only[Sm.Ip,e]at h
 have⟨hD,hY,hZ,gA⟩:=bN
 refine Sem.nj ?_
 repeat' (first
 |simp only[go_sem,hD,hY,hZ,gA]
 |(with_reducible first|refine bn fun hc=>?_|refine bo fun hc=>?_|refine bp (fun hc=>?_) fun hc=>?_)<;>(try simp only[hc,bs,↓reduceIte]at h)<;>try simp only[hc]
 |(with_reducible refine aE hQ ?_;(try cases h);simp only[aT,aW,bE,bF,go_sem,hD,hY,hZ,gA];repeat' (first|exact Ok.out|with_reducible refine ja ?_ ?_|(simp;done))))
 all_goals
  refine Sem.re _ _ 1 0 (by rw[hB];exact C8 rfl) (by rw[hB];exact C8 rfl) ?_ ?_ (Vl hf hB hQ h)
  ·(simp only[go_sem,hD,hY,hZ,gA];repeat' (first|exact Ok.out|with_reducible refine ja ?_ ?_))
  ·(simp only[go_sem,hD,hY,hZ,gA];repeat' (first|exact Ok.out|with_reducible refine ja ?_ ?_))
theorem Vn {ar:Bool} (hf:v.ui) (hB:B.s = ⟨[],[]⟩) (hQ:pT 0 0 [(2,none)] (.bool p) ⟨[],[]⟩=Q) (e:(v.kind==4)=ar) (h:v.fields=p) :
 Sem Tryz.prog B 93 Vd Q [(1, .ptr 0 0),(3, .bool false),(4, .bool false),(5, .bool false),(6, .bool v.has),(7, .bool false),(8, .bool false),(9, .bool ar)] ⟨[bj v],[]⟩:=by
 simp only[Sm.fields,Sm.flags]at h
 have⟨hD,hY,hZ,gA⟩:=bN
 refine Sem.nj ?_
 repeat' (first
 |simp only[go_sem,hD,hY,hZ,gA]
 |(with_reducible first|refine bn fun hc=>?_|refine bo fun hc=>?_|refine bp (fun hc=>?_) fun hc=>?_)<;>(try simp only[hc,bs,↓reduceIte]at h)<;>try simp only[hc]
 |(with_reducible refine aE hQ ?_;(try cases h);simp only[aT,aW,bE,bF,go_sem,hD,hY,hZ,gA];repeat' (first|exact Ok.out|with_reducible refine ja ?_ ?_|(simp;done))))
 all_goals
  refine Sem.re _ _ 1 0 (by rw[hB];exact C8 rfl) (by rw[hB];exact C8 rfl) ?_ ?_ (Vm hf hB hQ e h)
  ·(simp only[go_sem,hD,hY,hZ,gA];repeat' (first|exact Ok.out|with_reducible refine ja ?_ ?_))
  ·(simp only[go_sem,hD,hY,hZ,gA];repeat' (first|exact Ok.out|with_reducible refine ja ?_ ?_))
end
theorem Vo {v:Sm} (hf:v.ui) (s:St):aF Tryz.prog tY [.agg (bj v)] s (.bool v.fields) s:=by
 refine aF.pure ?_ (by simp[D.bK,D.ok,rj]) rfl s
 unfold S0
 refine aF.goS EF rfl fun B Q hB hQ=>?_
 have⟨hD,hY,hZ,gA⟩:=bN
 refine Sem.seq (b:=ac8) (iJ ?_)
 repeat' (first
 |simp only[go_sem,hD,hY,hZ,gA]
 |(with_reducible refine aE hQ ?_;exact bd))
 refine Sem.seq (b:=ac7) (iJ ?_)
 repeat' (first
 |simp only[go_sem,hD,hY,hZ,gA]
 |(with_reducible refine aE hQ ?_;exact bd))
 refine Sem.seq (b:=Vd) (iJ ?_)
 repeat' (first
 |simp only[go_sem,hD,hY,hZ,gA]
 |(with_reducible refine aE hQ ?_;exact bd))
 refine Sem.re _ _ 1 0 (by rw[hB];exact C8 rfl) (by rw[hB];exact C8 rfl) ?_ ?_ (Vn hf hB hQ rfl rfl)
 ·(simp only[go_sem,hD,hY,hZ,gA];repeat' (first|exact Ok.out|with_reducible refine ja ?_ ?_))
 ·(simp only[go_sem,hD,hY,hZ,gA];repeat' (first|exact Ok.out|with_reducible refine ja ?_ ?_))
end Go.Abs
namespace Go.Abs
set_option maxRecDepth 8000
open Go.Proofs
def fM (i:It):List D:= [.int .i64 i.s.id, .int .i64 i.s.kind, .slice .shared 1 (i.s.labels.map encStr), .str i.s.name, .str i.s.proc,
 .int .i64 i.s.x.op, .int .i64 i.s.x.n, .str i.s.x.name, .slice .shared 4 (i.s.x.kids.map cb), .bool i.s.has, .slice .shared 6 (i.s.args.map eB), .slice .shared 13 (i.s.a8.map bj), .slice .shared 13 (i.s.aR.map bj), .int .i64 i.deep, .int .i64 i.cz, .bool i.aR]
theorem Vp (i:It):D.bK 0 0 (fM i)=true:=by simp[fM,D.bK,D.ok,Tag.ok,fb,W5,Ij,pG]
theorem EO (l:List It):D.gU 0 0 (l.map fM)=true:=gV Vp l
theorem ahr (n m:Nat) (l:List It):D.kB n m (l.map fM)=l.map fM:=lY Vp n m l
theorem ahs (n m:Nat) (i:It):D.gw n m (fM i)=fM i:=ie n m _ (Vp i)
theorem aht (x:It):(fM x).length=16:=nd rfl
theorem adn (x:It):List.take 13 (fM x)=bj x.s:=by simp only[fM,ew];rfl
theorem Vq (x:It):(fM x)[0]? = some (.int .i64 x.s.id):=nd rfl
theorem RP (x:It):(fM x)[13]? = some (.int .i64 x.deep):=nd rfl
theorem F8 (s:Sm) (d n:Int) (e:Bool):fM ⟨s,d,n,e⟩ = [.int .i64 s.id, .int .i64 s.kind, .slice .shared 1 (s.labels.map encStr), .str s.name, .str s.proc,
 .int .i64 s.x.op, .int .i64 s.x.n, .str s.x.name, .slice .shared 4 (s.x.kids.map cb), .bool s.has, .slice .shared 6 (s.args.map eB), .slice .shared 13 (s.a8.map bj), .slice .shared 13 (s.aR.map bj), .int .i64 d, .int .i64 n, .bool e]:=nd rfl
attribute [go_sem] ahr ahs aht adn Vq RP
theorem JP (deep cz:Int) (aR:Bool) (out:List It) (s:Sm) :
 iT deep cz aR out s=if decide (deep≤12)then dR (deep+1) s.id true (dR (deep+1) s.id false (out++ [⟨s,deep,cz,aR⟩]) s.a8) s.aR else out++ [⟨s,deep,cz,aR⟩]:=by
 cases s;simp only[iT]
mutual
theorem RQ (deep cz:Int) (aR:Bool) (out:List It) (h:out.length≤200) : ∀ s:Sm,(iT deep cz aR out s).length≤201
 |⟨id,kind,labels,name,proc,x,has,args,a8,e⟩=>by
  simp only[iT]
  have h1:(out++ [(⟨⟨id,kind,labels,name,proc,x,has,args,a8,e⟩,deep,cz,aR⟩:It)]).length≤201:=by simp;omega
  split
  ·exact ll _ _ _ _ (ll _ _ _ _ h1 a8) e
  ·exact h1
theorem ll (deep cz:Int) (aR:Bool) (out:List It) (h:out.length≤201) : ∀ l:List Sm,(dR deep cz aR out l).length≤201
 | []=>by simpa only[dR]using h
 | s::l=>by
  simp only[dR]
  split
  ·rename_i hc
   simp only[decide_eq_true_eq]at hc
   exact ll deep cz aR _ (RQ _ _ _ _ (by omega) s) l
  ·exact h
end
abbrev RR (N:Nat):Prop:=∀ (l:List Sm) (deep cz:Int) (aR:Bool) (out:List It),Sm.a7 l<N→0≤deep→deep≤13→out.length≤201→∀ {s:St} {t:Nat},s.aw[t]? = some (some out.length)→
 aF Tryz.prog mI [.slice .shared 13 (l.map bj), .int .i64 deep, .int .i64 cz, .bool aR, .slice (.tok t) 16 (out.map fM)] s (.slice (.tok t) 16 ((dR deep cz aR out l).map fM)) ⟨s.ah,s.aw.set t (some (dR deep cz aR out l).length)⟩
theorem ado {N:Nat} (hN:N<4611686018427387904) (ih:RR N) {l:List Sm} {deep cz:Int} {aR:Bool} {out:List It} (hs:Sm.a7 l<N+1) (G3:0≤deep) (hd:deep≤13) (ho:out.length≤201) :
 aF Tryz.prog mI [.slice .shared 13 (l.map bj), .int .i64 deep, .int .i64 cz, .bool aR, .slice (.tok 0) 16 (out.map fM)] ⟨[],[some out.length]⟩ (.slice (.tok 0) 16 ((dR deep cz aR out l).map fM)) ⟨[],[some (dR deep cz aR out l).length]⟩:=by
 generalize hR:dR deep cz aR out l=R
 refine aF.go Aw rfl fun B Q hB hQ=>?_
 have⟨hD,hY,hZ,gA⟩:=bN
 repeat' (first
 |simp only[go_sem,hD,hY,hZ,gA]
 |(with_reducible refine aE hQ ?_;exact bd))
 refine fk 0 1 (bu.ind (ι:=List Sm×Nat×List It×Nat) (fun i=>l.drop i.2.1=i.1∧dR deep cz aR i.2.2.1 i.1=R∧i.2.2.1.length≤201∧i.2.2.2=i.2.2.1.length) (fun i=>i.1.length)
  (fun i=> [(0, .slice .shared 13 (l.map bj)),(1, .int .i64 deep),(2, .int .i64 cz),(3, .bool aR),(4, .slice (.tok 0) 16 (i.2.2.1.map fM)),(11, .int .i64 (i.2.1:Int))]) (fun i=>⟨[],[some i.2.2.2]⟩) ?_ (l,0,out,out.length) ⟨rfl,hR,ho,rfl⟩)
 rintro⟨rest,k,out,n⟩ ⟨h1,h2,h3,h4⟩ IH
 dsimp only at h1 h2 h3 h4
 subst h4
 have hlen:l.length<4611686018427387904:=by have:=Sm.eI l;omega
 cases rest with
 |nil=>
  have hD:=drop_nil h1
  simp only[dR]at h2
  subst h2
  repeat' (first
 |simp only[go_sem,hD,hY,hZ,gA]
 |(with_reducible refine aE hQ ?_;exact bd))
 | cons v rest=>
  obtain⟨hY,g2,hD,g4⟩:=drop_cons h1
  have bU:k<4611686018427387904:=by omega
  have hv:=Sm.dn (List.mem_of_getElem? hY)
  have o5:Sm.a7 v.a8<N∧Sm.a7 v.aR<N:=by
   obtain⟨_,_,_,_,_,_,_,_,_,_⟩:=v
   simp only[Sm.size]at hv ⊢;omega
  simp only[dR]at h2
  by_cases hc:out.length≤200
  ·have c1:decide ((out.length:Int)≤200)=true:=by simp;omega
   simp only[c1,↓reduceIte,JP]at h2
   have hZ:(out.length+1)*233≤bH:=by unfold bH;omega
   have iY:(out++ [(⟨v,deep,cz,aR⟩:It)]).length≤201:=by simp;omega
   have hw:IntKind.wrap .i64 (deep+1)=deep+1:=dX (by omega) (by omega)
   by_cases anU:deep≤12
   ·have c2:decide (deep≤12)=true:=by simp;omega
    simp only[c2,↓reduceIte]at h2
    have f1:=fun {s:St} {t:Nat} (ht:s.aw[t]? = some (some (out++ [(⟨v,deep,cz,aR⟩:It)]).length))=>ih v.a8 (deep+1) v.id false _ o5.1 (by omega) (by omega) iY ht
    have f2:=fun {s:St} {t:Nat} (ht:s.aw[t]? = some (some (dR (deep+1) v.id false (out++ [(⟨v,deep,cz,aR⟩:It)]) v.a8).length))=>ih v.aR (deep+1) v.id true _ o5.2 (by omega) (by omega) (ll _ _ _ _ iY _) ht
    simp only[List.map_append,List.map_cons,List.map_nil,F8,List.length_append,List.length_cons,List.length_nil]at f1
    repeat' (first
 |simp only[go_sem,hD,hY,hZ,gA,c1,c2,hw,ew]
 |(with_reducible refine CU (f1 (by with_unfolding_all rfl)) ?_)
 |(with_reducible refine CU (f2 (by with_unfolding_all rfl)) ?_)
 | (with_reducible refine aE hQ ?_;exact bd))
    refine eY 0 1 ?_ ?_ (IH (rest,k+1,_,_) ⟨g2,h2,ll _ _ _ _ (ll _ _ _ _ iY _) _,rfl⟩ (Nat.lt_succ_self _))
    ·(simp only[go_sem,hD,hY,hZ,gA,aI bU];try exact cq)
    ·(simp only[go_sem,hD,hY,hZ,gA,aI bU];try exact cq)
   ·have c2:decide (deep≤12)=false:=by simp;omega
    simp only[c2,Bool.false_eq_true,↓reduceIte]at h2
    repeat' (first
 |simp only[go_sem,hD,hY,hZ,gA,c1,c2,ew]
 | (with_reducible refine aE hQ ?_;exact bd))
    refine eY 0 1 ?_ ?_ (IH (rest,k+1,out++ [⟨v,deep,cz,aR⟩],out.length+1) ⟨g2,h2,iY,by simp⟩ (Nat.lt_succ_self _))
    ·(simp only[go_sem,hD,hY,hZ,gA,aI bU,F8,List.map_append,List.map_cons,List.map_nil];try exact cq)
    ·(simp only[go_sem,hD,hY,hZ,gA,aI bU,F8,List.map_append,List.map_cons,List.map_nil];try exact cq)
  ·have c1:decide ((out.length:Int)≤200)=false:=by simp;omega
   simp only[c1,Bool.false_eq_true,↓reduceIte]at h2
   subst h2
   repeat' (first
 |simp only[go_sem,hD,hY,hZ,gA,c1]
 |(with_reducible refine aE hQ ?_;exact bd))
theorem Vr : ∀ N,N<4611686018427387904→RR N:=by
 intro N
 induction N with
 |zero=>exact fun _ l deep cz aR out h=>absurd h (Nat.not_lt_zero _)
 |succ N ih=>
  intro h l deep cz aR out hs G3 hd ho s t ht
  exact(ado (by omega) (ih (by omega)) hs G3 hd ho).abw (pre:= [_,_,_,_]) (post:= []) (by simp[D.bK,D.ok,Tag.ok,pG]) rfl (EO out) (EO _) ht
theorem Vs {l:List Sm} (hs:Sm.a7 l<4611686018427387000) (s:St) :
 aF Tryz.prog mI [.slice .shared 13 (l.map bj), .int .i64 1, .int .i64 0, .bool false, .slice .full 0 []] s (.slice .shared 16 ((dR 1 0 false [] l).map fM)) s:=by
 refine aF.pure ?_ (by simp[D.bK,D.ok,Tag.ok,pG,D.gU]) (by simp[D.ok,Tag.ok,EO]) s
 obtain⟨N,hN⟩ : ∃ N,N=Sm.a7 l:=⟨_,rfl⟩
 have ih:=Vr N (by omega)
 replace hs:Sm.a7 l<N+1∧N<4611686018427387000:=by omega
 obtain⟨hs,hN⟩:=hs
 generalize hR:dR 1 0 false [] l=R
 obtain⟨deep,Ph⟩ : ∃ d:Int,d=1:=⟨_,rfl⟩
 obtain⟨cz,Vt⟩ : ∃ d:Int,d=0:=⟨_,rfl⟩
 obtain⟨aR,Vu⟩ : ∃ d:Bool,d=false:=⟨_,rfl⟩
 rw[← Ph, ← Vt, ← Vu]at hR
 rw[← Ph, ← Vt, ← Vu]
 have G3:0≤deep:=by omega
 have hd:deep≤13:=by omega
 clear Ph Vt Vu
 have ho:([] : List It).length≤201:=Nat.zero_le _
 unfold S0
 refine aF.go Aw rfl fun B Q hB hQ=>?_
 have⟨hD,hY,hZ,gA⟩:=bN
 repeat' (first
 |simp only[go_sem,hD,hY,hZ,gA]
 |(with_reducible refine aE hQ ?_;exact bd))
 refine bu.si 4 16 rfl ?_
 simp only[go_sem,hD,hY,hZ,gA]
 refine fk 0 1 (bu.ind (ι:=List Sm×Nat×List It×Nat) (fun i=>l.drop i.2.1=i.1∧dR deep cz aR i.2.2.1 i.1=R∧i.2.2.1.length≤201∧i.2.2.2=i.2.2.1.length) (fun i=>i.1.length)
  (fun i=> [(0, .slice .shared 13 (l.map bj)),(1, .int .i64 deep),(2, .int .i64 cz),(3, .bool aR),(4, .slice (.tok 0) 16 (i.2.2.1.map fM)),(11, .int .i64 (i.2.1:Int))]) (fun i=>⟨[],[some i.2.2.2]⟩) ?_ (l,0,[],0) ⟨rfl,hR,ho,rfl⟩)
 rintro⟨rest,k,out,n⟩ ⟨h1,h2,h3,h4⟩ IH
 dsimp only at h1 h2 h3 h4
 subst h4
 have hlen:l.length<4611686018427387904:=by have:=Sm.eI l;omega
 cases rest with
 |nil=>
  have hD:=drop_nil h1
  simp only[dR]at h2
  subst h2
  repeat' (first
 |simp only[go_sem,hD,hY,hZ,gA]
 |(with_reducible refine aE hQ ?_;exact bd))
 | cons v rest=>
  obtain⟨hY,g2,hD,g4⟩:=drop_cons h1
  have bU:k<4611686018427387904:=by omega
  have hv:=Sm.dn (List.mem_of_getElem? hY)
  have o5:Sm.a7 v.a8<N∧Sm.a7 v.aR<N:=by
   obtain⟨_,_,_,_,_,_,_,_,_,_⟩:=v
   simp only[Sm.size]at hv ⊢;omega
  simp only[dR]at h2
  by_cases hc:out.length≤200
  ·have c1:decide ((out.length:Int)≤200)=true:=by simp;omega
   simp only[c1,↓reduceIte,JP]at h2
   have hZ:(out.length+1)*233≤bH:=by unfold bH;omega
   have iY:(out++ [(⟨v,deep,cz,aR⟩:It)]).length≤201:=by simp;omega
   have hw:IntKind.wrap .i64 (deep+1)=deep+1:=dX (by omega) (by omega)
   by_cases anU:deep≤12
   ·have c2:decide (deep≤12)=true:=by simp;omega
    simp only[c2,↓reduceIte]at h2
    have f1:=fun {s:St} {t:Nat} (ht:s.aw[t]? = some (some (out++ [(⟨v,deep,cz,aR⟩:It)]).length))=>ih v.a8 (deep+1) v.id false _ o5.1 (by omega) (by omega) iY ht
    have f2:=fun {s:St} {t:Nat} (ht:s.aw[t]? = some (some (dR (deep+1) v.id false (out++ [(⟨v,deep,cz,aR⟩:It)]) v.a8).length))=>ih v.aR (deep+1) v.id true _ o5.2 (by omega) (by omega) (ll _ _ _ _ iY _) ht
    simp only[List.map_append,List.map_cons,List.map_nil,F8,List.length_append,List.length_cons,List.length_nil]at f1
    repeat' (first
 |simp only[go_sem,hD,hY,hZ,gA,c1,c2,hw,ew]
 |(with_reducible refine CU (f1 (by with_unfolding_all rfl)) ?_)
 |(with_reducible refine CU (f2 (by with_unfolding_all rfl)) ?_)
 | (with_reducible refine aE hQ ?_;exact bd))
    refine eY 0 1 ?_ ?_ (IH (rest,k+1,_,_) ⟨g2,h2,ll _ _ _ _ (ll _ _ _ _ iY _) _,rfl⟩ (Nat.lt_succ_self _))
    ·(simp only[go_sem,hD,hY,hZ,gA,aI bU];try exact cq)
    ·(simp only[go_sem,hD,hY,hZ,gA,aI bU];try exact cq)
   ·have c2:decide (deep≤12)=false:=by simp;omega
    simp only[c2,Bool.false_eq_true,↓reduceIte]at h2
    repeat' (first
 |simp only[go_sem,hD,hY,hZ,gA,c1,c2,ew]
 | (with_reducible refine aE hQ ?_;exact bd))
    refine eY 0 1 ?_ ?_ (IH (rest,k+1,out++ [⟨v,deep,cz,aR⟩],out.length+1) ⟨g2,h2,iY,by simp⟩ (Nat.lt_succ_self _))
    ·(simp only[go_sem,hD,hY,hZ,gA,aI bU,F8,List.map_append,List.map_cons,List.map_nil];try exact cq)
    ·(simp only[go_sem,hD,hY,hZ,gA,aI bU,F8,List.map_append,List.map_cons,List.map_nil];try exact cq)
  ·have c1:decide ((out.length:Int)≤200)=false:=by simp;omega
   simp only[c1,Bool.false_eq_true,↓reduceIte]at h2
   subst h2
   repeat' (first
 |simp only[go_sem,hD,hY,hZ,gA,c1]
 |(with_reducible refine aE hQ ?_;exact bd))
theorem adp {f:Pc} (hs:Sm.a7 f.body<4611686018427387000) (s:St):aF Tryz.prog xA [.agg (cu f)] s (.slice .shared 16 (f.flat.map fM)) s:=by
 refine aF.pure ?_ (by simp only[D.bK,D.ok,xr];rfl) (by simp[D.ok,Tag.ok,EO]) s
 have h:=fun s=>Vs hs s
 unfold S0
 refine aF.go HX rfl fun B Q hB hQ=>?_
 have⟨hD,hY,hZ,gA⟩:=bN
 repeat' (first
 |simp only[go_sem,hD,hY,hZ,gA,Pc.flat]
 |(with_reducible refine CU (h _) ?_)
 |(with_reducible first|refine bn fun hc=>?_|refine bo fun hc=>?_|refine bp (fun hc=>?_) fun hc=>?_)<;>(try simp only[hc,bs,↓reduceIte]at h)<;>try simp only[hc]
 |(with_reducible refine aE hQ ?_;simp only[aT,aW,bE,bF,go_sem,hD,hY,hZ,gA,Pc.flat];try exact cm))
end Go.Abs
namespace Go.Abs
set_option maxRecDepth 8000
open Go.Proofs
theorem Pc.Vv (f:Pc):f.flat.length≤201:=ll _ _ _ _ (Nat.zero_le _) _
theorem ahu {p:Pg} (hs:Pc.a7 p.procs<4611686018427387000) (s:St):aF Tryz.prog zl [.agg (cD p)] s (.slice .shared 16 (p.all.map fM)) s:=by
 refine aF.pure ?_ (by simp only[D.bK,D.ok,jw];rfl) (by simp[D.ok,Tag.ok,EO]) s
 have hlen:p.procs.length<4611686018427387904:=by have:=Pc.eI p.procs;omega
 generalize hR:p.all=R
 unfold Pg.all at hR
 unfold S0
 refine aF.go JG rfl fun B Q hB hQ=>?_
 have⟨hD,hY,hZ,gA⟩:=bN
 repeat' (first
 |simp only[go_sem,hD,hY,hZ,gA]
 |(with_reducible refine aE hQ ?_;exact bd))
 refine bu.si 3 16 rfl ?_
 simp only[go_sem,hD,hY,hZ,gA]
 refine fk 1 1 (bu.ind (ι:=List Pc×Nat×List It×Nat) (fun i=>p.procs.drop i.2.1=i.1∧allM i.2.2.1 i.1=R∧i.2.2.1.length≤200∧i.2.2.2=i.2.2.1.length) (fun i=>i.1.length)
  (fun i=> [(1, .ptr 0 0),(3, .slice (.tok 0) 16 (i.2.2.1.map fM)),(7, .slice .shared 5 (p.procs.map cu)),(8, .int .i64 (p.procs.length:Int)),(9, .int .i64 (i.2.1:Int))]) (fun i=>⟨[cD p],[some i.2.2.2]⟩) ?_ (p.procs,0,[],0) ⟨rfl,hR,Nat.zero_le _,rfl⟩)
 rintro⟨rest,k,out,n⟩ ⟨h1,h,h3,h4⟩ IH
 dsimp only at h1 h h3 h4
 subst h4
 cases rest with
 |nil=>
  have hD:=drop_nil h1
  simp only[allM]at h
  subst h
  repeat' (first
 |simp only[go_sem,hD,hY,hZ,gA]
 |(with_reducible refine aE hQ ?_;exact bd))
 |cons f rest=>
  obtain⟨hY,g2,hD,g4⟩:=drop_cons h1
  have bU:k<4611686018427387904:=by omega
  have hf:=Pc.dn (List.mem_of_getElem? hY)
  have hb:Sm.a7 f.body<4611686018427387000:=by simp only[Pc.size]at hf;omega
  have il:=fun s=>adp hb s
  have av4:=f.Vv
  have hZ:(out.length+f.flat.length)*233≤bH:=by unfold bH;omega
  simp only[allM,List.length_append]at h
  have eR:=fun(o:List (List D))=>nZ (size:=16) (bytes:=232) (t:=0) (rows:=out.map fM) (new:=f.flat.map fM) (g:= .shared) (s:=⟨o,[some out.length]⟩) (by simpa using hZ) (by simp)
  repeat' (first
 |simp only[go_sem,hD,hY,hZ,gA,eR]
 |(with_reducible refine CU (il _) ?_)
 |(with_reducible first|refine bn fun hc=>?_|refine bo fun hc=>?_|refine bp (fun hc=>?_) fun hc=>?_)<;>(try simp only[hc,bs,↓reduceIte]at h)<;>try simp only[hc]
 |(with_reducible refine aE hQ ?_;(try cases h);simp only[aT,aW,bE,bF,go_sem,hD,hY,hZ,gA,eR];try exact cm))
  refine eY 1 1 ?_ ?_ (IH (rest,k+1,out++f.flat,out.length+f.flat.length) ⟨g2,h,by rename_i hc;simp only[decide_eq_false_iff_not]at hc;simp only[List.length_append];omega,by simp⟩ (Nat.lt_succ_self _))
  ·(simp only[go_sem,hD,hY,hZ,gA,aI bU];try exact cq)
  ·(simp only[go_sem,hD,hY,hZ,gA,aI bU];try exact cq)
structure Pg.ui (p:Pg):Prop where
 sz:p.size<4611686018427387000
 uk : ∀ t∈p.globals,t.length<4611686018427387904
 n8 : ∀ f∈p.procs,f.name.length<4611686018427387904∧(∀ t∈f.vars,t.length<4611686018427387904)∧(∀ t∈f.fin,t.length<4611686018427387904)∧∀ a∈f.params,a.name.length<4611686018427387904
 items : ∀ i∈p.all,i.s.ui
def gate (nest:Int) (len n:Nat) (r:Bool×Nat):Bool×Nat:=if decide (nest > 12) && decide ((len:Int) > 0)then(false,n)else r
mutual
def Sm.pW (nest:Int) (n:Nat):Sm→Bool×Nat
 |⟨id,kind,labels,name,proc,x,has,args,a8,aR⟩=>
  if decide (((n+1:Nat):Int) > 200) ||id != ((n+1:Nat):Int) || !(fc labels) || !(Sm.fields ⟨id,kind,labels,name,proc,x,has,args,a8,aR⟩)then(false,n+1)
  else if !(gate (nest+1) a8.length (n+1) (Sm.fm (nest+1) (n+1) a8)).1 then(false,(gate (nest+1) a8.length (n+1) (Sm.fm (nest+1) (n+1) a8)).2)
  else gate (nest+1) aR.length (gate (nest+1) a8.length (n+1) (Sm.fm (nest+1) (n+1) a8)).2 (Sm.fm (nest+1) (gate (nest+1) a8.length (n+1) (Sm.fm (nest+1) (n+1) a8)).2 aR)
def Sm.fm (nest:Int) (n:Nat):List Sm→Bool×Nat
 | []=>(true,n)
 |s::l=>if !(Sm.pW nest n s).1 then(false,(Sm.pW nest n s).2)else Sm.fm nest (Sm.pW nest n s).2 l
end
def Sm.gB (nest:Int) (n:Nat) (l:List Sm):Bool×Nat:=gate nest l.length n (Sm.fm nest n l)
theorem F9 (nest:Int) (n:Nat) (s:Sm):Sm.pW nest n s =
 if decide (((n+1:Nat):Int) > 200) ||s.id != ((n+1:Nat):Int) || !(fc s.labels) || !(s.fields)then(false,n+1)
 else if !(Sm.gB (nest+1) (n+1) s.a8).1 then(false,(Sm.gB (nest+1) (n+1) s.a8).2)
 else Sm.gB (nest+1) (Sm.gB (nest+1) (n+1) s.a8).2 s.aR:=by
 cases s;simp only[Sm.pW,Sm.gB];rfl
mutual
def Sm.wP:Sm→Prop
 |⟨id,kind,labels,name,proc,x,has,args,a8,aR⟩=>Sm.ui ⟨id,kind,labels,name,proc,x,has,args,a8,aR⟩∧Sm.kA a8∧Sm.kA aR
def Sm.kA:List Sm→Prop
 | []=>True
 |s::l=>s.wP∧Sm.kA l
end
theorem DK (s:Sm):s.wP↔s.ui∧Sm.kA s.a8∧Sm.kA s.aR:=by cases s;simp only[Sm.wP]
theorem EP {s:Sm} : ∀ {l:List Sm},Sm.kA l→s∈l→s.wP
 |y::l,h,m=>by
  simp only[Sm.kA]at h
  rcases List.mem_cons.1 m with rfl|m
  ·exact h.1
  ·exact EP h.2 m
mutual
theorem ZO (nest:Int) (n:Nat) : ∀ s:Sm,n≤201→(Sm.pW nest n s).2≤202∧((Sm.pW nest n s).1=true→(Sm.pW nest n s).2≤200)
 | ⟨id,kind,labels,name,proc,x,has,args,a8,aR⟩,hn=>by
  simp only[Sm.pW]
  split
  ·exact⟨by dsimp only;omega,fun h=>by cases h⟩
  rename_i hc
  simp only[Bool.or_eq_true,decide_eq_true_eq,not_or]at hc
  have vK:n+1≤200:=by omega
  have g1 : ∀ (nest:Int) (l:List Sm) (m:Nat),m≤200→(Sm.fm nest m l).2≤202∧((Sm.fm nest m l).1=true→(Sm.fm nest m l).2≤200)→
   (gate nest l.length m (Sm.fm nest m l)).2≤202∧((gate nest l.length m (Sm.fm nest m l)).1=true→(gate nest l.length m (Sm.fm nest m l)).2≤200):=by
   intro nest l m hm h
   unfold gate
   split
   ·exact⟨by dsimp only;omega,fun h=>by cases h⟩
   ·exact h
  have h1:=g1 (nest+1) a8 (n+1) vK (Cn (nest+1) (n+1) a8 vK)
  split
  ·exact⟨h1.1,fun h=>by cases h⟩
  rename_i IK
  have h2:=h1.2 (by simpa using IK)
  exact g1 (nest+1) aR _ h2 (Cn (nest+1) _ aR h2)
theorem Cn (nest:Int) (n:Nat) : ∀ l:List Sm,n≤200→(Sm.fm nest n l).2≤202∧((Sm.fm nest n l).1=true→(Sm.fm nest n l).2≤200)
 | [],hn=>by simp only[Sm.fm];exact⟨by omega,fun _=>hn⟩
 |s::l,hn=>by
  simp only[Sm.fm]
  have h1:=ZO nest n s (by omega)
  split
  ·exact⟨h1.1,fun h=>by cases h⟩
  rename_i hc
  exact Cn nest _ l (h1.2 (by simpa using hc))
end
theorem Ga {nest:Int} {n:Nat} {l:List Sm} (hn:n≤200):(Sm.gB nest n l).2≤202∧((Sm.gB nest n l).1=true→(Sm.gB nest n l).2≤200):=by
 unfold Sm.gB gate
 split
 ·exact⟨by dsimp only;omega,fun h=>by cases h⟩
 ·exact Cn nest n l hn
theorem ZP : ∀ (m:Nat) (l:List Sm),Sm.a7 l≤m→Sm.a7 l<4611686018427387000→Sm.kA l→∀ (nest:Int) (n:Nat),0≤nest→nest≤13→n≤200→
 aF Tryz.prog ky [.ptr 0 0, .slice .shared 13 (l.map bj), .int .i64 nest] ⟨[[.int .i64 n]],[]⟩ (.bool (Sm.gB nest n l).1) ⟨[[.int .i64 (Sm.gB nest n l).2]],[]⟩:=by
 intro m
 induction m with
 | zero=>
  intro l h hs hf nest n h0 h13 hn
  cases l with
  |nil=>
   have d1:decide ((0:Int) > 0)=false:=rfl
   have e:Sm.gB nest n [] = (true,n):=by simp[Sm.gB,gate,Sm.fm]
   have z:decide ((0:Int)<0)=false:=rfl
   rw[e]
   refine aF.go rD rfl fun B Q hB hQ=>?_
   have⟨hD,hY,hZ,gA⟩:=bN
   repeat' (first
 |simp only[go_sem,hD,hY,hZ,gA,d1,z]
 |(with_reducible refine bu.kV ?_)
 |(with_reducible first|refine bn fun hc=>?_|refine bo fun hc=>?_|refine bp (fun hc=>?_) fun hc=>?_)<;>(try simp only[hc,bs,↓reduceIte]at h)<;>try simp only[hc]
 |(with_reducible refine aE hQ ?_;exact bd))
  |cons s l=>simp only[Sm.a7]at h;omega
 |succ m ih=>
  intro l h hs hf nest n h0 h13 hn
  generalize hR:Sm.gB nest n l=R
  have hlen:=Sm.eI l
  unfold Sm.gB gate at hR
  have h:=hR
  refine aF.go rD rfl fun B Q hB hQ=>?_
  have⟨hD,hY,hZ,gA⟩:=bN
  repeat' (first
 |simp only[go_sem,hD,hY,hZ,gA]
 |(with_reducible first|refine bn fun hc=>?_|refine bo fun hc=>?_|refine bp (fun hc=>?_) fun hc=>?_)<;>(try simp only[hc,bs,↓reduceIte]at h)<;>try simp only[hc]
 | (with_reducible refine aE hQ ?_;(try cases h);simp only [aT,aW,bE,bF,go_sem,hD,hY,hZ,gA];repeat' (first | exact Ok.out | with_reducible refine ja ?_ ?_ | (simp;done))))
  all_goals
   have ahv:l≠ []→nest≤12:=by
    intro eQ
    have:l.length≠0:=by simpa using eQ
    simp_all<;>omega
   refine fk 1 0 (bu.ind (ι:=List Sm×Nat×Nat) (fun i=>l.drop i.2.1=i.1∧Sm.fm nest i.2.2 i.1=R∧i.2.2≤200) (fun i=>i.1.length)
    (fun i=> [(0, .ptr 0 0),(2, .int .i64 nest),(16, .slice .shared 13 (l.map bj)),(17, .int .i64 (l.length:Int)),(18, .int .i64 (i.2.1:Int))]) (fun i=>⟨[[.int .i64 (i.2.2:Int)]],[]⟩) ?_ (l,0,n) ⟨rfl,h,hn⟩)
   rintro⟨rest,k,j⟩ ⟨h1,h,hj⟩ IH
   dsimp only at h1 h hj
   cases rest with
   |nil=>
    have hD:=drop_nil h1
    simp only[Sm.fm]at h
    repeat' (first
 |simp only[go_sem,hD,hY,hZ,gA]
 |(with_reducible first|refine bn fun hc=>?_|refine bo fun hc=>?_|refine bp (fun hc=>?_) fun hc=>?_)<;>(try simp only[hc,bs,↓reduceIte]at h)<;>try simp only[hc]
 | (with_reducible refine aE hQ ?_;exact fX))
   | cons s rest=>
    obtain⟨hY,g2,hD,g4⟩:=drop_cons h1
    have hZ:k<4611686018427387904:=by omega
    have gF:=List.mem_of_getElem? hY
    have dP:=Sm.dn gF
    have av5:=ahv (by rintro rfl;simp at gF)
    obtain⟨Eg,hft,hfe⟩:=(DK s).1 (EP hf gF)
    have TF:Sm.a7 s.a8<s.size∧Sm.a7 s.aR<s.size:=by cases s;simp only[Sm.size];omega
    have w1:IntKind.wrap .i64 ((j:Int)+1)=((j+1:Nat):Int):=by rw[dX]<;>omega
    have w2:IntKind.wrap .i64 (nest+1)=nest+1:=dX (by omega) (by omega)
    have c1:=fun s=>zB Eg.anQ Eg.XT s
    have c2:=fun s=>Vo Eg s
    simp only[Sm.fm,F9]at h
    by_cases RS:j+1≤200
    ·have r1:=Ga (nest:=nest+1) (l:=s.a8) RS
     have c3:=fun s' ho=>(ih s.a8 (by omega) (by omega) hft (nest+1) (j+1) (by omega) (by omega) RS).TL (s:=s') (o:=0) (by simp[D.bK,D.ok,pG,Tag.ok]) rfl rfl rfl ho
     by_cases wF:(Sm.gB (nest+1) (j+1) s.a8).1=true
     ·have c4:=fun s' ho=>(ih s.aR (by omega) (by omega) hfe (nest+1) _ (by omega) (by omega) (r1.2 wF)).TL (s:=s') (o:=0) (by simp [D.bK,D.ok,pG,Tag.ok]) rfl rfl rfl ho
      have r2:=Ga (nest:=nest+1) (l:=s.aR) (r1.2 wF)
      simp only[wF]at c3
      simp only[wF,Bool.not_true,Bool.false_eq_true,↓reduceIte]at h
      repeat' (first
 |simp only[go_sem,hD,hY,hZ,gA,w1,w2,wF]
 |(with_reducible refine CU (c1 _) ?_)
 |(with_reducible refine CU (c2 _) ?_)
 |(with_reducible refine CU (c3 _ rfl) ?_)
 |(with_reducible refine CU (c4 _ rfl) ?_)
 |(with_reducible first|refine bn fun hc=>?_|refine bo fun hc=>?_|refine bp (fun hc=>?_) fun hc=>?_)<;>(try simp only[hc,bs,↓reduceIte]at h)<;>try simp only[hc]
 |(with_reducible refine aE hQ ?_;(try cases h);simp only[aT,aW,bE,bF,go_sem,hD,hY,hZ,gA,w1,w2,wF];try exact cm))
      refine fk 1 0 (IH (rest,k+1,(Sm.gB (nest+1) (Sm.gB (nest+1) (j+1) s.a8).2 s.aR).2) ⟨g2,h,r2.2 (by assumption)⟩ (Nat.lt_succ_self _))
     ·have wF:(Sm.gB (nest+1) (j+1) s.a8).1=false:=by simpa using wF
      simp only[wF]at c3
      simp only[wF,Bool.not_false,↓reduceIte]at h
      repeat' (first
 |simp only[go_sem,hD,hY,hZ,gA,w1,w2,wF]
 |(with_reducible refine CU (c1 _) ?_)
 |(with_reducible refine CU (c2 _) ?_)
 |(with_reducible refine CU (c3 _ rfl) ?_)
 |(with_reducible first|refine bn fun hc=>?_|refine bo fun hc=>?_|refine bp (fun hc=>?_) fun hc=>?_)<;>(try simp only[hc,bs,↓reduceIte]at h)<;>try simp only[hc]
 | (with_reducible refine aE hQ ?_;(try cases h);simp only [aT,aW,bE,bF,go_sem,hD,hY,hZ,gA,w1,w2,wF];try exact cm))
    ·have d1:decide (((j+1:Nat):Int) > 200)=true:=by simp;omega
     simp only[d1,Bool.true_or,Bool.not_false,↓reduceIte]at h
     repeat' (first
 |simp only[go_sem,hD,hY,hZ,gA,w1,w2,d1]
 |(with_reducible refine CU (c1 _) ?_)
 |(with_reducible refine CU (c2 _) ?_)
 |(with_reducible first|refine bn fun hc=>?_|refine bo fun hc=>?_|refine bp (fun hc=>?_) fun hc=>?_)<;>(try simp only[hc,bs,↓reduceIte]at h)<;>try simp only[hc]
 |(with_reducible refine aE hQ ?_;(try cases h);simp only[aT,aW,bE,bF,go_sem,hD,hY,hZ,gA,w1,w2,d1];try exact cm))
def Pc.fm (n:Nat):List Pc→Bool
 | []=>true
 |f::l=>
  if decide ((f.params.length:Int) > 8) ||decide ((f.vars.length:Int) > 16) || !(isName f.name) || !(fc f.vars) || !(fc f.fin)then false
  else if !(Pm.fO f.params)then false
  else if !(Sm.gB 1 n f.body).1 then false
  else Pc.fm (Sm.gB 1 n f.body).2 l
def Pg.Gb (p:Pg):Bool:=
 if decide ((p.globals.length:Int) > 16) ||decide ((p.procs.length:Int) > 16) || !(fc p.globals)then false
 else Pc.fm 0 p.procs
structure Pg.Iq (p:Pg):Prop where
 sz:p.size<4611686018427387000
 uk : ∀ t∈p.globals,t.length<4611686018427387904
 n8 : ∀ f∈p.procs,f.name.length<4611686018427387904∧(∀ t∈f.vars,t.length<4611686018427387904)∧(∀ t∈f.fin,t.length<4611686018427387904)∧∀ a∈f.params,a.name.length<4611686018427387904
 body : ∀ f∈p.procs,Sm.kA f.body
theorem JQ {p:Pg} (hf:p.Iq) (s:St):aF Tryz.prog rm [.agg (cD p)] s (.bool p.Gb) s:=by
 refine aF.pure ?_ (by simp only[D.bK,D.ok,jw];rfl) rfl s
 obtain⟨dP,rH,adq,Cd⟩:=hf
 have rI:Pc.a7 p.procs<4611686018427387000:=by simp only[Pg.size]at dP;omega
 have ahw:p.globals.length<4611686018427387904:=by simp only[Pg.size]at dP;omega
 have avU:p.procs.length<4611686018427387904:=by have:=Pc.eI p.procs;omega
 have hg:=fun s=>zB ahw rH s
 unfold S0
 generalize h:p.Gb=R
 unfold Pg.Gb at h
 refine aF.go JE rfl fun B Q hB hQ=>?_
 have⟨hD,hY,hZ,gA⟩:=bN
 repeat' (first
 |simp only[go_sem,hD,hY,hZ,gA]
 |(with_reducible refine CU (hg _) ?_)
 |(with_reducible first|refine bn fun hc=>?_|refine bo fun hc=>?_|refine bp (fun hc=>?_) fun hc=>?_)<;>(try simp only[hc,bs,↓reduceIte]at h)<;>try simp only[hc]
 |(with_reducible refine aE hQ ?_;exact fX))
 refine fk 2 0 (bu.ind (ι:=List Pc×Nat×Nat) (fun i=>p.procs.drop i.2.1=i.1∧Pc.fm i.2.2 i.1=R∧i.2.2≤200) (fun i=>i.1.length)
  (fun i=> [(1, .ptr 0 0),(3, .ptr 1 0),(27, .slice .shared 5 (p.procs.map cu)),(28, .int .i64 (p.procs.length:Int)),(29, .int .i64 (i.2.1:Int))]) (fun i=>⟨[cD p,[.int .i64 (i.2.2:Int)]],[]⟩) ?_ (p.procs,0,0) ⟨rfl,h,Nat.zero_le _⟩)
 rintro⟨rest,k,n⟩ ⟨h1,h,hn⟩ IH
 dsimp only at h1 h hn
 cases rest with
 |nil=>
  have hD:=drop_nil h1
  simp only[Pc.fm]at h
  repeat' (first
 |simp only[go_sem,hD,hY,hZ,gA]
 |(with_reducible first|refine bn fun hc=>?_|refine bo fun hc=>?_|refine bp (fun hc=>?_) fun hc=>?_)<;>(try simp only[hc,bs,↓reduceIte]at h)<;>try simp only[hc]
 |(with_reducible refine aE hQ ?_;exact fX))
 |cons f rest=>
  obtain⟨hY,g2,hD,g4⟩:=drop_cons h1
  have bU:k<4611686018427387904:=by omega
  have gF:=List.mem_of_getElem? hY
  have Ax:=Pc.dn gF
  simp only[Pc.size]at Ax
  obtain⟨Ay,hfv,hff,hfp⟩:=adq f gF
  have hnm:=BG f.name Ay
  have hv:=fun s=>zB (by omega) hfv s
  have he:=fun s=>zB (by omega) hff s
  have hb:=fun s' o ho=>(ZP _ f.body (Nat.le_refl _) (by omega) (Cd f gF) 1 n (by omega) (by omega) hn).TL (s:=s') (o:=o) (by simp[D.bK,D.ok,pG,Tag.ok]) rfl rfl rfl ho
  have hle:=Ga (nest:=1) (l:=f.body) hn
  simp only[Pc.fm]at h
  repeat' (first
 |simp only[go_sem,hD,hY,hZ,gA]
 |(with_reducible refine CU (hnm _) ?_)
 |(with_reducible refine CU (hv _) ?_)
 |(with_reducible refine CU (he _) ?_)
 |(with_reducible first|refine bn fun hc=>?_|refine bo fun hc=>?_|refine bp (fun hc=>?_) fun hc=>?_)<;>(try simp only[hc,bs,↓reduceIte]at h)<;>try simp only[hc]
 |(with_reducible refine aE hQ ?_;exact fX)
 | (cases h;done))
  refine fk 3 0 (bu.ind (ι:=List Pm×Nat) (fun i=>f.params.drop i.2=i.1∧(if !(Pm.fO i.1)then false else if !(Sm.gB 1 n f.body).1 then false else Pc.fm (Sm.gB 1 n f.body).2 rest)=R) (fun i=>i.1.length)
   (fun i=> [(1, .ptr 0 0),(3, .ptr 1 0),(5, .ptr 2 0),(27, .slice .shared 5 (p.procs.map cu)),(28, .int .i64 (p.procs.length:Int)),(29, .int .i64 (k:Int)),(62, .slice .shared 2 (f.params.map iK)),(63, .int .i64 (f.params.length:Int)),(64, .int .i64 (i.2:Int))]) (fun i=>⟨[cD p,[.int .i64 (n:Int)],cu f],[]⟩) ?_ (f.params,0) ⟨rfl,h⟩)
  rintro⟨Pj,j⟩ ⟨j1,h⟩ ER
  dsimp only at j1 h
  cases Pj with
  |nil=>
   have hD:=drop_nil j1
   simp only[Pm.fO,Bool.not_true,Bool.false_eq_true,↓reduceIte]at h
   repeat' (first
 |simp only[go_sem,hD,hY,hZ,gA]
 |(with_reducible refine CU (hb _ _ rfl) ?_)
 |(with_reducible first|refine bn fun hc=>?_|refine bo fun hc=>?_|refine bp (fun hc=>?_) fun hc=>?_)<;>(try simp only[hc,bs,↓reduceIte]at h)<;>try simp only[hc]
 |(with_reducible refine aE hQ ?_;exact fX)
 | (cases h;done))
   refine eY 2 0 ?_ ?_ (IH (rest,k+1,(Sm.gB 1 n f.body).2) ⟨g2,h,hle.2 (by assumption)⟩ (Nat.lt_succ_self _))
   ·(simp only[go_sem,hD,hY,hZ,gA,aI bU];try exact cq)
   ·(simp only[go_sem,hD,hY,hZ,gA,aI bU];try exact cq)
  |cons a Pj=>
   obtain⟨hY,b2,hD,b4⟩:=drop_cons j1
   have RS:j<4611686018427387904:=by omega
   have ha:=BG a.name (hfp a (List.mem_of_getElem? hY))
   simp only[Pm.fO]at h
   repeat' (first
 |simp only[go_sem,hD,hY,hZ,gA]
 |(with_reducible refine CU (ha _) ?_)
 |(with_reducible first|refine bn fun hc=>?_|refine bo fun hc=>?_|refine bp (fun hc=>?_) fun hc=>?_)<;>(try simp only[hc,bs,↓reduceIte]at h)<;>try simp only[hc]
 |(with_reducible refine aE hQ ?_;exact fX)
 | (cases h;done))
   refine eY 3 0 ?_ ?_ (ER (Pj,j+1) ⟨b2,h⟩ (Nat.lt_succ_self _))
   ·(simp only[go_sem,hD,hY,hZ,gA,aI RS];try exact cq)
   ·(simp only[go_sem,hD,hY,hZ,gA,aI RS];try exact cq)
theorem zD {s:aG} (h:isName s=true):s.length≤8:=by
 cases s with
 |nil=>simp
 | cons c r=>
  simp only[isName]at h
  split at h
  ·cases h
  ·rename_i hc
   simp only[Bool.or_eq_true,decide_eq_true_eq,not_or]at hc
   simp only[List.length_cons];omega
theorem pk {t:aG} : ∀ {l:List aG},fc l=true→t∈l→isName t=true
 | s::l,h,m=>by
  simp only[fc]at h
  cases hs:isName s
  ·simp[hs]at h
  ·simp [hs]at h
   rcases List.mem_cons.1 m with rfl|m
   ·exact hs
   ·exact pk h m
theorem JR {a:Ar} : ∀ {l:List Ar},Ar.fO l=true→a∈l→a.may=true
 | s::l,h,m=>by
  simp only[Ar.fO]at h
  cases hs:s.may
  ·simp[hs]at h
  ·simp [hs]at h
   rcases List.mem_cons.1 m with rfl|m
   ·exact hs
   ·exact JR h m
theorem G4 {a:Pm} : ∀ {l:List Pm},Pm.fO l=true→a∈l→isName a.name=true
 | s::l,h,m=>by
  simp only[Pm.fO]at h
  cases hs:isName s.name
  ·simp[hs]at h
  ·simp [hs]at h
   rcases List.mem_cons.1 m with rfl|m
   ·exact hs
   ·exact G4 h m
mutual
theorem ES : ∀ x:Ex,x.form=true→x.texts
 | ⟨op,n,name,kids⟩,h=>by
  simp only[Ex.form]at h
  split at h
  ·cases h
  ·rename_i hc
   refine⟨?_,Db kids h⟩
   simp only[Bool.or_eq_true,Bool.and_eq_true,Bool.not_eq_true',not_or,not_and,Bool.not_eq_false]at hc
   cases hn:(name == [])
   ·have:=zD (hc.2 hn);omega
   ·simp at hn;subst hn;simp
theorem Db : ∀ l:List Ex,Ex.sN l=true→Ex.vG l
 | [],_=>trivial
 | x::l,h=>by
  simp only[Ex.sN]at h
  cases hx:x.form
  ·simp[hx]at h
  ·simp [hx]at h
   exact⟨ES x hx,Db l h⟩
end
theorem G5 {x:Ex} (h:x.may=true):x.texts:=by
 unfold Ex.may at h
 simp only[Bool.and_eq_true]at h
 exact ES x h.2
theorem ET {x:Ex} (h:x.none=true):x.texts:=by
 obtain⟨op,n,name,kids⟩:=x
 simp[Ex.none]at h
 obtain⟨⟨_,h1⟩,h2⟩:=h
 subst h1 h2
 exact⟨by simp,trivial⟩
mutual
theorem RT {deep cz:Int} {aR:Bool} {out:List It} {i:It} : ∀ s:Sm,i∈iT deep cz aR out s→i∈out∨i.s.size≤s.size
 | ⟨id,kind,labels,name,proc,x,has,args,a8,e⟩,h=>by
  simp only[iT]at h
  have key:i∈out++ [(⟨⟨id,kind,labels,name,proc,x,has,args,a8,e⟩,deep,cz,aR⟩:It)]→i∈out∨i.s.size≤(⟨id,kind,labels,name,proc,x,has,args,a8,e⟩:Sm).size:=by
   intro h
   rcases List.mem_append.1 h with h|h
   ·exact .inl h
   ·simp at h;subst h;exact .inr (Nat.le_refl _)
  split at h
  ·rcases wQ e h with h | h
   ·rcases wQ a8 h with h | h
    ·exact key h
    ·right;simp only[Sm.size];omega
   ·right;simp only[Sm.size];omega
  ·exact key h
theorem wQ {deep cz:Int} {aR:Bool} {out:List It} {i:It} : ∀ l:List Sm,i∈dR deep cz aR out l→i∈out∨i.s.size<Sm.a7 l
 | [],h=>by simp only[dR]at h;exact .inl h
 | s::l,h=>by
  simp only[dR]at h
  split at h
  ·rcases wQ l h with h | h
   ·rcases RT s h with h | h
    ·exact .inl h
    ·right;simp only[Sm.a7];omega
   ·right;simp only[Sm.a7];omega
  ·exact .inl h
end
theorem JS {i:It} : ∀ (l:List Pc) (out:List It),i∈allM out l→i∈out∨i.s.size<Pc.a7 l
 | [],out,h=>by simp only[allM]at h;exact .inl h
 | f::l,out,h=>by
  have key:i∈out++f.flat→i∈out∨i.s.size<Pc.a7 (f::l):=by
   intro h
   rcases List.mem_append.1 h with h|h
   ·exact .inl h
   ·rcases wQ _ h with h | h
    ·simp at h
    ·right;simp only[Pc.a7,Pc.size];omega
  simp only[allM]at h
  split at h
  ·exact key h
  ·rcases JS l _ h with h | h
   ·exact key h
   ·right;simp only[Pc.a7];omega
theorem EU {i:It} : ∀ (l:List It) (n:Nat),It.fO n l=true→i∈l→i.s.one=true
 | s::l,n,h,m=>by
  simp only[It.fO]at h
  split at h
  ·cases h
  ·rename_i hc
   simp only[Bool.or_eq_true,Bool.not_eq_true',not_or,Bool.not_eq_false]at hc
   rcases List.mem_cons.1 m with rfl|m
   ·exact hc.2
   ·exact EU l (n+1) h m
theorem JT {s:Sm} (h:s.one=true) (hs:s.size<4611686018427387000):s.ui:=by
 unfold Sm.one at h
 split at h
 ·cases h
 split at h
 ·cases h
 split at h
 ·cases h
 split at h
 ·cases h
 rename_i c1 c2 c3 c4
 simp only[Bool.or_eq_true,Bool.and_eq_true,Bool.not_eq_true',not_or,not_and,Bool.not_eq_false,decide_eq_true_eq]at c1 c2 c3 c4
 obtain⟨⟨⟨⟨⟨_,_⟩,anV⟩,cx⟩,cn⟩,_⟩:=c1
 obtain⟨c21,c22⟩:=c2
 obtain⟨⟨c31,c32⟩,c33⟩:=c3
 have nm : ∀ {t:aG},isName t=true→t.length<4611686018427387904:=fun h=>by have:=zD h;omega
 have dP:1+s.labels.length+s.x.size+Ar.a7 s.args≤s.size:=by cases s;simp only[Sm.size];omega
 have ym:=Ar.eI s.args
 refine⟨fun t ht=>nm (pk anV ht),by omega, ?_, ?_,by omega, ?_,by omega,fun a ha=>?_⟩
 ·cases hn:s.hasName
  ·cases he:(s.name == [])
   ·exact nm (c22 ⟨hn,he⟩).2
   ·simp at he;rw[he];simp
  ·exact nm (c21 hn)
 ·cases oO:s.yC
  ·rw [oO]at c31
   have:s.proc = []:=by simpa using c31
   rw[this];simp
  ·exact nm (c32 oO)
 ·cases hx:s.Pa
  ·exact ET (cn hx)
  ·exact G5 (cx hx)
 ·have hm:=JR c4 ha
  have X0:=Ar.dn ha
  unfold Ar.may at hm
  split at hm
  ·simp only [Bool.and_eq_true]at hm
   exact⟨by omega,ET hm.2,nm hm.1⟩
  ·simp only [Bool.and_eq_true,beq_iff_eq]at hm
   exact⟨by omega,G5 hm.2,by rw[hm.1];simp⟩
theorem G6 {f:Pc} : ∀ {l:List Pc},Pc.n8 l=true→f∈l→isName f.name=true∧fc f.vars=true∧fc f.fin=true∧Pm.fO f.params=true
 |s::l,h,m=>by
  simp only[Pc.n8]at h
  split at h
  ·cases h
  split at h
  ·cases h
  rename_i c1 c2
  simp only[Bool.or_eq_true,Bool.not_eq_true',not_or,Bool.not_eq_false]at c1 c2
  rcases List.mem_cons.1 m with rfl|m
  ·exact⟨c1.1.1.1.1,c1.1.2,c1.2,c2⟩
  ·exact G6 h m
theorem Vw {p:Pg} (h:p.may=true) (hs:p.size<4611686018427387000):p.ui:=by
 unfold Pg.may at h
 split at h
 ·cases h
 split at h
 ·cases h
 split at h
 ·cases h
 rename_i c1 c2 c3
 simp only[Bool.or_eq_true,Bool.not_eq_true',not_or,Bool.not_eq_false]at c1 c2
 have nm : ∀ {t:aG},isName t=true→t.length<4611686018427387904:=fun h=>by have:=zD h;omega
 refine⟨hs,fun t ht=>nm (pk c1.2 ht),fun f hf=>?_,fun i hi=>?_⟩
 ·obtain⟨a,b,c,d⟩:=G6 c2 hf
  exact⟨nm a,fun t ht=>nm (pk b ht),fun t ht=>nm (pk c ht),fun t ht=>nm (G4 d ht)⟩
 ·refine JT (EU _ _ h hi) ?_
  rcases JS _ _ hi with h1|h1
  ·simp at h1
  ·simp only[Pg.size]at hs;omega
theorem RU {t:aG} (h:isName t=true):t≠ []:=by rintro rfl;cases h
theorem Vx (op n:Int) (name:aG) (kids:List Ex):Ex.form ⟨op,n,name,kids⟩=true↔
 oo op=(kids.length:Int)∧(op=1∨n=0)∧0≤n∧(op=2↔name≠ [])∧(name = []∨isName name=true)∧Ex.sN kids=true:=by
 simp only[Ex.form]
 split
 ·rename_i h
  simp only[Bool.or_eq_true,Bool.and_eq_true,bne_iff_ne,ne_eq,decide_eq_true_eq,Bool.not_eq_true']at h
  refine⟨fun h=>(Bool.false_ne_true h).elim,fun⟨h1,h2,h3,h4,h5,_⟩=>?_⟩
  exfalso
  rcases h with (((h|h)|h)|h)|h
  ·exact h h1
  ·rcases h2 with h2 | h2
   ·exact h.1 h2
   ·exact h.2 h2
  ·omega
  ·by_cases h2:op=2<;>cases name<;>simp_all
  ·rcases h5 with h5 | h5
   ·subst h5;simp at h
   ·rw[h5]at h;simp at h
 ·rename_i h
  simp only[Bool.or_eq_true,Bool.and_eq_true,bne_iff_ne,ne_eq,decide_eq_true_eq,Bool.not_eq_true',not_or,not_and,Decidable.not_not,Bool.not_eq_false]at h
  obtain⟨⟨⟨⟨h1,h2⟩,h3⟩,h4⟩,h5⟩:=h
  refine⟨fun h=>⟨h1, ?_,by omega, ?_, ?_,h⟩,fun h=>h.2.2.2.2.2⟩
  ·by_cases h:op=1
   ·exact .inl h
   ·exact .inr (h2 h)
  ·by_cases h2:op=2<;>cases name<;>simp_all
  ·cases name with
   |nil=>exact .inl rfl
   |cons c r=>exact .inr (h5 rfl)
theorem JU (op n:Int) (name:aG) (kids:List Ex) (k:Int):Ex.dp k ⟨op,n,name,kids⟩=true↔
 1≤k∧(kids.length:Int)=oo op∧(if op=1 then 0≤n∧name = []else if op=2 then n=0∧isName name=true else n=0∧name = []∧Ex.BH (k - 1) kids=true):=by
 simp only[Ex.dp]
 split
 ·rename_i h
  simp only[Bool.or_eq_true,decide_eq_true_eq,bne_iff_ne,ne_eq]at h
  refine⟨fun h=>(Bool.false_ne_true h).elim,fun⟨h1,h2,_⟩=>?_⟩
  rcases h with h|h
  ·omega
  ·exact(h h2).elim
 rename_i h
 simp only[Bool.or_eq_true,decide_eq_true_eq,bne_iff_ne,ne_eq,not_or,Decidable.not_not]at h
 have h1:1≤k:=by omega
 simp only[h1,h.2,true_and]
 by_cases o1:op=1
 ·subst o1
  cases name<;>simp
 ·have o1' : ¬ (op==1)=true:=by simpa using o1
  rw[if_neg o1',if_neg o1]
  by_cases o2:op=2
  ·subst o2;simp
  ·have o2' : ¬ (op==2)=true:=by simpa using o2
   rw[if_neg o2',if_neg o2]
   by_cases hn:n=0
   ·subst hn
    cases name<;>simp
   ·simp[hn]
mutual
theorem X1 : ∀ (x:Ex) (k:Int),0≤k→(x.dp k=true↔(x.depth:Int)≤k∧x.form=true)
 | ⟨op,n,name,kids⟩,k,hk=>by
  rw[JU,Vx]
  have hd:Ex.depth ⟨op,n,name,kids⟩=Ex.qa kids+1:=by simp only[Ex.depth]
  rw[hd]
  by_cases h1:1≤k
  ·have ih:=RV kids (k - 1) (by omega)
   by_cases o1:op=1
   ·subst o1
    have ha:oo 1=0:=rfl
    rw[ha,if_pos rfl]
    constructor
    ·rintro⟨_,h2,h3,h4⟩
     have:kids = []:=List.eq_nil_of_length_eq_zero (by omega)
     subst this;subst h4
     simp[Ex.qa,Ex.sN,h3];omega
    ·rintro⟨h2,h3,_,h4,h5,_⟩
     refine⟨h1,h3.symm,h4, ?_⟩
     cases name
     ·rfl
     ·simp at h5
   ·rw [if_neg o1]
    by_cases o2:op=2
    ·subst o2
     have ha:oo 2=0:=rfl
     rw[ha,if_pos rfl]
     constructor
     ·rintro⟨_,h2,h3,h4⟩
      have:kids = []:=List.eq_nil_of_length_eq_zero (by omega)
      subst this;subst h3
      have:=RU h4
      simp[Ex.qa,Ex.sN,h4,this];omega
     ·rintro⟨h2,h3,h4,_,h5,h6,_⟩
      refine⟨h1,h3.symm,h4.resolve_left o1, ?_⟩
      exact h6.resolve_left (h5.1 rfl)
    ·rw [if_neg o2,ih]
     constructor
     ·rintro⟨_,h2,h3,h4,h5,h6⟩
      subst h3;subst h4
      exact⟨by omega,h2.symm, .inr rfl,Int.le_refl _,by simp[o2], .inl rfl,h6⟩
     ·rintro⟨h2,h3,h4,_,h5,h6,h7⟩
      refine⟨h1,h3.symm,h4.resolve_left o1, ?_,by omega,h7⟩
      exact Decidable.byContradiction fun h=>o2 (h5.2 h)
  ·constructor
   ·rintro⟨h,_⟩;exact(h1 h).elim
   ·rintro⟨h,_⟩;omega
theorem RV : ∀ (l:List Ex) (k:Int),0≤k→(Ex.BH k l=true↔(Ex.qa l:Int)≤k∧Ex.sN l=true)
 | [],k,hk=>by simp[Ex.BH,Ex.qa,Ex.sN,hk]
 | x::l,k,hk=>by
  have h1:=X1 x k hk
  have h2:=RV l k hk
  have hd:Ex.qa (x::l)=max x.depth (Ex.qa l):=by simp only[Ex.qa]
  rw[hd]
  simp only[Ex.BH,Ex.sN]
  cases hx:Ex.dp k x
  ·simp only [Bool.not_false, ↓reduceIte,Bool.false_eq_true,false_iff,not_and]
   intro h3
   have : ¬ ((x.depth:Int)≤k∧x.form=true):=by rw[← h1,hx];simp
   have hf:x.form=false:=by
    cases hf:x.form
    ·rfl
    ·exact(this ⟨by omega,hf⟩).elim
   simp[hf]
  ·have:=h1.1 hx
   simp only[Bool.not_true,Bool.false_eq_true,↓reduceIte,this.2,h2]
   have h3:=this.1
   refine and_congr_left fun _=>?_
   omega
end
theorem EV (x:Ex):x.dp 20=x.may:=by
 rw[Bool.eq_iff_iff,X1 x 20 (by omega)]
 unfold Ex.may
 simp only[Bool.and_eq_true,decide_eq_true_eq]
 refine and_congr_left fun _=>?_
 omega
theorem G7 (x:Ex) (b:Bool):vJ x b=if b then x.may else x.none:=by
 unfold vJ
 rw[EV]
 cases b<;>simp
theorem G8 (t:aG) (b:Bool):tq t b=if b then isName t else t == []:=by
 unfold tq
 cases b<;>simp
theorem Dc : ∀ l:List Ar,pI l=Ar.fO l
 | []=>rfl
 |a::l=>by
  simp only[pI,Ar.fO,Ar.may,G7,G8,Dc l]
  grind
theorem Nn {α:Type} (l:List α):((l.length:Int)==0) = !(decide ((l.length:Int) > 0)):=by
 cases l with
 |nil=>rfl
 |cons a l=>
  have h1:(((a::l).length:Int)==0)=false:=by simp only[List.length_cons,beq_eq_false_iff_ne];omega
  have h2:decide (((a::l).length:Int) > 0)=true:=by simp only[List.length_cons,decide_eq_true_eq];omega
  rw[h1,h2];rfl
theorem EW (s:Sm):s.one=(fc s.labels && s.fields):=by
 have hk:s.kind=1∨s.kind=2∨s.kind=3∨s.kind=4∨s.kind=5∨s.kind=6∨s.kind=7∨s.kind=8∨s.kind=9∨s.kind=10∨s.kind<1∨s.kind > 10:=by omega
 unfold Sm.one Sm.fields Sm.flags Sm.Pa Sm.hasName Sm.yC
 have p1:isName [] = false:=rfl
 rcases hk with h|h|h|h|h|h|h|h|h|h|h|h
 all_goals
  simp only[h,Nn,Dc,G7,G8,Sm.Ip,Sm.Io]
  grind
mutual
def Ex.mK (out:List aG):Ex→List aG
 |⟨op,_,name,kids⟩=>Ex.lQ (if op==2 && !(fy out name)then out++ [name]else out) kids
def Ex.lQ (out:List aG):List Ex→List aG
 | []=>out
 |x::l=>Ex.lQ (Ex.mK out x) l
end
def Ex.names (x:Ex):List aG:=if x.may then x.mK []else []
mutual
theorem sq (out:List aG) : ∀ x:Ex,(Ex.mK out x).length≤out.length+x.size
 |⟨op,n,name,kids⟩=>by
  simp only[Ex.mK,Ex.size]
  have h:=G9 (if op==2 && !(fy out name)then out++ [name]else out) kids
  refine Nat.le_trans h ?_
  split<;>simp<;>omega
theorem G9 (out:List aG) : ∀ l:List Ex,(Ex.lQ out l).length≤out.length+Ex.a7 l
 | []=>by simp[Ex.lQ,Ex.a7]
 |x::l=>by
  simp only[Ex.lQ,Ex.a7]
  have h1:=sq out x
  have h2:=G9 (Ex.mK out x) l
  omega
end
def Co (out:List aG) (x:aG):List aG:=if fy out x then out else out++ [x]
def ahx (x:aG):List aG→Bool
 | []=>false
 |s::l=>if s==x then true else ahx x l
abbrev RW (N:Nat):Prop:=∀ (x:Ex),x.size≤N→∀ out:List aG,out.length+x.size≤1000000000→∀ {s:St} {t:Nat},s.aw[t]? = some (some out.length)→
 aF Tryz.prog iS [.agg (cb x), .slice (.tok t) 1 (out.map encStr)] s (.slice (.tok t) 1 ((x.mK out).map encStr)) ⟨s.ah,s.aw.set t (some (x.mK out).length)⟩
theorem adt {N:Nat} (ih:RW N) {op m:Int} {name:aG} {kids:List Ex} (h:Ex.size ⟨op,m,name,kids⟩≤N+1) {out:List aG} (ho:out.length+Ex.size ⟨op,m,name,kids⟩≤1000000000) :
 aF Tryz.prog iS [.agg (cb ⟨op,m,name,kids⟩), .slice (.tok 0) 1 (out.map encStr)] ⟨[],[some out.length]⟩ (.slice (.tok 0) 1 ((Ex.mK out ⟨op,m,name,kids⟩).map encStr)) ⟨[],[some (Ex.mK out ⟨op,m,name,kids⟩).length]⟩:=by
 obtain⟨R,hG⟩ : ∃ R,Ex.mK out ⟨op,m,name,kids⟩=R:=⟨_,rfl⟩
 rw[hG]
 simp only[Ex.mK]at hG
 simp only[Ex.size]at h ho
 have hlen:kids.length<1000000000:=by have:=Ex.eI kids;omega
 have hk : ∀ y∈kids,∀ out:List aG,out.length+y.size≤1000000000→∀ {s:St} {t:Nat},s.aw[t]? = some (some out.length)→
  aF Tryz.prog iS [.agg (cb y), .slice (.tok t) 1 (out.map encStr)] s (.slice (.tok t) 1 ((y.mK out).map encStr)) ⟨s.ah,s.aw.set t (some (y.mK out).length)⟩:=fun y hy out ho=>
  ih y (by have:=Ex.dn hy;omega) out ho
 refine aF.go rE rfl fun B Q hB hQ=>?_
 have⟨hD,hY,hZ,gA⟩:=bN
 have hZ:(out.length+1)*17≤bH:=by unfold bH;omega
 rcases Bool.eq_false_or_eq_true (op==2)with b1|b1
 ·rcases Bool.eq_false_or_eq_true (fy out name)with b2 | b2
  ·simp only [b1,b2,Bool.not_true,Bool.and_false,Bool.false_eq_true,if_false]at hG
   repeat' (first
 |simp only[go_sem,hD,hY,hZ,gA,b1,b2]
 |(with_reducible refine CU (jC (l:=out) (by omega) name _ _) ?_)
 | (with_reducible refine aE hQ ?_;exact bd))
   refine fk 1 1 (bu.ind (ι:=List Ex×Nat×List aG×Nat) (fun i=>kids.drop i.2.1=i.1∧Ex.lQ i.2.2.1 i.1=R∧i.2.2.1.length+Ex.a7 i.1≤1000000000∧i.2.2.2=i.2.2.1.length) (fun i=>i.1.length)
    (fun i=> [(1, .slice (.tok 0) 1 (i.2.2.1.map encStr)),(2, .ptr 0 0),(23, .slice .shared 4 (kids.map cb)),(24, .int .i64 (kids.length:Int)),(25, .int .i64 (i.2.1:Int))]) (fun i=>⟨[cb ⟨op,m,name,kids⟩],[some i.2.2.2]⟩) ?_ (kids,0,out,out.length) ⟨rfl,hG,by simp;omega,by simp⟩)
   rintro⟨rest,k,cG,n'⟩ ⟨h1,h2,h3,h4⟩ IH
   dsimp only at h1 h2 h3 h4
   subst h4
   cases rest with
   |nil=>
    have hD:=drop_nil h1
    simp only[Ex.lQ]at h2
    subst h2
    repeat' (first
 |simp only[go_sem,hD,hY,hZ,gA]
 | (with_reducible refine aE hQ ?_;exact bd))
   |cons y rest=>
    obtain⟨hY,g2,hD,g4⟩:=drop_cons h1
    have bU:k<4611686018427387904:=by omega
    simp only[Ex.lQ]at h2
    simp only[Ex.a7]at h3
    have hy:=fun {s:St} {t:Nat} (ht:s.aw[t]? = some (some cG.length))=>hk y (List.mem_of_getElem? hY) cG (by omega) ht
    have hl:=sq cG y
    repeat' (first
 |simp only[go_sem,hD,hY,hZ,gA]
 |(with_reducible refine CU (hy (by with_unfolding_all rfl)) ?_)
 | (with_reducible refine aE hQ ?_;exact bd))
    refine eY 1 1 ?_ ?_ (IH (rest,k+1,_,_) ⟨g2,h2,by dsimp only;omega,rfl⟩ (Nat.lt_succ_self _))
    ·(simp only[go_sem,hD,hY,hZ,gA,aI bU];try exact cq)
    ·(simp only[go_sem,hD,hY,hZ,gA,aI bU];try exact cq)
  ·simp only [b1,b2,Bool.not_false,Bool.and_true,if_true]at hG
   repeat' (first
 |simp only[go_sem,hD,hY,hZ,gA,b1,b2]
 |(with_reducible refine CU (jC (l:=out) (by omega) name _ _) ?_)
 | (with_reducible refine aE hQ ?_;exact bd))
   refine eY 1 1 ?_ ?_ (bu.ind (ι:=List Ex×Nat×List aG×Nat) (fun i=>kids.drop i.2.1=i.1∧Ex.lQ i.2.2.1 i.1=R∧i.2.2.1.length+Ex.a7 i.1≤1000000000∧i.2.2.2=i.2.2.1.length) (fun i=>i.1.length)
    (fun i=> [(1, .slice (.tok 0) 1 (i.2.2.1.map encStr)),(2, .ptr 0 0),(23, .slice .shared 4 (kids.map cb)),(24, .int .i64 (kids.length:Int)),(25, .int .i64 (i.2.1:Int))]) (fun i=>⟨[cb ⟨op,m,name,kids⟩],[some i.2.2.2]⟩) ?_ (kids,0,(out++ [name]),(out.length+1)) ⟨rfl,hG,by simp;omega,by simp⟩)
   ·(simp only[go_sem,hD,hY,hZ,gA,List.map_append,List.map_cons,List.map_nil,List.length_append,List.length_cons,List.length_nil,encStr];try exact cq)
   ·(simp only[go_sem,hD,hY,hZ,gA,List.map_append,List.map_cons,List.map_nil,List.length_append,List.length_cons,List.length_nil,encStr];try exact cq)
   rintro⟨rest,k,cG,n'⟩ ⟨h1,h2,h3,h4⟩ IH
   dsimp only at h1 h2 h3 h4
   subst h4
   cases rest with
   |nil=>
    have hD:=drop_nil h1
    simp only[Ex.lQ]at h2
    subst h2
    repeat' (first
 |simp only[go_sem,hD,hY,hZ,gA]
 | (with_reducible refine aE hQ ?_;exact bd))
   |cons y rest=>
    obtain⟨hY,g2,hD,g4⟩:=drop_cons h1
    have bU:k<4611686018427387904:=by omega
    simp only[Ex.lQ]at h2
    simp only[Ex.a7]at h3
    have hy:=fun {s:St} {t:Nat} (ht:s.aw[t]? = some (some cG.length))=>hk y (List.mem_of_getElem? hY) cG (by omega) ht
    have hl:=sq cG y
    repeat' (first
 |simp only[go_sem,hD,hY,hZ,gA]
 |(with_reducible refine CU (hy (by with_unfolding_all rfl)) ?_)
 | (with_reducible refine aE hQ ?_;exact bd))
    refine eY 1 1 ?_ ?_ (IH (rest,k+1,_,_) ⟨g2,h2,by dsimp only;omega,rfl⟩ (Nat.lt_succ_self _))
    ·(simp only[go_sem,hD,hY,hZ,gA,aI bU];try exact cq)
    ·(simp only[go_sem,hD,hY,hZ,gA,aI bU];try exact cq)
 ·simp only [b1,Bool.false_and,Bool.false_eq_true,if_false]at hG
  repeat' (first
 |simp only[go_sem,hD,hY,hZ,gA,b1]
 | (with_reducible refine aE hQ ?_;exact bd))
  refine fk 1 1 (bu.ind (ι:=List Ex×Nat×List aG×Nat) (fun i=>kids.drop i.2.1=i.1∧Ex.lQ i.2.2.1 i.1=R∧i.2.2.1.length+Ex.a7 i.1≤1000000000∧i.2.2.2=i.2.2.1.length) (fun i=>i.1.length)
   (fun i=> [(1, .slice (.tok 0) 1 (i.2.2.1.map encStr)),(2, .ptr 0 0),(23, .slice .shared 4 (kids.map cb)),(24, .int .i64 (kids.length:Int)),(25, .int .i64 (i.2.1:Int))]) (fun i=>⟨[cb ⟨op,m,name,kids⟩],[some i.2.2.2]⟩) ?_ (kids,0,out,out.length) ⟨rfl,hG,by simp;omega,by simp⟩)
  rintro⟨rest,k,cG,n'⟩ ⟨h1,h2,h3,h4⟩ IH
  dsimp only at h1 h2 h3 h4
  subst h4
  cases rest with
  |nil=>
   have hD:=drop_nil h1
   simp only[Ex.lQ]at h2
   subst h2
   repeat' (first
 |simp only[go_sem,hD,hY,hZ,gA]
 | (with_reducible refine aE hQ ?_;exact bd))
  |cons y rest=>
   obtain⟨hY,g2,hD,g4⟩:=drop_cons h1
   have bU:k<4611686018427387904:=by omega
   simp only[Ex.lQ]at h2
   simp only[Ex.a7]at h3
   have hy:=fun {s:St} {t:Nat} (ht:s.aw[t]? = some (some cG.length))=>hk y (List.mem_of_getElem? hY) cG (by omega) ht
   have hl:=sq cG y
   repeat' (first
 |simp only[go_sem,hD,hY,hZ,gA]
 |(with_reducible refine CU (hy (by with_unfolding_all rfl)) ?_)
 | (with_reducible refine aE hQ ?_;exact bd))
   refine eY 1 1 ?_ ?_ (IH (rest,k+1,_,_) ⟨g2,h2,by dsimp only;omega,rfl⟩ (Nat.lt_succ_self _))
   ·(simp only[go_sem,hD,hY,hZ,gA,aI bU];try exact cq)
   ·(simp only[go_sem,hD,hY,hZ,gA,aI bU];try exact cq)
theorem Vy : ∀ N,RW N:=by
 intro N
 induction N with
 |zero=>rintro⟨op,m,name,kids⟩ h;simp only[Ex.size]at h;omega
 |succ N ih=>
  rintro⟨op,m,name,kids⟩ h out ho s t ht
  exact(adt ih h ho).abw (pre:= [_]) (post:= []) (by simp only[D.bK,D.ok,lV];rfl) rfl (fb out) (fb _) ht
abbrev aoE (N:Nat):Prop:=∀ (x:Ex),x.size≤N→∀ out:List aG,out.length+x.size≤1000000000→∀ {s:St} {t:Nat},s.aw[t]? = some (some out.length)→
 aF Tryz.prog Lo [.agg (cb x), .slice (.tok t) 1 (out.map encStr)] s (.slice (.tok t) 1 ((x.mK out).map encStr)) ⟨s.ah,s.aw.set t (some (x.mK out).length)⟩
theorem RX {op m:Int} {name:aG} {kids:List Ex} (h:Ex.form ⟨op,m,name,kids⟩=true) (h2:(op==2)=true):kids = []:=by
 have e:op=2:=by simpa using h2
 subst e
 simp only[Ex.form]at h
 split at h
 ·cases h
 ·rename_i hh
  simp only[Bool.or_eq_true,not_or,bne_iff_ne,ne_eq,Decidable.not_not]at hh
  have:=hh.1.1.1.1
  have e:oo 2=0:=rfl
  rw[e]at this
  exact List.length_eq_zero_iff.1 (by omega)
theorem Vz {op m:Int} {name:aG} {kids:List Ex} (hf:(op==2)=true→kids = []) (ho:Ex.size ⟨op,m,name,kids⟩≤1000000000) (s:St) :
 aF Tryz.prog iS [.agg (cb ⟨op,m,name,kids⟩), .slice .full 0 []] s (.slice .shared 1 ((Ex.mK [] ⟨op,m,name,kids⟩).map encStr)) s:=by
 refine aF.pure ?_ (by simp only[D.bK,D.ok,lV];rfl) (by simp only[D.ok,Tag.ok,fb];rfl) s
 obtain⟨R,hG⟩ : ∃ R,Ex.mK [] ⟨op,m,name,kids⟩=R:=⟨_,rfl⟩
 rw[hG]
 simp only[Ex.mK]at hG
 simp only[Ex.size]at ho
 have hlen:kids.length<1000000000:=by have:=Ex.eI kids;omega
 have hk : ∀ y∈kids,∀ out:List aG,out.length+y.size≤1000000000→∀ {s:St} {t:Nat},s.aw[t]? = some (some out.length)→
  aF Tryz.prog iS [.agg (cb y), .slice (.tok t) 1 (out.map encStr)] s (.slice (.tok t) 1 ((y.mK out).map encStr)) ⟨s.ah,s.aw.set t (some (y.mK out).length)⟩:=fun y hy out ho=>
  Vy y.size y (Nat.le_refl _) out ho
 unfold S0
 rcases Bool.eq_false_or_eq_true (op==2)with b1|b1
 ·have hk0:=hf b1
  subst hk0
  have e:fy [] name=false:=rfl
  simp only[b1,e,Bool.not_false,Bool.and_true,if_true,Ex.lQ,List.nil_append]at hG
  subst hG
  refine aF.go rE rfl fun B Q hB hQ=>?_
  have⟨hD,hY,hZ,gA⟩:=bN
  have hZ:17≤bH:=by unfold bH;omega
  repeat' (first
 |simp only[go_sem,hD,hY,hZ,gA,b1,List.map_nil,List.map_cons,List.length_nil,encStr,Int.natCast_zero,Int.lt_irrefl,decide_false]
 |(with_reducible refine CU (JO name _ _ _) ?_)
 |(with_reducible refine bu.kV ?_)
 |(with_reducible refine aE hQ ?_;exact bd))
 ·simp only [b1,Bool.false_and,Bool.false_eq_true,if_false]at hG
  refine aF.go rE rfl fun B Q hB hQ=>?_
  have⟨hD,hY,hZ,gA⟩:=bN
  repeat' (first
 |simp only[go_sem,hD,hY,hZ,gA,b1]
 | (with_reducible refine aE hQ ?_;exact bd))
  refine bu.si 1 1 rfl ?_
  simp only[go_sem,hD,hY,hZ,gA]
  refine fk 1 1 (bu.ind (ι:=List Ex×Nat×List aG×Nat) (fun i=>kids.drop i.2.1=i.1∧Ex.lQ i.2.2.1 i.1=R∧i.2.2.1.length+Ex.a7 i.1≤1000000000∧i.2.2.2=i.2.2.1.length) (fun i=>i.1.length)
   (fun i=> [(1, .slice (.tok 0) 1 (i.2.2.1.map encStr)),(2, .ptr 0 0),(23, .slice .shared 4 (kids.map cb)),(24, .int .i64 (kids.length:Int)),(25, .int .i64 (i.2.1:Int))]) (fun i=>⟨[cb ⟨op,m,name,kids⟩],[some i.2.2.2]⟩) ?_ (kids,0,[],0) ⟨rfl,hG,by simp;omega,by simp⟩)
  rintro⟨rest,k,cG,n'⟩ ⟨h1,h2,h3,h4⟩ IH
  dsimp only at h1 h2 h3 h4
  subst h4
  cases rest with
  |nil=>
   have hD:=drop_nil h1
   simp only[Ex.lQ]at h2
   subst h2
   repeat' (first
 |simp only[go_sem,hD,hY,hZ,gA]
 | (with_reducible refine aE hQ ?_;exact bd))
  |cons y rest=>
   obtain⟨hY,g2,hD,g4⟩:=drop_cons h1
   have bU:k<4611686018427387904:=by omega
   simp only[Ex.lQ]at h2
   simp only[Ex.a7]at h3
   have hy:=fun {s:St} {t:Nat} (ht:s.aw[t]? = some (some cG.length))=>hk y (List.mem_of_getElem? hY) cG (by omega) ht
   have hl:=sq cG y
   repeat' (first
 |simp only[go_sem,hD,hY,hZ,gA]
 |(with_reducible refine CU (hy (by with_unfolding_all rfl)) ?_)
 | (with_reducible refine aE hQ ?_;exact bd))
   refine eY 1 1 ?_ ?_ (IH (rest,k+1,_,_) ⟨g2,h2,by dsimp only;omega,rfl⟩ (Nat.lt_succ_self _))
   ·(simp only[go_sem,hD,hY,hZ,gA,aI bU];try exact cq)
   ·(simp only[go_sem,hD,hY,hZ,gA,aI bU];try exact cq)
theorem ny {x:Ex} (hx:x.size≤1000000000) (ht:x.texts) (s:St):aF Tryz.prog rC [.agg (cb x)] s (.slice .shared 1 (x.names.map encStr)) s:=by
 refine aF.pure ?_ (by simp only[D.bK,D.ok,lV];rfl) (by simp only[D.ok,Tag.ok,fb];rfl) s
 have hm:=fun s=>zC (x:=x) (by omega) ht s
 simp only[EV]at hm
 unfold Ex.names
 unfold S0
 cases hb:x.may
 ·simp only [hb]at hm
  simp only[Bool.false_eq_true,if_false,List.map_nil]
  refine aF.go yy rfl fun B Q hB hQ=>?_
  have⟨hD,hY,hZ,gA⟩:=bN
  repeat' (first
 |simp only[go_sem,hD,hY,hZ,gA]
 |(with_reducible refine CU (hm _) ?_)
 |(with_reducible refine aE hQ ?_;exact bd))
 ·simp only [hb]at hm
  simp only[if_true]
  have hg : ∀ s,aF Tryz.prog iS [.agg (cb x), .slice .full 0 []] s (.slice .shared 1 ((x.mK []).map encStr)) s:=by
   intro s
   obtain⟨op,m,name,kids⟩:=x
   exact Vz (fun h2=>RX (by simp only[Ex.may,Bool.and_eq_true]at hb;exact hb.2) h2) hx s
  refine aF.go yy rfl fun B Q hB hQ=>?_
  have⟨hD,hY,hZ,gA⟩:=bN
  repeat' (first
 |simp only[go_sem,hD,hY,hZ,gA]
 |(with_reducible refine CU (hm _) ?_)
 |(with_reducible refine CU (hg _) ?_)
 |(with_reducible refine aE hQ ?_;exact bd))
def Ar.said (out:List aG):List Ar→List aG
 | []=>out
 |a::l=>Ar.said ((if a.ref then out++ [a.name]else out)++a.x.names) l
def Sm.sO (v:Sm):List aG:=if v.kind != 10 && v.name != []then [v.name]else []
def Sm.said (v:Sm):List aG:=Ar.said (v.sO++v.x.names) v.args
theorem ln (x:Ex):x.names.length≤x.size:=by
 unfold Ex.names
 split
 ·simpa using sq [] x
 ·exact Nat.zero_le _
def Ar.vG:List Ar→Prop
 | []=>True
 |a::l=>a.x.texts∧Ar.vG l
def Sm.nz (v:Sm):Prop:=v.x.texts∧(∀ a∈v.args,a.x.texts)∧v.x.size+Ar.a7 v.args<1000000
theorem kN {l nx:List aG} {n:Nat} (hn:n=l.length) (h:l.length+nx.length≤1000000000) {g:Tag} (o:List (List D)) :
 iC 1 16 (.slice (.tok 0) 1 (l.map encStr)) (.slice g 1 (nx.map encStr)) ⟨o,[some n]⟩=some (.slice (.tok 0) 1 ((l++nx).map encStr),⟨o,[some (l++nx).length]⟩):=by
 subst hn
 have:=nZ (size:=1) (bytes:=16) (t:=0) (rows:=l.map encStr) (new:=nx.map encStr) (g:=g) (s:=⟨o,[some l.length]⟩) (by simp only[List.length_map];unfold bH;omega) (by simp)
 rw[this]
 simp
theorem BI {v:Sm} (hv:v.nz) (s:St):aF Tryz.prog rA [.agg (bj v)] s (.slice .shared 1 (v.said.map encStr)) s:=by
 refine aF.pure ?_ (by simp only[D.bK,D.ok,rj];rfl) (by simp only[D.ok,Tag.ok,fb];rfl) s
 obtain⟨wR,tr,dP⟩:=hv
 obtain⟨R,hG⟩ : ∃ R,v.said=R:=⟨_,rfl⟩
 rw[hG]
 simp only[Sm.said]at hG
 have hlen:v.args.length<1000000000:=by have:=Ar.eI v.args;omega
 have hx:=fun s=>ny (x:=v.x) (by omega) wR s
 have L4:=ln v.x
 unfold S0
 refine aF.go F0 rfl fun B Q hB hQ=>?_
 have⟨hD,hY,hZ,gA⟩:=bN
 have hZ:17≤bH:=by unfold bH;omega
 by_cases hb:(v.kind != 10 && v.name != [])=true
 ·simp only [Sm.sO,hb,if_true]at hG
  rw[Bool.and_eq_true]at hb
  obtain⟨b1,b2⟩:=hb
  have eR:=kN (l:= [v.name]) (nx:=v.x.names) (n:=1) rfl (by simp;omega) (g:= .shared)
  simp only[List.map_append,List.map_cons,List.map_nil,encStr]at eR
  have b3:(v.name == [])=false:=by simpa using b2
  repeat' (first
 |simp only[go_sem,hD,hY,hZ,gA,b1,b2,b3,eR]
 |(with_reducible refine CU (hx _) ?_)
 | (with_reducible refine aE hQ ?_;exact bd))
  refine eY 1 1 ?_ ?_ (bu.ind (ι:=List Ar×Nat×List aG×Nat) (fun i=>v.args.drop i.2.1=i.1∧Ar.said i.2.2.1 i.1=R∧i.2.2.1.length+Ar.a7 i.1≤2000000∧i.2.2.2=i.2.2.1.length) (fun i=>i.1.length)
   (fun i=> [(3, .slice (.tok 0) 1 (i.2.2.1.map encStr)),(1, .ptr 0 0),(25, .slice .shared 6 (v.args.map eB)),(26, .int .i64 (v.args.length:Int)),(27, .int .i64 (i.2.1:Int))]) (fun i=>⟨[bj v],[some i.2.2.2]⟩) ?_ (v.args,0,([v.name]++v.x.names),(v.x.names.length+1)) ⟨rfl,hG,by simp at L4 ⊢;omega,by simp⟩)
  ·(simp only[go_sem,hD,hY,hZ,gA,List.map_append,List.map_cons,List.map_nil,encStr];try exact cq)
  ·(simp only[go_sem,hD,hY,hZ,gA,List.map_append,List.map_cons,List.map_nil,encStr];try exact cq)
  rintro⟨rest,k,out,n'⟩ ⟨h1,h2,h3,h4⟩ IH
  dsimp only at h1 h2 h3 h4
  subst h4
  cases rest with
  |nil=>
   have hD:=drop_nil h1
   simp only[Ar.said]at h2
   subst h2
   repeat' (first
 |simp only[go_sem,hD,hY,hZ,gA]
 | (with_reducible refine aE hQ ?_;exact bd))
  | cons a rest=>
   obtain⟨hY,g2,hD,g4⟩:=drop_cons h1
   have bU:k<4611686018427387904:=by omega
   simp only[Ar.said]at h2
   simp only[Ar.a7]at h3
   have wS:=fun s=>ny (x:=a.x) (by have:=Ar.dn (List.mem_of_getElem? hY);omega) (tr a (List.mem_of_getElem? hY)) s
   have hl:=ln a.x
   have hZ:(out.length+1)*17≤bH:=by unfold bH;omega
   rcases Bool.eq_false_or_eq_true a.ref with b1|b1
   ·simp only [b1,if_true]at h2
    have eR:=kN (l:=out++ [a.name]) (nx:=a.x.names) (n:=out.length+1) (by simp) (by simp;omega) (g:= .shared)
    simp only[List.map_append,List.map_cons,List.map_nil,encStr]at eR
    repeat' (first
 |simp only[go_sem,hD,hY,hZ,gA,b1,eR]
 |(with_reducible refine CU (wS _) ?_)
 | (with_reducible refine aE hQ ?_;exact bd))
    refine eY 1 1 ?_ ?_ (IH (rest,k+1,out++ [a.name]++a.x.names,_) ⟨g2,h2,by simp;omega,by simp<;>omega⟩ (Nat.lt_succ_self _))
    ·(simp only[go_sem,hD,hY,hZ,gA,aI bU,List.map_append,List.map_cons,List.map_nil,encStr];try exact cq)
    ·(simp only[go_sem,hD,hY,hZ,gA,aI bU,List.map_append,List.map_cons,List.map_nil,encStr];try exact cq)
   ·simp only [b1,Bool.false_eq_true,if_false]at h2
    have eR:=kN (l:=out) (nx:=a.x.names) rfl (by omega) (g:= .shared)
    repeat' (first
 |simp only[go_sem,hD,hY,hZ,gA,b1,eR]
 |(with_reducible refine CU (wS _) ?_)
 | (with_reducible refine aE hQ ?_;exact bd))
    refine eY 1 1 ?_ ?_ (IH (rest,k+1,out++a.x.names,_) ⟨g2,h2,by simp;omega,by simp<;>omega⟩ (Nat.lt_succ_self _))
    ·(simp only[go_sem,hD,hY,hZ,gA,aI bU];try exact cq)
    ·(simp only[go_sem,hD,hY,hZ,gA,aI bU];try exact cq)
 ·simp only [Sm.sO,hb,Bool.false_eq_true,if_false,List.nil_append]at hG
  have rU:(v.kind != 10 && v.name != [])=false:=by simpa using hb
  obtain⟨nx,hnx⟩ : ∃ nx,nx=v.x.names:=⟨_,rfl⟩
  rw[← hnx]at hG L4
  simp only[← hnx]at hx
  by_cases IY:nx = []
  ·subst IY
   simp only[List.map_nil]at hx
   have eR : ∀ o:List (List D),iC 1 16 (.slice .full 0 []) (.slice .shared 1 []) ⟨o,[]⟩=some (.slice .full 0 [],⟨o,[]⟩):=fun o=>by simp[iC,bH]
   have HB:(v.kind != 10)=false∨(v.kind != 10)=true∧(v.name != [])=false:=by
    cases h1:(v.kind != 10)
    ·exact .inl rfl
    ·rw[h1]at rU;exact .inr ⟨rfl,by simpa using rU⟩
   rcases HB with b1|⟨b1,b2⟩
   ·rcases Bool.eq_false_or_eq_true (v.name != [])with b2 | b2
    all_goals
     have b3:(v.name == []) = !(v.name != []):=by simp only[bne,Bool.not_not]
     rw[b2]at b3
     repeat' (first
 |simp only[go_sem,hD,hY,hZ,gA,b1,b2,b3,Bool.not_true,Bool.not_false,eR]
 |(with_reducible refine CU (hx _) ?_)
 | (with_reducible refine aE hQ ?_;simp only [aT,aW,bE,bF,go_sem,hD,hY,hZ,gA];repeat' (first | exact Ok.out | with_reducible refine ja ?_ ?_ | (simp;done))))
    all_goals
     refine bu.si 3 1 rfl ?_
     simp only[go_sem,hD,hY,hZ,gA]
     refine fk 1 1 (bu.ind (ι:=List Ar×Nat×List aG×Nat) (fun i=>v.args.drop i.2.1=i.1∧Ar.said i.2.2.1 i.1=R∧i.2.2.1.length+Ar.a7 i.1≤2000000∧i.2.2.2=i.2.2.1.length) (fun i=>i.1.length)
      (fun i=> [(3, .slice (.tok 0) 1 (i.2.2.1.map encStr)),(1, .ptr 0 0),(25, .slice .shared 6 (v.args.map eB)),(26, .int .i64 (v.args.length:Int)),(27, .int .i64 (i.2.1:Int))]) (fun i=>⟨[bj v],[some i.2.2.2]⟩) ?_ (v.args,0,[],0) ⟨rfl,hG,by simp at L4 ⊢;omega,by simp⟩)
     rintro⟨rest,k,out,n'⟩ ⟨h1,h2,h3,h4⟩ IH
     dsimp only at h1 h2 h3 h4
     subst h4
     cases rest with
     |nil=>
      have hD:=drop_nil h1
      simp only[Ar.said]at h2
      subst h2
      repeat' (first
 |simp only[go_sem,hD,hY,hZ,gA]
 |(with_reducible refine aE hQ ?_;exact bd))
     | cons a rest=>
      obtain⟨hY,g2,hD,g4⟩:=drop_cons h1
      have bU:k<4611686018427387904:=by omega
      simp only[Ar.said]at h2
      simp only[Ar.a7]at h3
      have wS:=fun s=>ny (x:=a.x) (by have:=Ar.dn (List.mem_of_getElem? hY);omega) (tr a (List.mem_of_getElem? hY)) s
      have hl:=ln a.x
      have hZ:(out.length+1)*17≤bH:=by unfold bH;omega
      rcases Bool.eq_false_or_eq_true a.ref with b1|b1
      ·simp only [b1,if_true]at h2
       have eR:=kN (l:=out++ [a.name]) (nx:=a.x.names) (n:=out.length+1) (by simp) (by simp;omega) (g:= .shared)
       simp only[List.map_append,List.map_cons,List.map_nil,encStr]at eR
       repeat' (first
 |simp only[go_sem,hD,hY,hZ,gA,b1,eR]
 |(with_reducible refine CU (wS _) ?_)
 |(with_reducible refine aE hQ ?_;exact bd))
       refine eY 1 1 ?_ ?_ (IH (rest,k+1,out++ [a.name]++a.x.names,_) ⟨g2,h2,by simp;omega,by simp<;>omega⟩ (Nat.lt_succ_self _))
       ·(simp only[go_sem,hD,hY,hZ,gA,aI bU,List.map_append,List.map_cons,List.map_nil,encStr];try exact cq)
       ·(simp only[go_sem,hD,hY,hZ,gA,aI bU,List.map_append,List.map_cons,List.map_nil,encStr];try exact cq)
      ·simp only [b1,Bool.false_eq_true,if_false]at h2
       have eR:=kN (l:=out) (nx:=a.x.names) rfl (by omega) (g:= .shared)
       repeat' (first
 |simp only[go_sem,hD,hY,hZ,gA,b1,eR]
 |(with_reducible refine CU (wS _) ?_)
 | (with_reducible refine aE hQ ?_;exact bd))
       refine eY 1 1 ?_ ?_ (IH (rest,k+1,out++a.x.names,_) ⟨g2,h2,by simp;omega,by simp<;>omega⟩ (Nat.lt_succ_self _))
       ·(simp only[go_sem,hD,hY,hZ,gA,aI bU];try exact cq)
       ·(simp only[go_sem,hD,hY,hZ,gA,aI bU];try exact cq)
   ·have b3:(v.name == [])=true:=by simpa using b2
    repeat' (first
 |simp only[go_sem,hD,hY,hZ,gA,b1,b2,b3,eR]
 |(with_reducible refine CU (hx _) ?_)
 | (with_reducible refine aE hQ ?_;exact bd))
    refine bu.si 3 1 rfl ?_
    simp only[go_sem,hD,hY,hZ,gA]
    refine fk 1 1 (bu.ind (ι:=List Ar×Nat×List aG×Nat) (fun i=>v.args.drop i.2.1=i.1∧Ar.said i.2.2.1 i.1=R∧i.2.2.1.length+Ar.a7 i.1≤2000000∧i.2.2.2=i.2.2.1.length) (fun i=>i.1.length)
     (fun i=> [(3, .slice (.tok 0) 1 (i.2.2.1.map encStr)),(1, .ptr 0 0),(25, .slice .shared 6 (v.args.map eB)),(26, .int .i64 (v.args.length:Int)),(27, .int .i64 (i.2.1:Int))]) (fun i=>⟨[bj v],[some i.2.2.2]⟩) ?_ (v.args,0,[],0) ⟨rfl,hG,by simp at L4 ⊢;omega,by simp⟩)
    rintro⟨rest,k,out,n'⟩ ⟨h1,h2,h3,h4⟩ IH
    dsimp only at h1 h2 h3 h4
    subst h4
    cases rest with
    |nil=>
     have hD:=drop_nil h1
     simp only[Ar.said]at h2
     subst h2
     repeat' (first
 |simp only[go_sem,hD,hY,hZ,gA]
 | (with_reducible refine aE hQ ?_;exact bd))
    | cons a rest=>
     obtain⟨hY,g2,hD,g4⟩:=drop_cons h1
     have bU:k<4611686018427387904:=by omega
     simp only[Ar.said]at h2
     simp only[Ar.a7]at h3
     have wS:=fun s=>ny (x:=a.x) (by have:=Ar.dn (List.mem_of_getElem? hY);omega) (tr a (List.mem_of_getElem? hY)) s
     have hl:=ln a.x
     have hZ:(out.length+1)*17≤bH:=by unfold bH;omega
     rcases Bool.eq_false_or_eq_true a.ref with b1|b1
     ·simp only [b1,if_true]at h2
      have eR:=kN (l:=out++ [a.name]) (nx:=a.x.names) (n:=out.length+1) (by simp) (by simp;omega) (g:= .shared)
      simp only[List.map_append,List.map_cons,List.map_nil,encStr]at eR
      repeat' (first
 |simp only[go_sem,hD,hY,hZ,gA,b1,eR]
 |(with_reducible refine CU (wS _) ?_)
 |(with_reducible refine aE hQ ?_;exact bd))
      refine eY 1 1 ?_ ?_ (IH (rest,k+1,out++ [a.name]++a.x.names,_) ⟨g2,h2,by simp;omega,by simp<;>omega⟩ (Nat.lt_succ_self _))
      ·(simp only[go_sem,hD,hY,hZ,gA,aI bU,List.map_append,List.map_cons,List.map_nil,encStr];try exact cq)
      ·(simp only[go_sem,hD,hY,hZ,gA,aI bU,List.map_append,List.map_cons,List.map_nil,encStr];try exact cq)
     ·simp only [b1,Bool.false_eq_true,if_false]at h2
      have eR:=kN (l:=out) (nx:=a.x.names) rfl (by omega) (g:= .shared)
      repeat' (first
 |simp only[go_sem,hD,hY,hZ,gA,b1,eR]
 |(with_reducible refine CU (wS _) ?_)
 | (with_reducible refine aE hQ ?_;exact bd))
      refine eY 1 1 ?_ ?_ (IH (rest,k+1,out++a.x.names,_) ⟨g2,h2,by simp;omega,by simp<;>omega⟩ (Nat.lt_succ_self _))
      ·(simp only[go_sem,hD,hY,hZ,gA,aI bU];try exact cq)
      ·(simp only[go_sem,hD,hY,hZ,gA,aI bU];try exact cq)
  ·have eR : ∀ o:List (List D),iC 1 16 (.slice .full 0 []) (.slice .shared 1 (nx.map encStr)) ⟨o,[]⟩=some (.slice (.tok 0) 1 (nx.map encStr),⟨o,[some nx.length]⟩):=fun o=>by
    have:nx.length*17≤bH:=by unfold bH;omega
    cases nx with
    |nil=>exact absurd rfl IY
    |cons a r=>simp only[List.length_cons]at this;simp[iC,this]
   have HB:(v.kind != 10)=false∨(v.kind != 10)=true∧(v.name != [])=false:=by
    cases h1:(v.kind != 10)
    ·exact .inl rfl
    ·rw[h1]at rU;exact .inr ⟨rfl,by simpa using rU⟩
   rcases HB with b1|⟨b1,b2⟩
   ·rcases Bool.eq_false_or_eq_true (v.name != [])with b2 | b2
    all_goals
     have b3:(v.name == []) = !(v.name != []):=by simp only[bne,Bool.not_not]
     rw[b2]at b3
     repeat' (first
 |simp only[go_sem,hD,hY,hZ,gA,b1,b2,b3,Bool.not_true,Bool.not_false,eR]
 |(with_reducible refine CU (hx _) ?_)
 | (with_reducible refine aE hQ ?_;simp only [aT,aW,bE,bF,go_sem,hD,hY,hZ,gA];repeat' (first | exact Ok.out | with_reducible refine ja ?_ ?_ | (simp;done))))
    all_goals
     refine fk 1 1 (bu.ind (ι:=List Ar×Nat×List aG×Nat) (fun i=>v.args.drop i.2.1=i.1∧Ar.said i.2.2.1 i.1=R∧i.2.2.1.length+Ar.a7 i.1≤2000000∧i.2.2.2=i.2.2.1.length) (fun i=>i.1.length)
      (fun i=> [(3, .slice (.tok 0) 1 (i.2.2.1.map encStr)),(1, .ptr 0 0),(25, .slice .shared 6 (v.args.map eB)),(26, .int .i64 (v.args.length:Int)),(27, .int .i64 (i.2.1:Int))]) (fun i=>⟨[bj v],[some i.2.2.2]⟩) ?_ (v.args,0,nx,_) ⟨rfl,hG,by simp at L4 ⊢;omega,by simp⟩)
     rintro⟨rest,k,out,n'⟩ ⟨h1,h2,h3,h4⟩ IH
     dsimp only at h1 h2 h3 h4
     subst h4
     cases rest with
     |nil=>
      have hD:=drop_nil h1
      simp only[Ar.said]at h2
      subst h2
      repeat' (first
 |simp only[go_sem,hD,hY,hZ,gA]
 |(with_reducible refine aE hQ ?_;exact bd))
     | cons a rest=>
      obtain⟨hY,g2,hD,g4⟩:=drop_cons h1
      have bU:k<4611686018427387904:=by omega
      simp only[Ar.said]at h2
      simp only[Ar.a7]at h3
      have wS:=fun s=>ny (x:=a.x) (by have:=Ar.dn (List.mem_of_getElem? hY);omega) (tr a (List.mem_of_getElem? hY)) s
      have hl:=ln a.x
      have hZ:(out.length+1)*17≤bH:=by unfold bH;omega
      rcases Bool.eq_false_or_eq_true a.ref with b1|b1
      ·simp only [b1,if_true]at h2
       have eR:=kN (l:=out++ [a.name]) (nx:=a.x.names) (n:=out.length+1) (by simp) (by simp;omega) (g:= .shared)
       simp only[List.map_append,List.map_cons,List.map_nil,encStr]at eR
       repeat' (first
 |simp only[go_sem,hD,hY,hZ,gA,b1,eR]
 |(with_reducible refine CU (wS _) ?_)
 |(with_reducible refine aE hQ ?_;exact bd))
       refine eY 1 1 ?_ ?_ (IH (rest,k+1,out++ [a.name]++a.x.names,_) ⟨g2,h2,by simp;omega,by simp<;>omega⟩ (Nat.lt_succ_self _))
       ·(simp only[go_sem,hD,hY,hZ,gA,aI bU,List.map_append,List.map_cons,List.map_nil,encStr];try exact cq)
       ·(simp only[go_sem,hD,hY,hZ,gA,aI bU,List.map_append,List.map_cons,List.map_nil,encStr];try exact cq)
      ·simp only [b1,Bool.false_eq_true,if_false]at h2
       have eR:=kN (l:=out) (nx:=a.x.names) rfl (by omega) (g:= .shared)
       repeat' (first
 |simp only[go_sem,hD,hY,hZ,gA,b1,eR]
 |(with_reducible refine CU (wS _) ?_)
 | (with_reducible refine aE hQ ?_;exact bd))
       refine eY 1 1 ?_ ?_ (IH (rest,k+1,out++a.x.names,_) ⟨g2,h2,by simp;omega,by simp<;>omega⟩ (Nat.lt_succ_self _))
       ·(simp only[go_sem,hD,hY,hZ,gA,aI bU];try exact cq)
       ·(simp only[go_sem,hD,hY,hZ,gA,aI bU];try exact cq)
   ·have b3:(v.name == [])=true:=by simpa using b2
    repeat' (first
 |simp only[go_sem,hD,hY,hZ,gA,b1,b2,b3,eR]
 |(with_reducible refine CU (hx _) ?_)
 | (with_reducible refine aE hQ ?_;exact bd))
    refine fk 1 1 (bu.ind (ι:=List Ar×Nat×List aG×Nat) (fun i=>v.args.drop i.2.1=i.1∧Ar.said i.2.2.1 i.1=R∧i.2.2.1.length+Ar.a7 i.1≤2000000∧i.2.2.2=i.2.2.1.length) (fun i=>i.1.length)
     (fun i=> [(3, .slice (.tok 0) 1 (i.2.2.1.map encStr)),(1, .ptr 0 0),(25, .slice .shared 6 (v.args.map eB)),(26, .int .i64 (v.args.length:Int)),(27, .int .i64 (i.2.1:Int))]) (fun i=>⟨[bj v],[some i.2.2.2]⟩) ?_ (v.args,0,nx,_) ⟨rfl,hG,by simp at L4 ⊢;omega,by simp⟩)
    rintro⟨rest,k,out,n'⟩ ⟨h1,h2,h3,h4⟩ IH
    dsimp only at h1 h2 h3 h4
    subst h4
    cases rest with
    |nil=>
     have hD:=drop_nil h1
     simp only[Ar.said]at h2
     subst h2
     repeat' (first
 |simp only[go_sem,hD,hY,hZ,gA]
 | (with_reducible refine aE hQ ?_;exact bd))
    | cons a rest=>
     obtain⟨hY,g2,hD,g4⟩:=drop_cons h1
     have bU:k<4611686018427387904:=by omega
     simp only[Ar.said]at h2
     simp only[Ar.a7]at h3
     have wS:=fun s=>ny (x:=a.x) (by have:=Ar.dn (List.mem_of_getElem? hY);omega) (tr a (List.mem_of_getElem? hY)) s
     have hl:=ln a.x
     have hZ:(out.length+1)*17≤bH:=by unfold bH;omega
     rcases Bool.eq_false_or_eq_true a.ref with b1|b1
     ·simp only [b1,if_true]at h2
      have eR:=kN (l:=out++ [a.name]) (nx:=a.x.names) (n:=out.length+1) (by simp) (by simp;omega) (g:= .shared)
      simp only[List.map_append,List.map_cons,List.map_nil,encStr]at eR
      repeat' (first
 |simp only[go_sem,hD,hY,hZ,gA,b1,eR]
 |(with_reducible refine CU (wS _) ?_)
 |(with_reducible refine aE hQ ?_;exact bd))
      refine eY 1 1 ?_ ?_ (IH (rest,k+1,out++ [a.name]++a.x.names,_) ⟨g2,h2,by simp;omega,by simp<;>omega⟩ (Nat.lt_succ_self _))
      ·(simp only[go_sem,hD,hY,hZ,gA,aI bU,List.map_append,List.map_cons,List.map_nil,encStr];try exact cq)
      ·(simp only[go_sem,hD,hY,hZ,gA,aI bU,List.map_append,List.map_cons,List.map_nil,encStr];try exact cq)
     ·simp only [b1,Bool.false_eq_true,if_false]at h2
      have eR:=kN (l:=out) (nx:=a.x.names) rfl (by omega) (g:= .shared)
      repeat' (first
 |simp only[go_sem,hD,hY,hZ,gA,b1,eR]
 |(with_reducible refine CU (wS _) ?_)
 |(with_reducible refine aE hQ ?_;exact bd))
      refine eY 1 1 ?_ ?_ (IH (rest,k+1,out++a.x.names,_) ⟨g2,h2,by simp;omega,by simp<;>omega⟩ (Nat.lt_succ_self _))
      ·(simp only[go_sem,hD,hY,hZ,gA,aI bU];try exact cq)
      ·(simp only[go_sem,hD,hY,hZ,gA,aI bU];try exact cq)
theorem la : ∀ (a b:List It) (n:Nat),It.fO n (a++b)=(It.fO n a && It.fO (n+a.length) b)
 | [],b,n=>by simp[It.fO]
 |i::a,b,n=>by
  simp only[List.cons_append,It.fO,la a b (n+1),List.length_cons]
  have:n+1+a.length=n+(a.length+1):=by omega
  rw[this]
  split<;>simp
theorem EX (n:Nat) (i:It):It.fO n [i] = true↔i.s.id=((n+1:Nat):Int)∧i.deep≤12∧i.s.one=true:=by
 simp only[It.fO]
 split
 ·rename_i h
  simp only[Bool.or_eq_true,bne_iff_ne,ne_eq,decide_eq_true_eq,Bool.not_eq_true']at h
  refine⟨fun h=>(Bool.false_ne_true h).elim,fun⟨h1,h2,h3⟩=>?_⟩
  rcases h with (h|h)|h
  ·exact(h h1).elim
  ·omega
  ·rw[h]at h3;cases h3
 ·rename_i h
  simp only[Bool.or_eq_true,bne_iff_ne,ne_eq,decide_eq_true_eq,Bool.not_eq_true',not_or,Decidable.not_not,Bool.not_eq_false]at h
  exact⟨fun _=>⟨h.1.1,by omega,h.2⟩,fun _=>rfl⟩
mutual
theorem BJ (deep cz:Int) (aR:Bool) : ∀ (s:Sm) (out:List It),∃ new,iT deep cz aR out s=out++(⟨s,deep,cz,aR⟩::new)
 | ⟨id,kind,labels,name,proc,x,has,args,a8,e⟩,out=>by
  simp only[iT]
  split
  ·obtain⟨n1,h1⟩:=qM (deep+1) id false a8 (out++ [⟨⟨id,kind,labels,name,proc,x,has,args,a8,e⟩,deep,cz,aR⟩])
   obtain⟨n2,h2⟩:=qM (deep+1) id true e (dR (deep+1) id false (out++ [⟨⟨id,kind,labels,name,proc,x,has,args,a8,e⟩,deep,cz,aR⟩]) a8)
   rw[h2,h1]
   exact⟨n1++n2,by simp⟩
  ·exact⟨[],rfl⟩
theorem qM (deep cz:Int) (aR:Bool) : ∀ (l:List Sm) (out:List It),∃ new,dR deep cz aR out l=out++new
 | [],out=>⟨[],by simp[dR]⟩
 | s::l,out=>by
  simp only[dR]
  split
  ·obtain⟨n1,h1⟩:=BJ deep cz aR s out
   obtain⟨n2,h2⟩:=qM deep cz aR l (iT deep cz aR out s)
   rw[h2,h1]
   exact⟨⟨s,deep,cz,aR⟩::n1++n2,by simp⟩
  ·exact⟨[],by simp⟩
end
theorem Ha {nest:Int} {n:Nat} {s:Sm} (h:(Sm.pW nest n s).1=true) :
 n+1≤200∧s.id=((n+1:Nat):Int)∧s.one=true∧(Sm.gB (nest+1) (n+1) s.a8).1=true∧(Sm.gB (nest+1) (Sm.gB (nest+1) (n+1) s.a8).2 s.aR).1=true∧
 (Sm.pW nest n s).2=(Sm.gB (nest+1) (Sm.gB (nest+1) (n+1) s.a8).2 s.aR).2:=by
 rw[F9]at h ⊢
 split at h
 ·cases h
 rename_i h1
 simp only[Bool.or_eq_true,bne_iff_ne,ne_eq,decide_eq_true_eq,Bool.not_eq_true',not_or,Decidable.not_not,Bool.not_eq_false]at h1
 split at h
 ·cases h
 rename_i h2
 have uA:(Sm.gB (nest+1) (n+1) s.a8).1=true:=by simpa using h2
 refine⟨by omega,h1.1.1.2, ?_,uA,h, ?_⟩
 ·rw[EW,h1.1.2,h1.2];rfl
 ·rw[if_neg (by simp only[Bool.or_eq_true,bne_iff_ne,ne_eq,decide_eq_true_eq,Bool.not_eq_true',not_or,Decidable.not_not,Bool.not_eq_false];exact h1),if_neg h2]
theorem tt {nest:Int} {n:Nat} {l:List Sm} (h:(Sm.gB nest n l).1=true):(l = []∨nest≤12)∧Sm.gB nest n l=Sm.fm nest n l:=by
 unfold Sm.gB gate at *
 split at h
 ·cases h
 ·rename_i hc
  rw[if_neg hc]
  refine⟨?_,rfl⟩
  simp only[Bool.and_eq_true,decide_eq_true_eq,not_and]at hc
  cases l with
  |nil=>exact .inl rfl
  |cons s l=>right;simp only[List.length_cons]at hc;omega
mutual
theorem RY : ∀ (s:Sm) (nest cz:Int) (aR:Bool) (n:Nat) (out:List It),nest≤12→out.length≤n→n≤200→(Sm.pW nest n s).1=true→
 ∃ new,iT nest cz aR out s=out++new∧It.fO n new=true∧n+new.length=(Sm.pW nest n s).2∧(Sm.pW nest n s).2≤200
 | ⟨id,kind,labels,name,proc,x,has,args,a8,e⟩,nest,cz,aR,n,out,RZ,ho,hn,h=>by
  obtain⟨h1,h2,h3,h4,h5,h6⟩:=Ha h
  dsimp only at h2 h4 h5 h6
  rw[h6]
  obtain⟨g1,e1⟩:=tt h4
  rw[e1]at h4 h5 ⊢
  obtain⟨g2,e2⟩:=tt h5
  rw[e2]at h5 ⊢
  have pQ:It.fO n [(⟨⟨id,kind,labels,name,proc,x,has,args,a8,e⟩,nest,cz,aR⟩:It)] = true:=(EX _ _).2 ⟨h2,RZ,h3⟩
  obtain⟨n1,k1,k2,k3,k4⟩:=wT a8 (nest+1) id false (n+1) (out++ [⟨⟨id,kind,labels,name,proc,x,has,args,a8,e⟩,nest,cz,aR⟩]) g1 (by simp;omega) h1 h4
  obtain⟨n2,j1,j2,j3,j4⟩:=wT e (nest+1) id true _ (out++ [⟨⟨id,kind,labels,name,proc,x,has,args,a8,e⟩,nest,cz,aR⟩]++n1) g2 (by simp;omega) k4 h5
  simp only[iT]
  rw[if_pos (by simpa using RZ),k1,j1]
  refine⟨⟨⟨id,kind,labels,name,proc,x,has,args,a8,e⟩,nest,cz,aR⟩::(n1++n2),by simp, ?_, ?_,j4⟩
  ·have:(⟨⟨id,kind,labels,name,proc,x,has,args,a8,e⟩,nest,cz,aR⟩:It)::(n1++n2) = [⟨⟨id,kind,labels,name,proc,x,has,args,a8,e⟩,nest,cz,aR⟩]++n1++n2:=by simp
   rw[this,la,la,pQ,Bool.true_and]
   have e3:n+([(⟨⟨id,kind,labels,name,proc,x,has,args,a8,e⟩,nest,cz,aR⟩:It)]++n1).length=(Sm.fm (nest+1) (n+1) a8).2:=by simp;omega
   rw[e3,j2]
   have e4:n + [(⟨⟨id,kind,labels,name,proc,x,has,args,a8,e⟩,nest,cz,aR⟩:It)].length=n+1:=rfl
   rw[e4,k2];rfl
  ·simp only[List.length_cons,List.length_append];omega
theorem wT : ∀ (l:List Sm) (nest cz:Int) (aR:Bool) (n:Nat) (out:List It),(l = []∨nest≤12)→out.length≤n→n≤200→(Sm.fm nest n l).1=true→
 ∃ new,dR nest cz aR out l=out++new∧It.fO n new=true∧n+new.length=(Sm.fm nest n l).2∧(Sm.fm nest n l).2≤200
 | [],nest,cz,aR,n,out,RZ,ho,hn,h=>⟨[],by simp[dR],rfl,by simp[Sm.fm],by simpa[Sm.fm]using hn⟩
 |s::l,nest,cz,aR,n,out,RZ,ho,hn,h=>by
  have adv:nest≤12:=RZ.resolve_left (by simp)
  simp only[Sm.fm]at h ⊢
  split at h
  ·cases h
  rename_i hc
  rw[if_neg hc]
  obtain⟨n1,k1,k2,k3,k4⟩:=RY s nest cz aR n out adv ho hn (by simpa using hc)
  obtain⟨n2,j1,j2,j3,j4⟩:=wT l nest cz aR _ (out++n1) (.inr adv) (by simp;omega) k4 h
  simp only[dR]
  rw[if_pos (by simp only[decide_eq_true_eq];omega),k1,j1]
  refine⟨n1++n2,by simp, ?_,by simp;omega,j4⟩
  rw[la,k2,k3,j2];rfl
end
mutual
theorem R0 : ∀ (s:Sm) (nest cz:Int) (aR:Bool) (n:Nat) (out new:List It),iT nest cz aR out s=out++new→It.fO n new=true→out.length≤n→n+new.length≤200→
 Sm.pW nest n s=(true,n+new.length)∧nest≤12
 | ⟨id,kind,labels,name,proc,x,has,args,a8,e⟩,nest,cz,aR,n,out,new,il,hm,ho,hn=>by
  obtain⟨n0,h0⟩:=BJ nest cz aR ⟨id,kind,labels,name,proc,x,has,args,a8,e⟩ out
  have e0:new = ⟨⟨id,kind,labels,name,proc,x,has,args,a8,e⟩,nest,cz,aR⟩::n0:=List.append_cancel_left (il.symm.trans h0)
  subst e0
  have ahy:(⟨⟨id,kind,labels,name,proc,x,has,args,a8,e⟩,nest,cz,aR⟩:It)::n0 = [⟨⟨id,kind,labels,name,proc,x,has,args,a8,e⟩,nest,cz,aR⟩]++n0:=rfl
  rw[ahy,la,Bool.and_eq_true]at hm
  obtain⟨nB,jE⟩:=hm
  obtain⟨c1,c2,c3⟩:=(EX _ _).1 nB
  dsimp only at c1 c2 c3
  simp only[List.length_cons]at hn ⊢
  have VA:dR (nest+1) id true (dR (nest+1) id false (out++ [⟨⟨id,kind,labels,name,proc,x,has,args,a8,e⟩,nest,cz,aR⟩]) a8) e=out++([⟨⟨id,kind,labels,name,proc,x,has,args,a8,e⟩,nest,cz,aR⟩]++n0):=by
   simp only[iT]at il
   rw[if_pos (by simpa using c2)]at il
   exact il
  obtain⟨n1,g1⟩:=qM (nest+1) id false a8 (out++ [⟨⟨id,kind,labels,name,proc,x,has,args,a8,e⟩,nest,cz,aR⟩])
  obtain⟨n2,g2⟩:=qM (nest+1) id true e (dR (nest+1) id false (out++ [⟨⟨id,kind,labels,name,proc,x,has,args,a8,e⟩,nest,cz,aR⟩]) a8)
  have en:n0=n1++n2:=by
   rw[g2,g1]at VA
   simp only[List.append_assoc,List.append_cancel_left_eq]at VA
   exact VA.symm
  subst en
  have VB:It.fO (n+1) (n1++n2)=true:=jE
  rw[la,Bool.and_eq_true]at VB
  simp only[List.length_append]at hn ⊢
  obtain⟨r1,r2⟩:=wU a8 (nest+1) id false (n+1) _ n1 g1 VB.1 (by simp;omega) (by omega)
  obtain⟨q1,q2⟩:=wU e (nest+1) id true (n+1+n1.length) _ n2 g2 VB.2 (by rw[g1];simp;omega) (by omega)
  refine⟨?_,c2⟩
  have gg : ∀ {l:List Sm} {m:Nat} {r:Bool×Nat},Sm.fm (nest+1) m l=r→(l = []∨nest+1≤12)→Sm.gB (nest+1) m l=r:=by
   intro l m r h1 h2
   unfold Sm.gB gate
   rw[if_neg]
   ·exact h1
   ·simp only [Bool.and_eq_true,decide_eq_true_eq,not_and]
    rcases h2 with h2|h2
    ·subst h2;simp
    ·omega
  have t1:=gg r1 r2
  have t2:=gg q1 q2
  rw[F9]
  dsimp only
  rw[t1]
  dsimp only
  rw[t2]
  rw[EW,Bool.and_eq_true]at c3
  rw[if_neg]
  ·simp;omega
  ·simp only [Bool.or_eq_true,bne_iff_ne,ne_eq,decide_eq_true_eq,Bool.not_eq_true',not_or,Decidable.not_not,Bool.not_eq_false]
   exact⟨⟨⟨by omega,c1⟩,c3.1⟩,c3.2⟩
theorem wU : ∀ (l:List Sm) (nest cz:Int) (aR:Bool) (n:Nat) (out new:List It),dR nest cz aR out l=out++new→It.fO n new=true→out.length≤n→n+new.length≤200→
 Sm.fm nest n l=(true,n+new.length)∧(l = []∨nest≤12)
 | [],nest,cz,aR,n,out,new,il,hm,ho,hn=>by
  simp only[dR]at il
  have:new = []:=by simpa using il
  subst this
  exact⟨by simp[Sm.fm], .inl rfl⟩
 | s::l,nest,cz,aR,n,out,new,il,hm,ho,hn=>by
  simp only[dR]at il
  rw[if_pos (by simp only[decide_eq_true_eq];omega)]at il
  obtain⟨n1,g1⟩:=BJ nest cz aR s out
  obtain⟨n2,g2⟩:=qM nest cz aR l (iT nest cz aR out s)
  have en:new=(⟨s,nest,cz,aR⟩::n1)++n2:=by
   rw[g2,g1,List.append_assoc,List.append_cancel_left_eq]at il
   exact il.symm
  subst en
  rw[la,Bool.and_eq_true]at hm
  rw[List.length_append]at hn ⊢
  obtain⟨r1,r2⟩:=R0 s nest cz aR n out _ g1 hm.1 ho (by omega)
  obtain⟨q1,q2⟩:=wU l nest cz aR (n+(⟨s,nest,cz,aR⟩::n1:List It).length) _ n2 g2 hm.2 (by rw[g1,List.length_append];omega) (by omega)
  refine⟨?_, .inr r2⟩
  simp only[Sm.fm,r1,Bool.not_true,Bool.false_eq_true,↓reduceIte,q1]
  congr 1;omega
end
theorem BL : ∀ (l:List Pc) (out:List It),out.length≤200→(Pc.fm out.length l=true↔Pc.n8 l=true∧∃ new,allM out l=out++new∧(out++new).length≤200∧It.fO out.length new=true)
 | [],out,ho=>by simp[Pc.fm,Pc.n8,allM,It.fO];exact ho
 | f::l,out,ho=>by
  have pX : ∀ (l:List Pc) (out:List It),∃ new,allM out l=out++new:=by
   intro l
   induction l with
   |nil=>intro out;exact⟨[],by simp[allM]⟩
   | cons f l ih=>
    intro out
    simp only[allM]
    split
    ·exact⟨_,rfl⟩
    ·obtain⟨n1,h1⟩:=ih (out++f.flat)
     exact⟨f.flat++n1,by rw[h1,List.append_assoc]⟩
  simp only[Pc.fm,Pc.n8]
  have ahz:(decide ((f.params.length:Int) > 8) ||decide ((f.vars.length:Int) > 16) || !(isName f.name) || !(fc f.vars) || !(fc f.fin))=(!(isName f.name) ||decide ((f.params.length:Int) > 8) ||decide ((f.vars.length:Int) > 16) || !(fc f.vars) || !(fc f.fin)):=by
   cases isName f.name<;>simp
  rw[ahz]
  split
  ·simp
  split
  ·simp
  have hg:Sm.gB 1 out.length f.body=Sm.fm 1 out.length f.body:=by unfold Sm.gB gate;rw[if_neg (by simp)]
  rw[hg]
  constructor
  ·intro h
   split at h
   ·cases h
   rename_i hc
   obtain⟨n1,k1,k2,k3,k4⟩:=wT f.body 1 0 false out.length [] (.inr (by omega)) (by simp) ho (by simpa using hc)
   have il:f.flat=n1:=by unfold Pc.flat;rw[k1];rfl
   rw[← k3, ← List.length_append]at h
   obtain⟨hh,n2,j1,j2,j3⟩:=(BL l (out++n1) (by rw[List.length_append];omega)).1 h
   refine⟨hh,n1++n2, ?_,by simpa using j2, ?_⟩
   ·simp only [allM,il]
    rw[if_neg (by simp only[List.length_append,decide_eq_true_eq];omega),j1,List.append_assoc]
   ·rw[la,k2, ← List.length_append,j3];rfl
  ·rintro⟨hh,new,j1,j2,j3⟩
   simp only[allM]at j1
   split at j1
   ·rename_i hc
    have:new=f.flat:=(List.append_cancel_left j1).symm
    subst this
    simp only[decide_eq_true_eq]at hc
    omega
   rename_i hc
   simp only[decide_eq_true_eq]at hc
   obtain⟨n2,g2⟩:=pX l (out++f.flat)
   have en:new=f.flat++n2:=by
    rw[g2,List.append_assoc]at j1
    exact(List.append_cancel_left j1).symm
   subst en
   rw[la,Bool.and_eq_true]at j3
   rw[List.length_append,List.length_append]at j2
   obtain⟨r1,_⟩:=wU f.body 1 0 false out.length [] f.flat (by unfold Pc.flat;rfl) j3.1 (by simp) (by omega)
   rw[r1]
   simp only[Bool.not_true,Bool.false_eq_true,↓reduceIte]
   rw[← List.length_append]
   exact(BL l (out++f.flat) (by rw[List.length_append];omega)).2 ⟨hh,n2,g2,by simp;omega,by rw[List.length_append];exact j3.2⟩
theorem Cp (p:Pg):p.Gb=p.may:=by
 have h:=BL p.procs [] (by simp)
 unfold Pg.Gb Pg.may
 split
 ·rfl
 ·have e:Pc.fm 0 p.procs=(if !(Pc.n8 p.procs)then false else if decide ((p.all.length:Int) > 200)then false else It.fO 0 p.all):=by
   rw[Bool.eq_iff_iff]
   have h':Pc.fm 0 p.procs=true↔_:=h
   rw[h']
   have ha:p.all=allM [] p.procs:=rfl
   constructor
   ·rintro⟨h1,new,h2,h3,h4⟩
    rw[ha,h2,h1]
    simp only[List.nil_append]at h3 ⊢
    simp only[Bool.not_true,Bool.false_eq_true,↓reduceIte]
    rw[if_neg (by simp only[decide_eq_true_eq];omega)]
    exact h4
   ·intro h1
    cases hh:Pc.n8 p.procs
    ·rw[hh]at h1;simp at h1
    ·rw [hh]at h1
     simp only[Bool.not_true,Bool.false_eq_true,↓reduceIte]at h1
     split at h1
     ·cases h1
     ·rename_i hc
      simp only[decide_eq_true_eq]at hc
      exact⟨rfl,p.all,by rw[ha];rfl,by simp;omega,h1⟩
  exact e
def anX (x:aG):List aG→Bool
 | []=>false
 |s::l=>if x==s then true else anX x l
def qf (pre:List aG):List aG→Bool
 | []=>false
 |s::l=>if fy pre s then true else qf (pre++ [s]) l
def fH (l:List aG):Bool:=qf [] l
theorem R3 {l:List aG} {k:Nat} {a:aG} (h:l[k]? = some a):l.take (k+1)=l.take k++ [a]:=by rw[List.take_add_one,h];rfl
theorem DL {l:List aG} (hl:l.length<4611686018427387904) (g:Tag) (s:St):aF Tryz.prog oj [.slice g 1 (l.map encStr)] s (.bool (fH l)) s:=by
 refine aF.XY (d':= .slice .shared 1 (l.map encStr)) ?_ (Wk.shared _ _ _)
 refine aF.pure ?_ (by simp[D.bK,D.ok,Tag.ok,fb]) rfl s
 generalize h:fH l=p
 simp only[fH]at h
 unfold S0
 refine aF.go EG rfl fun B Q hB hQ=>?_
 have⟨hD,hY,hZ,gA⟩:=bN
 repeat' (first
 |simp only[go_sem,hD,hY,hZ,gA]
 |(with_reducible first|refine bn fun hc=>?_|refine bo fun hc=>?_|refine bp (fun hc=>?_) fun hc=>?_)<;>(try simp only[hc,bs,↓reduceIte]at h)<;>try simp only[hc]
 |(with_reducible refine aE hQ ?_;exact fX))
 refine fk 0 0 (bu.ind (ι:=List aG×Nat) (fun i=>l.drop i.2=i.1∧qf (l.take i.2) i.1=p) (fun i=>i.1.length)
  (fun i=> [(0, .slice .shared 1 (l.map encStr)),(5, .slice .shared 1 (l.map encStr)),(6, .int .i64 (l.length:Int)),(7, .int .i64 (i.2:Int))]) (fun i=>⟨[],[]⟩) ?_ (l,0) ⟨rfl,h⟩)
 rintro⟨rest,k⟩ ⟨h1,h⟩ IH
 dsimp only at h1 h
 cases rest with
 |nil=>
  have hD:=drop_nil h1
  simp only[qf]at h
  repeat' (first
 |simp only[go_sem,hD,hY,hZ,gA]
 |(with_reducible first|refine bn fun hc=>?_|refine bo fun hc=>?_|refine bp (fun hc=>?_) fun hc=>?_)<;>(try simp only[hc,bs,↓reduceIte]at h)<;>try simp only[hc]
 |(with_reducible refine aE hQ ?_;exact fX))
 |cons a rest=>
  obtain⟨hY,g2,hD,g4⟩:=drop_cons h1
  have bU:k<4611686018427387904:=by omega
  simp only[qf]at h
  have hc:=jC (l:=l.take k) (by rw[List.length_take];omega) a
  have e1:List.drop 0 (List.take k (l.map encStr))=(l.take k).map encStr:=by simp[List.map_take]
  have c1:((0:Int)≤(k:Int))=True:=by simp
  have c2:((k:Int)≤(l.length:Int))=True:=by simp only[eq_iff_iff,iff_true];omega
  have e2:List.take k (l.map encStr)=(l.take k).map encStr:=by simp[List.map_take]
  repeat' (first
 |simp only[go_sem,hD,hY,hZ,gA,e1,e2,c1,c2,or_true,true_and,and_self,ite_self,Int.toNat_natCast,List.drop_zero]
 |(with_reducible refine CU (hc _ _) ?_)
 |(with_reducible first|refine bn fun hc=>?_|refine bo fun hc=>?_|refine bp (fun hc=>?_) fun hc=>?_)<;>(try simp only[hc,bs,↓reduceIte]at h)<;>try simp only[hc]
 |(with_reducible refine aE hQ ?_;(try cases h);simp only[aT,aW,bE,bF,go_sem,hD,hY,hZ,gA,e1,e2,c1,c2,or_true,true_and,and_self,ite_self,Int.toNat_natCast,List.drop_zero];try exact cm))
  refine eY 0 0 ?_ ?_ (IH (rest,k+1) ⟨g2,by dsimp only;rw[R3 (by assumption)];exact h⟩ (Nat.lt_succ_self _))
  ·(simp only[go_sem,hD,hY,hZ,gA,aI bU];try exact cq)
  ·(simp only[go_sem,hD,hY,hZ,gA,aI bU];try exact cq)
end Go.Abs
