/-
  What is proved here: part 2 of the road to the claim (Codes1, Have1, Codes2, Have2, Codes3, Codes4, Have4, Codes5, Have5, Have3, MirLex, MirMay, Prs, Lex1, Lex2, RefLex1, Prs2, Ref1, Ref2, RefMay2, Flat1, Flat2, Flat3, Sl1, MirFlat2, Sl2, TMay1, TMay2, RefMay3, RefMay4, TMay3, TMay4, MayFine, MayEq, Nm1, Nm2, Nm3).
  No conditions.
-/
import Derived.Test.YtpjadlleefgcpaaGreatRnH1
import Derived.Test.YtpjadlleefgcpaaGreatProg
import Derived.KernelRfl

set_option linter.unusedSimpArgs false
set_option linter.unusedVariables false
namespace Go.Abs
abbrev Q9O:AC:= .seq (.run [.o 1 (.box bA),(.o 2 (.mv (.k (.val (.complex .f64 0 0)))))]) (.seq (.run [.o 3 (.aq bp 1), .o 4 (.load cG false 1), .o 5 (.rO (.ofInt .f64) fA fA), .o 6 (.aq bp 2), .o 7 (.load dJ false 1), .o 8 (.rO (.ofInt .f64) cR cR), .o 9 (.rO .JW cv dk), .m 2 dc]) .ret)
abbrev Q9Q:AC:= .run [(.o 3 (.dq [(.str [])] 1 1 [(0,(.k (.str [118])))])), .c 4 sk [(.k (.int .i64 2))],(.o 5 (.build [(.int .i64 0),(.int .i64 0),(.slice .full 0 []),(.str []),(.str []),(.int .i64 0),(.int .i64 0),(.str []),(.slice .full 0 []),(.bool false),(.slice .full 0 []),(.slice .full 0 []),(.slice .full 0 [])] [(0,(1,(.k (.int .i64 1)))),(1,(1,(.k (.int .i64 1)))),(3,(1,(.k (.str [118])))),(5,(4,fA))])), .c 6 sk [(.k (.int .i64 3))], .o 7 (.build [(.bool false),(.str []),(.int .i64 0),(.int .i64 0),(.str []),(.slice .full 0 [])] [(2,(4,dJ))]),(.o 8 (.build [(.bool false),(.str []),(.int .i64 0),(.int .i64 0),(.str []),(.slice .full 0 [])] [(0,(1,(.k (.bool true)))),(1,(1,(.k (.str [118]))))])), .o 9 (.dq [(.bool false),(.str []),(.int .i64 0),(.int .i64 0),(.str []),(.slice .full 0 [])] 6 2 [(0,cR),(1,dk)]),(.o 10 (.build [(.int .i64 0),(.int .i64 0),(.slice .full 0 []),(.str []),(.str []),(.int .i64 0),(.int .i64 0),(.str []),(.slice .full 0 []),(.bool false),(.slice .full 0 []),(.slice .full 0 []),(.slice .full 0 [])] [(0,(1,(.k (.int .i64 2)))),(1,(1,(.k (.int .i64 4)))),(3,(1,(.k (.str [103])))),(4,(1,(.k (.str [112])))),(10,(1,dc))])),(.c 11 lP [(.k (.str [118]))]),(.o 12 (.build [(.int .i64 0),(.int .i64 0),(.slice .full 0 []),(.str []),(.str []),(.int .i64 0),(.int .i64 0),(.str []),(.slice .full 0 []),(.bool false),(.slice .full 0 []),(.slice .full 0 []),(.slice .full 0 [])] [(0,(1,(.k (.int .i64 3)))),(1,(1,(.k (.int .i64 3)))),(5,(4,cU))])),(.c 13 lP [(.k (.str [103]))]),(.o 14 (.build [(.int .i64 0),(.int .i64 0),(.slice .full 0 []),(.str []),(.str []),(.int .i64 0),(.int .i64 0),(.str []),(.slice .full 0 []),(.bool false),(.slice .full 0 []),(.slice .full 0 []),(.slice .full 0 [])] [(0,(1,(.k (.int .i64 4)))),(1,(1,(.k (.int .i64 3)))),(5,(4,da))])), .o 15 (.dq [(.int .i64 0),(.int .i64 0),(.slice .full 0 []),(.str []),(.str []),(.int .i64 0),(.int .i64 0),(.str []),(.slice .full 0 []),(.bool false),(.slice .full 0 []),(.slice .full 0 []),(.slice .full 0 [])] 13 4 [(0,cv),(1,bQ),(2,cJ),(3,cT)]),(.o 16 (.build [(.str []),(.slice .full 0 []),(.slice .full 0 []),(.slice .full 0 []),(.slice .full 0 [])] [(0,(1,(.k (.str [109,97,105,110])))),(2,(1,cG)),(3,(1,dB))])), .o 1 (.alloc [(.str []),(.slice .full 0 []),(.slice .full 0 []),(.slice .full 0 []),(.slice .full 0 [])]), .op none none (.store bp dj 5)]
abbrev Q9R:AC:= .run [(.o 17 (.build [(.str []),(.bool false)] [(0,(1,(.k (.str [120]))))])),(.o 18 (.build [(.str []),(.bool false)] [(0,(1,(.k (.str [121])))),(1,(1,(.k (.bool true))))])), .o 19 (.dq [(.str []),(.bool false)] 2 2 [(0,dK),(1,dH)]),(.o 20 (.dq [(.str [])] 1 1 [(0,(.k (.str [101])))])),(.c 21 lP [(.k (.str [121]))]),(.c 22 lP [(.k (.str [120]))]), .c 23 vJ [(.k (.int .i64 8)),ei,dT],(.o 24 (.build [(.int .i64 0),(.int .i64 0),(.slice .full 0 []),(.str []),(.str []),(.int .i64 0),(.int .i64 0),(.str []),(.slice .full 0 []),(.bool false),(.slice .full 0 []),(.slice .full 0 []),(.slice .full 0 [])] [(0,(1,(.k (.int .i64 5)))),(1,(1,(.k (.int .i64 1)))),(3,(1,(.k (.str [121])))),(5,(4,eB))])),(.c 25 lP [(.k (.str [121]))]), .c 26 sk [(.k (.int .i64 9))], .c 27 vJ [(.k (.int .i64 12)),eZ,fm],(.o 28 (.build [(.int .i64 0),(.int .i64 0),(.slice .full 0 []),(.str []),(.str []),(.int .i64 0),(.int .i64 0),(.str []),(.slice .full 0 []),(.bool false),(.slice .full 0 []),(.slice .full 0 []),(.slice .full 0 [])] [(0,(1,(.k (.int .i64 7)))),(1,(1,(.k (.int .i64 10)))),(3,(1,(.k (.str [101]))))])), .o 29 (.dq [(.int .i64 0),(.int .i64 0),(.slice .full 0 []),(.str []),(.str []),(.int .i64 0),(.int .i64 0),(.str []),(.slice .full 0 []),(.bool false),(.slice .full 0 []),(.slice .full 0 []),(.slice .full 0 [])] 13 1 [(0,fV)]),(.o 30 (.build [(.int .i64 0),(.int .i64 0),(.slice .full 0 []),(.str []),(.str []),(.int .i64 0),(.int .i64 0),(.str []),(.slice .full 0 []),(.bool false),(.slice .full 0 []),(.slice .full 0 []),(.slice .full 0 [])] [(0,(1,(.k (.int .i64 6)))),(1,(1,(.k (.int .i64 5)))),(5,(4,fw)),(11,(1,fY))])),(.c 31 lP [(.k (.str [121]))]),(.o 32 (.build [(.int .i64 0),(.int .i64 0),(.slice .full 0 []),(.str []),(.str []),(.int .i64 0),(.int .i64 0),(.str []),(.slice .full 0 []),(.bool false),(.slice .full 0 []),(.slice .full 0 []),(.slice .full 0 [])] [(0,(1,(.k (.int .i64 8)))),(1,(1,(.k (.int .i64 9)))),(9,(1,(.k (.bool true)))),(5,(4,ga))])), .o 33 (.dq [(.int .i64 0),(.int .i64 0),(.slice .full 0 []),(.str []),(.str []),(.int .i64 0),(.int .i64 0),(.str []),(.slice .full 0 []),(.bool false),(.slice .full 0 []),(.slice .full 0 []),(.slice .full 0 [])] 13 3 [(0,eU),(1,gp),(2,gF)]),(.o 34 (.build [(.str []),(.slice .full 0 []),(.slice .full 0 []),(.slice .full 0 []),(.slice .full 0 [])] [(0,(1,(.k (.str [112])))),(1,(1,dY)),(4,(1,eg)),(3,(1,gv))])), .o 2 (.alloc [(.str []),(.slice .full 0 []),(.slice .full 0 []),(.slice .full 0 []),(.slice .full 0 [])]), .op none none (.store db ie 5)]
abbrev Q9T:AC:= .seq (.run [(.o 35 (.dq [(.str [])] 1 1 [(0,(.k (.str [103])))])), .o 36 (.load bp true 5), .o 37 (.load db true 5), .o 38 (.dq [(.str []),(.slice .full 0 []),(.slice .full 0 []),(.slice .full 0 []),(.slice .full 0 [])] 5 2 [(0,gQ),(1,iN)]), .o 39 (.build [(.slice .full 0 []),(.slice .full 0 [])] [(0,(1,gG)),(1,(1,ju))]), .op none none (.store bA jd 2)]) .ret
abbrev Q9W:AC:= .seq (.run [.o 0 (.alloc [(.slice .full 0 []),(.slice .full 0 [])])]) (.seq Q9Q (.seq Q9R Q9T))
abbrev QA6:AC:= .seq (.seq (.run [.m 6 cv, .m 7 bA, .o 8 (.len cR), .o 9 (.bin .lss dJ dk), .m 10 dc, .g 11 10 true (.mv bp), .g 12 10 true (.bin .leq cU (.k (.int .i64 20000))), .o 13 (.pick bQ cJ (.k (.bool false)))]) (.cond da .skip (.exit 0))) (.seq (.block 1 (.run [.m 16 bA, .m 17 cv, .o 18 (.bZ dj dK 1), .o 19 (.load dH false 1), .m 20 bp, .c 21 gE [dY,eg], .m 1 ei])) (.run [.m 14 cv, .o 15 (.bin .add cT (.k (.int .i64 1))), .m 5 dB]))
abbrev QAC:AC:= .seq (.seq (.run [.o 5 (.mv (.k (.int .i64 0)))]) (.block 0 (.loop QA6))) (.seq (.run [.m 22 bp, .m 4 dT]) .ret)
abbrev QAD:AC:= .seq (.run [.o 4 (.mv (.k (.int .i64 0)))]) QAC
abbrev QAI:AC:= .cond da (.seq (.run [.o 4 (.mv (.k (.int .i64 20001)))]) .ret) .skip
abbrev QAM:AC:= .seq (.seq (.run [.m 5 bp, .o 6 (.bin .gtr cv (.k (.int .i64 20000))), .m 7 dJ, .g 8 7 false (.mv bA), .g 9 7 false (.vY dk), .g 10 7 false (.mv bp), .g 11 7 false (.bin .sub (.k (.int .i64 20000)) bQ), .g 12 7 false (.bin .geq dc cU), .o 13 (.pick cR (.k (.bool true)) cJ)]) QAI) (.seq (.run [.m 14 bp, .o 15 (.bin .add cT (.k (.int .i64 1))), .m 16 bA, .o 17 (.vY dj), .o 18 (.bin .add dB dK), .m 4 dH]) .ret)
abbrev QAN:AC:= .seq (.run [.o 4 (.mv (.k (.int .i64 0)))]) QAM
abbrev QAU:AC:= .par [.o 22 (.aq dJ 4), .o 23 (.load dT false 1), .o 24 (.aq dJ 3), .o 25 (.load eU false 1), .o 26 (.aq dJ 2), .o 27 (.load fm false 1), .o 28 (.aq dJ 5), .o 29 (.load fV true 4), .m 30 bp, .c 31 kB [fY,gp], .c 32 kb [fw,ga], .c 33 gE [eZ,gF], .c 34 gE [eB,gv], .m 1 ie] [(6,0),(7,0),(8,0),(9,0),(4,0),(5,1),(10,0),(2,0),(3,2),(11,0),(0,0),(1,3),(12,0),(13,0)]
abbrev QAZ:AC:= .par [.o 46 (.aq dJ 10), .o 47 (.load lj false 1), .m 48 cR, .o 49 (.bZ lk kF 6), .o 50 (.aq kn 1), .o 51 (.load kG false 1), .o 52 (.aq dJ 10), .o 53 (.load kI false 1), .m 54 cR, .o 55 (.bZ ll lH 6), .o 56 (.aq lI 2), .o 57 (.load nn true 4), .m 58 bp, .c 59 kB [oz,nR], .c 60 gE [kH,my], .m 1 pw] [(6,0),(7,0),(8,0),(9,0),(10,0),(11,0),(12,0),(13,0),(0,0),(1,1),(2,0),(3,0),(4,0),(5,1),(14,0),(15,0)]
abbrev QB3:AC:= .seq (.seq (.run [.m 35 cR, .o 36 (.aq dJ 10), .o 37 (.load gQ false 1), .o 38 (.len iN), .o 39 (.bin .lss gG ju), .m 40 jd, .g 41 40 true (.mv bp), .g 42 40 true (.bin .leq jJ (.k (.int .i64 20000))), .o 43 (.pick jV kD (.k (.bool false)))]) (.cond km .skip (.exit 2))) (.seq (.block 3 QAZ) (.run [.m 44 cR, .o 45 (.bin .add kE (.k (.int .i64 1))), .m 7 lh]))
abbrev QB7:AC:= .par [.o 61 (.aq dJ 12), .o 62 (.load qG false 1), .o 63 (.aq dJ 11), .o 64 (.load qH false 1), .m 65 bp, .c 66 ly [qI,tj], .c 67 ly [pX,u5], .m 1 u6] [(2,0),(3,0),(4,0),(5,0),(0,0),(1,1),(6,0),(7,0)]
abbrev QB8:AC:= .seq (.seq (.run [.o 7 (.mv (.k (.int .i64 0)))]) (.block 2 (.loop QB3))) QB7
abbrev QBD:AC:= .seq (.block 1 (.seq (.run [.m 18 bA, .m 19 cv, .o 20 (.bZ dH dY 13), .o 21 (.load eg true 13), .o 6 (.alloc [(.int .i64 0),(.int .i64 0),(.slice .full 0 []),(.str []),(.str []),(.int .i64 0),(.int .i64 0),(.str []),(.slice .full 0 []),(.bool false),(.slice .full 0 []),(.slice .full 0 []),(.slice .full 0 [])]), .op none none (.store dJ ei 13)]) (.seq QAU QB8))) (.run [.m 16 cv, .o 17 (.bin .add dj (.k (.int .i64 1))), .m 5 dK])
abbrev QBE:AC:= .seq (.seq (.run [.m 8 cv, .m 9 bA, .o 10 (.len dc), .o 11 (.bin .lss dk bQ), .m 12 cU, .g 13 12 true (.mv bp), .g 14 12 true (.bin .leq da (.k (.int .i64 20000))), .o 15 (.pick cJ cT (.k (.bool false)))]) (.cond dB .skip (.exit 0))) QBD
abbrev QBK:AC:= .seq (.seq (.run [.o 5 (.mv (.k (.int .i64 0)))]) (.block 0 (.loop QBE))) (.seq (.run [.m 68 bp, .m 4 tn]) .ret)
abbrev QBL:AC:= .seq (.run [.o 4 (.mv (.k (.int .i64 0)))]) QBK
abbrev QBS:AC:= .par [.m 17 cG, .m 18 cG, .o 19 (.bY dH), .o 20 (.aq dY 3), .o 21 (.load eg false 1), .m 22 cG, .o 23 (.bY dT), .o 24 (.aq eB 2), .o 25 (.load eU false 1), .o 26 (.len eZ), .o 27 (.bin .add fm (.k (.int .i64 1))), .o 28 (.dq [(.int .i64 0)] 1 1 [(0,fw)]), .o 29 (.app 1 8 ei fV), .o 30 (.bY dK), .o 31 (.aq gp 3), .op none none (.store ga fY 1)] [(1,0),(2,0),(3,0),(4,0),(5,0),(6,0),(7,0),(8,0),(9,0),(10,0),(11,0),(12,0),(0,0),(13,0),(14,0),(15,0)]
abbrev QBU:AC:= .par [.m 38 cG, .m 39 cG, .o 40 (.bY jd), .o 41 (.aq jV 4), .o 42 (.load jJ false 1), .m 43 cG, .o 44 (.bY km), .o 45 (.aq kE 2), .o 46 (.load lh false 1), .o 47 (.len lj), .o 48 (.bin .add lk (.k (.int .i64 1))), .o 49 (.dq [(.int .i64 0)] 1 1 [(0,kF)]), .o 50 (.app 1 8 kD kn), .o 51 (.bY ju), .o 52 (.aq kH 4), .op none none (.store kI kG 1)] [(1,0),(2,0),(3,0),(4,0),(5,0),(6,0),(7,0),(8,0),(9,0),(10,0),(11,0),(12,0),(0,0),(13,0),(14,0),(15,0)]
abbrev QBV:AC:= .seq (.run [.m 32 cG, .o 33 (.aq cv 3), .o 34 (.load gv false 1), .m 35 fA,(.o 36 (.build [(.int .i64 0),(.int .i64 0),(.slice .full 0 []),(.str []),(.str []),(.int .i64 0),(.int .i64 0),(.str []),(.slice .full 0 []),(.bool false),(.slice .full 0 []),(.slice .full 0 []),(.slice .full 0 []),(.int .i64 0),(.int .i64 0),(.int .i64 0),(.int .i64 0)] [(13,(1,gG)),(15,(1,(.k (.int .i64 (-1)))))])), .c 37 kC [gF,ie,gQ]]) QBU
abbrev QC0:AC:= .seq (.block 1 (.seq (.run [.m 14 cJ, .o 15 (.bZ bQ cJ 5), .o 16 (.load dB true 5), .o 5 (.alloc [(.str []),(.slice .full 0 []),(.slice .full 0 []),(.slice .full 0 []),(.slice .full 0 [])]), .m 4 cT, .op none none (.store cv dj 5)]) (.seq QBS QBV))) (.run [.o 53 (.bin .add cJ (.k (.int .i64 1))), .m 12 ll])
abbrev QC4:AC:= .block 0 (.loop (.seq (.run [.o 13 (.bin .lss cJ cU)]) (.seq (.cond da .skip (.exit 0)) QC0)))
abbrev QC8:AC:= .seq (.seq (.run [.o 9 (.aq bp 1), .o 10 (.load dc false 1), .o 11 (.len bQ), .o 12 (.mv (.k (.int .i64 0)))]) QC4) (.seq (.run [.m 54 cG, .m 2 lH]) .ret)
abbrev QCA:AC:= .seq (.run [.o 1 (.box bA), .o 2 (.mv (.k .ew))]) (.seq (.run [.o 6 (.load bp true 2), .o 7 (.build [(.slice .full 0 []),(.slice .full 0 []),(.slice .full 0 []),(.slice .full 0 []),(.slice .full 0 [])] [(0,(2,dJ))]), .o 8 (.box cR), .m 3 dk]) QC8)
abbrev QCD:AC:= .par [.m 22 bp, .m 23 bA, .o 24 (.bY eB), .o 25 (.aq eU 0), .o 26 (.load eZ false 1), .o 27 (.bY fm), .o 28 (.aq fw 0), .o 29 (.load fV true 2), .o 30 (.aq dc 0), .o 31 (.load gp false 1), .c 32 wx [fY,ga], .m 33 cG, .o 34 (.build [(.int .i64 0),(.slice .full 0 []),(.slice .full 0 []),(.int .i64 0)] [(0,(1,dT)),(1,(1,gF)),(3,(1,gv))]), .o 35 (.box ie), .m 10 gG] [(1,0),(2,0),(3,0),(4,0),(5,0),(6,0),(7,0),(8,0),(9,0),(10,0),(0,0),(11,0),(12,0),(13,0),(14,0)]
abbrev QCE:AC:= .par [.m 36 bQ, .m 37 bQ, .o 38 (.bY iN), .o 39 (.aq ju 2), .o 40 (.load jd false 1), .m 41 bA, .o 42 (.bY jJ), .o 43 (.aq kD 1), .o 44 (.load km false 1), .o 45 (.app 1 8 jV kE), .m 46 db, .o 47 (.app 1 8 lh lj), .o 48 (.bY gQ), .o 49 (.aq kF 2), .op none none (.store kn lk 1)] [(1,0),(2,0),(3,0),(4,0),(5,0),(6,0),(7,0),(8,0),(9,0),(10,0),(11,0),(0,0),(12,0),(13,0),(14,0)]
abbrev QCM:AC:= .seq (.cond lH .skip (.exit 0)) (.seq (.block 1 (.run [.m 55 bQ, .m 56 bQ, .o 57 (.bY nn), .o 58 (.aq oz 2), .o 59 (.load nR false 1), .o 60 (.alloc [(.int .i64 0)]), .o 61 (.dq [.ew] 1 1 [(0,pw)]), .o 62 (.app 1 8 my qG), .o 63 (.bY lI), .o 64 (.aq qH 2), .op none none (.store qI pX 1)])) (.run [.o 65 (.bin .add ll (.k (.int .i64 1))), .m 53 tj]))
abbrev QCN:AC:= .seq (.run [.o 54 (.bin .lss ll kI)]) QCM
abbrev QCU:AC:= .seq (.run [.m 66 bA, .m 67 bA, .o 68 (.bY u6), .o 69 (.aq tn 4), .o 70 (.load wD false 1), .m 71 bQ, .o 72 (.dq [.ew] 1 1 [(0,Am)]), .o 73 (.app 1 8 wE yy), .o 74 (.bY u5), .o 75 (.aq An 4), .op none none (.store Ao yz 1)]) (.seq (.run [.m 76 bA, .o 77 (.bY Ap), .o 78 (.aq Cm 0), .o 79 (.load yA false 1), .m 80 bp, .c 81 pU [EF,EG], .m 8 EH]) .ret)
abbrev QCV:AC:= .seq (.seq (.run [.o 50 (.aq dc 2), .o 51 (.load kG false 1), .o 52 (.len kH), .o 53 (.mv (.k (.int .i64 0)))]) (.block 0 (.loop QCN))) QCU
abbrev QCZ:AC:= .seq (.run [.o 8 (.mv (.k (.int .i64 0)))]) (.seq (.run [.m 11 bA, .o 12 (.bY cU), .o 13 (.aq cJ 0), .o 14 (.load da false 1), .o 15 (.bY cT), .o 16 (.aq dB 0), .o 17 (.aq dj 1), .o 18 (.load dK false 1), .m 19 bp, .o 20 (.bZ dH dY 5), .o 21 (.load eg true 5), .o 9 (.alloc [(.str []),(.slice .full 0 []),(.slice .full 0 []),(.slice .full 0 []),(.slice .full 0 [])]), .op none none (.store dc ei 5)]) (.seq QCD (.seq QCE QCV)))
abbrev QD3:AC:= .seq (.run [.o 3 (.box bp), .o 4 (.mv (.k (.int .i64 0)))]) (.seq (.run [.m 5 bA, .o 6 (.bY cv), .o 7 (.aq dJ 0), .o 8 (.aq cR 1), .o 9 (.load dk false 1), .o 10 (.vE 76 [cG]), .c 11 gy [dc,bQ], .m 4 cU]) .ret)
abbrev QDE:AC:= .seq (.run [.o 18 (.aq cR 0), .o 19 (.load dH false 1)]) (.cond dY (.seq (.run [.m 20 cv, .m 21 bA, .o 22 (.aq cR 1), .o 23 (.load dT false 1), .c 24 iZ [ei,eB], .o 25 (.dq [.ew] 1 1 [(0,eU)]), .o 26 (.app 1 8 eg eZ), .m 5 fm]) (.exit 1)) .skip)
abbrev QDI:AC:= .seq (.run [(.o 4 (.mv (.k (.int .i64 (-1)))))]) .ret
abbrev QDP:AC:= .seq (.run [.m 28 bA, .o 29 (.aq cR 2), .o 30 (.load fY true 4), .c 31 ku [fV,gp], .m 27 ga, .o 32 (.ext fw 0), .o 33 (.ext fw 1), .m 8 gF, .m 9 gv]) (.seq (.seq (.run [.m 34 dc, .o 35 (.un .not ie)]) (.cond gG QDI .skip)) (.seq (.run [.m 36 dk, .o 10 (.alloc [(.int .i64 0)]), .op none none (.store bQ gQ 1)]) (.run [.m 37 cv, .o 38 (.dq [.ew] 1 1 [(0,bQ)]), .o 39 (.app 1 8 iN ju), .m 5 jd])))
abbrev QDU:AC:= .seq (.block 1 (.seq (.run [.o 16 (.bZ cJ cT 6), .o 17 (.load dj true 6), .o 7 (.alloc [(.bool false),(.str []),(.int .i64 0),(.int .i64 0),(.str []),(.slice .full 0 [])]), .op none none (.store cR dK 6)]) (.seq QDE QDP))) (.run [.o 40 (.bin .add cT (.k (.int .i64 1))), .m 14 jV])
abbrev QDW:AC:= .seq (.run [.o 15 (.bin .lss cT da)]) (.seq (.cond dB .skip (.exit 0)) QDU)
abbrev QE3:AC:= .seq (.run [(.o 4 (.mv (.k (.int .i64 (-1)))))]) .ret
abbrev QE5:AC:= .cond lj (.seq (.run [.m 47 bA, .o 48 (.bY lk), .o 49 (.aq kF 6), .o 50 (.aq kn 0), .op none none (.store kG (.k (.int .i64 5)) 1)]) QE3) .skip
abbrev QE8:AC:= .par [.m 55 bA, .m 56 bA, .o 57 (.bY nn), .o 58 (.aq oz 0), .o 59 (.load nR false 1), .o 60 (.aq cG 4), .o 61 (.load pw false 1), .c 62 iR [my,qG], .m 63 cv, .o 64 (.aq cG 0), .o 65 (.load qI false 1), .c 66 jD [lI,pX,qH,tj], .m 4 u5] [(1,0),(2,0),(3,0),(4,0),(5,0),(6,0),(7,0),(0,0),(8,0),(9,0),(10,1),(11,0),(12,0)]
abbrev QEB:AC:= .seq (.seq (.run [.m 41 bA, .o 42 (.bY jJ), .o 43 (.aq kD 4), .o 44 (.load km false 1), .o 45 (.len kE), .o 46 (.bin .gtr lh (.k (.int .i64 100)))]) QE5) (.seq (.run [.m 51 bA, .o 52 (.aq cG 0), .o 53 (.load kI false 1),(.c 54 eO [kH,ll,(.k (.slice .full 0 []))])]) (.seq QE8 .ret))
abbrev QEC:AC:= .seq (.seq (.run [.o 11 (.aq cG 10), .o 12 (.load cU false 1), .o 13 (.len cJ), .o 14 (.mv (.k (.int .i64 0)))]) (.block 0 (.loop QDW))) QEB
abbrev QEE:AC:= .seq (.run [.o 3 (.box bp), .o 4 (.mv (.k (.int .i64 0)))]) (.seq (.run [.o 5 (.mv (.k (.slice .full 0 [])))]) QEC)
abbrev QEK:AC:= .seq (.run [.m 10 bA, .o 11 (.aq cG 0), .o 12 (.load cU false 1),(.c 13 eO [bQ,cJ,(.k (.slice .full 0 []))])]) (.seq (.run [.o 4 (.mv (.k (.int .i64 0)))]) .ret)
abbrev QEU:AC:= .seq (.seq (.run [.m 21 dJ]) (.cond ei (.run [.m 22 bA, .o 23 (.aq cG 0), .o 24 (.load eB false 1), .m 25 cv, .o 26 (.dq [(.int .i64 0)] 1 1 [(0,eZ)]), .c 27 eO [dT,eU,fm]]) .skip)) (.seq (.run [.m 28 cv, .m 4 fV]) .ret)
abbrev QEX:AC:= .seq (.run [.o 3 (.box bp), .o 4 (.mv (.k (.int .i64 0)))]) (.seq (.seq (.run [.o 7 (.aq cG 9), .o 8 (.load cR false 1), .o 9 (.un .not dk)]) (.cond dc QEK .skip)) (.seq (.run [.m 15 bA, .o 16 (.aq cG 5), .o 17 (.load dj true 4), .c 18 ku [dB,dK], .m 14 dH, .o 19 (.ext cT 0), .o 20 (.ext cT 1), .m 5 dY, .m 6 eg]) QEU))
abbrev QF3:AC:= .par [.m 21 bA, .o 22 (.bY ei), .o 23 (.aq dT 0), .o 24 (.load eB false 1), .o 25 (.bY eU), .o 26 (.aq eZ 2), .o 27 (.load fm false 1), .o 28 (.aq cG 16), .o 29 (.load fV false 1), .o 30 (.bin .sub fY (.k (.int .i64 1))), .o 31 (.bZ fw gp 17), .o 32 (.aq ga 15), .o 33 (.load gF false 1), .m 4 gv] [(0,0),(1,0),(2,0),(3,0),(4,0),(5,0),(6,0),(7,0),(8,0),(9,0),(10,0),(11,0),(12,0),(13,0)]
abbrev QFD:AC:= .par [.m 49 bA, .o 50 (.bY kn), .o 51 (.aq kG 0), .o 52 (.load kH false 1), .o 53 (.aq cG 13), .o 54 (.load ll false 1), .o 55 (.aq cv 3), .o 56 (.load lI false 1), .c 57 pD [kI,lH,nn], .m 48 oz, .o 58 (.ext kF 0), .o 59 (.ext kF 1), .m 6 nR, .m 7 my] [(0,0),(1,0),(2,0),(3,0),(4,0),(5,0),(6,0),(7,0),(8,0),(9,0),(10,0),(11,0),(12,0),(13,0)]
abbrev QFJ:AC:= .par [.m 63 bA, .o 64 (.bY qH), .o 65 (.aq qI 6), .o 66 (.aq tj 2), .o 67 (.load u5 false 1), .m 68 bA, .o 69 (.bY tn), .o 70 (.aq wD 2), .o 71 (.load wE false 1), .o 72 (.len Am), .o 73 (.bin .geq u6 yy)] [(0,0),(1,0),(2,0),(3,0),(4,0),(5,0),(6,0),(7,0),(8,0),(9,0),(10,0)]
abbrev QFM:AC:= .seq (.run [(.o 4 (.mv (.k (.int .i64 (-1)))))]) .ret
abbrev QFO:AC:= .cond yz (.seq (.run [.m 74 bA, .o 75 (.bY An), .o 76 (.aq Ao 6), .o 77 (.aq Ap 0), .op none none (.store Cm (.k (.int .i64 3)) 1)]) QFM) .skip
abbrev QFQ:AC:= .par [.m 78 bA, .o 79 (.bY yA), .o 80 (.aq EF 2), .o 81 (.load EG false 1), .m 82 bA, .o 83 (.bY G6), .o 84 (.aq G7 6), .o 85 (.aq G8 2), .o 86 (.load G9 false 1), .o 87 (.bZ EH Ha 1), .o 88 (.load Hb false 1), .m 8 Hc] [(0,0),(1,0),(2,0),(3,0),(4,0),(5,0),(6,0),(7,0),(8,0),(9,0),(10,0),(11,0)]
abbrev QFY:AC:= .seq (.run [.m 89 bA, .o 90 (.bY Cn), .o 91 (.aq Hd 6), .o 92 (.aq K3 2), .o 93 (.load Q4 false 1), .o 94 (.bin .add W4 (.k (.int .i64 1))), .o 95 (.bY Cn), .o 96 (.aq W6 6), .o 97 (.aq aeX 2), .op none none (.store aeY W5 1)]) (.seq (.run [.m 98 bA, .o 99 (.aq cv 3), .o 100 (.load ae0 false 1), .c 101 iZ [aeZ,Zp], .m 102 dk, .o 103 (.bY Zq), .op none none (.store Zs Zr 1)]) (.seq (.run [.m 104 bA, .o 105 (.aq cv 0), .o 106 (.load Zu false 1), .m 107 dk, .o 108 (.dq [(.int .i64 0)] 1 1 [(0,Zw)]), .c 109 eO [Zt,Zv,Zx]]) (.seq (.run [.o 110 (.aq cG 15), .o 111 (.load Zy false 1), .m 4 Zz]) .ret)))
abbrev QG3:AC:= .cond kD (.seq (.run [.m 44 bA, .o 45 (.aq cv 0), .o 46 (.load lh false 1),(.c 47 eO [kE,lj,(.k (.slice .full 0 []))])]) (.seq QFD (.seq (.run [.m 60 dJ, .m 4 pw]) .ret))) (.seq (.run [.o 62 (.bin .eql cT (.k (.int .i64 2))), .m 61 pX]) (.cond qG (.seq (.seq QFJ QFO) (.seq QFQ QFY)) .skip))
abbrev QG5:AC:= .cond ie (.seq (.run [.m 36 bA, .o 37 (.aq cv 0), .o 38 (.load iN false 1),(.c 39 eO [gQ,ju,(.k (.slice .full 0 []))])]) (.seq (.run [.o 40 (.aq cG 16), .o 41 (.load jV false 1), .m 4 jJ]) .ret)) (.seq (.run [.o 43 (.bin .eql cT (.k (.int .i64 10))), .m 42 km]) QG3)
abbrev QG7:AC:= .cond dB (.seq (.run [.m 17 bA, .o 18 (.aq cv 0), .o 19 (.load dH false 1),(.c 20 eO [dK,dY,(.k (.slice .full 0 []))])]) (.seq QF3 .ret)) (.seq (.run [.o 35 (.bin .eql cT (.k (.int .i64 8))), .m 34 gG]) QG5)
abbrev QG9:AC:= .block 0 (.seq (.run [.o 16 (.bin .eql cT (.k (.int .i64 7))), .m 15 dj]) QG7)
abbrev QGE:AC:= .seq (.run [(.o 4 (.mv (.k (.int .i64 (-1)))))]) .ret
abbrev QGV:AC:= .seq (.seq (.run [.m 153 dc, .o 154 (.bin .neq ai0 (.k (.int .i64 0)))]) (.cond ai1 (.seq (.run [.o 155 (.aq cv 11), .o 156 (.load ai2 false 1), .o 157 (.aq cG 15), .o 158 (.load ai4 false 1), .c 159 qT [ai3,ai5], .m 4 ai6]) .ret) .skip)) (.seq (.run [.o 160 (.aq cv 12), .o 161 (.load ai7 false 1), .o 162 (.aq cG 15), .o 163 (.load ai9 false 1), .c 164 qT [ai8,aja], .m 4 ajb]) .ret)
abbrev QH2:AC:= .cond ajc (.seq (.run [.m 167 dc, .o 168 (.bin .neq aje (.k (.int .i64 0)))]) (.cond ajf (.seq (.run [.o 169 (.aq cv 11), .o 170 (.load ajg false 1), .o 171 (.aq cv 0), .o 172 (.load aji false 1), .c 173 qT [ajh,ajj], .m 4 ajk]) .ret) .skip)) .skip
abbrev QH4:AC:= .cond aiY QGV (.seq (.run [.o 166 (.bin .eql FF (.k (.int .i64 6))), .m 165 ajd]) QH2)
abbrev QH6:AC:= .cond aiK (.run [.m 139 bA, .m 140 bA, .o 141 (.bY aiN), .o 142 (.aq aiO 6), .o 143 (.aq aiP 3), .o 144 (.load aiQ false 1), .m 145 dc, .o 146 (.dq [(.int .i64 0)] 1 1 [(0,aiS)]), .o 147 (.app 1 8 aiR aiT), .o 148 (.bY aiM), .o 149 (.aq aiV 6), .o 150 (.aq aiW 3), .op none none (.store aiX aiU 1)]) (.seq (.run [.o 152 (.bin .eql FF (.k (.int .i64 5))), .m 151 aiZ]) QH4)
abbrev QH8:AC:= .cond ZO (.run [.m 131 bA, .o 132 (.aq cv 3), .o 133 (.load aiF false 1), .c 134 iZ [aiE,aiG], .m 135 dc, .o 136 (.bY aiH), .op none none (.store aiJ aiI 1)]) (.seq (.run [.o 138 (.bin .eql FF (.k (.int .i64 3))), .m 137 aiL]) QH6)
abbrev QHA:AC:= .block 1 (.seq (.run [.o 130 (.bin .eql FF (.k (.int .i64 1))), .m 129 ZP]) QH8)
abbrev QHG:AC:= .seq (.seq (.run [.m 119 bQ, .o 120 (.un .not ZG)]) (.cond ZH QGE .skip)) (.seq (.run [.m 121 bA, .o 122 (.aq cv 0), .o 123 (.load ZJ false 1), .m 124 dc, .o 125 (.dq [(.int .i64 0)] 1 1 [(0,ZL)]), .c 126 eO [ZI,ZK,ZM]]) (.seq (.seq (.run [.o 127 (.aq cv 1), .o 128 (.load ZN false 1)]) QHA) (.seq (.run [.o 174 (.aq cG 15), .o 175 (.load ajl false 1), .m 4 ajm]) .ret)))
abbrev QHK:AC:= .seq (.run [.o 3 (.box bp), .o 4 (.mv (.k (.int .i64 0)))]) (.seq (.run [.o 11 (.aq cG 0), .o 12 (.load cU true 13), .o 5 (.alloc [(.int .i64 0),(.int .i64 0),(.slice .full 0 []),(.str []),(.str []),(.int .i64 0),(.int .i64 0),(.str []),(.slice .full 0 []),(.bool false),(.slice .full 0 []),(.slice .full 0 []),(.slice .full 0 [])]), .op none none (.store cv cJ 13)]) (.seq (.seq (.run [.o 13 (.aq cv 1), .o 14 (.load da false 1)]) QG9) (.seq (.run [.m 113 bA, .o 114 (.aq cv 5), .o 115 (.load ZB true 4), .c 116 ku [ZA,ZC], .m 112 ZD, .o 117 (.ext Q5 0), .o 118 (.ext Q5 1), .m 9 ZE, .m 10 ZF]) QHG)))
abbrev QHN:AC:= .par [.m 12 bA, .m 13 bA, .o 14 (.bY da), .o 15 (.aq cT 4), .o 16 (.load dB false 1), .m 17 bA, .o 18 (.bY dK), .o 19 (.aq dH 4), .o 20 (.load dY false 1), .o 21 (.len eg), .o 22 (.bin .sub ei (.k (.int .i64 1))), .o 23 (.E9 1 dj none (some dT)), .o 24 (.bY cJ), .o 25 (.aq eU 4), .op none none (.store eZ eB 1)] [(0,0),(1,0),(2,0),(3,0),(4,0),(5,0),(6,0),(7,0),(8,0),(9,0),(10,0),(11,0),(12,0),(13,0),(14,0)]
abbrev QHR:AC:= .seq (.run [(.o 4 (.mv (.k (.int .i64 (-1)))))]) .ret
abbrev QHT:AC:= .cond fw (.seq (.run [.m 28 bA, .o 29 (.bY fV), .o 30 (.aq fY 6), .o 31 (.aq gp 0), .op none none (.store ga (.k (.int .i64 1)) 1)]) QHR) .skip
abbrev QI2:AC:= .seq (.seq (.run [.o 43 (.aq dJ 0), .o 44 (.aq km 3), .o 45 (.load kE false 1), .o 46 (.bin .neq lh (.k (.str [])))]) (.cond lj (.run [.m 47 bA, .o 48 (.aq dJ 0), .o 49 (.aq kF 3), .o 50 (.load kn false 1), .c 51 iZ [lk,kG], .m 52 bp, .o 53 (.bY kH), .op none none (.store ll kI 1)]) .skip)) (.seq (.run [.o 54 (.aq dJ 15), .o 55 (.load lH false 1), .m 4 lI]) .ret)
abbrev QI4:AC:= .seq (.seq (.run [.m 26 cv, .o 27 (.bin .eql fm (.k (.int .i64 0)))]) QHT) (.seq (.run [.m 32 bA, .o 33 (.bY gF), .o 34 (.aq gv 0), .o 35 (.load ie false 1), .o 36 (.bY gG), .o 37 (.aq gQ 2), .o 38 (.load iN false 1), .m 39 cv, .o 40 (.bin .sub jd (.k (.int .i64 1))), .o 41 (.bZ ju jV 17), .o 42 (.load jJ true 17), .o 6 (.alloc [(.int .i64 0),(.int .i64 0),(.slice .full 0 []),(.str []),(.str []),(.int .i64 0),(.int .i64 0),(.str []),(.slice .full 0 []),(.bool false),(.slice .full 0 []),(.slice .full 0 []),(.slice .full 0 []),(.int .i64 0),(.int .i64 0),(.int .i64 0),(.int .i64 0)]), .op none none (.store dJ kD 17)]) QI2)
abbrev QI7:AC:= .seq (.run [.o 4 (.mv (.k (.int .i64 0)))]) (.seq (.run [.m 7 bA, .c 8 lz [cR], .o 9 (.bY dk), .o 10 (.aq dc 3), .o 11 (.load bQ false 1), .m 5 cU]) (.seq QHN QI4))
abbrev QIB:AC:= .seq (.run [(.o 7 (.build [(.int .i64 0),(.int .i64 0)] [(0,(1,(.k (.int .i64 1))))])), .op none none (.store db cR 2)]) .ret
abbrev QIT:AC:= .seq (.seq (.run [.o 20 (.aq cG 0), .o 21 (.load eg false 1), .o 22 (.bin .eql ei (.k (.int .i64 0)))]) (.cond dT (.run [.o 23 (.load bp true 2), .c 24 uU [eB], .op none none (.store cG eU 2)]) .skip)) (.seq (.run [.o 25 (.load cG true 2), .op none none (.store db eZ 2)]) .ret)
abbrev QIU:AC:= .seq (.seq (.run [.o 15 (.aq cG 0), .o 16 (.load dB false 1), .o 17 (.bin .eql dj (.k (.int .i64 0)))]) (.cond dK (.run [.o 18 (.load bp true 2), .c 19 wy [dH], .op none none (.store cG dY 2)]) .skip)) QIT
abbrev QIV:AC:= .seq (.seq (.run [.o 10 (.aq cG 0), .o 11 (.load bQ false 1), .o 12 (.bin .eql cU (.k (.int .i64 0)))]) (.cond cJ (.run [.o 13 (.load bp true 2), .c 14 q6 [da], .op none none (.store cG cT 2)]) .skip)) QIU
abbrev QIY:AC:= .seq (.run [.o 1 (.box bA), .o 2 (.alloc [(.int .i64 0),(.int .i64 0)])]) (.seq (.seq (.run [.o 4 (.load bp true 2), .c 5 sj [fA], .o 6 (.un .not cv)]) (.cond dJ QIB .skip)) (.seq (.run [.o 8 (.load bp true 2), .c 9 mJ [dk], .o 3 (.alloc [(.int .i64 0),(.int .i64 0)]), .op none none (.store cG dc 2)]) QIV))
abbrev QJ0:AC:= .par [.m 7 bp, .o 8 (.bin .lss cR (.k (.int .i64 1))), .m 9 dk, .g 10 9 false (.aq db 3), .g 11 9 false (.load bQ false 1), .g 12 9 false (.len cU), .g 13 9 false (.aq db 0), .g 14 9 false (.load da false 1), .d 15 9 false yu [cT], .g 16 9 false (.bin .neq cJ dB), .o 17 (.pick dc (.k (.bool true)) dj)] [(0,0),(1,0),(2,0),(6,0),(7,0),(8,0),(3,0),(4,1),(5,0),(9,0),(10,0)]
abbrev QJ3:AC:= .cond dK (.seq (.run [.o 4 (.mv (.k (.bool false)))]) .ret) .skip
abbrev QJC:AC:= .cond gp (.seq (.run [.o 32 (.aq db 1), .o 33 (.load gF false 1), .o 34 (.bin .eql gv (.k (.int .i64 0))), .m 35 ie, .g 36 35 true (.aq db 2), .g 37 35 true (.load gQ false 1), .d 38 35 true mU [iN], .o 39 (.pick gG ju (.k (.bool false))), .m 4 jd]) .ret) .skip
abbrev QJE:AC:= .cond eg (.seq (.run [.o 22 (.aq db 1), .o 23 (.load dT false 1), .o 24 (.bin .geq eB (.k (.int .i64 0))), .m 25 eU, .g 26 25 true (.aq db 2), .g 27 25 true (.load fm false 1), .g 28 25 true (.bin .eql fw (.k (.str []))), .o 29 (.pick eZ fV (.k (.bool false))), .m 4 fY]) .ret) (.seq (.run [.o 31 (.bin .eql dY (.k (.int .i64 2))), .m 30 ga]) QJC)
abbrev QJG:AC:= .block 0 (.seq (.run [.o 21 (.bin .eql dY (.k (.int .i64 1))), .m 20 ei]) QJE)
abbrev QJL:AC:= .cond lk (.seq (.run [.o 4 (.mv (.k (.bool false)))]) .ret) .skip
abbrev QJU:AC:= .cond my (.seq (.run [.o 4 (.mv (.k (.bool false)))]) .ret) .skip
abbrev QJW:AC:= .seq (.run [.o 53 (.bZ kn kH 4), .o 54 (.load ll true 4), .o 6 (.alloc [(.int .i64 0),(.int .i64 0),(.str []),(.slice .full 0 [])]), .op none none (.store dJ lH 4)]) (.seq (.run [.o 55 (.load dJ true 4), .m 56 bp, .o 57 (.bin .sub nn (.k (.int .i64 1))), .c 58 o8 [lI,oz], .o 59 (.un .not nR)]) QJU)
abbrev QK0:AC:= .seq (.cond kI .skip (.exit 1)) (.seq (.block 2 QJW) (.run [.o 60 (.bin .add kH (.k (.int .i64 1))), .m 51 pw]))
abbrev QK4:AC:= .seq (.run [.o 48 (.aq db 3), .o 49 (.load kF false 1), .o 50 (.len kn), .o 51 (.mv (.k (.int .i64 0)))]) (.block 1 (.loop (.seq (.run [.o 52 (.bin .lss kH kG)]) QK0)))
abbrev QK7:AC:= .seq QK4 (.seq (.run [.o 4 (.mv (.k (.bool true)))]) .ret)
abbrev QK8:AC:= .seq (.seq (.run [.o 40 (.aq db 1), .o 41 (.load jV false 1), .o 42 (.bin .neq jJ (.k (.int .i64 0))), .m 43 kD, .g 44 43 false (.aq db 2), .g 45 43 false (.load kE false 1), .g 46 43 false (.bin .neq lh (.k (.str []))), .o 47 (.pick km (.k (.bool true)) lj)]) QJL) QK7
abbrev QKB:AC:= .seq (.run [.o 2 (.box bA), .o 4 (.mv (.k (.bool false)))]) (.seq (.seq QJ0 QJ3) (.seq (.seq (.run [.o 18 (.aq db 0), .o 19 (.load dH false 1)]) QJG) QK8))
abbrev QKM:AC:= .seq (.block 1 (.seq (.run [.o 14 (.bZ bQ cJ 1), .o 15 (.load cT false 1), .m 9 dB]) (.run [.m 16 cR, .m 17 dc, .m 18 bp, .m 19 db, .c 20 jR [dK,dH,dY], .o 21 (.dq [(.str [])] 1 1 [(0,eg)]), .o 22 (.app 1 16 dj ei), .m 7 dT]))) (.run [.o 23 (.bin .add cJ (.k (.int .i64 1))), .m 12 eB])
abbrev QKQ:AC:= .block 0 (.loop (.seq (.run [.o 13 (.bin .lss cJ cU)]) (.seq (.cond da .skip (.exit 0)) QKM)))
abbrev QKU:AC:= .seq (.seq (.run [.m 10 bA, .o 11 (.len bQ), .o 12 (.mv (.k (.int .i64 0)))]) QKQ) (.seq (.run [.m 24 cR, .m 6 eU]) .ret)
abbrev QKW:AC:= .seq (.run [.o 6 (.mv (.k (.slice .full 0 [])))]) (.seq (.run [.o 7 (.mv (.k (.slice .full 0 [])))]) QKU)
abbrev QL8:AC:= .seq (.run [.m 9 bp, .o 10 (.bin .eql cR dc), .m 8 bQ]) (.cond dk (.seq (.run [.m 11 db, .m 6 cU]) .ret) (.seq (.run [.m 13 db, .o 14 (.bin .eql cR da), .m 12 cT]) (.cond cJ (.seq (.run [.m 15 bp, .m 6 dB]) .ret) .skip)))
abbrev QLE:AC:= .seq (.run [.o 6 (.mv (.k (.str [])))]) (.seq (.seq (.run [.m 7 bA]) (.block 0 QL8)) (.seq (.run [.m 16 bA, .m 6 dj]) .ret))
abbrev QLL:AC:= .par [.o 19 (.aq dc 0), .o 20 (.load dY false 1), .o 21 (.aq dc 1), .o 22 (.load ei false 1), .o 23 (.aq dc 2), .o 24 (.load eB false 1), .m 25 bp, .m 26 db, .c 27 kA [eU,eZ,fm], .o 28 (.aq dc 3), .o 29 (.load fV false 1), .m 30 bp, .m 31 db, .c 32 jR [fY,gp,ga], .o 33 (.aq dc 4), .o 34 (.load gv false 1), .m 35 bp, .m 36 db, .c 37 jR [ie,gG,gQ], .o 38 (.aq dc 5), .o 39 (.load ju true 4), .m 40 bp, .m 41 db, .c 42 jS [jd,jV,jJ], .o 43 (.aq dc 9), .o 44 (.load km false 1), .o 45 (.build [(.int .i64 0),(.int .i64 0),(.slice .full 0 []),(.str []),(.str []),(.int .i64 0),(.int .i64 0),(.str []),(.slice .full 0 []),(.bool false),(.slice .full 0 []),(.slice .full 0 []),(.slice .full 0 [])] [(0,(1,eg)),(1,(1,dT)),(2,(1,fw)),(3,(1,gF)),(4,(1,iN)),(5,(4,kD)),(9,(1,kE))]), .o 10 (.alloc [(.int .i64 0),(.int .i64 0),(.slice .full 0 []),(.str []),(.str []),(.int .i64 0),(.int .i64 0),(.str []),(.slice .full 0 []),(.bool false),(.slice .full 0 []),(.slice .full 0 []),(.slice .full 0 [])]), .op none none (.store bQ lh 13)] [(4,0),(5,0),(6,0),(7,0),(8,0),(9,0),(10,1),(11,0),(12,0),(13,0),(14,0),(15,2),(16,0),(17,0),(18,0),(19,0),(20,3),(21,0),(22,0),(23,0),(27,0),(0,0),(1,5),(2,0),(3,5),(24,0),(25,5),(26,0),(28,0)]
abbrev QLQ:AC:= .par [.o 53 (.aq bQ 10), .o 54 (.load ll false 1), .o 55 (.aq cJ 0), .o 56 (.load lI false 1), .o 57 (.aq cJ 1), .o 58 (.load oz false 1), .m 59 bp, .m 60 db, .c 61 jR [nR,my,pw], .o 62 (.aq cJ 2), .o 63 (.load pX true 4), .m 64 bp, .m 65 db, .c 66 jS [qH,qI,tj], .o 67 (.build [(.bool false),(.str []),(.int .i64 0),(.int .i64 0),(.str []),(.slice .full 0 [])] [(0,(1,nn)),(1,(1,qG)),(2,(4,u5))]), .o 68 (.dq [(.bool false),(.str []),(.int .i64 0),(.int .i64 0),(.str []),(.slice .full 0 [])] 6 1 [(0,u6)]), .o 69 (.app 6 80 lH tn), .o 70 (.aq bQ 10), .op none none (.store wE wD 1)] [(4,0),(5,0),(6,0),(7,0),(8,0),(9,0),(10,1),(11,0),(12,0),(13,0),(0,0),(1,2),(2,0),(3,2),(14,0),(15,0),(16,0),(17,0),(18,0)]
abbrev QLU:AC:= .seq (.block 3 (.seq (.run [.o 51 (.bZ lk kn 6), .o 52 (.load kH true 6), .o 12 (.alloc [(.bool false),(.str []),(.int .i64 0),(.int .i64 0),(.str []),(.slice .full 0 [])]), .op none none (.store cJ kI 6)]) QLQ)) (.run [.o 71 (.bin .add kn (.k (.int .i64 1))), .m 49 Am])
abbrev QLY:AC:= .block 2 (.loop (.seq (.run [.o 50 (.bin .lss kn kF)]) (.seq (.cond kG .skip (.exit 2)) QLU)))
abbrev QM0:AC:= .par [.o 72 (.aq dc 11), .o 73 (.load yy false 1), .m 74 bp, .m 75 db, .c 76 jt [yz,An,Ao], .o 77 (.aq dc 12), .o 78 (.load Cm false 1), .m 79 bp, .m 80 db, .c 81 jt [yA,EF,EG], .o 82 (.aq bQ 11), .op none none (.store G6 Ap 1), .o 83 (.aq bQ 12), .op none none (.store G7 EH 1)] [(0,0),(1,0),(2,0),(3,0),(4,0),(5,0),(6,1),(7,0),(8,0),(9,0),(10,0),(11,0),(12,0),(13,0)]
abbrev QM3:AC:= .seq (.seq (.run [.o 46 (.aq dc 10), .o 47 (.load lj false 1), .o 48 (.len lk), .o 49 (.mv (.k (.int .i64 0)))]) QLY) (.seq QM0 (.run [.m 84 cR, .o 85 (.load bQ true 13), .o 86 (.dq [(.int .i64 0),(.int .i64 0),(.slice .full 0 []),(.str []),(.str []),(.int .i64 0),(.int .i64 0),(.str []),(.slice .full 0 []),(.bool false),(.slice .full 0 []),(.slice .full 0 []),(.slice .full 0 [])] 13 1 [(0,G9)]), .o 87 (.app 13 208 G8 Ha), .m 7 Hb]))
abbrev QM8:AC:= .seq (.block 1 (.seq (.run [.o 17 (.bZ da dB 13), .o 18 (.load dK true 13), .o 9 (.alloc [(.int .i64 0),(.int .i64 0),(.slice .full 0 []),(.str []),(.str []),(.int .i64 0),(.int .i64 0),(.str []),(.slice .full 0 []),(.bool false),(.slice .full 0 []),(.slice .full 0 []),(.slice .full 0 [])]), .op none none (.store dc dH 13)]) (.seq QLL QM3))) (.run [.o 88 (.bin .add dB (.k (.int .i64 1))), .m 15 Hc])
abbrev QMC:AC:= .block 0 (.loop (.seq (.run [.o 16 (.bin .lss dB cT)]) (.seq (.cond dj .skip (.exit 0)) QM8)))
abbrev QMG:AC:= .seq (.seq (.run [.m 13 bA, .o 14 (.len da), .o 15 (.mv (.k (.int .i64 0)))]) QMC) (.seq (.run [.m 89 cR, .m 6 Cn]) .ret)
abbrev QMI:AC:= .seq (.run [.o 6 (.mv (.k (.slice .full 0 [])))]) (.seq (.run [.o 7 (.mv (.k (.slice .full 0 [])))]) QMG)
abbrev QMV:AC:= .seq (.run [.m 13 cG, .o 14 (.load cv true 5), .c 15 yr [cT], .o 16 (.app 16 232 da dB), .m 3 dj]) (.seq (.run [.m 17 cG, .o 18 (.len dK), .o 19 (.bin .gtr dH (.k (.int .i64 200)))]) (.cond dY (.seq (.run [.m 20 cG, .m 2 eg]) .ret) .skip))
abbrev QMZ:AC:= .seq (.block 1 (.seq (.run [.o 11 (.bZ cR dc 5), .o 12 (.load cU true 5), .o 5 (.alloc [(.str []),(.slice .full 0 []),(.slice .full 0 []),(.slice .full 0 []),(.slice .full 0 [])]), .op none none (.store cv cJ 5)]) QMV)) (.run [.o 21 (.bin .add dc (.k (.int .i64 1))), .m 9 ei])
abbrev QN3:AC:= .block 0 (.loop (.seq (.run [.o 10 (.bin .lss dc dk)]) (.seq (.cond bQ .skip (.exit 0)) QMZ)))
abbrev QN7:AC:= .seq (.seq (.run [.o 6 (.aq bp 1), .o 7 (.load dJ false 1), .o 8 (.len cR), .o 9 (.mv (.k (.int .i64 0)))]) QN3) (.seq (.run [.m 22 cG, .m 2 dT]) .ret)
abbrev QN9:AC:= .seq (.run [.o 1 (.box bA), .o 2 (.mv (.k (.slice .full 0 [])))]) (.seq (.run [.o 3 (.mv (.k (.slice .full 0 [])))]) QN7)
open Go.Proofs
theorem Jo:Has Tryz.prog yn 10 [(2,none)] Q9O:=⟨Tryz.f38,by kernel_rfl,by kernel_rfl⟩
theorem Jp:Has Tryz.prog yo 40 [(0,(some (true,2)))] Q9W:=⟨Tryz.f39,by kernel_rfl,by kernel_rfl⟩
theorem By:Has Tryz.prog kb 23 [(4,none)] QAD:=⟨Tryz.f40,by kernel_rfl,by kernel_rfl⟩
theorem pY:Has Tryz.prog gE 19 [(4,none)] QAN:=⟨Tryz.f41,by kernel_rfl,by kernel_rfl⟩
theorem sW:Has Tryz.prog ly 69 [(4,none)] QBL:=⟨Tryz.f42,by kernel_rfl,by kernel_rfl⟩
theorem K6:Has Tryz.prog lF 55 [(2,none)] QCA:=⟨Tryz.f43,by kernel_rfl,by kernel_rfl⟩
theorem Aq:Has Tryz.prog jD 82 [(8,none)] QCZ:=⟨Tryz.f44,by kernel_rfl,by kernel_rfl⟩
theorem Bz:Has Tryz.prog iR 12 [(4,none)] QD3:=⟨Tryz.f45,by kernel_rfl,by kernel_rfl⟩
theorem As:Has Tryz.prog pT 67 [(4,none)] QEE:=⟨Tryz.f46,by kernel_rfl,by kernel_rfl⟩
theorem zl:Has Tryz.prog pk 29 [(4,none)] QEX:=⟨Tryz.f47,by kernel_rfl,by kernel_rfl⟩
theorem iE:Has Tryz.prog rp 176 [(4,none)] QHK:=⟨Tryz.f48,by kernel_rfl,by kernel_rfl⟩
theorem rI:Has Tryz.prog po 56 [(4,none)] QI7:=⟨Tryz.f49,by kernel_rfl,by kernel_rfl⟩
theorem oT:Has Tryz.prog yp 26 [(2,(some (true,2)))] QIY:=⟨Tryz.f53,by kernel_rfl,by kernel_rfl⟩
theorem u7:Has Tryz.prog o8 61 [(4,none)] QKB:=⟨Tryz.f55,by kernel_rfl,by kernel_rfl⟩
theorem Co:Has Tryz.prog kA 25 [(6,none)] QKW:=⟨Tryz.f56,by kernel_rfl,by kernel_rfl⟩
theorem tq:Has Tryz.prog jR 17 [(6,none)] QLE:=⟨Tryz.f57,by kernel_rfl,by kernel_rfl⟩
theorem Cp:Has Tryz.prog jt 90 [(6,none)] QMI:=⟨Tryz.f58,by kernel_rfl,by kernel_rfl⟩
theorem K7:Has Tryz.prog Ai 23 [(2,none)] QN9:=⟨Tryz.f62,by kernel_rfl,by kernel_rfl⟩
abbrev QNI:AC:= .cond da (.seq (.run [.o 2 (.mv (.k (.bool false)))]) .ret) .skip
abbrev QNN:AC:= .seq (.block 1 (.seq (.run [.o 9 (.bZ cv cR 1), .o 10 (.load dc false 1), .m 4 bQ]) (.seq (.run [.m 11 fA, .c 12 mU [cU], .o 13 (.un .not cJ)]) QNI))) (.run [.o 14 (.bin .add cR (.k (.int .i64 1))), .m 7 cT])
abbrev QNR:AC:= .block 0 (.loop (.seq (.run [.o 8 (.bin .lss cR dJ)]) (.seq (.cond dk .skip (.exit 0)) QNN)))
abbrev QNV:AC:= .seq (.seq (.run [.m 5 bA, .o 6 (.len cv), .o 7 (.mv (.k (.int .i64 0)))]) QNR) (.seq (.run [.o 2 (.mv (.k (.bool true)))]) .ret)
abbrev QNW:AC:= .seq (.run [.o 2 (.mv (.k (.bool false)))]) QNV
abbrev QO1:AC:= .cond dj (.seq (.run [.o 2 (.mv (.k (.bool false)))]) .ret) .skip
abbrev QO5:AC:= .seq (.seq (.run [.m 3 bA, .o 4 (.vY cG), .o 5 (.bin .lss fA (.k (.int .i64 1))), .m 6 cv, .g 7 6 false (.mv bA), .g 8 6 false (.vY cR), .g 9 6 false (.bin .gtr dk (.k (.int .i64 8))), .o 10 (.pick dJ (.k (.bool true)) dc), .m 11 bQ, .g 12 11 false (.mv bA), .g 13 11 false (.BJ cJ (.k (.int .i64 0))), .d 14 11 false sm [da], .g 15 11 false (.un .not cT), .o 16 (.pick cU (.k (.bool true)) dB)]) QO1) (.seq (.run [.m 17 bA, .c 18 Cj [dK,(.k (.int .i64 0))], .m 19 bA, .o 20 (.vY dY), .o 21 (.bin .eql dH eg), .m 22 ei, .g 23 22 true (.mv bA), .d 24 22 true Aj [eB], .g 25 22 true (.un .not eU), .o 26 (.pick dT eZ (.k (.bool false))), .m 2 fm]) .ret)
abbrev QO6:AC:= .seq (.run [.o 2 (.mv (.k (.bool false)))]) QO5
abbrev QOB:AC:= .cond dB (.seq (.run [.o 6 (.mv (.k (.bool false)))]) .ret) .skip
abbrev QOI:AC:= .par [.m 29 bA, .o 30 (.bY fY), .o 31 (.aq gp 0), .o 32 (.load ga false 1), .o 33 (.bin .gtr gF (.k (.int .i64 200))), .m 34 gv, .g 35 34 false (.aq dk 0), .g 36 34 false (.load gG false 1), .g 37 34 false (.mv bA), .g 38 34 false (.bY iN), .g 39 34 false (.aq ju 0), .g 40 34 false (.load jd false 1), .g 41 34 false (.bin .neq gQ jV), .o 42 (.pick ie (.k (.bool true)) jJ), .m 43 kD, .g 44 43 false (.aq dk 2), .g 45 43 false (.load kE false 1), .d 46 43 false nP [lh], .g 47 43 false (.un .not lj), .o 48 (.pick km (.k (.bool true)) lk), .m 49 kF, .g 50 49 false (.load dk true 13), .d 51 49 false uV [kG], .g 52 49 false (.un .not kH), .o 53 (.pick kn (.k (.bool true)) kI)] [(0,0),(1,0),(2,0),(3,0),(4,0),(5,0),(6,0),(7,0),(8,0),(9,0),(10,0),(11,0),(12,0),(13,0),(14,0),(15,0),(16,0),(17,0),(18,0),(19,0),(20,0),(21,0),(22,0),(23,0),(24,0)]
abbrev QOL:AC:= .cond ll (.seq (.run [.o 6 (.mv (.k (.bool false)))]) .ret) .skip
abbrev QOQ:AC:= .cond wD (.seq (.run [.o 6 (.mv (.k (.bool false)))]) .ret) .skip
abbrev QOS:AC:= .seq (.seq QOI QOL) (.seq (.run [.m 54 bA, .o 55 (.aq dk 11), .o 56 (.load lI false 1), .m 57 db, .o 58 (.bin .add oz (.k (.int .i64 1))), .c 59 kW [lH,nn,nR], .o 60 (.un .not my), .m 61 pw, .g 62 61 false (.mv bA), .g 63 61 false (.aq dk 12), .g 64 61 false (.load qH false 1), .g 65 61 false (.mv db), .g 66 61 false (.bin .add tj (.k (.int .i64 1))), .d 67 61 false kW [pX,qI,u5], .g 68 61 false (.un .not u6), .o 69 (.pick qG (.k (.bool true)) tn)]) QOQ)
abbrev QOU:AC:= .seq (.run [.o 20 (.bZ dj dH 13), .o 21 (.load eg true 13), .o 8 (.alloc [(.int .i64 0),(.int .i64 0),(.slice .full 0 []),(.str []),(.str []),(.int .i64 0),(.int .i64 0),(.str []),(.slice .full 0 []),(.bool false),(.slice .full 0 []),(.slice .full 0 []),(.slice .full 0 [])]), .op none none (.store dk ei 13)]) (.seq (.run [.m 22 bA, .o 23 (.bY dT), .o 24 (.aq eB 0), .o 25 (.load eU false 1), .o 26 (.bin .add eZ (.k (.int .i64 1))), .o 27 (.bY dT), .o 28 (.aq fw 0), .op none none (.store fV fm 1)]) QOS)
abbrev QOY:AC:= .seq (.cond dY .skip (.exit 0)) (.seq (.block 1 QOU) (.run [.o 70 (.bin .add dH (.k (.int .i64 1))), .m 18 wE]))
abbrev QP2:AC:= .seq (.run [.m 16 bp, .o 17 (.len dj), .o 18 (.mv (.k (.int .i64 0)))]) (.block 0 (.loop (.seq (.run [.o 19 (.bin .lss dH dK)]) QOY)))
abbrev QP5:AC:= .seq QP2 (.seq (.run [.o 6 (.mv (.k (.bool true)))]) .ret)
abbrev QP6:AC:= .seq (.seq (.run [.m 9 db, .o 10 (.bin .gtr dc (.k (.int .i64 12))), .m 11 bQ, .g 12 11 true (.mv bp), .g 13 11 true (.len cJ), .g 14 11 true (.bin .gtr da (.k (.int .i64 0))), .o 15 (.pick cU cT (.k (.bool false)))]) QOB) QP5
abbrev QP7:AC:= .seq (.run [.o 6 (.mv (.k (.bool false)))]) QP6
abbrev QPA:AC:= .seq (.run [.m 3 bA,(.o 4 (.build [(.int .i64 0),(.int .i64 0),(.str []),(.slice .full 0 [])] [(0,(1,(.k (.int .i64 1)))),(1,(1,cG))])), .op none none (.store db fA 4)]) .ret
abbrev QPB:AC:= .seq (.run [.o 2 (.alloc [(.int .i64 0),(.int .i64 0),(.str []),(.slice .full 0 [])])]) QPA
abbrev QPE:AC:= .seq (.run [.m 3 bA,(.o 4 (.build [(.int .i64 0),(.int .i64 0),(.str []),(.slice .full 0 [])] [(0,(1,(.k (.int .i64 2)))),(2,(1,cG))])), .op none none (.store db fA 4)]) .ret
abbrev QPF:AC:= .seq (.run [.o 2 (.alloc [(.int .i64 0),(.int .i64 0),(.str []),(.slice .full 0 [])])]) QPE
abbrev QPJ:AC:= .seq (.run [.o 4 (.box bp), .o 5 (.box db), .o 6 (.alloc [(.int .i64 0),(.int .i64 0),(.str []),(.slice .full 0 [])])]) (.seq (.run [.m 7 bA, .o 8 (.load fA true 4), .o 9 (.load cv true 4), .o 10 (.dq [(.int .i64 0),(.int .i64 0),(.str []),(.slice .full 0 [])] 4 2 [(0,dk),(1,dc)]), .o 11 (.build [(.int .i64 0),(.int .i64 0),(.str []),(.slice .full 0 [])] [(0,(1,cR)),(3,(1,bQ))]), .op none none (.store dJ cU 4)]) .ret)
abbrev QPU:AC:= .seq (.seq (.run [.m 10 cv, .o 11 (.aq db 3), .o 12 (.load cU false 1), .o 13 (.len cJ), .o 14 (.bin .lss bQ da), .m 15 cT, .g 16 15 true (.mv bp), .g 17 15 true (.bin .leq dj (.k (.int .i64 20000))), .o 18 (.pick dB dK (.k (.bool false)))]) (.cond dH .skip (.exit 0))) (.seq (.block 1 (.run [.o 21 (.aq db 3), .o 22 (.load ei false 1), .m 23 cv, .o 24 (.bZ dT eB 4), .o 25 (.load eU true 4), .m 26 bp, .c 27 kB [eZ,fm], .m 1 fw])) (.run [.m 19 cv, .o 20 (.bin .add dY (.k (.int .i64 1))), .m 5 eg]))
abbrev QQ0:AC:= .seq (.seq (.run [.o 5 (.mv (.k (.int .i64 0)))]) (.block 0 (.loop QPU))) (.seq (.run [.m 28 bp, .m 4 fV]) .ret)
abbrev QQ2:AC:= .seq (.run [.o 2 (.box bA), .o 4 (.mv (.k (.int .i64 0)))]) (.seq (.run [.o 6 (.aq db 2), .o 7 (.load dJ false 1), .m 8 bp, .c 9 gE [cR,dk], .m 1 dc]) QQ0)
abbrev QQF:AC:= .par [.m 37 bA, .m 38 bA, .o 39 (.bY ju), .o 40 (.aq jd 2), .o 41 (.load jV false 1), .o 42 (.load dc true 17), .o 43 (.dq [(.int .i64 0),(.int .i64 0),(.slice .full 0 []),(.str []),(.str []),(.int .i64 0),(.int .i64 0),(.str []),(.slice .full 0 []),(.bool false),(.slice .full 0 []),(.slice .full 0 []),(.slice .full 0 []),(.int .i64 0),(.int .i64 0),(.int .i64 0),(.int .i64 0)] 17 1 [(0,kD)]), .o 44 (.app 17 240 jJ km), .o 45 (.bY iN), .o 46 (.aq lh 2), .op none none (.store lj kE 1)] [(1,0),(2,0),(3,0),(4,0),(5,0),(6,0),(7,0),(0,0),(8,0),(9,0),(10,0)]
abbrev QQG:AC:= .run [.o 47 (.aq cv 13), .o 48 (.load lk false 1), .m 49 dk, .o 50 (.aq dc 15), .o 51 (.load kG false 1), .o 52 (.aq cv 16), .o 53 (.load kI false 1), .o 54 (.build [(.int .i64 0),(.int .i64 0),(.slice .full 0 []),(.str []),(.str []),(.int .i64 0),(.int .i64 0),(.str []),(.slice .full 0 []),(.bool false),(.slice .full 0 []),(.slice .full 0 []),(.slice .full 0 []),(.int .i64 0),(.int .i64 0),(.int .i64 0),(.int .i64 0)] [(13,(1,kF)),(14,(1,kn)),(15,(1,kH)),(16,(1,ll))]), .o 10 (.alloc [(.int .i64 0),(.int .i64 0),(.slice .full 0 []),(.str []),(.str []),(.int .i64 0),(.int .i64 0),(.str []),(.slice .full 0 []),(.bool false),(.slice .full 0 []),(.slice .full 0 []),(.slice .full 0 []),(.int .i64 0),(.int .i64 0),(.int .i64 0),(.int .i64 0)]), .op none none (.store bQ lH 17)]
abbrev QQO:AC:= .seq (.seq (.run [.o 55 (.aq cR 1), .o 56 (.load lI false 1), .o 57 (.bin .eql nn (.k (.int .i64 6)))]) (.cond oz (.run [.m 58 dk, .m 59 dk, .o 60 (.aq bQ 15), .op none none (.store pw nR 1), .o 61 (.aq bQ 16), .op none none (.store qG my 1)]) .skip)) (.seq (.run [.m 62 bA, .o 63 (.aq cR 11), .o 64 (.load qH false 1), .o 65 (.load bQ true 17), .c 66 kC [pX,qI,tj]]) (.run [.m 67 bA, .o 68 (.aq cR 12), .o 69 (.load tn false 1), .o 70 (.load bQ true 17), .c 71 kC [u6,wD,wE]]))
abbrev QQR:AC:= .seq (.seq (.run [.m 27 dJ, .o 28 (.bin .add fw (.k (.int .i64 1))), .m 29 bp, .o 30 (.len fY), .o 31 (.bin .lss fV gp)]) (.cond ga (.run [.m 32 dk, .o 33 (.load cR true 13), .c 34 ni [gv], .o 35 (.bin .add gF ie), .o 36 (.aq dc 15), .op none none (.store gQ gG 1)]) .skip)) (.seq QQF (.seq QQG QQO))
abbrev QQV:AC:= .seq (.run [.m 15 da, .o 16 (.bZ cU da 13), .o 17 (.load dj true 13), .o 7 (.alloc [(.int .i64 0),(.int .i64 0),(.slice .full 0 []),(.str []),(.str []),(.int .i64 0),(.int .i64 0),(.str []),(.slice .full 0 []),(.bool false),(.slice .full 0 []),(.slice .full 0 []),(.slice .full 0 [])]), .m 6 dB, .op none none (.store cR dK 13)]) (.seq (.run [.m 18 bA, .o 19 (.bY dH), .o 20 (.aq dY 2), .o 21 (.load eg false 1), .o 22 (.len ei), .o 23 (.bin .add dT (.k (.int .i64 1))), .m 8 eB]) (.seq (.run [.o 24 (.load cv true 17), .o 9 (.alloc [(.int .i64 0),(.int .i64 0),(.slice .full 0 []),(.str []),(.str []),(.int .i64 0),(.int .i64 0),(.str []),(.slice .full 0 []),(.bool false),(.slice .full 0 []),(.slice .full 0 []),(.slice .full 0 []),(.int .i64 0),(.int .i64 0),(.int .i64 0),(.int .i64 0)]), .op none none (.store dc eU 17)]) (.seq (.run [.o 25 (.load cR true 13), .o 26 (.aq dc 0), .op none none (.store fm eZ 13)]) QQR)))
abbrev QQZ:AC:= .seq (.cond cT .skip (.exit 0)) (.seq (.block 1 QQV) (.run [.o 72 (.bin .add da (.k (.int .i64 1))), .m 13 yy]))
abbrev QR3:AC:= .seq (.run [.m 11 bp, .o 12 (.len cU), .o 13 (.mv (.k (.int .i64 0)))]) (.block 0 (.loop (.seq (.run [.o 14 (.bin .lss da cJ)]) QQZ)))
abbrev QR4:AC:= .seq (.run [.o 5 (.box db)]) QR3
abbrev QR9:AC:= .cond dc (.seq (.run [.o 4 (.mv (.k (.slice .full 0 [])))]) .ret) .skip
abbrev QRG:AC:= .par [.o 21 (.aq db 0), .o 22 (.load ei false 1), .c 23 la [dT], .o 24 (.load dJ true 5), .c 25 tQ [eU], .o 26 (.app 1 16 eB eZ), .m 4 fm] [(0,0),(1,0),(2,0),(3,1),(4,0),(5,0),(6,0)]
abbrev QRN:AC:= .seq (.block 1 (.seq (.run [.o 15 (.bZ cU da 5), .o 16 (.load dB true 5), .o 6 (.alloc [(.str []),(.slice .full 0 []),(.slice .full 0 []),(.slice .full 0 []),(.slice .full 0 [])]), .op none none (.store dJ dj 5)]) (.seq (.run [.o 17 (.aq dJ 0), .o 18 (.load dK false 1), .m 19 bp, .o 20 (.bin .eql dH dY)]) (.cond eg (.seq QRG .ret) .skip)))) (.run [.o 27 (.bin .add da (.k (.int .i64 1))), .m 13 fw])
abbrev QRR:AC:= .block 0 (.loop (.seq (.run [.o 14 (.bin .lss da cJ)]) (.seq (.cond cT .skip (.exit 0)) QRN)))
abbrev QRV:AC:= .seq (.seq (.run [.o 10 (.aq db 1), .o 11 (.load bQ false 1), .o 12 (.len cU), .o 13 (.mv (.k (.int .i64 0)))]) QRR) (.seq (.run [.o 4 (.mv (.k (.slice .full 0 [])))]) .ret)
abbrev QRX:AC:= .seq (.run [.o 2 (.box bA), .o 4 (.mv (.k (.slice .full 0 [])))]) (.seq (.seq (.run [.o 7 (.load db true 2), .c 8 sj [cR], .o 9 (.un .not dk)]) QR9) QRV)
abbrev QRZ:AC:= .par [.m 5 bA, .o 6 (.bY cv), .o 7 (.aq dJ 3), .o 8 (.load cR false 1), .m 9 bp, .o 10 (.bZ dk dc 1), .o 11 (.load bQ false 1), .m 12 bA, .o 13 (.bY cJ), .o 14 (.aq da 4), .o 15 (.load cT false 1), .m 16 bp, .o 17 (.bZ dB dj 1), .o 18 (.load dK false 1), .o 19 (.bin .lss cU dH)] [(0,0),(1,0),(2,0),(3,0),(4,0),(5,0),(6,0),(7,0),(8,0),(9,0),(10,0),(11,0),(12,0),(13,0),(14,0)]
abbrev QS5:AC:= .seq (.run [(.o 4 (.mv (.k (.int .i64 (-1)))))]) .ret
abbrev QS6:AC:= .seq (.seq QRZ (.cond dY (.seq (.run [.m 20 bA, .o 21 (.bY eg), .o 22 (.aq ei 3), .o 23 (.load dT false 1), .m 24 bp, .o 25 (.bZ eB eU 1), .o 26 (.load eZ false 1), .m 4 fm]) .ret) .skip)) QS5
abbrev QS7:AC:= .seq (.run [.o 4 (.mv (.k (.int .i64 0)))]) QS6
abbrev QSJ:AC:= .block 1 (.seq (.run [.m 10 dk, .m 5 bQ]) (.seq (.run [.m 11 bp, .m 12 bA, .m 13 cv, .o 14 (.bZ cJ da 5), .o 15 (.load cT true 5),(.jM (some 16) none 11 [dB])]) (.cond dj (.seq (.run [.m 17 cv, .m 4 dK]) .ret) .skip)))
abbrev QSM:AC:= .seq (.cond dc .skip (.exit 0)) (.seq QSJ (.run [.o 18 (.bin .add dk (.k (.int .i64 1))), .m 8 dH]))
abbrev QSQ:AC:= .seq (.run [.m 6 bA, .o 7 (.len dJ), .o 8 (.mv (.k (.int .i64 0)))]) (.block 0 (.loop (.seq (.run [.o 9 (.bin .lss dk cR)]) QSM)))
abbrev QSS:AC:= .seq (.run [(.o 4 (.mv (.k (.int .i64 (-1)))))]) .ret
abbrev QSU:AC:= .seq (.run [.o 4 (.mv (.k (.int .i64 0)))]) (.seq QSQ QSS)
abbrev QSY:AC:= .seq (.run [.o 2 (.box bA), .o 3 (.mv (.k (.bool false)))]) (.seq (.run [.o 4 (.aq db 0), .o 5 (.load fA false 1), .o 6 (.load bp false 1), .o 7 (.bin .eql cv dJ), .m 3 cR]) .ret)
abbrev QT1:AC:= .par [.m 8 cv, .o 9 (.bY dk), .o 10 (.aq dc 2), .o 11 (.load bQ false 1), .m 12 cv, .o 13 (.bY cJ), .o 14 (.aq da 1), .o 15 (.load cT false 1), .m 16 bp, .c 17 gk [dB,dj], .o 18 (.bZ cU dK 1), .o 19 (.load dH false 1), .m 4 dY] [(4,0),(5,0),(6,0),(7,0),(8,0),(9,0),(0,0),(1,0),(2,0),(3,1),(10,0),(11,0),(12,0)]
abbrev QT4:AC:= .seq (.run [.o 4 (.mv (.k .ew))]) (.seq (.run [.m 6 bA, .c 7 lz [dJ], .m 5 cR]) (.seq QT1 .ret))
abbrev QTC:AC:= .par [.m 30 bA, .m 31 bA, .o 32 (.bY ga), .o 33 (.aq gF 5), .o 34 (.load gv false 1), .m 35 dk, .o 36 (.bY gG), .o 37 (.load gQ false 1), .o 38 (.dq [(.int .i64 0)] 1 1 [(0,iN)]), .o 39 (.app 1 8 ie ju), .o 40 (.bY gp), .o 41 (.aq jV 5), .op none none (.store jJ jd 1)] [(1,0),(2,0),(3,0),(4,0),(5,0),(6,0),(7,0),(8,0),(9,0),(0,0),(10,0),(11,0),(12,0)]
abbrev QTH:AC:= .seq (.cond fw .skip (.exit 0)) (.seq (.block 1 (.seq (.run [.o 28 (.bZ eU fm 1), .o 29 (.load fV false 1), .m 8 fY]) QTC)) (.run [.o 42 (.bin .add fm (.k (.int .i64 1))), .m 26 kD]))
abbrev QTI:AC:= .seq (.run [.o 27 (.bin .lss fm eZ)]) QTH
abbrev QTM:AC:= .par [.o 44 (.load cG true 4), .m 45 dJ, .o 46 (.bY lh), .o 47 (.aq lj 1), .o 48 (.load lk false 1), .m 49 bA, .o 50 (.bY kn), .o 51 (.aq kG 5), .o 52 (.load kH false 1), .c 53 xx [kE,kF,kI], .m 43 ll, .o 54 (.ext km 0), .o 55 (.ext km 1), .m 9 lH, .m 10 lI] [(0,0),(1,0),(2,0),(3,0),(4,0),(5,0),(6,0),(7,0),(8,0),(9,0),(10,0),(11,0),(12,0),(13,0),(14,0)]
abbrev QTQ:AC:= .seq (.run [.m 56 bQ, .o 57 (.un .not nn)]) (.cond oz (.run [.m 58 bA, .o 59 (.bY nR), .o 60 (.aq my 6), .o 61 (.aq pw 0), .op none none (.store qG (.k (.int .i64 4)) 1)]) .skip)
abbrev QTU:AC:= .seq QTM (.seq QTQ (.seq (.run [.m 62 dc, .m 63 bQ, .m 4 pX, .m 5 qH]) .ret))
abbrev QTV:AC:= .seq (.seq (.run [.m 21 dJ, .o 22 (.bY ei), .o 23 (.aq dT 2), .o 24 (.load eB false 1), .o 25 (.len eU), .o 26 (.mv (.k (.int .i64 0)))]) (.block 0 (.loop QTI))) QTU
abbrev QTW:AC:= .seq (.run [.m 13 bA, .m 14 bA, .o 15 (.bY cT), .o 16 (.aq dB 5), .o 17 (.load dj false 1),(.o 18 (.E9 1 dK none (some (.k (.int .i64 0))))), .o 19 (.bY da), .o 20 (.aq dY 5), .op none none (.store eg dH 1)]) QTV
abbrev QTY:AC:= .seq (.run [.o 3 (.box bp), .o 4 (.mv (.k (.int .i64 0))), .o 5 (.mv (.k (.bool false)))]) (.seq (.run [.m 11 bA, .c 12 lz [cU], .m 6 cJ]) QTW)
abbrev QU2:AC:= .seq (.run [.m 6 bA, .o 7 (.bY dJ), .o 8 (.aq cR 3), .o 9 (.load dk false 1), .m 10 bp, .c 11 nQ [dc,bQ]]) (.cond cU (.run [.m 12 bA, .m 13 bA, .o 14 (.bY da), .o 15 (.aq cT 6), .o 16 (.aq dB 4), .o 17 (.load dj false 1), .m 18 bp, .m 19 db, .o 20 (.build [(.int .i64 0),(.slice .full 0 [])] [(0,(1,dH)),(1,(1,dY))]), .o 21 (.dq [(.int .i64 0),(.slice .full 0 [])] 2 1 [(0,eg)]), .o 22 (.app 2 32 dK ei), .o 23 (.bY cJ), .o 24 (.aq eB 6), .o 25 (.aq eU 4), .op none none (.store eZ dT 1)]) .skip)
abbrev QUB:AC:= .cond dT (.seq (.run [.o 23 (.aq dc 0), .o 24 (.aq eB 0), .o 25 (.load eU false 1), .m 6 eZ, .o 7 (.mv (.k (.bool true)))]) .ret) .skip
abbrev QUG:AC:= .seq (.block 1 (.seq (.run [.o 16 (.bZ cJ cT 17), .o 17 (.load dj true 17), .o 9 (.alloc [(.int .i64 0),(.int .i64 0),(.slice .full 0 []),(.str []),(.str []),(.int .i64 0),(.int .i64 0),(.str []),(.slice .full 0 []),(.bool false),(.slice .full 0 []),(.slice .full 0 []),(.slice .full 0 []),(.int .i64 0),(.int .i64 0),(.int .i64 0),(.int .i64 0)]), .op none none (.store dc dK 17)]) (.seq (.run [.o 18 (.aq dc 0), .o 19 (.aq dH 2), .o 20 (.load dY false 1), .m 21 db, .c 22 cD [eg,ei]]) QUB))) (.run [.o 26 (.bin .add cT (.k (.int .i64 1))), .m 14 fm])
abbrev QUK:AC:= .block 0 (.loop (.seq (.run [.o 15 (.bin .lss cT da)]) (.seq (.cond dB .skip (.exit 0)) QUG)))
abbrev QUO:AC:= .seq (.run [(.o 6 (.mv (.k (.int .i64 (-1))))), .o 7 (.mv (.k (.bool true)))]) .ret
abbrev QUT:AC:= .seq (.seq (.run [.m 27 bA, .o 28 (.bY fw), .o 29 (.aq fV 0), .o 30 (.aq fY 1), .o 31 (.load gp false 1), .m 32 bp, .o 33 (.bZ ga gF 5), .o 34 (.aq gv 4), .o 35 (.load ie false 1), .m 36 db, .c 37 cD [gG,gQ]]) (.cond iN QUO .skip)) (.seq (.run [.o 6 (.mv (.k (.int .i64 0))), .o 7 (.mv (.k (.bool false)))]) .ret)
abbrev QUU:AC:= .seq (.seq (.run [.m 10 bA, .m 11 bp, .c 12 gX [bQ,cU], .o 13 (.len cJ), .o 14 (.mv (.k (.int .i64 0)))]) QUK) QUT
abbrev QUV:AC:= .seq (.run [.o 6 (.mv (.k (.int .i64 0))), .o 7 (.mv (.k (.bool false)))]) QUU
abbrev QV0:AC:= .cond cR (.seq (.run [.m 8 bA, .o 9 (.bZ dk (.k (.int .i64 0)) 13), .o 10 (.aq dc 0), .o 11 (.load bQ false 1), .m 4 cU]) .ret) .skip
abbrev QV4:AC:= .seq (.seq (.run [.m 5 bA, .o 6 (.len cv), .o 7 (.bin .gtr dJ (.k (.int .i64 0)))]) QV0) (.seq (.run [.m 12 bp, .m 4 cJ]) .ret)
abbrev QV5:AC:= .seq (.run [.o 4 (.mv (.k (.int .i64 0)))]) QV4
abbrev QV7:AC:= .par [.m 3 bA, .o 4 (.bY cG), .o 5 (.aq fA 4), .o 6 (.load cv false 1), .m 7 bA, .o 8 (.bY cR), .o 9 (.aq dk 4), .o 10 (.load dc false 1), .o 11 (.len bQ), .o 12 (.bin .sub cU (.k (.int .i64 1))), .o 13 (.bZ dJ cJ 1), .o 14 (.load da false 1), .m 2 cT] [(0,0),(1,0),(2,0),(3,0),(4,0),(5,0),(6,0),(7,0),(8,0),(9,0),(10,0),(11,0),(12,0)]
abbrev QV9:AC:= .seq (.run [.o 2 (.mv (.k .ew))]) (.seq QV7 .ret)
abbrev QVD:AC:= .seq (.run [.o 1 (.box bA), .o 2 (.mv (.k (.slice .full 0 [])))]) (.seq (.run [.o 3 (.aq bp 3), .o 4 (.load cG false 1),(.c 5 nj [fA,(.k (.int .i64 1)),(.k (.int .i64 0)),(.k (.bool false)),(.k (.slice .full 0 []))]), .m 2 cv]) .ret)
abbrev QVH:AC:= .seq (.run [(.o 16 (.build [(.int .i64 0),(.int .i64 0)] [(0,(1,(.k (.int .i64 1))))])), .op none none (.store db dj 2)]) .ret
abbrev QVT:AC:= .seq (.block 1 (.seq (.run [.o 22 (.bZ dH eg 5), .o 23 (.load dT true 5), .o 5 (.alloc [(.str []),(.slice .full 0 []),(.slice .full 0 []),(.slice .full 0 []),(.slice .full 0 [])]), .op none none (.store cv eB 5)]) (.run [.m 24 cG, .o 25 (.aq cv 0), .o 26 (.load eZ false 1), .o 27 (.dq [(.str [])] 1 1 [(0,fm)]), .o 28 (.app 1 16 eU fw), .m 3 fV]))) (.run [.o 29 (.bin .add eg (.k (.int .i64 1))), .m 20 fY])
abbrev QVX:AC:= .block 0 (.loop (.seq (.run [.o 21 (.bin .lss eg dY)]) (.seq (.cond ei .skip (.exit 0)) QVT)))
abbrev QW2:AC:= .seq (.run [(.o 53 (.build [(.int .i64 0),(.int .i64 0)] [(0,(1,(.k (.int .i64 5))))])), .op none none (.store db ll 2)]) .ret
abbrev QWD:AC:= .seq (.run [(.o 73 (.build [(.int .i64 0),(.int .i64 0)] [(0,(1,(.k (.int .i64 5))))])), .op none none (.store db yz 2)]) .ret
abbrev QWM:AC:= .seq (.run [.o 89 (.aq cJ 0), .o 90 (.aq Cn 0), .o 91 (.load Hd false 1),(.o 92 (.build [(.int .i64 0),(.int .i64 0)] [(0,(1,(.k (.int .i64 5)))),(1,(1,K3))])), .op none none (.store db Q4 2)]) .ret
abbrev QWS:AC:= .seq (.block 5 (.seq (.run [.o 80 (.bZ Ap yA 17), .o 81 (.load EG true 17), .o 12 (.alloc [(.int .i64 0),(.int .i64 0),(.slice .full 0 []),(.str []),(.str []),(.int .i64 0),(.int .i64 0),(.str []),(.slice .full 0 []),(.bool false),(.slice .full 0 []),(.slice .full 0 []),(.slice .full 0 []),(.int .i64 0),(.int .i64 0),(.int .i64 0),(.int .i64 0)]), .op none none (.store cJ EH 17)]) (.seq (.run [.o 82 (.load bp true 2), .o 83 (.load dc true 5), .m 84 cG, .o 85 (.aq cJ 0), .o 86 (.load G9 true 13), .c 87 q7 [G6,G7,G8,Ha], .o 88 (.un .not Hb)]) (.cond Hc QWM .skip)))) (.run [.o 93 (.bin .add yA (.k (.int .i64 1))), .m 78 W4])
abbrev QWW:AC:= .block 4 (.loop (.seq (.run [.o 79 (.bin .lss yA Cm)]) (.seq (.cond EF .skip (.exit 4)) QWS)))
abbrev QWY:AC:= .seq (.seq (.run [.m 66 bQ, .c 67 oR [u5], .m 68 u6, .g 69 68 false (.mv bQ), .g 70 68 false (.vE 130 [bp]), .d 71 68 false gn [wD,wE], .o 72 (.pick tn (.k (.bool true)) Am)]) (.cond yy QWD .skip)) (.seq (.run [.m 74 cR, .m 75 dk, .c 76 gX [An,Ao], .o 77 (.len Ap), .o 78 (.mv (.k (.int .i64 0)))]) QWW)
abbrev QX3:AC:= .seq (.block 3 (.seq (.run [.m 61 my, .o 62 (.bZ oz my 5), .o 63 (.load pX true 5), .o 9 (.alloc [(.str []),(.slice .full 0 []),(.slice .full 0 []),(.slice .full 0 []),(.slice .full 0 [])]), .m 8 qG, .op none none (.store dc qH 5)]) (.seq (.run [.o 64 (.load dc true 5), .c 65 tQ [qI], .m 10 tj]) QWY))) (.run [.o 94 (.bin .add my (.k (.int .i64 1))), .m 59 W5])
abbrev QX7:AC:= .block 2 (.loop (.seq (.run [.o 60 (.bin .lss my nR)]) (.seq (.cond pw .skip (.exit 2)) QX3)))
abbrev QXB:AC:= .seq (.seq (.run [.o 56 (.aq bp 1), .o 57 (.load nn false 1), .o 58 (.len oz), .o 59 (.mv (.k (.int .i64 0)))]) QX7) (.seq (.run [.o 95 (.build [(.int .i64 0),(.int .i64 0)] []), .op none none (.store db W6 2)]) .ret)
abbrev QXD:AC:= .seq (.seq (.run [.o 32 (.aq bp 0), .o 33 (.load gF false 1), .c 34 oR [gv], .m 35 ie, .g 36 35 false (.mv cG), .d 37 35 false oR [gQ], .o 38 (.pick gG (.k (.bool true)) iN), .m 39 ju, .g 40 39 false (.mv dJ), .g 41 39 false (.bin .lss jV (.k (.int .i64 0))), .o 42 (.pick jd (.k (.bool true)) jJ), .m 43 kD, .g 44 43 false (.aq bp 1), .g 45 43 false (.load kE false 1), .g 46 43 false (.mv dJ), .g 47 43 false (.bZ lh lj 5), .g 48 43 false (.aq lk 1), .g 49 43 false (.load kF false 1), .g 50 43 false (.len kn), .g 51 43 false (.bin .gtr kG (.k (.int .i64 0))), .o 52 (.pick km (.k (.bool true)) kH)]) (.cond kI QW2 .skip)) (.seq (.run [.o 54 (.load bp true 2), .c 55 lF [lH], .m 7 lI]) QXB)
abbrev QXF:AC:= .seq (.seq (.run [.o 17 (.aq bp 1), .o 18 (.load dK false 1), .o 19 (.len dH), .o 20 (.mv (.k (.int .i64 0)))]) QVX) (.seq (.run [.m 30 cG,(.c 31 gk [gp,(.k (.str [109,97,105,110]))]), .m 6 ga]) QXD)
abbrev QXH:AC:= .seq (.seq (.run [.o 13 (.load bp true 2), .c 14 sj [da], .o 15 (.un .not cT)]) (.cond dB QVH .skip)) (.seq (.run [.o 3 (.mv (.k (.slice .full 0 [])))]) QXF)
abbrev QXI:AC:= .seq (.run [.o 1 (.box bA), .o 2 (.alloc [(.int .i64 0),(.int .i64 0)])]) QXH
abbrev QXM:AC:= .seq (.run [(.o 9 (.build [(.int .i64 0),(.int .i64 0)] [(0,(1,(.k (.int .i64 1))))])), .op none none (.store db dc 2)]) .ret
abbrev QXV:AC:= .seq (.run [.o 31 (.aq fA 0), .o 32 (.aq ga 0), .o 33 (.load gF false 1),(.o 34 (.build [(.int .i64 0),(.int .i64 0)] [(0,(1,(.k (.int .i64 6)))),(1,(1,gv))])), .op none none (.store db ie 2)]) .ret
abbrev QXY:AC:= .seq (.run [.o 18 (.bZ cT dj 17), .o 19 (.load dH true 17), .o 4 (.alloc [(.int .i64 0),(.int .i64 0),(.slice .full 0 []),(.str []),(.str []),(.int .i64 0),(.int .i64 0),(.str []),(.slice .full 0 []),(.bool false),(.slice .full 0 []),(.slice .full 0 []),(.slice .full 0 []),(.int .i64 0),(.int .i64 0),(.int .i64 0),(.int .i64 0)]), .op none none (.store fA dY 17)]) (.seq (.run [.o 20 (.aq fA 0), .o 21 (.aq eg 1), .o 22 (.load ei false 1), .o 23 (.bin .eql dT (.k (.int .i64 4))), .m 24 eB, .g 25 24 true (.load bp true 2), .g 26 24 true (.aq fA 0), .g 27 24 true (.load fm true 13), .d 28 24 true wz [eZ,fw], .g 29 24 true (.un .not fV), .o 30 (.pick eU fY (.k (.bool false)))]) (.cond gp QXV .skip))
abbrev QY2:AC:= .seq (.cond dK .skip (.exit 0)) (.seq (.block 1 QXY) (.run [.o 35 (.bin .add dj (.k (.int .i64 1))), .m 16 gG]))
abbrev QY6:AC:= .seq (.run [.o 10 (.load bp true 2), .c 11 lF [bQ], .o 12 (.bY cU), .o 13 (.aq cJ 2), .o 14 (.load da false 1), .o 15 (.len cT), .o 16 (.mv (.k (.int .i64 0)))]) (.block 0 (.loop (.seq (.run [.o 17 (.bin .lss dj dB)]) QY2)))
abbrev QYA:AC:= .seq (.seq (.run [.o 5 (.load bp true 2), .c 6 mJ [cv], .o 7 (.DW dJ 0 false 1), .o 8 (.bin .neq cR (.k (.int .i64 0)))]) (.cond dk QXM .skip)) (.seq QY6 (.seq (.run [.o 36 (.build [(.int .i64 0),(.int .i64 0)] []), .op none none (.store db gQ 2)]) .ret))
abbrev QYB:AC:= .seq (.run [.o 1 (.box bA), .o 2 (.alloc [(.int .i64 0),(.int .i64 0)])]) QYA
abbrev QYG:AC:= .seq (.run [(.o 14 (.build [(.int .i64 0),(.int .i64 0)] [(0,(1,(.k (.int .i64 1))))])), .op none none (.store db cT 2)]) .ret
abbrev QYW:AC:= .seq (.run [.o 47 (.aq dc 0), .o 48 (.aq lk 0), .o 49 (.load kF false 1),(.o 50 (.build [(.int .i64 0),(.int .i64 0)] [(0,(1,(.k (.int .i64 7)))),(1,(1,kn))])), .op none none (.store db kG 2)]) .ret
abbrev QYZ:AC:= .seq (.run [.m 32 dJ, .o 33 (.aq dc 0), .o 34 (.aq gv 2), .o 35 (.load ie false 1), .c 36 qU [gF,gG], .m 31 gQ, .o 37 (.ext ga 0), .o 38 (.ext ga 1), .m 6 iN, .m 7 ju]) (.seq (.run [.m 39 cR, .o 40 (.un .not jd), .m 41 jV, .g 42 41 false (.mv cG), .g 43 41 false (.load dc true 17), .d 44 41 false wA [kD,km], .g 45 41 false (.un .not kE), .o 46 (.pick jJ (.k (.bool true)) lh)]) (.cond lj QYW .skip))
abbrev QZ3:AC:= .seq (.block 3 (.seq (.run [.o 29 (.bZ eZ fw 17), .o 30 (.load fY true 17), .o 9 (.alloc [(.int .i64 0),(.int .i64 0),(.slice .full 0 []),(.str []),(.str []),(.int .i64 0),(.int .i64 0),(.str []),(.slice .full 0 []),(.bool false),(.slice .full 0 []),(.slice .full 0 []),(.slice .full 0 []),(.int .i64 0),(.int .i64 0),(.int .i64 0),(.int .i64 0)]), .op none none (.store dc gp 17)]) QYZ)) (.run [.o 51 (.bin .add fw (.k (.int .i64 1))), .m 27 kH])
abbrev QZ7:AC:= .block 2 (.loop (.seq (.run [.o 28 (.bin .lss fw fm)]) (.seq (.cond fV .skip (.exit 2)) QZ3)))
abbrev QZC:AC:= .seq (.run [(.o 61 (.build [(.int .i64 0),(.int .i64 0)] [(0,(1,(.k (.int .i64 7))))])), .op none none (.store db qG 2)]) .ret
abbrev QZG:AC:= .seq (.seq (.run [.m 23 cG, .m 24 fA, .c 25 gX [eB,eU], .o 26 (.len eZ), .o 27 (.mv (.k (.int .i64 0)))]) QZ7) (.seq (.run [.m 53 dJ, .o 54 (.aq cv 4), .o 55 (.load lH false 1), .c 56 qU [ll,lI], .m 52 nn, .o 57 (.ext kI 0), .o 58 (.ext kI 1), .m 7 nR]) (.seq (.run [.m 59 cR, .o 60 (.un .not my)]) (.cond pw QZC .skip)))
abbrev QZI:AC:= .seq (.run [.o 6 (.mv (.k (.slice .full 0 [])))]) (.seq (.run [.o 7 (.mv (.k (.bool true)))]) QZG)
abbrev QZM:AC:= .seq (.block 1 (.seq (.run [.m 20 dH, .o 21 (.bZ dj dH 5), .o 22 (.load ei true 5), .o 5 (.alloc [(.str []),(.slice .full 0 []),(.slice .full 0 []),(.slice .full 0 []),(.slice .full 0 [])]), .m 4 eg, .op none none (.store cv dT 5)]) QZI)) (.run [.o 62 (.bin .add dH (.k (.int .i64 1))), .m 18 pX])
abbrev QZQ:AC:= .block 0 (.loop (.seq (.run [.o 19 (.bin .lss dH dK)]) (.seq (.cond dY .skip (.exit 0)) QZM)))
abbrev QZU:AC:= .seq (.seq (.run [.o 15 (.aq bp 1), .o 16 (.load dB false 1), .o 17 (.len dj), .o 18 (.mv (.k (.int .i64 0)))]) QZQ) (.seq (.run [.o 63 (.build [(.int .i64 0),(.int .i64 0)] []), .op none none (.store db qH 2)]) .ret)
abbrev QZW:AC:= .seq (.run [.o 10 (.load bp true 2), .c 11 sn [bQ], .m 3 cU]) (.seq (.seq (.run [.m 12 cG, .o 13 (.HS false cJ (.k .ew))]) (.cond da QYG .skip)) QZU)
abbrev QZX:AC:= .seq (.run [.o 1 (.box bA), .o 2 (.alloc [(.int .i64 0),(.int .i64 0)])]) QZW
abbrev amg:AC:= .seq (.run [(.o 12 (.build [(.int .i64 0),(.int .i64 0)] [(0,(1,(.k (.int .i64 1))))])), .op none none (.store db cJ 2)]) .ret
abbrev amh:AC:= .par [.m 21 cG, .o 22 (.aq cv 0), .o 23 (.load dT false 1), .o 24 (.load bp true 2), .o 25 (.aq cv 0), .o 26 (.load eZ false 1), .c 27 sq [eU,fm], .op none none (.zR ei eB fw)] [(3,0),(4,0),(5,0),(6,0),(0,0),(1,0),(2,1),(7,0)]
abbrev ami:AC:= .seq (.block 1 (.seq (.run [.o 19 (.bZ dB dK 5), .o 20 (.load dY true 5), .o 5 (.alloc [(.str []),(.slice .full 0 []),(.slice .full 0 []),(.slice .full 0 []),(.slice .full 0 [])]), .op none none (.store cv eg 5)]) amh)) (.run [.o 28 (.bin .add dK (.k (.int .i64 1))), .m 17 fV])
abbrev amj:AC:= .block 0 (.loop (.seq (.run [.o 18 (.bin .lss dK dj)]) (.seq (.cond dH .skip (.exit 0)) ami)))
abbrev amk:AC:= .seq (.run [.o 54 (.aq cR 0), .o 55 (.aq lH 0), .o 56 (.load lI false 1),(.o 57 (.build [(.int .i64 0),(.int .i64 0)] [(0,(1,(.k (.int .i64 8)))),(1,(1,nn))])), .op none none (.store db oz 2)]) .ret
abbrev aml:AC:= .seq (.run [.o 37 (.bZ gv gG 17), .o 38 (.load iN true 17), .o 7 (.alloc [(.int .i64 0),(.int .i64 0),(.slice .full 0 []),(.str []),(.str []),(.int .i64 0),(.int .i64 0),(.str []),(.slice .full 0 []),(.bool false),(.slice .full 0 []),(.slice .full 0 []),(.slice .full 0 []),(.int .i64 0),(.int .i64 0),(.int .i64 0),(.int .i64 0)]), .op none none (.store cR ju 17)]) (.seq (.run [.o 39 (.aq cR 0), .o 40 (.aq jd 1), .o 41 (.load jV false 1), .o 42 (.bin .eql jJ (.k (.int .i64 4))), .m 43 kD, .g 44 43 true (.aq cR 0), .g 45 43 true (.load kE true 13), .g 46 43 true (.mv cG), .g 47 43 true (.aq cR 0), .g 48 43 true (.aq lk 4), .g 49 43 true (.load kF false 1), .g 50 43 true (.xd lj kn (.slice .full 0 [])), .d 51 43 true tf [lh,kG], .g 52 43 true (.un .not kH), .o 53 (.pick km kI (.k (.bool false)))]) (.cond ll amk .skip))
abbrev amm:AC:= .seq (.cond gQ .skip (.exit 2)) (.seq (.block 3 aml) (.run [.o 58 (.bin .add gG (.k (.int .i64 1))), .m 35 nR]))
abbrev amn:AC:= .seq (.run [.o 29 (.load bp true 2), .c 30 lF [fY], .o 31 (.bY gp), .o 32 (.aq ga 2), .o 33 (.load gF false 1), .o 34 (.len gv), .o 35 (.mv (.k (.int .i64 0)))]) (.block 2 (.loop (.seq (.run [.o 36 (.bin .lss gG ie)]) amm)))
abbrev amo:AC:= .seq (.seq (.run [.o 14 (.aq bp 1), .o 15 (.load cT false 1), .o 16 (.len dB), .o 17 (.mv (.k (.int .i64 0)))]) amj) (.seq amn (.seq (.run [.o 59 (.build [(.int .i64 0),(.int .i64 0)] []), .op none none (.store db my 2)]) .ret))
abbrev amp:AC:= .seq (.seq (.run [.o 8 (.load bp true 2), .c 9 q6 [dk], .o 10 (.DW dc 0 false 1), .o 11 (.bin .neq bQ (.k (.int .i64 0)))]) (.cond cU amg .skip)) (.seq (.run [.op (some 13) none .vF, .m 3 da]) amo)
abbrev amq:AC:= .seq (.run [.o 1 (.box bA), .o 2 (.alloc [(.int .i64 0),(.int .i64 0)])]) amp
abbrev amr:AC:= .cond dK (.seq (.run [.o 2 (.mv (.k (.int .i64 2)))]) .ret) .skip
abbrev ams:AC:= .cond bQ (.seq (.run [.o 2 (.mv (.k (.int .i64 1)))]) .ret) (.seq (.run [.m 18 bA, .o 19 (.bin .geq dH (.k (.int .i64 5))), .m 20 dY, .g 21 20 true (.mv bA), .g 22 20 true (.bin .leq ei (.k (.int .i64 17))), .o 23 (.pick eg dT (.k (.bool false))), .m 17 eB]) amr)
abbrev amt:AC:= .cond cG (.seq (.run [.o 2 (.mv (.k (.int .i64 0)))]) .ret) (.seq (.run [.m 11 bA, .o 12 (.bin .eql cU (.k (.int .i64 3))), .m 13 cJ, .g 14 13 false (.mv bA), .g 15 13 false (.bin .eql cT (.k (.int .i64 4))), .o 16 (.pick da (.k (.bool true)) dB), .m 10 dj]) ams)
abbrev amu:AC:= .block 0 (.seq (.run [.m 4 bA, .o 5 (.bin .eql fA (.k (.int .i64 1))), .m 6 cv, .g 7 6 false (.mv bA), .g 8 6 false (.bin .eql cR (.k (.int .i64 2))), .o 9 (.pick dJ (.k (.bool true)) dk), .m 3 dc]) amt)
abbrev amv:AC:= .seq (.run [(.o 2 (.mv (.k (.int .i64 (-1)))))]) .ret
abbrev amw:AC:= .seq (.run [.o 2 (.mv (.k (.int .i64 0)))]) (.seq amu amv)
abbrev amx:AC:= .par [.o 9 (.aq cG 0), .o 10 (.load dc false 1), .o 11 (.aq cG 1), .o 12 (.load cU false 1), .o 13 (.aq cG 2), .o 14 (.load da false 1), .m 15 bp, .m 16 db, .c 17 jR [cT,dB,dj], .o 18 (.build [(.int .i64 0),(.int .i64 0),(.str []),(.slice .full 0 [])] [(0,(1,bQ)),(1,(1,cJ)),(2,(1,dK))]), .o 7 (.alloc [(.int .i64 0),(.int .i64 0),(.str []),(.slice .full 0 [])]), .op none none (.store cR dH 4)] [(4,0),(5,0),(6,0),(7,0),(8,0),(10,0),(0,0),(1,2),(2,0),(3,2),(9,0),(11,0)]
abbrev amy:AC:= .par [.o 25 (.aq cR 3), .o 26 (.load eZ false 1), .o 27 (.aq cG 3), .o 28 (.load fw false 1), .m 29 dk, .o 30 (.bZ fV fY 4), .o 31 (.load gp true 4), .m 32 bp, .m 33 db, .c 34 jS [ga,gF,gv], .o 35 (.dq [(.int .i64 0),(.int .i64 0),(.str []),(.slice .full 0 [])] 4 1 [(0,ie)]), .o 36 (.app 4 56 fm gG), .o 37 (.aq cR 3), .op none none (.store iN gQ 1)] [(2,0),(3,0),(4,0),(5,0),(6,0),(7,0),(8,0),(9,0),(0,0),(1,1),(10,0),(11,0),(12,0),(13,0)]
abbrev amz:AC:= .seq (.cond eB .skip (.exit 0)) (.seq (.block 1 (.seq (.run [.m 24 dT, .m 8 eU]) amy)) (.run [.o 38 (.bin .add dT (.k (.int .i64 1))), .m 22 ju]))
abbrev amA:AC:= .seq (.run [.o 19 (.aq cG 3), .o 20 (.load dY false 1), .o 21 (.len eg), .o 22 (.mv (.k (.int .i64 0)))]) (.block 0 (.loop (.seq (.run [.o 23 (.bin .lss dT ei)]) amz)))
abbrev amB:AC:= .seq (.run [.o 3 (.box bA), .o 6 (.alloc [(.int .i64 0),(.int .i64 0),(.str []),(.slice .full 0 [])])]) (.seq amx (.seq amA (.seq (.run [.o 39 (.load cR true 4), .op none none (.store dJ jd 4)]) .ret)))
open Go.Proofs
theorem He:Has Tryz.prog nP 15 [(2,none)] QNW:=⟨Tryz.f64,by kernel_rfl,by kernel_rfl⟩
theorem mz:Has Tryz.prog mU 27 [(2,none)] QO6:=⟨Tryz.f65,by kernel_rfl,by kernel_rfl⟩
theorem sy:Has Tryz.prog kW 71 [(6,none)] QP7:=⟨Tryz.f66,by kernel_rfl,by kernel_rfl⟩
theorem K8:Has Tryz.prog sk 5 [(2,(some (true,4)))] QPB:=⟨Tryz.f68,by kernel_rfl,by kernel_rfl⟩
theorem Jq:Has Tryz.prog lP 5 [(2,(some (true,4)))] QPF:=⟨Tryz.f69,by kernel_rfl,by kernel_rfl⟩
theorem K9:Has Tryz.prog vJ 12 [(6,(some (true,4)))] QPJ:=⟨Tryz.f70,by kernel_rfl,by kernel_rfl⟩
theorem Cq:Has Tryz.prog kB 29 [(4,none)] QQ2:=⟨Tryz.f71,by kernel_rfl,by kernel_rfl⟩
theorem Cr:Has Tryz.prog kC 73 [] QR4:=⟨Tryz.f72,by kernel_rfl,by kernel_rfl⟩
theorem Hf:Has Tryz.prog wx 28 [(4,none)] QRX:=⟨Tryz.f73,by kernel_rfl,by kernel_rfl⟩
theorem Au:Has Tryz.prog pU 27 [(4,none)] QS7:=⟨Tryz.f74,by kernel_rfl,by kernel_rfl⟩
theorem sP:Has Tryz.prog gy 19 [(4,none)] QSU:=⟨Tryz.f75,by kernel_rfl,by kernel_rfl⟩
theorem zm:Has Tryz.prog mB 8 [(3,none)] QSY:=⟨Tryz.f76,by kernel_rfl,by kernel_rfl⟩
theorem zn:Has Tryz.prog iZ 20 [(4,none)] QT4:=⟨Tryz.f77,by kernel_rfl,by kernel_rfl⟩
theorem zo:Has Tryz.prog ku 64 [(4,none),(5,none)] QTY:=⟨Tryz.f78,by kernel_rfl,by kernel_rfl⟩
theorem zp:Has Tryz.prog eO 26 [] QU2:=⟨Tryz.f79,by kernel_rfl,by kernel_rfl⟩
theorem DN:Has Tryz.prog pD 38 [(6,none),(7,none)] QUV:=⟨Tryz.f80,by kernel_rfl,by kernel_rfl⟩
theorem Br:Has Tryz.prog qT 13 [(4,none)] QV5:=⟨Tryz.f81,by kernel_rfl,by kernel_rfl⟩
theorem BA:Has Tryz.prog lz 15 [(2,none)] QV9:=⟨Tryz.f82,by kernel_rfl,by kernel_rfl⟩
theorem Jr:Has Tryz.prog yr 6 [(2,none)] QVD:=⟨Tryz.f85,by kernel_rfl,by kernel_rfl⟩
theorem xy:Has Tryz.prog mJ 96 [(2,(some (true,2)))] QXI:=⟨Tryz.f95,by kernel_rfl,by kernel_rfl⟩
theorem xA:Has Tryz.prog q6 37 [(2,(some (true,2)))] QYB:=⟨Tryz.f96,by kernel_rfl,by kernel_rfl⟩
theorem zr:Has Tryz.prog wy 64 [(2,(some (true,2)))] QZX:=⟨Tryz.f97,by kernel_rfl,by kernel_rfl⟩
theorem xB:Has Tryz.prog uU 60 [(2,(some (true,2)))] amq:=⟨Tryz.f98,by kernel_rfl,by kernel_rfl⟩
theorem Js:Has Tryz.prog yu 24 [(2,none)] amw:=⟨Tryz.f99,by kernel_rfl,by kernel_rfl⟩
theorem DO:Has Tryz.prog jS 40 [(6,(some (true,4)))] amB:=⟨Tryz.f100,by kernel_rfl,by kernel_rfl⟩
abbrev amC:AC:= .seq (.run [.o 2 (.mv (.k (.bool false)))]) (.seq (.run [.m 3 bA, .o 4 (.bin .geq cG (.k (.int .u8 97))), .m 5 fA, .g 6 5 true (.mv bA), .g 7 5 true (.bin .leq dJ (.k (.int .u8 122))), .o 8 (.pick cv cR (.k (.bool false))), .m 2 dk]) .ret)
abbrev amD:AC:= .seq (.seq (.run [.m 5 bp, .m 6 bA, .o 7 (.vY dJ), .o 8 (.bin .lss cv cR), .m 9 dk, .g 10 9 true (.mv bA), .g 11 9 true (.mv bp), .g 12 9 true (.BJ bQ cU), .d 13 9 true sm [cJ], .g 14 9 true (.mv da), .g 15 14 false (.mv bA), .g 16 14 false (.mv bp), .g 17 14 false (.BJ dB dj), .d 18 14 false yv [dK], .g 19 9 true (.pick cT (.k (.bool true)) dH), .o 20 (.pick dc dY (.k (.bool false)))]) (.cond eg .skip (.exit 0))) (.block 1 (.run [.m 21 bp, .o 22 (.bin .add ei (.k (.int .i64 1))), .m 1 dT]))
abbrev amE:AC:= .seq (.run [.o 4 (.mv (.k (.int .i64 0)))]) (.seq (.block 0 (.loop amD)) (.seq (.run [.m 23 bp, .m 4 eB]) .ret))
abbrev amF:AC:= .seq (.run [.o 16 (.bin .eql cG (.k (.str [114,101,97,100]))), .m 4 dj]) (.cond fA .skip (.run [.o 17 (.bin .eql cG (.k (.str [112,114,105,110,116]))), .m 4 dK]))
abbrev amG:AC:= .cond fA .skip (.seq (.run [.o 15 (.bin .eql cG (.k (.str [103,111,116,111]))), .m 4 dB]) (.cond fA .skip amF))
abbrev amH:AC:= .cond fA .skip (.seq (.run [.o 14 (.bin .eql cG (.k (.str [114,101,116,117,114,110]))), .m 4 cT]) amG)
abbrev amI:AC:= .cond fA .skip (.seq (.run [.o 13 (.bin .eql cG (.k (.str [99,111,110,116,105,110,117,101]))), .m 4 da]) amH)
abbrev amJ:AC:= .cond fA .skip (.seq (.run [.o 12 (.bin .eql cG (.k (.str [98,114,101,97,107]))), .m 4 cJ]) amI)
abbrev amK:AC:= .cond fA .skip (.seq (.run [.o 11 (.bin .eql cG (.k (.str [119,104,105,108,101]))), .m 4 cU]) amJ)
abbrev amL:AC:= .cond fA .skip (.seq (.run [.o 10 (.bin .eql cG (.k (.str [101,108,115,101]))), .m 4 bQ]) amK)
abbrev amM:AC:= .cond fA .skip (.seq (.run [.o 9 (.bin .eql cG (.k (.str [105,102]))), .m 4 dc]) amL)
abbrev amN:AC:= .cond fA .skip (.seq (.run [.o 8 (.bin .eql cG (.k (.str [114,101,102]))), .m 4 dk]) amM)
abbrev amO:AC:= .cond fA .skip (.seq (.run [.o 7 (.bin .eql cG (.k (.str [118,97,114]))), .m 4 cR]) amN)
abbrev amP:AC:= .cond fA .skip (.seq (.run [.o 6 (.bin .eql cG (.k (.str [112,114,111,99]))), .m 4 dJ]) amO)
abbrev amQ:AC:= .cond fA (.seq (.run [.o 2 (.mv (.k (.bool true)))]) .ret) .skip
abbrev amR:AC:= .seq (.seq (.run [.o 5 (.bin .eql cG (.k (.str [103,108,111,98,97,108]))), .m 4 cv]) amP) amQ
abbrev amS:AC:= .seq (.seq (.run [.m 3 bA]) (.block 0 amR)) (.seq (.run [.o 2 (.mv (.k (.bool false)))]) .ret)
abbrev amT:AC:= .seq (.run [.o 2 (.mv (.k (.bool false)))]) amS
abbrev amU:AC:= .par [.o 10 (.aq bp 9), .o 11 (.load bQ false 1), .o 3 (.mv (.k (.bool false))), .o 4 (.mv (.k (.bool false))), .o 5 (.mv (.k (.bool false))), .m 6 cU, .o 7 (.mv (.k (.bool false))), .o 8 (.mv (.k (.bool false)))] [(0,0),(1,0),(2,0),(3,0),(4,0),(5,0),(6,0),(7,0)]
abbrev amV:AC:= .seq (.run [.o 20 (.bin .eql dj (.k (.int .i64 2))), .m 19 eg]) (.cond dY .skip (.run [.o 21 (.bin .eql dj (.k (.int .i64 10))), .m 19 ei]))
abbrev amW:AC:= .seq (.run [.o 38 (.bin .eql dj (.k (.int .i64 7))), .m 37 ju]) (.cond iN .skip (.run [.o 39 (.bin .eql dj (.k (.int .i64 8))), .m 37 jd]))
abbrev amX:AC:= .cond iN .skip (.seq (.run [.o 2 (.mv (.k (.bool false)))]) .ret)
abbrev amY:AC:= .seq (.run [.o 34 (.bin .eql dj (.k (.int .i64 9))), .m 33 ie]) (.cond gv (.run [.o 35 (.aq bp 9), .o 36 (.load gG false 1), .m 5 gQ, .o 6 (.mv (.k (.bool false)))]) (.seq amW amX))
abbrev amZ:AC:= .seq (.run [.o 32 (.bin .eql dj (.k (.int .i64 6))), .m 31 gF]) (.cond ga (.run [.o 5 (.mv (.k (.bool true))), .o 7 (.mv (.k (.bool true)))]) amY)
abbrev am0:AC:= .seq (.run [.o 30 (.bin .eql dj (.k (.int .i64 5))), .m 29 gp]) (.cond fY (.run [.o 5 (.mv (.k (.bool true))), .o 7 (.mv (.k (.bool true))), .o 8 (.mv (.k (.bool true)))]) amZ)
abbrev am1:AC:= .seq (.run [.o 25 (.bin .eql dj (.k (.int .i64 4))), .m 24 eZ]) (.cond eU (.run [.o 26 (.aq bp 3), .o 27 (.load fm false 1), .o 28 (.bin .neq fw (.k (.str []))), .m 3 fV, .o 4 (.mv (.k (.bool true)))]) am0)
abbrev am2:AC:= .seq (.run [.o 23 (.bin .eql dj (.k (.int .i64 3))), .m 22 eB]) (.cond dT (.run [.o 5 (.mv (.k (.bool true)))]) am1)
abbrev am3:AC:= .seq amV (.cond dY (.run [.o 3 (.mv (.k (.bool true)))]) am2)
abbrev am4:AC:= .seq (.run [.o 18 (.bin .eql dj (.k (.int .i64 1))), .m 17 dH]) (.cond dK (.run [.o 3 (.mv (.k (.bool true))), .o 5 (.mv (.k (.bool true)))]) am3)
abbrev am5:AC:= .run [.m 40 dJ, .m 41 jV, .g 42 41 false (.mv cR), .g 43 41 false (.un .not kD), .g 44 41 false (.mv km), .g 45 44 true (.aq bp 11), .g 46 44 true (.load lh false 1), .g 47 44 true (.len lj), .g 48 44 true (.bin .gtr lk (.k (.int .i64 0))), .g 49 41 false (.pick kE kF (.k (.bool false))), .o 50 (.pick jJ (.k (.bool true)) kn), .m 51 kG, .g 52 51 false (.mv dk), .g 53 51 false (.un .not kI), .g 54 51 false (.mv ll), .g 55 54 true (.aq bp 12), .g 56 54 true (.load lI false 1), .g 57 54 true (.len nn), .g 58 54 true (.bin .gtr oz (.k (.int .i64 0))), .g 59 51 false (.pick lH nR (.k (.bool false))), .o 60 (.pick kH (.k (.bool true)) my), .m 61 pw, .g 62 61 false (.mv dc), .g 63 61 false (.un .not pX), .g 64 61 false (.mv qH), .g 65 64 true (.aq bp 10), .g 66 64 true (.load tj false 1), .g 67 64 true (.len u5), .g 68 64 true (.bin .gtr u6 (.k (.int .i64 0))), .g 69 61 false (.pick qI tn (.k (.bool false))), .o 70 (.pick qG (.k (.bool true)) wD)]
abbrev am6:AC:= .cond wE (.seq (.run [.o 2 (.mv (.k (.bool false)))]) .ret) .skip
abbrev am7:AC:= .cond Cn (.seq (.run [.o 2 (.mv (.k (.bool false)))]) .ret) .skip
abbrev ae3:AC:= .seq (.seq (.run [.o 71 (.aq bp 3), .o 72 (.load Am false 1), .m 73 cG, .c 74 pV [yy,yz], .o 75 (.un .not An), .m 76 Ao, .g 77 76 false (.aq bp 4), .g 78 76 false (.load Cm false 1), .g 79 76 false (.mv fA), .d 80 76 false pV [yA,EF], .g 81 76 false (.un .not EG), .o 82 (.pick Ap (.k (.bool true)) EH), .m 83 G6, .g 84 83 false (.aq bp 5), .g 85 83 false (.load G8 true 4), .g 86 83 false (.mv cv), .d 87 83 false sr [G9,Ha], .g 88 83 false (.un .not Hb), .o 89 (.pick G7 (.k (.bool true)) Hc)]) am7) (.seq (.run [.o 90 (.aq bp 10), .o 91 (.load Hd false 1), .c 92 uW [K3], .m 2 Q4]) .ret)
abbrev ae4:AC:= .seq (.seq am5 am6) ae3
abbrev W7:AC:= .seq (.seq (.run [.o 15 (.aq bp 1), .o 16 (.load dB false 1)]) (.block 0 am4)) ae4
abbrev ae5:AC:= .seq (.run [.o 12 (.aq bp 1), .o 13 (.load cJ false 1), .o 14 (.bin .eql da (.k (.int .i64 4))), .m 9 cT]) W7
abbrev ae6:AC:= .seq amU ae5
abbrev am8:AC:= .seq (.run [.o 1 (.box bA), .o 2 (.mv (.k (.bool false)))]) ae6
abbrev am9:AC:= .seq (.block 1 (.seq (.run [.o 13 (.bZ dc cU 13), .o 14 (.load da true 13), .o 5 (.alloc [(.int .i64 0),(.int .i64 0),(.slice .full 0 []),(.str []),(.str []),(.int .i64 0),(.int .i64 0),(.str []),(.slice .full 0 []),(.bool false),(.slice .full 0 []),(.slice .full 0 []),(.slice .full 0 [])]), .op none none (.store cv cT 13)]) (.run [.m 15 cG, .o 16 (.load cv true 13), .c 17 ni [dj], .o 18 (.bin .add dB dK), .m 3 dH]))) (.run [.o 19 (.bin .add cU (.k (.int .i64 1))), .m 11 dY])
abbrev ana:AC:= .block 0 (.loop (.seq (.run [.o 12 (.bin .lss cU bQ)]) (.seq (.cond cJ .skip (.exit 0)) am9)))
abbrev anb:AC:= .seq (.block 3 (.seq (.run [.o 25 (.bZ ei eB 13), .o 26 (.load eZ true 13), .o 7 (.alloc [(.int .i64 0),(.int .i64 0),(.slice .full 0 []),(.str []),(.str []),(.int .i64 0),(.int .i64 0),(.str []),(.slice .full 0 []),(.bool false),(.slice .full 0 []),(.slice .full 0 []),(.slice .full 0 [])]), .op none none (.store cR fm 13)]) (.run [.m 27 cG, .o 28 (.load cR true 13), .c 29 ni [fV], .o 30 (.bin .add fw fY), .m 3 gp]))) (.run [.o 31 (.bin .add eB (.k (.int .i64 1))), .m 23 ga])
abbrev anc:AC:= .block 2 (.loop (.seq (.run [.o 24 (.bin .lss eB dT)]) (.seq (.cond eU .skip (.exit 2)) anb)))
abbrev ane:AC:= .seq (.seq (.run [.o 20 (.aq bp 12), .o 21 (.load eg false 1), .o 22 (.len ei), .o 23 (.mv (.k (.int .i64 0)))]) anc) (.seq (.run [.m 32 cG, .m 2 gF]) .ret)
abbrev anf:AC:= .seq (.seq (.run [.o 8 (.aq bp 11), .o 9 (.load dk false 1), .o 10 (.len dc), .o 11 (.mv (.k (.int .i64 0)))]) ana) ane
abbrev ang:AC:= .seq (.run [.o 1 (.box bA), .o 2 (.mv (.k (.int .i64 0)))]) (.seq (.run [.o 3 (.mv (.k (.int .i64 1)))]) anf)
abbrev anh:AC:= .cond fA (.seq (.run [.o 2 (.mv (.k (.slice .full 0 [])))]) .ret) .skip
abbrev ani:AC:= .seq (.run [.o 2 (.mv (.k (.slice .full 0 [])))]) (.seq (.seq (.run [.m 3 bA, .nil (some 4) none false cG]) anh) (.seq (.run [.o 5 (.dq [(.str [])] 1 0 []), .m 6 bA, .o 7 (.app 1 16 cv dJ), .m 2 cR]) .ret))
abbrev anj:AC:= .seq (.block 1 (.seq (.run [.o 11 (.bZ cR dc 2), .o 12 (.load cU true 2), .o 5 (.alloc [(.str []),(.bool false)]), .op none none (.store cv cJ 2)]) (.run [.m 13 cG, .o 14 (.aq cv 0), .o 15 (.load cT false 1), .o 16 (.dq [(.str [])] 1 1 [(0,dB)]), .o 17 (.app 1 16 da dj), .m 3 dK]))) (.run [.o 18 (.bin .add dc (.k (.int .i64 1))), .m 9 dH])
abbrev ank:AC:= .block 0 (.loop (.seq (.run [.o 10 (.bin .lss dc dk)]) (.seq (.cond bQ .skip (.exit 0)) anj)))
abbrev anl:AC:= .seq (.seq (.run [.o 6 (.aq bp 1), .o 7 (.load dJ false 1), .o 8 (.len cR), .o 9 (.mv (.k (.int .i64 0)))]) ank) (.seq (.run [.m 19 cG, .o 20 (.aq bp 2), .o 21 (.load eg false 1), .o 22 (.app 1 16 dY ei), .m 2 dT]) .ret)
abbrev anm:AC:= .seq (.run [.o 1 (.box bA), .o 2 (.mv (.k (.slice .full 0 [])))]) (.seq (.run [.o 3 (.mv (.k (.slice .full 0 [])))]) anl)
abbrev ann:AC:= .block 1 (.seq (.run [.m 10 dk, .m 5 bQ]) (.seq (.run [.m 11 bp, .m 12 bA, .m 13 cv, .o 14 (.bZ cJ da 1), .o 15 (.load cT false 1), .o 16 (.bin .eql cU dB)]) (.cond dj (.seq (.run [.m 17 cv, .m 4 dK]) .ret) .skip)))
abbrev ano:AC:= .seq (.cond dc .skip (.exit 0)) (.seq ann (.run [.o 18 (.bin .add dk (.k (.int .i64 1))), .m 8 dH]))
abbrev anp:AC:= .seq (.run [.m 6 bA, .o 7 (.len dJ), .o 8 (.mv (.k (.int .i64 0)))]) (.block 0 (.loop (.seq (.run [.o 9 (.bin .lss dk cR)]) ano)))
abbrev anq:AC:= .seq (.run [(.o 4 (.mv (.k (.int .i64 (-1)))))]) .ret
abbrev anr:AC:= .seq (.run [.o 4 (.mv (.k (.int .i64 0)))]) (.seq anp anq)
abbrev ans:AC:= .cond bQ (.seq (.run [.o 6 (.mv (.k (.int .i64 0))), .o 7 (.mv (.k (.bool false)))]) .ret) .skip
abbrev ant:AC:= .seq (.run [.o 3 (.box bA), .o 6 (.mv (.k (.int .i64 0))), .o 7 (.mv (.k (.bool false)))]) (.seq (.seq (.run [.o 8 (.load cG true 4), .c 9 jC [dk], .o 10 (.un .not dc)]) ans) (.seq (.run [.o 11 (.load cG true 4), .m 12 bp, .m 13 db, .c 14 lQ [cU,cJ,da], .o 15 (.ext cT 0), .o 16 (.ext cT 1), .m 6 dB, .m 7 dj]) .ret))
abbrev anu:AC:= .seq (.run [.o 4 (.mv (.k (.bool false)))]) (.seq (.run [.m 5 bA, .m 6 bp, .c 7 pW [cv,dJ], .o 8 (.bin .geq cR (.k (.int .i64 0))), .m 4 dk]) .ret)
abbrev anv:AC:= .par [.m 5 bA, .o 6 (.bY cv), .o 7 (.aq dJ 2), .o 8 (.load cR false 1), .m 9 bA, .o 10 (.bY dc), .o 11 (.aq bQ 3), .o 12 (.load cU false 1), .m 13 bp, .o 14 (.bZ cJ da 1), .o 15 (.load cT false 1), .o 16 (.bin .sub dB (.k (.int .i64 1))), .m 17 bA, .o 18 (.bY dK), .o 19 (.aq dH 4), .o 20 (.load dY false 1), .m 21 bp, .o 22 (.bZ eg ei 1), .o 23 (.load dT false 1), .o 24 (.bin .sub eB (.k (.int .i64 1))), .o 25 (.E9 17 dk (some dj) (some eU)), .m 4 eZ] [(0,0),(1,0),(2,0),(3,0),(4,0),(5,0),(6,0),(7,0),(8,0),(9,0),(10,0),(11,0),(12,0),(13,0),(14,0),(15,0),(16,0),(17,0),(18,0),(19,0),(20,0),(21,0)]
abbrev anw:AC:= .seq (.run [.o 4 (.mv (.k (.slice .full 0 [])))]) (.seq anv .ret)
abbrev anx:AC:= .seq (.run [.o 4 (.mv (.k (.bool false)))]) (.seq (.run [.m 5 bA, .m 6 bp, .c 7 gk [cv,dJ], .o 8 (.bin .geq cR (.k (.int .i64 0))), .m 4 dk]) .ret)
abbrev anz:AC:= .run [.m 23 fA, .m 24 bA, .m 25 cU, .o 26 (.bZ eU eZ 13), .o 27 (.load fm true 13), .m 28 bp, .m 29 db, .m 30 cG, .o 31 (.build [(.int .i64 0),(.int .i64 0),(.slice .full 0 []),(.str []),(.str []),(.int .i64 0),(.int .i64 0),(.str []),(.slice .full 0 []),(.bool false),(.slice .full 0 []),(.slice .full 0 []),(.slice .full 0 []),(.int .i64 0),(.int .i64 0),(.bool false)] [(0,(13,fw)),(13,(1,fV)),(14,(1,fY)),(15,(1,gp))]), .o 32 (.dq [(.int .i64 0),(.int .i64 0),(.slice .full 0 []),(.str []),(.str []),(.int .i64 0),(.int .i64 0),(.str []),(.slice .full 0 []),(.bool false),(.slice .full 0 []),(.slice .full 0 []),(.slice .full 0 []),(.int .i64 0),(.int .i64 0),(.bool false)] 16 1 [(0,ga)]), .o 33 (.app 16 232 eB gF), .m 4 gv]
abbrev anA:AC:= .par [.m 36 bA, .m 37 cU, .o 38 (.bZ gQ iN 13), .o 39 (.aq ju 11), .o 40 (.load jd false 1), .m 41 bp, .o 42 (.bin .add jJ (.k (.int .i64 1))), .m 43 bA, .m 44 cU, .o 45 (.bZ km kE 13), .o 46 (.aq lh 0), .o 47 (.load lj false 1), .m 48 fA, .c 49 nj [jV,kD,lk,(.k (.bool false)),kF], .m 4 kn] [(0,0),(1,0),(2,0),(3,0),(4,0),(5,0),(6,0),(7,0),(8,0),(9,0),(10,0),(11,0),(12,0),(13,0),(14,0)]
abbrev anB:AC:= .par [.m 50 bA, .m 51 cU, .o 52 (.bZ kG kH 13), .o 53 (.aq kI 12), .o 54 (.load ll false 1), .m 55 bp, .o 56 (.bin .add lI (.k (.int .i64 1))), .m 57 bA, .m 58 cU, .o 59 (.bZ oz nR 13), .o 60 (.aq my 0), .o 61 (.load pw false 1), .m 62 fA, .c 63 nj [lH,nn,qG,(.k (.bool true)),pX], .m 4 qH] [(0,0),(1,0),(2,0),(3,0),(4,0),(5,0),(6,0),(7,0),(8,0),(9,0),(10,0),(11,0),(12,0),(13,0),(14,0)]
abbrev anC:AC:= .seq anz (.seq (.run [.m 34 bp, .o 35 (.bin .leq ie (.k (.int .i64 12)))]) (.cond gG (.seq anA anB) .skip))
abbrev anD:AC:= .seq (.seq (.run [.m 12 cU, .m 13 bA, .o 14 (.len da), .o 15 (.bin .lss cJ cT), .m 16 dB, .g 17 16 true (.mv fA), .g 18 16 true (.len dK), .g 19 16 true (.bin .leq dH (.k (.int .i64 200))), .o 20 (.pick dj dY (.k (.bool false)))]) (.cond eg .skip (.exit 0))) (.seq (.block 1 anC) (.run [.m 21 cU, .o 22 (.bin .add ei (.k (.int .i64 1))), .m 11 dT]))
abbrev anE:AC:= .seq (.seq (.run [.o 11 (.mv (.k (.int .i64 0)))]) (.block 0 (.loop anD))) (.seq (.run [.m 64 fA, .m 10 qI]) .ret)
abbrev anF:AC:= .seq (.run [.o 10 (.mv (.k (.slice .full 0 [])))]) anE
abbrev anG:AC:= .cond dj (.seq (.run [.o 2 (.mv (.k (.bool true)))]) .ret) .skip
abbrev anH:AC:= .block 1 (.seq (.run [.m 9 cR, .o 10 (.bZ cv cR 1), .o 11 (.load bQ false 1), .m 3 dc, .m 4 cU]) (.seq (.run [.m 12 bA, .m 13 cG, .o 14 (.E9 1 cJ none (some da)), .m 15 fA, .c 16 cD [cT,dB]]) anG))
abbrev anI:AC:= .seq (.cond dk .skip (.exit 0)) (.seq anH (.run [.o 17 (.bin .add cR (.k (.int .i64 1))), .m 7 dK]))
abbrev anJ:AC:= .seq (.run [.m 5 bA, .o 6 (.len cv), .o 7 (.mv (.k (.int .i64 0)))]) (.block 0 (.loop (.seq (.run [.o 8 (.bin .lss cR dJ)]) anI)))
abbrev anK:AC:= .seq anJ (.seq (.run [.o 2 (.mv (.k (.bool false)))]) .ret)
abbrev anL:AC:= .seq (.run [.o 2 (.mv (.k (.bool false)))]) anK
abbrev anM:AC:= .seq (.run [.o 4 (.mv (.k (.bool false)))]) (.seq (.run [.m 5 bA, .m 6 bp, .c 7 lG [cv,dJ], .o 8 (.bin .geq cR (.k (.int .i64 0))), .m 4 dk]) .ret)
abbrev anN:AC:= .seq (.run [.o 3 (.mv (.k (.bool false)))]) (.seq (.run [.o 4 (.aq bp 0), .o 5 (.load fA false 1), .m 6 bA, .c 7 cD [cv,dJ], .m 3 cR]) .ret)
abbrev anO:AC:= .cond dT (.seq (.run [.o 8 (.mv (.k (.bool false)))]) .ret) .skip
abbrev anP:AC:= .seq (.run [.o 16 (.bZ cJ cT 1), .o 17 (.load dj false 1), .m 10 dK]) (.seq (.run [.o 18 (.load fA true 2), .o 19 (.load cv true 5), .m 20 bQ, .c 21 wB [dH,dY,eg], .o 22 (.bin .eql ei (.k (.int .i64 0)))]) anO)
abbrev anQ:AC:= .seq (.cond dB .skip (.exit 0)) (.seq (.block 1 anP) (.run [.o 23 (.bin .add cT (.k (.int .i64 1))), .m 14 eB]))
abbrev anR:AC:= .seq (.run [.o 11 (.load cR true 13), .c 12 su [cU], .o 13 (.len cJ), .o 14 (.mv (.k (.int .i64 0)))]) (.block 0 (.loop (.seq (.run [.o 15 (.bin .lss cT da)]) anQ)))
abbrev anS:AC:= .seq anR (.seq (.run [.o 24 (.aq cR 1), .o 25 (.load eU false 1), .o 26 (.bin .neq eZ (.k (.int .i64 4))), .m 27 fm, .g 28 27 false (.aq cR 4), .g 29 27 false (.load fV false 1), .g 30 27 false (.bin .neq fY (.k (.str [109,97,105,110]))), .g 31 27 false (.mv gp), .g 32 31 true (.mv db), .g 33 31 true (.aq cR 4), .g 34 31 true (.load gv false 1), .d 35 31 true cD [gF,ie], .g 36 27 false (.pick ga gG (.k (.bool false))), .o 37 (.pick fw (.k (.bool true)) gQ), .m 8 iN]) .ret)
abbrev anT:AC:= .seq (.run [.o 4 (.box bA), .o 5 (.box bp), .o 7 (.box cG), .o 8 (.mv (.k (.bool false)))]) anS
abbrev anU:AC:= .cond dc (.seq (.run [.o 4 (.mv (.k (.bool false)))]) .ret) .skip
abbrev anV:AC:= .seq (.run [.o 15 (.bZ cU da 5), .o 16 (.load dB true 5), .o 6 (.alloc [(.str []),(.slice .full 0 []),(.slice .full 0 []),(.slice .full 0 []),(.slice .full 0 [])]), .op none none (.store dJ dj 5)]) (.seq (.run [.o 17 (.aq dJ 0), .o 18 (.load dK false 1), .o 19 (.aq cG 4), .o 20 (.load dY false 1), .o 21 (.bin .eql dH eg)]) (.cond ei (.seq (.run [.o 22 (.aq dJ 1), .o 23 (.load dT false 1), .o 24 (.aq cG 10), .o 25 (.load eU false 1), .c 26 wC [eB,eZ], .m 4 fm]) .ret) .skip))
abbrev anW:AC:= .seq (.cond cT .skip (.exit 0)) (.seq (.block 1 anV) (.run [.o 27 (.bin .add da (.k (.int .i64 1))), .m 13 fw]))
abbrev anX:AC:= .seq (.run [.o 10 (.aq db 1), .o 11 (.load bQ false 1), .o 12 (.len cU), .o 13 (.mv (.k (.int .i64 0)))]) (.block 0 (.loop (.seq (.run [.o 14 (.bin .lss da cJ)]) anW)))
abbrev anY:AC:= .seq anX (.seq (.run [.o 4 (.mv (.k (.bool false)))]) .ret)
abbrev anZ:AC:= .seq (.seq (.run [.o 7 (.aq cG 1), .o 8 (.load cR false 1), .o 9 (.bin .neq dk (.k (.int .i64 4)))]) anU) anY
abbrev an0:AC:= .seq (.run [.o 2 (.box bA), .o 3 (.box bp), .o 4 (.mv (.k (.bool false)))]) anZ
abbrev an1:AC:= .seq (.run [.o 3 (.load bp true 2), .c 4 mJ [cG], .o 5 (.DW fA 0 false 1), .o 6 (.bin .neq cv (.k (.int .i64 0)))]) (.cond dJ (.seq (.run [.o 2 (.mv (.k .ew))]) .ret) .skip)
abbrev an2:AC:= .seq (.run [.o 1 (.box bA), .o 2 (.mv (.k .ew))]) (.seq an1 (.seq (.run [.o 7 (.load bp true 2), .c 8 lF [cR], .m 2 dk]) .ret))
abbrev an3:AC:= .cond dj (.seq (.run [.m 17 bA, .m 4 dK, .o 5 (.mv (.k (.bool false)))]) .ret) .skip
abbrev an4:AC:= .block 1 (.seq (.run [.o 12 (.bZ dk bQ 1), .o 13 (.load cJ false 1), .m 7 da]) (.seq (.seq (.run [.m 14 bA, .m 15 cR, .c 16 cD [cT,dB]]) an3) (.run [.m 18 bA, .m 19 cR, .o 20 (.dq [(.str [])] 1 1 [(0,dY)]), .o 21 (.app 1 16 dH eg), .m 0 ei])))
abbrev an5:AC:= .seq (.cond cU .skip (.exit 0)) (.seq an4 (.run [.o 22 (.bin .add bQ (.k (.int .i64 1))), .m 10 dT]))
abbrev an6:AC:= .seq (.run [.m 8 bp, .o 9 (.len dk), .o 10 (.mv (.k (.int .i64 0)))]) (.block 0 (.loop (.seq (.run [.o 11 (.bin .lss bQ dc)]) an5)))
abbrev an7:AC:= .seq an6 (.seq (.run [.m 23 bA, .m 4 eB, .o 5 (.mv (.k (.bool true)))]) .ret)
abbrev an8:AC:= .seq (.run [.o 4 (.mv (.k (.slice .full 0 []))), .o 5 (.mv (.k (.bool false)))]) an7
abbrev an9:AC:= .seq (.run [.o 11 (.bin .eql dc (.k (.int .i64 7))), .m 10 cU]) (.cond bQ .skip (.run [.o 12 (.bin .eql dc (.k (.int .i64 8))), .m 10 cJ]))
abbrev aoa:AC:= .cond bQ (.seq (.run [.o 13 (.aq cG 16), .o 14 (.load da false 1), .o 15 (.bin .neq cT (.k (.int .i64 0))), .m 4 dB]) .ret) (.seq (.run [.o 17 (.bin .eql dc (.k (.int .i64 10))), .m 16 dK]) (.cond dj (.seq (.run [.m 19 bA, .o 20 (.aq cG 13), .o 21 (.load eg false 1), .o 22 (.aq cG 0), .o 23 (.aq dT 3), .o 24 (.load eB false 1), .c 25 pD [dY,ei,eU], .m 18 eZ, .o 26 (.ext dH 0), .o 27 (.ext dH 1), .m 5 fm, .m 6 fw]) (.seq (.run [.m 28 dJ, .m 4 fV]) .ret)) .skip))
abbrev aob:AC:= .seq (.seq (.run [.o 7 (.aq cG 0), .o 8 (.aq cR 1), .o 9 (.load dk false 1)]) (.block 0 (.seq an9 aoa))) (.seq (.run [.o 4 (.mv (.k (.bool true)))]) .ret)
abbrev aoc:AC:= .seq (.run [.o 3 (.box bp), .o 4 (.mv (.k (.bool false)))]) aob
abbrev aod:AC:= .cond dj (.seq (.run [.o 4 (.mv (.k (.slice .full 0 [])))]) .ret) .skip
abbrev aoe:AC:= .seq (.run [.o 43 (.bZ jd jJ 1), .o 44 (.load km false 1), .m 12 kE]) (.seq (.run [.o 45 (.aq db 0), .o 46 (.load lh false 1), .m 47 cJ, .c 48 cD [lj,lk]]) (.cond kF (.run [.m 49 dJ, .m 50 cJ, .o 51 (.dq [(.str [])] 1 1 [(0,kG)]), .o 52 (.app 1 16 kn kH), .m 6 kI]) .skip))
abbrev aof:AC:= .seq (.cond kD .skip (.exit 4)) (.seq (.block 5 aoe) (.run [.o 53 (.bin .add jJ (.k (.int .i64 1))), .m 41 ll]))
abbrev aog:AC:= .seq (.run [.o 37 (.aq bQ 0), .o 38 (.load iN true 13), .c 39 su [ju], .o 40 (.len jd), .o 41 (.mv (.k (.int .i64 0)))]) (.block 4 (.loop (.seq (.run [.o 42 (.bin .lss jJ jV)]) aof)))
abbrev aoh:AC:= .seq (.block 3 (.seq (.run [.o 35 (.bZ ga gv 17), .o 36 (.load gG true 17), .o 10 (.alloc [(.int .i64 0),(.int .i64 0),(.slice .full 0 []),(.str []),(.str []),(.int .i64 0),(.int .i64 0),(.str []),(.slice .full 0 []),(.bool false),(.slice .full 0 []),(.slice .full 0 []),(.slice .full 0 []),(.int .i64 0),(.int .i64 0),(.int .i64 0),(.int .i64 0)]), .op none none (.store bQ gQ 17)]) aog)) (.run [.o 54 (.bin .add gv (.k (.int .i64 1))), .m 33 lH])
abbrev aoi:AC:= .block 2 (.loop (.seq (.run [.o 34 (.bin .lss gv gF)]) (.seq (.cond ie .skip (.exit 2)) aoh)))
abbrev aoj:AC:= .seq (.run [.o 25 (.bZ ei eB 1), .o 26 (.load eZ false 1), .m 8 fm]) (.seq (.run [.m 27 cv, .m 28 cv, .m 29 dk, .c 30 iR [fV,fY], .c 31 gX [fw,gp], .o 32 (.len ga), .o 33 (.mv (.k (.int .i64 0)))]) aoi)
abbrev aok:AC:= .seq (.cond eU .skip (.exit 0)) (.seq (.block 1 aoj) (.run [.o 55 (.bin .add eB (.k (.int .i64 1))), .m 23 lI]))
abbrev aol:AC:= .seq (.run [.m 19 cv, .m 20 bp, .c 21 yw [dY,eg], .o 22 (.len ei), .o 23 (.mv (.k (.int .i64 0)))]) (.block 0 (.loop (.seq (.run [.o 24 (.bin .lss eB dT)]) aok)))
abbrev aom:AC:= .seq (.run [.o 17 (.load db true 2), .c 18 lF [dK], .m 5 dH]) (.seq (.run [.o 6 (.mv (.k (.slice .full 0 [])))]) (.seq aol (.seq (.run [.m 56 dJ, .c 57 jT [nn]]) (.seq (.run [.m 58 dJ, .c 59 ko [nR], .m 4 my]) .ret))))
abbrev aon:AC:= .seq (.run [.o 2 (.box bA), .o 4 (.mv (.k (.slice .full 0 [])))]) (.seq (.seq (.run [.o 13 (.load db true 2), .m 14 bp, .c 15 uX [da,cT], .o 16 (.un .not dB)]) aod) aom)
abbrev aoo:AC:= .cond ie (.seq (.run [.o 4 (.mv (.k (.bool false)))]) .ret) .skip
abbrev aop:AC:= .seq (.seq (.run [.m 18 cv, .o 19 (.aq cR 1), .o 20 (.load dY false 1), .c 21 cD [dH,eg], .m 22 ei, .g 23 22 false (.aq cR 1), .g 24 22 false (.load eB false 1), .g 25 22 false (.aq db 3), .g 26 22 false (.load eZ false 1), .g 27 22 false (.bin .eql eU fm), .o 28 (.pick dT (.k (.bool true)) fw), .m 29 fV, .g 30 29 false (.mv bp), .g 31 29 false (.aq cR 1), .g 32 29 false (.load ga false 1), .d 33 29 false cD [gp,gF], .o 34 (.pick fY (.k (.bool true)) gv)]) aoo) (.run [.m 35 cv, .o 36 (.aq cR 1), .o 37 (.load gQ false 1), .o 38 (.dq [(.str [])] 1 1 [(0,iN)]), .o 39 (.app 1 16 gG ju), .m 5 jd])
abbrev aoq:AC:= .block 1 (.seq (.run [.o 13 (.bZ dc cU 6), .o 14 (.load da true 6), .o 7 (.alloc [(.bool false),(.str []),(.int .i64 0),(.int .i64 0),(.str []),(.slice .full 0 [])]), .op none none (.store cR cT 6)]) (.seq (.seq (.run [.o 15 (.aq cR 0), .o 16 (.load dB false 1), .o 17 (.un .not dj)]) (.cond dK (.exit 1) .skip)) aop))
abbrev aor:AC:= .seq (.cond cJ .skip (.exit 0)) (.seq aoq (.run [.o 40 (.bin .add cU (.k (.int .i64 1))), .m 11 jV]))
abbrev aos:AC:= .seq (.run [.o 8 (.aq db 10), .o 9 (.load dk false 1), .o 10 (.len dc), .o 11 (.mv (.k (.int .i64 0)))]) (.block 0 (.loop (.seq (.run [.o 12 (.bin .lss cU bQ)]) aor)))
abbrev aot:AC:= .seq aos (.seq (.run [.o 4 (.mv (.k (.bool true)))]) .ret)
abbrev aou:AC:= .seq (.run [.o 2 (.box bA), .o 4 (.mv (.k (.bool false)))]) (.seq (.run [.o 5 (.mv (.k (.slice .full 0 [])))]) aot)
abbrev aov:AC:= .seq (.run [.o 2 (.mv (.k (.bool false)))]) (.seq (.run [.m 3 bA, .o 4 (.bin .geq cG (.k (.int .u8 48))), .m 5 fA, .g 6 5 true (.mv bA), .g 7 5 true (.bin .leq dJ (.k (.int .u8 57))), .o 8 (.pick cv cR (.k (.bool false))), .m 2 dk]) .ret)
abbrev aow:AC:= .seq (.run [.o 4 (.mv (.k (.bool false)))]) (.seq (.run [.m 5 bp, .m 6 cv, .g 7 6 true (.mv bA), .d 8 6 true mU [cR], .o 9 (.pick dJ dk (.k (.bool false))), .m 10 dc, .g 11 10 false (.mv bp), .g 12 10 false (.un .not cU), .g 13 10 false (.mv cJ), .g 14 13 true (.mv bA), .g 15 13 true (.bin .eql cT (.k (.str []))), .g 16 10 false (.pick da dB (.k (.bool false))), .o 17 (.pick bQ (.k (.bool true)) dj), .m 4 dK]) .ret)
abbrev aox:AC:= .seq (.run [.o 2 (.box bA), .o 4 (.mv (.k (.bool false)))]) (.seq (.run [.m 5 bp, .m 6 cv, .g 7 6 true (.load db true 4), .d 8 6 true jC [cR], .o 9 (.pick dJ dk (.k (.bool false))), .m 10 dc, .g 11 10 false (.mv bp), .g 12 10 false (.un .not cU), .g 13 10 false (.mv cJ), .g 14 13 true (.load db true 4), .d 15 13 true yx [cT], .g 16 10 false (.pick da dB (.k (.bool false))), .o 17 (.pick bQ (.k (.bool true)) dj), .m 4 dK]) .ret)
abbrev aoy:AC:= .cond eZ (.seq (.run [.o 2 (.mv (.k (.bool false)))]) .ret) .skip
abbrev aoz:AC:= .seq (.run [.o 9 (.bZ cv cR 6), .o 10 (.load dc true 6), .o 4 (.alloc [(.bool false),(.str []),(.int .i64 0),(.int .i64 0),(.str []),(.slice .full 0 [])]), .op none none (.store fA bQ 6)]) (.seq (.run [.o 11 (.aq fA 1), .o 12 (.load cU false 1), .o 13 (.aq fA 0), .o 14 (.load da false 1), .c 15 pV [cJ,cT], .o 16 (.un .not dB), .m 17 dj, .g 18 17 false (.aq fA 2), .g 19 17 false (.load dH true 4), .g 20 17 false (.aq fA 0), .g 21 17 false (.load eg false 1), .g 22 17 false (.un .not ei), .d 23 17 false sr [dY,dT], .g 24 17 false (.un .not eB), .o 25 (.pick dK (.k (.bool true)) eU)]) aoy)
abbrev aoA:AC:= .seq (.cond dk .skip (.exit 0)) (.seq (.block 1 aoz) (.run [.o 26 (.bin .add cR (.k (.int .i64 1))), .m 7 fm]))
abbrev aoB:AC:= .seq (.run [.m 5 bA, .o 6 (.len cv), .o 7 (.mv (.k (.int .i64 0)))]) (.block 0 (.loop (.seq (.run [.o 8 (.bin .lss cR dJ)]) aoA)))
abbrev aoC:AC:= .seq aoB (.seq (.run [.o 2 (.mv (.k (.bool true)))]) .ret)
abbrev aoD:AC:= .seq (.run [.o 2 (.mv (.k (.bool false)))]) aoC
abbrev aoE:AC:= .cond ga (.seq (.run [.m 32 db, .m 33 dk, .o 34 (.bZ gF gv 1), .o 35 (.load ie false 1), .m 6 gG, .o 7 (.mv (.k (.bool true)))]) .ret) .skip
abbrev aoF:AC:= .seq (.run [.m 20 bp, .o 21 (.aq cG 2), .o 22 (.load ei false 1), .c 23 gk [eg,dT], .m 8 eB]) (.seq (.run [.m 24 dk, .o 25 (.bin .geq eU (.k (.int .i64 0))), .m 26 eZ, .g 27 26 true (.mv dk), .g 28 26 true (.mv db), .g 29 26 true (.len fV), .g 30 26 true (.bin .lss fw fY), .o 31 (.pick fm gp (.k (.bool false)))]) aoE)
abbrev aoG:AC:= .seq aoF (.seq (.run [.o 6 (.mv (.k (.int .i64 0))), .o 7 (.mv (.k (.bool true)))]) .ret)
abbrev aoH:AC:= .cond cT (.seq (.run [.o 16 (.aq cG 1), .o 17 (.load dj false 1), .m 6 dK, .o 7 (.mv (.k (.bool true)))]) .ret) (.seq (.run [.o 19 (.bin .eql da (.k (.int .i64 2))), .m 18 dY]) (.cond dH aoG .skip))
abbrev aoI:AC:= .block 0 (.seq (.run [.o 15 (.bin .eql da (.k (.int .i64 1))), .m 14 dB]) aoH)
abbrev aoJ:AC:= .cond lk (.seq (.run [.o 6 (.mv (.k (.int .i64 0))), .o 7 (.mv (.k (.bool false)))]) .ret) .skip
abbrev aoK:AC:= .cond tj (.seq (.run [.o 6 (.mv (.k (.int .i64 0))), .o 7 (.mv (.k (.bool true)))]) .ret) .skip
abbrev aoL:AC:= .cond yy (.seq (.run [.o 6 (.mv (.k (.int .i64 1))), .o 7 (.mv (.k (.bool true)))]) .ret) .skip
abbrev aoM:AC:= .cond G8 (.seq (.run [.o 6 (.mv (.k (.int .i64 0))), .o 7 (.mv (.k (.bool false)))]) .ret) .skip
abbrev aoN:AC:= .seq (.seq (.run [.o 66 (.aq cG 0), .o 67 (.load u5 false 1), .o 68 (.bin .eql u6 (.k (.int .i64 17))), .m 69 tn, .g 70 69 true (.mv dc), .d 71 69 true sv [wE], .o 72 (.pick wD Am (.k (.bool false)))]) aoL) (.seq (.run [.o 74 (.aq cG 3), .o 75 (.load An false 1), .o 76 (.bZ Ao (.k (.int .i64 1)) 4), .o 77 (.load Ap true 4), .m 78 bp, .m 79 db, .c 80 lQ [Cm,yA,EF], .m 73 EG, .o 81 (.ext yz 0), .o 82 (.ext yz 1), .m 11 EH, .m 10 G6]) (.seq (.seq (.run [.m 83 bQ, .o 84 (.un .not G7)]) aoM) (.seq (.run [.o 85 (.aq cG 0), .o 86 (.load G9 false 1), .m 87 dc, .m 88 cU, .c 89 Al [Ha,Hb,Hc], .o 90 (.ext Cn 0), .o 91 (.ext Cn 1), .m 6 Hd, .m 7 K3]) .ret)))
abbrev aoO:AC:= .seq (.seq (.run [.o 58 (.aq cG 0), .o 59 (.load nR false 1), .o 60 (.bin .eql my (.k (.int .i64 16))), .m 61 pw, .g 62 61 true (.mv dc), .d 63 61 true sv [pX], .g 64 61 true (.un .not qH), .o 65 (.pick qG qI (.k (.bool false)))]) aoK) aoN
abbrev aoP:AC:= .seq (.seq (.run [.o 48 (.aq cG 3), .o 49 (.load kF false 1), .o 50 (.len kn), .o 51 (.bin .eql kG (.k (.int .i64 1)))]) (.cond kH (.seq (.run [.o 52 (.aq cG 0), .o 53 (.load kI false 1), .m 54 dc, .c 55 Ak [ll,lH], .o 56 (.ext lI 0), .o 57 (.ext lI 1), .m 6 nn, .m 7 oz]) .ret) .skip)) aoO
abbrev aoQ:AC:= .seq (.seq (.run [.o 12 (.aq cG 0), .o 13 (.load cJ false 1)]) aoI) (.seq (.run [.o 37 (.aq cG 3), .o 38 (.load iN false 1), .o 39 (.bZ ju (.k (.int .i64 0)) 4), .o 40 (.load jd true 4), .m 41 bp, .m 42 db, .c 43 lQ [jV,jJ,kD], .m 36 km, .o 44 (.ext gQ 0), .o 45 (.ext gQ 1), .m 9 kE, .m 10 lh]) (.seq (.seq (.run [.m 46 bQ, .o 47 (.un .not lj)]) aoJ) aoP))
abbrev aoR:AC:= .seq (.run [.o 3 (.box bA), .o 6 (.mv (.k (.int .i64 0))), .o 7 (.mv (.k (.bool false)))]) aoQ
abbrev aoS:AC:= .block 1 (.seq (.run [.m 10 dk, .m 5 bQ]) (.seq (.run [.m 11 bp, .m 12 bA, .m 13 cv, .o 14 (.bZ cJ da 1), .o 15 (.load cT false 1), .o 16 (.bin .eql cU dB)]) (.cond dj (.seq (.run [.m 17 cv, .m 4 dK]) .ret) .skip)))
abbrev aoT:AC:= .seq (.cond dc .skip (.exit 0)) (.seq aoS (.run [.o 18 (.bin .add dk (.k (.int .i64 1))), .m 8 dH]))
abbrev aoU:AC:= .seq (.run [.m 6 bA, .o 7 (.len dJ), .o 8 (.mv (.k (.int .i64 0)))]) (.block 0 (.loop (.seq (.run [.o 9 (.bin .lss dk cR)]) aoT)))
abbrev aoV:AC:= .seq (.run [(.o 4 (.mv (.k (.int .i64 (-1)))))]) .ret
abbrev aoW:AC:= .seq (.run [.o 4 (.mv (.k (.int .i64 0)))]) (.seq aoU aoV)
abbrev aoX:AC:= .block 1 (.seq (.run [.m 10 dk, .m 5 bQ]) (.seq (.run [.m 11 bp, .m 12 bA, .m 13 cv, .o 14 (.bZ cJ da 1), .o 15 (.load cT false 1),(.jM (some 16) none 11 [dB])]) (.cond dj (.seq (.run [.m 17 cv, .m 4 dK]) .ret) .skip)))
abbrev aoY:AC:= .seq (.cond dc .skip (.exit 0)) (.seq aoX (.run [.o 18 (.bin .add dk (.k (.int .i64 1))), .m 8 dH]))
abbrev aoZ:AC:= .seq (.run [.m 6 bA, .o 7 (.len dJ), .o 8 (.mv (.k (.int .i64 0)))]) (.block 0 (.loop (.seq (.run [.o 9 (.bin .lss dk cR)]) aoY)))
abbrev ao0:AC:= .seq (.run [(.o 4 (.mv (.k (.int .i64 (-1)))))]) .ret
abbrev ao1:AC:= .seq (.run [.o 4 (.mv (.k (.int .i64 0)))]) (.seq aoZ ao0)
abbrev ao2:AC:= .seq (.seq (.run [.o 31 (.aq cv 0), .o 32 (.load ga false 1)]) (.cond gF (.run [.m 33 cG, .o 34 (.aq cv 1), .o 35 (.load ie false 1), .o 36 (.dq [(.str [])] 1 1 [(0,gG)]), .o 37 (.app 1 16 gv gQ), .m 3 iN]) .skip)) (.run [.m 38 cG, .o 39 (.aq cv 2), .o 40 (.load jd true 4), .c 41 sx [jV], .o 42 (.app 1 16 ju jJ), .m 3 kD])
abbrev ao3:AC:= .seq (.block 1 (.seq (.run [.o 29 (.bZ eZ fw 6), .o 30 (.load fY true 6), .o 5 (.alloc [(.bool false),(.str []),(.int .i64 0),(.int .i64 0),(.str []),(.slice .full 0 [])]), .op none none (.store cv gp 6)]) ao2)) (.run [.o 43 (.bin .add fw (.k (.int .i64 1))), .m 27 km])
abbrev ao4:AC:= .block 0 (.loop (.seq (.run [.o 28 (.bin .lss fw fm)]) (.seq (.cond fV .skip (.exit 0)) ao3)))
abbrev ao5:AC:= .seq (.seq (.run [.o 24 (.aq bp 10), .o 25 (.load eU false 1), .o 26 (.len eZ), .o 27 (.mv (.k (.int .i64 0)))]) ao4) (.seq (.run [.m 44 cG, .m 2 kE]) .ret)
abbrev ao6:AC:= .seq (.seq (.run [.o 6 (.aq bp 1), .o 7 (.load dJ false 1), .o 8 (.bin .neq cR (.k (.int .i64 10))), .m 9 dk, .g 10 9 true (.aq bp 3), .g 11 9 true (.load bQ false 1), .g 12 9 true (.bin .neq cU (.k (.str []))), .o 13 (.pick dc cJ (.k (.bool false)))]) (.cond da (.run [.m 14 cG, .o 15 (.aq bp 3), .o 16 (.load dB false 1), .o 17 (.dq [(.str [])] 1 1 [(0,dj)]), .o 18 (.app 1 16 cT dK), .m 3 dH]) .skip)) (.seq (.run [.m 19 cG, .o 20 (.aq bp 5), .o 21 (.load eg true 4), .c 22 sx [ei], .o 23 (.app 1 16 dY dT), .m 3 eB]) ao5)
abbrev ao7:AC:= .seq (.run [.o 1 (.box bA), .o 2 (.mv (.k (.slice .full 0 [])))]) (.seq (.run [.o 3 (.mv (.k (.slice .full 0 [])))]) ao6)
abbrev ao8:AC:= .cond eB (.seq (.run [.o 6 (.mv (.k (.int .i64 3)))]) .ret) .skip
abbrev ao9:AC:= .cond fw (.seq (.run [.o 6 (.mv (.k (.int .i64 2)))]) .ret) .skip
abbrev apa:AC:= .seq (.seq (.run [.o 16 (.aq dk 0), .o 17 (.load dj false 1), .m 18 db, .o 19 (.bin .eql dK dH), .m 20 dY, .g 21 20 true (.aq dk 1), .g 22 20 true (.load ei false 1), .o 23 (.pick eg dT (.k (.bool false)))]) ao8) (.seq (.run [.o 24 (.aq dk 0), .o 25 (.load eU false 1), .m 26 db, .o 27 (.bin .eql eZ fm)]) ao9)
abbrev apb:AC:= .seq (.block 1 (.seq (.run [.o 14 (.bZ bQ cJ 2), .o 15 (.load cT true 2), .o 8 (.alloc [(.str []),(.bool false)]), .op none none (.store dk dB 2)]) apa)) (.run [.o 28 (.bin .add cJ (.k (.int .i64 1))), .m 12 fV])
abbrev apc:AC:= .block 0 (.loop (.seq (.run [.o 13 (.bin .lss cJ cU)]) (.seq (.cond da .skip (.exit 0)) apb)))
abbrev apd:AC:= .cond gF (.seq (.run [.o 6 (.mv (.k (.int .i64 4)))]) .ret) .skip
abbrev ape:AC:= .cond gQ (.seq (.run [.o 6 (.mv (.k (.int .i64 1)))]) .ret) .skip
abbrev apf:AC:= .seq (.seq (.run [.o 33 (.aq cG 0), .o 34 (.load gv false 1), .m 35 db, .c 36 cD [ie,gG]]) ape) (.seq (.run [.o 6 (.mv (.k (.int .i64 0)))]) .ret)
abbrev apg:AC:= .seq (.seq (.run [.o 9 (.aq fA 1), .o 10 (.load dc false 1), .o 11 (.len bQ), .o 12 (.mv (.k (.int .i64 0)))]) apc) (.seq (.seq (.run [.o 29 (.aq fA 2), .o 30 (.load fY false 1), .m 31 db, .c 32 cD [gp,ga]]) apd) apf)
abbrev aph:AC:= .seq (.run [.o 3 (.box bA), .o 4 (.box bp), .o 6 (.mv (.k (.int .i64 0)))]) apg
abbrev api:AC:= .cond cU (.seq (.run [.o 4 (.mv (.k (.bool false)))]) .ret) .skip
abbrev apj:AC:= .par [.o 19 (.aq dJ 1), .o 20 (.load dY false 1), .m 21 bp, .m 22 cv, .o 23 (.bZ ei dT 6), .o 24 (.aq eB 0), .o 25 (.load eU false 1), .o 26 (.HR true eg eZ)] [(0,0),(1,0),(2,0),(3,0),(4,0),(5,0),(6,0),(7,0)]
abbrev apk:AC:= .cond fm (.seq (.run [.o 4 (.mv (.k (.bool false)))]) .ret) .skip
abbrev apl:AC:= .seq (.block 1 (.seq (.run [.m 16 cT, .o 17 (.bZ cJ cT 2), .o 18 (.load dK true 2), .o 6 (.alloc [(.str []),(.bool false)]), .m 5 dj, .op none none (.store dJ dH 2)]) (.seq apj apk))) (.run [.o 27 (.bin .add cT (.k (.int .i64 1))), .m 14 fw])
abbrev apm:AC:= .block 0 (.loop (.seq (.run [.o 15 (.bin .lss cT da)]) (.seq (.cond dB .skip (.exit 0)) apl)))
abbrev apn:AC:= .seq (.seq (.run [.m 12 bA, .o 13 (.len cJ), .o 14 (.mv (.k (.int .i64 0)))]) apm) (.seq (.run [.o 4 (.mv (.k (.bool true)))]) .ret)
abbrev apo:AC:= .seq (.run [.o 4 (.mv (.k (.bool false)))]) (.seq (.seq (.run [.m 7 bA, .o 8 (.len cR), .m 9 bp, .o 10 (.len dc), .o 11 (.bin .neq dk bQ)]) api) apn)
abbrev apq:AC:= .seq (.run [.o 2 (.box bA), .o 3 (.box bp), .o 4 (.mv (.k (.bool false)))]) (.seq (.run [.o 5 (.load db true 2), .c 6 mJ [cv], .o 7 (.DW dJ 0 false 1), .o 8 (.bin .eql cR (.k (.int .i64 0))), .m 9 dk, .g 10 9 true (.aq db 1), .g 11 9 true (.load bQ false 1), .g 12 9 true (.vE 191 [cG]), .d 13 9 true gY [cU,cJ], .o 14 (.pick dc da (.k (.bool false))), .m 4 cT]) .ret)
abbrev apr:AC:= .seq (.run [.o 26 (.bZ dT eU 1), .o 27 (.load fm false 1), .m 8 fw]) (.seq (.run [.m 28 cv, .m 29 dk, .c 30 cD [fV,fY], .o 31 (.un .not gp)]) (.cond ga (.run [.m 32 cv, .m 33 dk, .o 34 (.dq [(.str [])] 1 1 [(0,gv)]), .o 35 (.app 1 16 gF ie), .m 5 gG]) .skip))
abbrev aps:AC:= .seq (.cond eZ .skip (.exit 2)) (.seq (.block 3 apr) (.run [.o 36 (.bin .add eU (.k (.int .i64 1))), .m 24 gQ]))
abbrev apt:AC:= .seq (.run [.m 17 bA, .m 18 cv, .m 19 dJ, .o 20 (.bZ dH dY 1), .o 21 (.load eg false 1), .c 22 uY [dK,ei], .o 23 (.len dT), .o 24 (.mv (.k (.int .i64 0)))]) (.block 2 (.loop (.seq (.run [.o 25 (.bin .lss eU eB)]) aps)))
abbrev apu:AC:= .seq (.seq (.run [.m 11 dJ, .m 12 cv, .o 13 (.len cJ), .o 14 (.bin .lss cU da)]) (.cond cT .skip (.exit 0))) (.seq (.block 1 apt) (.run [.m 15 dJ, .o 16 (.bin .add dB (.k (.int .i64 1))), .m 6 dj]))
abbrev ae7:AC:= .seq (.run [.m 39 cv, .m 4 jd]) .ret
abbrev apv:AC:= .seq (.seq (.run [.o 6 (.mv (.k (.int .i64 0)))]) (.block 0 (.loop apu))) (.seq (.run [.m 37 cv, .c 38 jT [iN]]) ae7)
abbrev apw:AC:= .seq (.run [.o 4 (.mv (.k (.slice .full 0 [])))]) (.seq (.run [.m 9 bp, .o 10 (.dq [(.str [])] 1 1 [(0,dc)]), .m 5 bQ]) apv)
abbrev apx:AC:= .seq (.run [.o 1 (.box bA), .o 2 (.mv (.k (.bool false)))]) (.seq (.run [.o 3 (.aq bp 0), .o 4 (.load cG false 1), .o 5 (.bin .eql fA (.k (.int .i64 0))), .m 6 cv, .g 7 6 true (.aq bp 1), .g 8 6 true (.load cR false 1), .g 9 6 true (.bin .eql dk (.k (.int .i64 0))), .o 10 (.pick dJ dc (.k (.bool false))), .m 11 bQ, .g 12 11 true (.aq bp 2), .g 13 11 true (.load cJ false 1), .g 14 11 true (.bin .eql da (.k (.str []))), .o 15 (.pick cU cT (.k (.bool false))), .m 16 dB, .g 17 16 true (.aq bp 3), .g 18 16 true (.load dK false 1), .g 19 16 true (.len dH), .g 20 16 true (.bin .eql dY (.k (.int .i64 0))), .o 21 (.pick dj eg (.k (.bool false))), .m 2 ei]) .ret)
abbrev apy:AC:= .cond cU (.seq (.run [.m 13 bp, .o 14 (.bin .eql da (.k (.int .i64 0))), .c 15 jU [cT], .m 4 dB, .o 5 (.mv (.k (.bool true)))]) .ret) .skip
abbrev apz:AC:= .cond cR (.seq (.run [.m 9 bp, .o 10 (.bin .sub (.k (.int .i64 0)) dc), .m 4 bQ, .o 5 (.mv (.k (.bool true)))]) .ret) (.seq (.run [.o 12 (.bin .eql dJ (.k (.int .i64 4))), .m 11 cJ]) apy)
abbrev apA:AC:= .block 0 (.seq (.run [.o 8 (.bin .eql dJ (.k (.int .i64 3))), .m 7 dk]) apz)
abbrev apB:AC:= .seq (.seq (.run [.m 6 bA]) apA) (.seq (.run [.o 4 (.mv (.k (.int .i64 0))), .o 5 (.mv (.k (.bool false)))]) .ret)
abbrev apC:AC:= .seq (.run [.o 4 (.mv (.k (.int .i64 0))), .o 5 (.mv (.k (.bool false)))]) apB
abbrev apD:AC:= .seq (.run [.o 2 (.mv (.k (.bool false)))]) (.seq (.run [.m 3 bA, .o 4 (.bin .neq cG (.k (.int .i64 0))), .m 2 fA]) .ret)
abbrev apE:AC:= .seq (.run [.o 25 (.bin .eql dk (.k (.int .i64 6))), .m 24 eZ]) (.cond eU .skip (.run [.o 26 (.bin .eql dk (.k (.int .i64 7))), .m 24 fm]))
abbrev apG:AC:= .cond kD (.seq (.run [.m 44 bp, .o 45 (.bin .neq kE (.k (.int .i64 0))), .m 46 lh, .g 47 46 false (.mv db), .g 48 46 false (.bin .neq lk (.k (.int .i64 0))), .o 49 (.pick lj (.k (.bool true)) kF), .c 50 jU [kn], .m 6 kG, .o 7 (.mv (.k (.bool true)))]) .ret) .skip
abbrev apH:AC:= .cond gv (.seq (.run [.m 35 bp, .o 36 (.bin .neq gG (.k (.int .i64 0))), .m 37 gQ, .g 38 37 true (.mv db), .g 39 37 true (.bin .neq ju (.k (.int .i64 0))), .o 40 (.pick iN jd (.k (.bool false))), .c 41 jU [jV], .m 6 jJ, .o 7 (.mv (.k (.bool true)))]) .ret) (.seq (.run [.o 43 (.bin .eql dk (.k (.int .i64 17))), .m 42 km]) apG)
abbrev apI:AC:= .cond eU (.seq (.run [.m 27 bA, .m 28 bp, .m 29 db, .c 30 uZ [fw,fV,fY], .o 31 (.ext gp 0), .o 32 (.ext gp 1), .m 6 ga, .m 7 gF]) .ret) (.seq (.run [.o 34 (.bin .eql dk (.k (.int .i64 16))), .m 33 ie]) apH)
abbrev apJ:AC:= .cond dY (.seq (.run [.m 21 bp, .m 22 db, .o 23 (.bin .mul ei dT), .m 6 eB, .o 7 (.mv (.k (.bool true)))]) .ret) (.seq apE apI)
abbrev apK:AC:= .cond cT (.seq (.run [.m 16 bp, .m 17 db, .o 18 (.bin .sub dj dK), .m 6 dH, .o 7 (.mv (.k (.bool true)))]) .ret) (.seq (.run [.o 20 (.bin .eql dk (.k (.int .i64 5))), .m 19 eg]) apJ)
abbrev apL:AC:= .cond dc (.seq (.run [.m 11 bp, .m 12 db, .o 13 (.bin .add cU cJ), .m 6 da, .o 7 (.mv (.k (.bool true)))]) .ret) (.seq (.run [.o 15 (.bin .eql dk (.k (.int .i64 9))), .m 14 dB]) apK)
abbrev apN:AC:= .block 0 (.seq (.run [.o 10 (.bin .eql dk (.k (.int .i64 8))), .m 9 bQ]) apL)
abbrev apO:AC:= .seq (.run [.o 6 (.mv (.k (.int .i64 0))), .o 7 (.mv (.k (.bool false)))]) (.seq (.seq (.run [.m 8 bA]) apN) (.seq (.run [.m 51 bA, .m 52 bp, .m 53 db, .c 54 ti [kH,kI,ll], .o 55 (.ext lH 0), .o 56 (.ext lH 1), .m 6 lI, .m 7 nn]) .ret))
abbrev apP:AC:= .cond cv (.seq (.run [.o 2 (.mv (.k (.slice .full 0 [])))]) .ret) .skip
abbrev apQ:AC:= .seq (.seq (.run [.o 3 (.load bp true 4), .c 4 jC [cG], .o 5 (.un .not fA)]) apP) (.seq (.run [.o 6 (.load bp true 4),(.c 7 ji [dJ,(.k (.slice .full 0 []))]), .m 2 cR]) .ret)
abbrev apR:AC:= .seq (.run [.o 1 (.box bA), .o 2 (.mv (.k (.slice .full 0 [])))]) apQ
abbrev apS:AC:= .seq (.run [.o 4 (.mv (.k (.bool false)))]) (.seq (.run [.m 5 bA, .m 6 bp, .c 7 gy [cv,dJ], .o 8 (.bin .geq cR (.k (.int .i64 0))), .m 4 dk]) .ret)
abbrev apT:AC:= .seq (.run [.o 2 (.box bA), .o 3 (.mv (.k (.bool false)))]) (.seq (.run [.o 4 (.aq db 0), .o 5 (.load fA false 1), .o 6 (.load bp false 1), .o 7 (.bin .eql cv dJ), .m 3 cR]) .ret)
abbrev apU:AC:= .seq (.run [.o 16 (.bZ cJ cT 17), .o 17 (.load dj true 17), .o 7 (.alloc [(.int .i64 0),(.int .i64 0),(.slice .full 0 []),(.str []),(.str []),(.int .i64 0),(.int .i64 0),(.str []),(.slice .full 0 []),(.bool false),(.slice .full 0 []),(.slice .full 0 []),(.slice .full 0 []),(.int .i64 0),(.int .i64 0),(.int .i64 0),(.int .i64 0)]), .op none none (.store cR dK 17)]) (.seq (.run [.o 18 (.aq cR 0), .o 19 (.aq dH 1), .o 20 (.load dY false 1), .o 21 (.bin .eql eg (.k (.int .i64 4)))]) (.cond ei (.run [.m 22 cv, .o 23 (.aq cR 0), .o 24 (.aq eB 4), .o 25 (.load eU false 1), .o 26 (.dq [(.str [])] 1 1 [(0,eZ)]), .o 27 (.app 1 16 dT fm), .m 5 fw]) .skip))
abbrev apV:AC:= .seq (.cond dB .skip (.exit 0)) (.seq (.block 1 apU) (.run [.o 28 (.bin .add cT (.k (.int .i64 1))), .m 14 fV]))
abbrev apW:AC:= .seq (.run [.m 8 bA, .m 9 bA, .m 10 bp, .c 11 iR [dc,bQ], .c 12 gX [dk,cU], .o 13 (.len cJ), .o 14 (.mv (.k (.int .i64 0)))]) (.block 0 (.loop (.seq (.run [.o 15 (.bin .lss cT da)]) apV)))
abbrev apX:AC:= .seq (.run [.o 4 (.mv (.k (.slice .full 0 [])))]) (.seq (.run [.o 5 (.mv (.k (.slice .full 0 [])))]) (.seq apW (.seq (.run [.m 29 cv, .c 30 jT [fY]]) (.seq (.run [.m 31 cv, .c 32 ko [ga], .m 4 gF]) .ret))))
open Go.Proofs
theorem Av:Has Tryz.prog pW 19 [(4,none)] aoW:=⟨Tryz.f146,by kernel_rfl,by kernel_rfl⟩
theorem uu:Has Tryz.prog lG 19 [(4,none)] ao1:=⟨Tryz.f167,by kernel_rfl,by kernel_rfl⟩
theorem Hg:Has Tryz.prog su 45 [(2,none)] ao7:=⟨Tryz.f168,by kernel_rfl,by kernel_rfl⟩
theorem Hh:Has Tryz.prog wB 37 [(6,none)] aph:=⟨Tryz.f169,by kernel_rfl,by kernel_rfl⟩
theorem zt:Has Tryz.prog wC 28 [(4,none)] apo:=⟨Tryz.f170,by kernel_rfl,by kernel_rfl⟩
theorem xC:Has Tryz.prog uX 15 [(4,none)] apq:=⟨Tryz.f171,by kernel_rfl,by kernel_rfl⟩
theorem Jt:Has Tryz.prog yw 40 [(4,none)] apw:=⟨Tryz.f172,by kernel_rfl,by kernel_rfl⟩
theorem Ju:Has Tryz.prog yx 22 [(2,none)] apx:=⟨Tryz.f175,by kernel_rfl,by kernel_rfl⟩
theorem La:Has Tryz.prog Ak 16 [(4,none),(5,none)] apC:=⟨Tryz.f176,by kernel_rfl,by kernel_rfl⟩
theorem Hi:Has Tryz.prog sv 5 [(2,none)] apD:=⟨Tryz.f177,by kernel_rfl,by kernel_rfl⟩
theorem Lb:Has Tryz.prog Al 57 [(6,none),(7,none)] apO:=⟨Tryz.f178,by kernel_rfl,by kernel_rfl⟩
theorem zu:Has Tryz.prog sx 8 [(2,none)] apR:=⟨Tryz.f189,by kernel_rfl,by kernel_rfl⟩
theorem rr:Has Tryz.prog gY 9 [(4,none)] apS:=⟨Tryz.f190,by kernel_rfl,by kernel_rfl⟩
theorem DP:Has Tryz.prog pF 8 [(3,none)] apT:=⟨Tryz.f191,by kernel_rfl,by kernel_rfl⟩
theorem FK:Has Tryz.prog uY 33 [(4,none)] apX:=⟨Tryz.f192,by kernel_rfl,by kernel_rfl⟩
abbrev apY:AC:= .cond cG (.seq (.run [.o 2 (.mv (.k (.int .i64 1)))]) .ret) .skip
abbrev apZ:AC:= .seq (.seq (.run [.m 3 bA]) apY) (.seq (.run [.o 2 (.mv (.k (.int .i64 0)))]) .ret)
abbrev ap0:AC:= .seq (.run [.o 2 (.mv (.k (.int .i64 0)))]) apZ
abbrev ap1:AC:= .cond dc (.seq (.run [.o 6 (.mv (.k (.int .i64 0))), .o 7 (.mv (.k (.bool false)))]) .ret) .skip
abbrev ap2:AC:= .cond da (.seq (.run [.o 6 (.mv (.k (.int .i64 0))), .o 7 (.mv (.k (.bool true)))]) .ret) .skip
abbrev ap3:AC:= .cond dB (.seq (.run [.m 16 bp, .m 6 dj, .o 7 (.mv (.k (.bool true)))]) .ret) .skip
abbrev ap4:AC:= .seq (.run [.m 14 bp,(.o 15 (.bin .eql cT (.k (.int .i64 (-9223372036854775808)))))]) ap3
abbrev ap5:AC:= .seq ap4 (.seq (.run [.m 17 bp, .o 18 (.bin .sub (.k (.int .i64 0)) dK), .m 6 dH, .o 7 (.mv (.k (.bool true)))]) .ret)
abbrev ap6:AC:= .seq (.seq (.run [.m 12 bA, .o 13 (.bin .eql cJ (.k (.int .i64 7)))]) ap2) ap5
abbrev ap7:AC:= .seq (.run [.m 10 db,(.o 11 (.bin .eql bQ (.k (.int .i64 (-1)))))]) (.cond cU ap6 .skip)
abbrev ap8:AC:= .cond eg (.seq (.run [.m 21 bp, .m 22 db, .o 23 (.bin .rem ei dT), .m 6 eB, .o 7 (.mv (.k (.bool true)))]) .ret) .skip
abbrev ap9:AC:= .seq (.seq (.run [.m 19 bA, .o 20 (.bin .eql dY (.k (.int .i64 7)))]) ap8) (.seq (.run [.m 24 bp, .m 25 db, .o 26 (.bin .quo eU eZ), .m 6 fm, .o 7 (.mv (.k (.bool true)))]) .ret)
abbrev aqa:AC:= .seq (.seq (.run [.m 8 db, .o 9 (.bin .eql dk (.k (.int .i64 0)))]) ap1) (.seq ap7 ap9)
abbrev aqb:AC:= .seq (.run [.o 6 (.mv (.k (.int .i64 0))), .o 7 (.mv (.k (.bool false)))]) aqa
abbrev aqc:AC:= .cond jd (.seq (.run [.m 41 bp, .m 42 db, .o 43 (.bin .neq jJ kD), .c 44 jU [km], .m 6 kE, .o 7 (.mv (.k (.bool true)))]) .ret) .skip
abbrev aqd:AC:= .cond gv (.seq (.run [.m 35 bp, .m 36 db, .o 37 (.bin .eql gG gQ), .c 38 jU [iN], .m 6 ju, .o 7 (.mv (.k (.bool true)))]) .ret) (.seq (.run [.o 40 (.bin .eql dk (.k (.int .i64 15))), .m 39 jV]) aqc)
abbrev aqe:AC:= .cond fw (.seq (.run [.m 29 bp, .m 30 db, .o 31 (.bin .geq fY gp), .c 32 jU [ga], .m 6 gF, .o 7 (.mv (.k (.bool true)))]) .ret) (.seq (.run [.o 34 (.bin .eql dk (.k (.int .i64 14))), .m 33 ie]) aqd)
abbrev aqf:AC:= .cond ei (.seq (.run [.m 23 bp, .m 24 db, .o 25 (.bin .gtr eB eU), .c 26 jU [eZ], .m 6 fm, .o 7 (.mv (.k (.bool true)))]) .ret) (.seq (.run [.o 28 (.bin .eql dk (.k (.int .i64 13))), .m 27 fV]) aqe)
abbrev aqg:AC:= .cond dB (.seq (.run [.m 17 bp, .m 18 db, .o 19 (.bin .leq dK dH), .c 20 jU [dY], .m 6 eg, .o 7 (.mv (.k (.bool true)))]) .ret) (.seq (.run [.o 22 (.bin .eql dk (.k (.int .i64 12))), .m 21 dT]) aqf)
abbrev aqh:AC:= .cond dc (.seq (.run [.m 11 bp, .m 12 db, .o 13 (.bin .lss cU cJ), .c 14 jU [da], .m 6 cT, .o 7 (.mv (.k (.bool true)))]) .ret) (.seq (.run [.o 16 (.bin .eql dk (.k (.int .i64 11))), .m 15 dj]) aqg)
abbrev aqi:AC:= .block 0 (.seq (.run [.o 10 (.bin .eql dk (.k (.int .i64 10))), .m 9 bQ]) aqh)
abbrev aqj:AC:= .seq (.seq (.run [.m 8 bA]) aqi) (.seq (.run [.o 6 (.mv (.k (.int .i64 0))), .o 7 (.mv (.k (.bool false)))]) .ret)
abbrev aqk:AC:= .seq (.run [.o 6 (.mv (.k (.int .i64 0))), .o 7 (.mv (.k (.bool false)))]) aqj
abbrev aql:AC:= .seq (.block 1 (.seq (.run [.o 27 (.bZ eB eZ 4), .o 28 (.load fw true 4), .o 6 (.alloc [(.int .i64 0),(.int .i64 0),(.str []),(.slice .full 0 [])]), .op none none (.store dJ fV 4)]) (.run [.o 29 (.load dJ true 4), .m 30 bp, .c 31 ji [fY,gp], .m 1 ga]))) (.run [.o 32 (.bin .add eZ (.k (.int .i64 1))), .m 25 gF])
abbrev aqm:AC:= .block 0 (.loop (.seq (.run [.o 26 (.bin .lss eZ eU)]) (.seq (.cond fm .skip (.exit 0)) aql)))
abbrev aqn:AC:= .seq (.seq (.run [.o 22 (.aq db 3), .o 23 (.load dT false 1), .o 24 (.len eB), .o 25 (.mv (.k (.int .i64 0)))]) aqm) (.seq (.run [.m 33 bp, .m 4 gv]) .ret)
abbrev aqo:AC:= .seq (.seq (.run [.o 7 (.aq db 0), .o 8 (.load cR false 1), .o 9 (.bin .eql dk (.k (.int .i64 2))), .m 10 dc, .g 11 10 true (.mv bp), .g 12 10 true (.aq db 2), .g 13 10 true (.load cJ false 1), .d 14 10 true cD [cU,da], .g 15 10 true (.un .not cT), .o 16 (.pick bQ dB (.k (.bool false)))]) (.cond dj (.run [.m 17 bp, .o 18 (.aq db 2), .o 19 (.load dH false 1), .o 20 (.dq [(.str [])] 1 1 [(0,dY)]), .o 21 (.app 1 16 dK eg), .m 1 ei]) .skip)) aqn
abbrev aqp:AC:= .seq (.run [.o 2 (.box bA), .o 4 (.mv (.k (.slice .full 0 [])))]) aqo
open Go.Proofs
theorem Lc:Has Tryz.prog jU 4 [(2,none)] ap0:=⟨Tryz.f195,by kernel_rfl,by kernel_rfl⟩
theorem xD:Has Tryz.prog uZ 27 [(6,none),(7,none)] aqb:=⟨Tryz.f196,by kernel_rfl,by kernel_rfl⟩
theorem EI:Has Tryz.prog ti 45 [(6,none),(7,none)] aqk:=⟨Tryz.f197,by kernel_rfl,by kernel_rfl⟩
theorem sA:Has Tryz.prog ji 34 [(4,none)] aqp:=⟨Tryz.f207,by kernel_rfl,by kernel_rfl⟩
open Go.Proofs
theorem Hj:Has Tryz.prog sm 9 [(2,none)] amC:=⟨Tryz.f104,by kernel_rfl,by kernel_rfl⟩
theorem M8:Has Tryz.prog Cj 24 [(4,none)] amE:=⟨Tryz.f105,by kernel_rfl,by kernel_rfl⟩
theorem Ld:Has Tryz.prog Aj 18 [(2,none)] amT:=⟨Tryz.f106,by kernel_rfl,by kernel_rfl⟩
theorem FL:Has Tryz.prog uV 93 [(2,none)] am8:=⟨Tryz.f107,by kernel_rfl,by kernel_rfl⟩
theorem Jv:Has Tryz.prog ni 33 [(2,none)] ang:=⟨Tryz.f108,by kernel_rfl,by kernel_rfl⟩
theorem qz:Has Tryz.prog la 8 [(2,none)] ani:=⟨Tryz.f109,by kernel_rfl,by kernel_rfl⟩
theorem Jw:Has Tryz.prog tQ 23 [(2,none)] anm:=⟨Tryz.f110,by kernel_rfl,by kernel_rfl⟩
theorem xa:Has Tryz.prog gk 19 [(4,none)] anr:=⟨Tryz.f111,by kernel_rfl,by kernel_rfl⟩
theorem Eb:Has Tryz.prog xx 17 [(6,none),(7,none)] ant:=⟨Tryz.f112,by kernel_rfl,by kernel_rfl⟩
theorem xb:Has Tryz.prog nQ 9 [(4,none)] anu:=⟨Tryz.f113,by kernel_rfl,by kernel_rfl⟩
theorem DQ:Has Tryz.prog gX 26 [(4,none)] anw:=⟨Tryz.f114,by kernel_rfl,by kernel_rfl⟩
theorem u9:Has Tryz.prog cD 9 [(4,none)] anx:=⟨Tryz.f115,by kernel_rfl,by kernel_rfl⟩
theorem Bs:Has Tryz.prog nj 65 [(10,none)] anF:=⟨Tryz.f120,by kernel_rfl,by kernel_rfl⟩
theorem FM:Has Tryz.prog oR 18 [(2,none)] anL:=⟨Tryz.f128,by kernel_rfl,by kernel_rfl⟩
theorem sB:Has Tryz.prog gn 9 [(4,none)] anM:=⟨Tryz.f129,by kernel_rfl,by kernel_rfl⟩
theorem DR:Has Tryz.prog pE 8 [(3,none)] anN:=⟨Tryz.f130,by kernel_rfl,by kernel_rfl⟩
theorem FN:Has Tryz.prog q7 38 [(8,none)] anT:=⟨Tryz.f131,by kernel_rfl,by kernel_rfl⟩
theorem zv:Has Tryz.prog wz 28 [(4,none)] an0:=⟨Tryz.f132,by kernel_rfl,by kernel_rfl⟩
theorem zw:Has Tryz.prog sn 9 [(2,none)] an2:=⟨Tryz.f133,by kernel_rfl,by kernel_rfl⟩
theorem Jx:Has Tryz.prog qU 24 [(4,none),(5,none)] an8:=⟨Tryz.f134,by kernel_rfl,by kernel_rfl⟩
theorem ql:Has Tryz.prog wA 29 [(4,none)] aoc:=⟨Tryz.f135,by kernel_rfl,by kernel_rfl⟩
theorem vz:Has Tryz.prog sq 60 [(4,none)] aon:=⟨Tryz.f136,by kernel_rfl,by kernel_rfl⟩
theorem EJ:Has Tryz.prog tf 41 [(4,none)] aou:=⟨Tryz.f137,by kernel_rfl,by kernel_rfl⟩
theorem Jy:Has Tryz.prog yv 9 [(2,none)] aov:=⟨Tryz.f141,by kernel_rfl,by kernel_rfl⟩
theorem Hk:Has Tryz.prog pV 18 [(4,none)] aow:=⟨Tryz.f142,by kernel_rfl,by kernel_rfl⟩
theorem Hl:Has Tryz.prog sr 18 [(4,none)] aox:=⟨Tryz.f143,by kernel_rfl,by kernel_rfl⟩
theorem FP:Has Tryz.prog uW 27 [(2,none)] aoD:=⟨Tryz.f144,by kernel_rfl,by kernel_rfl⟩
theorem o9:Has Tryz.prog lQ 92 [(6,none),(7,none)] aoR:=⟨Tryz.f145,by kernel_rfl,by kernel_rfl⟩
def Cs (c:UInt8):Bool:=decide ((c.toNat:Int)≥97) && decide ((c.toNat:Int)≤122)
def FQ (c:UInt8):Bool:=decide ((c.toNat:Int)≥48) && decide ((c.toNat:Int)≤57)
def isB (c:UInt8):Bool:=(c.toNat:Int)==32 ||(c.toNat:Int)==9 ||(c.toNat:Int)==10 ||(c.toNat:Int)==13
def pZ:az→Nat
 | []=>0
 |c::r=>if Cs c ||FQ c then pZ r+1 else 0
def ae8:az→Nat
 | []=>0
 |c::r=>if FQ c then ae8 r+1 else 0
def Q6:az→Nat
 | []=>0
 |c::r=>if(c.toNat:Int) != 10 then Q6 r+1 else 0
def isWord (s:az):Bool:=
 s == [103,108,111,98,97,108] ||s == [112,114,111,99] ||s == [118,97,114] ||s == [114,101,102] ||s == [105,102] ||s == [101,108,115,101] ||s == [119,104,105,108,101] ||s == [98,114,101,97,107] ||s == [99,111,110,116,105,110,117,101] ||s == [114,101,116,117,114,110] ||s == [103,111,116,111] ||s == [114,101,97,100] ||s == [112,114,105,110,116]
def ajn (s:az):Bool:=s == [61,61] ||s == [33,61] ||s == [60,61] ||s == [62,61] ||s == [38,38] ||s == [124,124]
def ZQ (c:UInt8):Bool:=
 (c.toNat:Int)==40 ||(c.toNat:Int)==41 ||(c.toNat:Int)==123 ||(c.toNat:Int)==125 ||(c.toNat:Int)==44 ||(c.toNat:Int)==59 ||(c.toNat:Int)==58 ||(c.toNat:Int)==61 ||
 (c.toNat:Int)==33 ||(c.toNat:Int)==60 ||(c.toNat:Int)==62 ||(c.toNat:Int)==43 ||(c.toNat:Int)==45 ||(c.toNat:Int)==42 ||(c.toNat:Int)==47 ||(c.toNat:Int)==37
def ZR:az→Nat
 | []=>0
 | [c]=>if ZQ c then 1 else 0
 |c::d::_=>if ajn [c,d]then 2 else if ZQ c then 1 else 0
def bu:Int→az→Option Int
 |n,[]=>some n
 |n,c::r=>if n > (9223372036854775807 - ((c.toNat:Int) - 48)) / 10 then none else bu (n*10+((c.toNat:Int) - 48)) r
def aqq (pos:Nat):az→qR ⊕ Int
 | []=> .inr 2
 | c::r=>
  if Cs c then
   let s:=(c::r).take (pZ (c::r))
   if s.length > 8 then .inr 4 else .inl ⟨if isWord s then 3 else 1,s,0,pos⟩
  else if FQ c then
   let s:=(c::r).take (ae8 (c::r))
   if s.length > 1∧(c.toNat:Int)=48 then .inr 2 else
   match bu 0 s with
   |some n=> .inl ⟨2,s,n,pos⟩
   |none=> .inr 4
  else
   if ZR (c::r)=0 then .inr 2 else .inl ⟨4,(c::r).take (ZR (c::r)),0,pos⟩
def Q7:Nat→Nat→az→List qR→List qR×Int×Int
 | 0,_,_,_=>([],0,0)
 |_+1,pos,[],out=>(out++ [⟨0,[],0,pos⟩],0,0)
 | n+1,pos,c::r,out=>
  if isB c then Q7 n (pos+1) r out
  else if(c.toNat:Int)==35 then Q7 n (pos+Q6 (c::r)) ((c::r).drop (Q6 (c::r))) out
  else match aqq pos (c::r)with
   | .inr e=>([],e,pos)
   | .inl t=>if out.length=2000 then([],4,pos)else Q7 n (pos+t.text.length) ((c::r).drop t.text.length) (out++ [t])
def zz (text:az):List qR×Int×Int:=if text.length > 100000 then([],4,0)else Q7 (text.length+1) 0 text []
def Dn:az→Bool
 | []=>true
 |c::r=>if !(Cs c) && !(FQ c)then false else Dn r
def isName:az→Bool
 | []=>false
 |c::r=>if decide (((r.length+1:Nat):Int) > 8) || !(Cs c)then false else if Dn r then !(isWord (c::r))else false
def mV (op:Int):Int:=if op==1 ||op==2 then 0 else if op==3 ||op==4 then 1 else if decide (op≥5) && decide (op≤17)then 2 else -1
mutual
def Ex.form:Ex→Bool
 |⟨op,n,name,kids⟩=>
  if mV op != (kids.length:Int) ||(op != 1 && n != 0) ||decide (n<0) || !((op==2) == !(name == [])) ||(!(name == []) && !(isName name))then false else Ex.qm kids
def Ex.qm:List Ex→Bool
 | []=>true
 |x::l=>if !(Ex.form x)then false else Ex.qm l
end
mutual
def Ex.texts:Ex→Prop
 |⟨_,_,name,kids⟩=>name.length<4611686018427387904∧Ex.wH kids
def Ex.wH:List Ex→Prop
 | []=>True
 |x::l=>x.texts∧Ex.wH l
end
theorem Ex.FR {x:Ex} : ∀ {l:List Ex},Ex.wH l→x∈l→x.texts
 |y::l,h,m=>by
  rcases List.mem_cons.1 m with rfl|m
  ·exact h.1
  ·exact Ex.FR h.2 m
theorem Ex.TK {op n:Int} {name:az} {kids:List Ex} (h:Ex.texts ⟨op,n,name,kids⟩) {y:Ex} (m:y∈kids):y.texts:=Ex.FR h.2 m
def Ex.may (x:Ex):Bool:=decide (((min x.depth 21:Nat):Int)≤20) && x.form
def Ex.none (x:Ex):Bool:=x.op==0 && x.n==0 && x.name == [] && (x.kids.length:Int)==0
def e7:List az→Bool
 | []=>true
 |s::l=>if !(isName s)then false else e7 l
def Ar.may (a:Ar):Bool:=if a.ref then isName a.name && a.x.none else a.name == [] && a.x.may
def Ar.fx:List Ar→Bool
 | []=>true
 |a::l=>if !(a.may)then false else Ar.fx l
def Sm.Lf (s:Sm):Bool:=s.kind==1 ||s.kind==3 ||s.kind==5 ||s.kind==6 ||(s.kind==9 && s.has)
def Sm.hasName (s:Sm):Bool:=s.kind==1 ||s.kind==2 ||s.kind==10
def Sm.wI (s:Sm):Bool:=s.kind==4
def Sm.one (s:Sm):Bool:=
 if decide (s.kind<1) ||decide (s.kind > 10) || !(e7 s.labels) ||(s.Lf && !(s.x.may)) ||(!(s.Lf) && !(s.x.none)) ||(s.has && s.kind != 9)then false
 else if(s.hasName && !(isName s.name)) ||(!(s.hasName) && !(s.name == []) && !(s.wI && isName s.name))then false
 else if !(s.wI == !(s.proc == [])) ||(s.wI && !(isName s.proc)) ||(!(s.wI) && decide ((s.args.length:Int) > 0))then false
 else if !(Ar.fx s.args)then false
 else((s.bb.length:Int)==0 ||s.kind==5 ||s.kind==6) && ((s.aP.length:Int)==0 ||s.kind==5)
structure It where
 s:Sm
 deep:Int
 cu:Int
 aP:Bool
mutual
def iu (deep cu:Int) (aP:Bool) (out:List It):Sm→List It
 |⟨id,kind,labels,name,proc,x,has,args,bb,e⟩=>
  if decide (deep≤12)then dN (deep+1) id true (dN (deep+1) id false (out++ [⟨⟨id,kind,labels,name,proc,x,has,args,bb,e⟩,deep,cu,aP⟩]) bb) e
  else out++ [⟨⟨id,kind,labels,name,proc,x,has,args,bb,e⟩,deep,cu,aP⟩]
def dN (deep cu:Int) (aP:Bool) (out:List It):List Sm→List It
 | []=>out
 |s::l=>if decide ((out.length:Int)≤200)then dN deep cu aP (iu deep cu aP out s) l else out
end
def Pc.flat (f:Pc):List It:=dN 1 0 false [] f.body
def allM (out:List It):List Pc→List It
 | []=>out
 |f::l=>if decide (((out++f.flat).length:Int) > 200)then out++f.flat else allM (out++f.flat) l
def Pg.all (p:Pg):List It:=allM [] p.procs
def Pm.fx:List Pm→Bool
 | []=>true
 |a::l=>if !(isName a.name)then false else Pm.fx l
def Pc.mC:List Pc→Bool
 | []=>true
 |f::l=>
  if !(isName f.name) ||decide ((f.params.length:Int) > 8) ||decide ((f.vars.length:Int) > 16) || !(e7 f.vars) || !(e7 f.fin)then false
  else if !(Pm.fx f.params)then false else Pc.mC l
def It.fx (n:Nat):List It→Bool
 | []=>true
 |i::l=>if i.s.id != ((n+1:Nat):Int) ||decide (i.deep > 12) || !(i.s.one)then false else It.fx (n+1) l
def Pg.may (p:Pg):Bool:=
 if decide ((p.globals.length:Int) > 16) ||decide ((p.procs.length:Int) > 16) || !(e7 p.globals)then false
 else if !(Pc.mC p.procs)then false
 else if decide ((p.all.length:Int) > 200)then false else It.fx 0 p.all
open Go.Proofs
@[go_sem] def ayz (r:Rd):List D:= [.slice .shared 4 (r.l.map kr), .int .i64 r.i, .int .i64 r.code, .int .i64 r.K1, .int .i64 r.n]
set_option maxRecDepth 8000
open Go.Proofs
theorem tr (c:UInt8) (s:St):aF Tryz.prog sm [.int .u8 (c.toNat:Int)] s (.bool (Cs c)) s:=by
 refine aF.pure ?_ rfl rfl s
 generalize h:Cs c=b
 unfold Cs at h
 unfold S0
 refine aF.go Hj rfl fun B Q hB hQ=>?_
 have⟨hD,hY,hZ,gA⟩:=bN
 repeat' (first
 |simp only[go_sem,hD,hY,hZ,gA]
 |(with_reducible first|refine bk fun hc=>?_|refine bl fun hc=>?_|refine bm (fun hc=>?_) fun hc=>?_)<;>(try simp only[hc,bs,↓reduceIte]at h)<;>try simp only[hc]
 |(with_reducible refine aE hQ ?_;exact fD))
theorem Hn (c:UInt8) (s:St):aF Tryz.prog yv [.int .u8 (c.toNat:Int)] s (.bool (FQ c)) s:=by
 refine aF.pure ?_ rfl rfl s
 generalize h:FQ c=b
 unfold FQ at h
 unfold S0
 refine aF.go Jy rfl fun B Q hB hQ=>?_
 have⟨hD,hY,hZ,gA⟩:=bN
 repeat' (first
 |simp only[go_sem,hD,hY,hZ,gA]
 |(with_reducible first|refine bk fun hc=>?_|refine bl fun hc=>?_|refine bm (fun hc=>?_) fun hc=>?_)<;>(try simp only[hc,bs,↓reduceIte]at h)<;>try simp only[hc]
 |(with_reducible refine aE hQ ?_;exact fD))
theorem ae9 (t:az) (s:St):aF Tryz.prog Aj [.str t] s (.bool (isWord t)) s:=by
 refine aF.pure ?_ rfl rfl s
 generalize h:isWord t=b
 unfold isWord at h
 unfold S0
 refine aF.go Ld rfl fun B Q hB hQ=>?_
 have⟨hD,hY,hZ,gA⟩:=bN
 repeat' (first
 |simp only[go_sem,hD,hY,hZ,gA]
 |(with_reducible first|refine bk fun hc=>?_|refine bl fun hc=>?_|refine bm (fun hc=>?_) fun hc=>?_)<;>(try simp only[hc,bs,↓reduceIte]at h)<;>try simp only[hc]
 |(with_reducible refine aE hQ ?_;exact fD))
theorem ajo {text:az} {pos:Nat} (hl:text.length<4611686018427387904) (s:St):aF Tryz.prog Cj [.str text, .int .i64 (pos:Int)] s (.int .i64 ((pos+pZ (text.drop pos):Nat):Int)) s:=by
 refine aF.pure ?_ rfl rfl s
 unfold S0
 refine aF.go M8 rfl fun B Q hB hQ=>?_
 have⟨hD,hY,hZ,gA⟩:=bN
 repeat' (first
 |simp only[go_sem,hD,hY,hZ,gA]
 |(with_reducible refine aE hQ ?_;exact bo))
 refine fc 0 0 (br.ind (ι:=az×Nat) (fun i=>text.drop i.2=i.1∧i.2+pZ i.1=pos+pZ (text.drop pos)) (fun i=>i.1.length)
  (fun i=> [(0, .str text),(1, .int .i64 (i.2:Int))]) (fun i=>⟨[],[]⟩) ?_ (text.drop pos,pos) ⟨rfl,rfl⟩)
 rintro⟨rest,k⟩ ⟨h1,h2⟩ IH
 dsimp only at h1 h2
 cases rest with
 |nil=>
  have hD:=drop_nil h1
  simp only[pZ,Nat.add_zero]at h2
  rw[← h2]at hQ
  repeat' (first
 |simp only[go_sem,hD,hY,hZ,gA]
 |(with_reducible refine aE hQ ?_;exact bo))
 | cons c rest=>
  obtain⟨hY,g2,hD,g4⟩:=drop_cons h1
  have hZ:k<4611686018427387904:=by omega
  cases hb:(Cs c ||FQ c)
  ·simp only [pZ,hb,Bool.false_eq_true, ↓reduceIte,Nat.add_zero]at h2
   rw[← h2]at hQ
   simp only[Bool.or_eq_false_iff]at hb
   repeat' (first
 |simp only[go_sem,hD,hY,hZ,gA,hb.1,hb.2]
 |(with_reducible refine CU (tr _ _) ?_)
 |(with_reducible refine CU (Hn _ _) ?_)
 | (with_reducible refine aE hQ ?_;exact bo))
  ·simp only [pZ,hb, ↓reduceIte]at h2
   cases Ko:Cs c
   ·rw [Ko,Bool.false_or]at hb
    repeat' (first
 |simp only[go_sem,hD,hY,hZ,gA,hb,Ko]
 |(with_reducible refine CU (tr _ _) ?_)
 |(with_reducible refine CU (Hn _ _) ?_)
 | (with_reducible refine aE hQ ?_;exact bo))
    refine fc 0 0 (IH (rest,k+1) ⟨g2,by dsimp only;omega⟩ (Nat.lt_succ_self _))
   ·repeat' (first
 |simp only[go_sem,hD,hY,hZ,gA,Ko]
 |(with_reducible refine CU (tr _ _) ?_)
 |(with_reducible refine CU (Hn _ _) ?_)
 | (with_reducible refine aE hQ ?_;exact bo))
    refine fc 0 0 (IH (rest,k+1) ⟨g2,by dsimp only;omega⟩ (Nat.lt_succ_self _))
def aw2 (s:az):Int×Bool:=match bu 0 s with|some n=>(n,true)|none=>(0,false)
open Go.Proofs
def aqr (f:Int×Int):List D:= [.int .i64 f.1, .int .i64 f.2]
def ajp (text:az) (out:List qR) (pos:Nat):Tm:= [(0, .str text),(3, .ptr 0 0),(4, .slice (.tok 0) 4 (out.map kr)),(5, .ptr 1 0),(6, .int .i64 (pos:Int))]
def ajq (out:List qR):St:=⟨[[.int .i64 0, .int .i64 0],[.junk, .junk, .junk, .junk]],[some out.length]⟩
attribute [go_sem] ajp ajq aqr
end Go.Abs
namespace Go.Abs
set_option maxRecDepth 8000
open Go.Proofs
def arl (s:az):Bool:=
 [103,108,111,98,97,108] == s || [112,114,111,99] == s || [118,97,114] == s || [114,101,102] == s || [105,102] == s || [101,108,115,101] == s || [119,104,105,108,101] == s || [98,114,101,97,107] == s || [99,111,110,116,105,110,117,101] == s || [114,101,116,117,114,110] == s || [103,111,116,111] == s || [114,101,97,100] == s || [112,114,105,110,116] == s
def OpR (p:Int×Int):Prop:=0≤p.2∧p.2≤6
@[go_sem] def ayA (z:D) (r:Rd):List D:= [.slice .shared 4 (r.l.map kr), .int .i64 r.i, .int .i64 r.code, .int .i64 r.K1,z]
class Cell (z:D):Prop where
 ok:D.ok 0 0 z=true
 fg : ∀ n m,D.fg n m z=z
instance (n:Int):Cell (.int .i64 n):=⟨rfl,fun _ _=>rfl⟩
instance:Cell .junk:=⟨rfl,fun _ _=>rfl⟩
theorem abH (z:D) [h:Cell z] (n m:Nat):D.fg n m z=z:=h.fg n m
attribute [go_sem] abH
def Rd.isO (text:az) (r:Rd):Option Bool:=if r.good then r.is text else some false
end Go.Abs
namespace Go.Abs
open Go.Proofs
def afa (s:az):Int×Int:=
 if [42] == s then(6,5)else if [47] == s then(6,6)else if [37] == s then(6,7)else if [43] == s then(5,8)else if [45] == s then(5,9)
 else if [60] == s then(4,10)else if [60,61] == s then(4,11)else if [62] == s then(4,12)else if [62,61] == s then(4,13)
 else if [61,61] == s then(3,14)else if [33,61] == s then(3,15)else if [38,38] == s then(2,16)else if [124,124] == s then(1,17)else(0,0)
def BZ (p:Int×Int):Prop:=(p.2==0)=(p.1==0)
set_option maxRecDepth 8000
open Go.Proofs
structure Sm.va (s:Sm):Prop where
 Ig : ∀ t∈s.labels,t.length<4611686018427387904
 aqs:s.labels.length<4611686018427387904
 name:s.name.length<4611686018427387904
 proc:s.proc.length<4611686018427387904
 x:s.x.size<4611686018427387904
 xt:s.x.texts
 aqt:s.args.length<4611686018427387904
 arg : ∀ a∈s.args,a.x.size<4611686018427387904∧a.x.texts∧a.name.length<4611686018427387904
section
variable {v:Sm} {B:gi} {Q:Exit→Tm→St→Prop} {p:Bool}
end
theorem aF.goS {P:Program} {f:FuncId} {nt:Nat} {res:List (Nat×Option (Bool×Nat))} {body:AC} {args:List D} {s:St} {d:D} {s':St} (h0:Has P f nt res body) (hl:Nat.ble args.length nt=true)
 (h : ∀ (B:gi) (Q:Exit→Tm→St→Prop),B.s=s→qE s.ah.length s.ay.length res d s'=Q→Sem P B nt body Q (nA 0 args) s):aF P f args s d s':=by
 obtain⟨fn,hf,hc⟩:=h0
 exact aF.intro ⟨fn,hf,hc⟩ (Nat.le_of_ble_eq_true hl) fun B hB=>h B _ hB rfl
end Go.Abs
namespace Go.Abs
set_option maxRecDepth 8000
open Go.Proofs
def dF (i:Im):List D:= [.int .i64 i.s.id, .int .i64 i.s.kind, .slice .shared 1 (i.s.labels.map encStr), .str i.s.name, .str i.s.proc,
 .int .i64 i.s.x.op, .int .i64 i.s.x.n, .str i.s.x.name, .slice .shared 4 (i.s.x.kids.map bS), .bool i.s.has, .slice .shared 6 (i.s.args.map eC), .slice .shared 13 (i.s.bb.map bj), .slice .shared 13 (i.s.aP.map bj), .int .i64 i.proc, .int .i64 i.up, .int .i64 i.next, .int .i64 i.loop]
def cz (n:Int):List D:= [.int .i64 n]
theorem Q8 (i:Im):D.bJ 0 0 (dF i)=true:=by simp[dF,D.bJ,D.ok,Tag.ok,ff,Y5,JL,oy]
theorem JN (l:List Im):D.gL 0 0 (l.map dF)=true:=ig Q8 l
theorem ZS (n m:Nat) (l:List Im):D.kZ n m (l.map dF)=l.map dF:=mI Q8 n m l
theorem ajr (n m:Nat) (i:Im):D.gH n m (dF i)=dF i:=iC n m _ (Q8 i)
theorem ajs (x:Im):(dF x).length=17:=nd rfl
theorem abI (x:Im):List.take 17 (dF x)=dF x:=nd rfl
theorem afb (x:Im):List.drop 17 (dF x) = []:=nd rfl
theorem afc (x:Im):List.take 13 (dF x)=bj x.s:=by simp only[dF,eK];rfl
theorem W8 (x:Im):(dF x)[0]? = some (.int .i64 x.s.id):=nd rfl
theorem W9 (x:Im):(dF x)[1]? = some (.int .i64 x.s.kind):=nd rfl
theorem Xa (x:Im):(dF x)[4]? = some (.str x.s.proc):=nd rfl
theorem TL (x:Im):(dF x)[13]? = some (.int .i64 x.proc):=nd rfl
theorem TN (x:Im):(dF x)[14]? = some (.int .i64 x.up):=nd rfl
theorem TO (x:Im):(dF x)[15]? = some (.int .i64 x.next):=nd rfl
theorem TP (x:Im):(dF x)[16]? = some (.int .i64 x.loop):=nd rfl
theorem Q9 (s:Sm) (a b c d:Int):dF ⟨s,a,b,c,d⟩ = [.int .i64 s.id, .int .i64 s.kind, .slice .shared 1 (s.labels.map encStr), .str s.name, .str s.proc,
 .int .i64 s.x.op, .int .i64 s.x.n, .str s.x.name, .slice .shared 4 (s.x.kids.map bS), .bool s.has, .slice .shared 6 (s.args.map eC), .slice .shared 13 (s.bb.map bj), .slice .shared 13 (s.aP.map bj), .int .i64 a, .int .i64 b, .int .i64 c, .int .i64 d]:=nd rfl
theorem ZT (n:Int):D.bJ 0 0 (cz n)=true:=rfl
theorem je (l:List Int):D.gL 0 0 (l.map cz)=true:=ig ZT l
theorem TQ (n m:Nat) (l:List Int):D.kZ n m (l.map cz)=l.map cz:=mI ZT n m l
attribute [go_sem] ZS ajr ajs abI afb afc W8 W9 Xa TL TN TO TP TQ cz
theorem afd : ∀ n,n<1000000000→∀ v:Sm,v.size≤n→aF Tryz.prog ni [.agg (bj v)] S0 (.int .i64 (v.jQ:Int)) S0:=by
 intro n
 induction n with
 |zero=>intro _ v h;obtain⟨_,_,_,_,_,_,_,_,_,_⟩:=v;simp only[Sm.size]at h;omega
 |succ n ih=>
 intro hn v hv
 have dP:Sm.a7 v.bb≤n∧Sm.a7 v.aP≤n∧v.jQ=1+Sm.jr v.bb+Sm.jr v.aP:=by
  obtain⟨_,_,_,_,_,_,_,_,_,_⟩:=v
  simp only[Sm.size]at hv;exact⟨by dsimp only;omega,by dsimp only;omega,rfl⟩
 obtain⟨h1,h2,h3⟩:=dP
 have c1:=oh v.bb
 have c2:=oh v.aP
 have l1:=Sm.dS v.bb
 have l2:=Sm.dS v.aP
 have hk : ∀ y,y∈v.bb∨y∈v.aP→∀ s,aF Tryz.prog ni [.agg (bj y)] s (.int .i64 (y.jQ:Int)) s:=fun y hy s=>
  (ih (by omega) y (by rcases hy with hy|hy<;>(have:=Sm.df hy;omega))).pure (by simp only[D.bJ,D.ok,sf];rfl) rfl s
 rw[h3]
 unfold S0
 refine aF.go Jv rfl fun B Q hB hQ=>?_
 have⟨hD,hY,hZ,gA⟩:=bN
 repeat' (first
 |simp only[go_sem,hD,hY,hZ,gA]
 |(with_reducible refine aE hQ ?_;exact bo))
 refine fc 1 0 (br.ind (ι:=List Sm×Nat×Nat) (fun i=>v.bb.drop i.2.1=i.1∧i.2.2+Sm.jr i.1=1+Sm.jr v.bb) (fun i=>i.1.length)
  (fun i=> [(1, .ptr 0 0),(3, .int .i64 (i.2.2:Int)),(9, .slice .shared 13 (v.bb.map bj)),(10, .int .i64 (v.bb.length:Int)),(11, .int .i64 (i.2.1:Int))]) (fun i=>⟨[bj v],[]⟩) ?_ (v.bb,0,1) ⟨rfl,rfl⟩)
 rintro⟨rest,k,c⟩ ⟨g1,g2⟩ IH
 dsimp only at g1 g2
 cases rest with
 |cons y rest=>
  obtain⟨hY,g3,hD,g4⟩:=drop_cons g1
  have hy:=hk y (.inl (List.mem_of_getElem? hY))
  simp only[Sm.jr]at g2
  have hcy:=ED y
  have HX:=Sm.df (List.mem_of_getElem? hY)
  have w1:IntKind.wrap .i64 ((k:Int)+1)=((k+1:Nat):Int):=by rw[ek]<;>omega
  have w2:IntKind.wrap .i64 ((c:Int)+(y.jQ:Int))=((c+y.jQ:Nat):Int):=by rw[ek]<;>omega
  repeat' (first
 |simp only[go_sem,hD,hY,hZ,gA,w1,w2]
 |(with_reducible refine CU (hy _) ?_)
 |(with_reducible refine aE hQ ?_;exact bo))
  refine fc 1 0 (IH (rest,k+1,c+y.jQ) ⟨g3,by dsimp only;omega⟩ (Nat.lt_succ_self _))
 |nil=>
  have hD:=drop_nil g1
  simp only[Sm.jr,Nat.add_zero]at g2
  subst g2
  repeat' (first
 |simp only[go_sem,hD,hY,hZ,gA]
 | (with_reducible refine aE hQ ?_;exact bo))
  refine fc 1 0 (br.ind (ι:=List Sm×Nat×Nat) (fun i=>v.aP.drop i.2.1=i.1∧i.2.2+Sm.jr i.1=1+Sm.jr v.bb+Sm.jr v.aP) (fun i=>i.1.length)
   (fun i=> [(1, .ptr 0 0),(3, .int .i64 (i.2.2:Int)),(21, .slice .shared 13 (v.aP.map bj)),(22, .int .i64 (v.aP.length:Int)),(23, .int .i64 (i.2.1:Int))]) (fun i=>⟨[bj v],[]⟩) ?_ (v.aP,0,1+Sm.jr v.bb) ⟨rfl,rfl⟩)
  rintro⟨rest,k,c⟩ ⟨g1,g2⟩ IH
  dsimp only at g1 g2
  cases rest with
  |cons y rest=>
   obtain⟨hY,g3,hD,g4⟩:=drop_cons g1
   have hy:=hk y (.inr (List.mem_of_getElem? hY))
   simp only[Sm.jr]at g2
   have hcy:=ED y
   have HX:=Sm.df (List.mem_of_getElem? hY)
   have w1:IntKind.wrap .i64 ((k:Int)+1)=((k+1:Nat):Int):=by rw[ek]<;>omega
   have w2:IntKind.wrap .i64 ((c:Int)+(y.jQ:Int))=((c+y.jQ:Nat):Int):=by rw[ek]<;>omega
   repeat' (first
 |simp only[go_sem,hD,hY,hZ,gA,w1,w2]
 |(with_reducible refine CU (hy _) ?_)
 | (with_reducible refine aE hQ ?_;exact bo))
   refine fc 1 0 (IH (rest,k+1,c+y.jQ) ⟨g3,by dsimp only;omega⟩ (Nat.lt_succ_self _))
  |nil=>
   have hD:=drop_nil g1
   simp only[Sm.jr,Nat.add_zero]at g2
   subst g2
   repeat' (first
 |simp only[go_sem,hD,hY,hZ,gA]
 |(with_reducible refine aE hQ ?_;exact bo))
theorem afe {v:Sm} (h:v.size<1000000000) (s:St):aF Tryz.prog ni [.agg (bj v)] s (.int .i64 (v.jQ:Int)) s:=
 (afd v.size h v (Nat.le_refl _)).pure (by simp only[D.bJ,D.ok,sf];rfl) rfl s
end Go.Abs
namespace Go.Abs
set_option maxRecDepth 8000
open Go.Proofs
abbrev jj (g ps:D) (L:List Im) (lo hi:List Int):List D:= [g,ps, .slice (.tok 0) 17 (L.map dF), .slice (.tok 1) 1 (lo.map cz), .slice (.tok 2) 1 (hi.map cz)]
abbrev Xb (proc up next loop:Int):List D:= [.int .i64 0, .int .i64 0, .slice .full 0 [], .str [], .str [], .int .i64 0, .int .i64 0, .str [], .slice .full 0 [], .bool false, .slice .full 0 [], .slice .full 0 [], .slice .full 0 [], .int .i64 proc, .int .i64 up, .int .i64 next, .int .i64 loop]
theorem aF.ajt {P:Program} {f:Nat} {args:List D} {g ps:D} {L L':List Im} {lo hi H3 iA:List Int} {a b c a' b' c':Option Nat}
 (h:aF P f (.ptr 0 0::args) ⟨[jj g ps L lo hi],[a,b,c]⟩ (.tuple []) ⟨[jj g ps L' H3 iA],[a',b',c']⟩)
 (ha:D.bJ 0 0 args=true) (hg:D.ok 0 0 g=true) (hp:D.ok 0 0 ps=true)
 {s:St} {o:Nat} (ho:s.ah[o]? = some (jj g ps L lo hi)) (ht:s.ay = [a,b,c]):aF P f (.ptr o 0::args) s (.tuple []) ⟨s.ah.set o (jj g ps L' H3 iA),[a',b',c']⟩:=by
 have hr : ∀ (L:List Im) (lo hi:List Int),D.fk [o] [0,1,2] (jj g ps L lo hi)=jj g ps L lo hi:=fun L lo hi=>by
  simp[D.fk,D.dh,Tag.dh,rm _ _ _ hg,rm _ _ _ hp,jB _ _ _ (JN L),jB _ _ _ (je lo),jB _ _ _ (je hi)]
 have hk : ∀ (L:List Im) (lo hi:List Int),D.bJ 1 3 (jj g ps L lo hi)=true:=fun L lo hi=>by
  simp[D.bJ,D.ok,Tag.ok,G0 (Nat.zero_le 1) (Nat.zero_le 3) _ hg,G0 (Nat.zero_le 1) (Nat.zero_le 3) _ hp,ng (Nat.zero_le 1) (Nat.zero_le 3) _ (JN L),ng (Nat.zero_le 1) (Nat.zero_le 3) _ (je lo),ng (Nat.zero_le 1) (Nat.zero_le 3) _ (je hi)]
 refine bP.frame [o] [0,1,2] h (by simp) (by decide) (by simpa using (List.getElem?_eq_some_iff.1 ho).1) (by rw[ht];simp) rfl (fun i o' ds e1 e2=>?_) rfl (fun i t' e1=>?_)
  (by simp[D.fk,D.dh,fM _ _ _ ha])
  (by simp[D.bJ,D.ok,iQ (Nat.zero_le 1) (Nat.zero_le 3) _ ha]) ?_
 ·cases i with
  |zero=>simp only[List.getElem?_cons_zero,Option.some.injEq]at e1 e2;subst e1;subst e2;exact⟨by rw[hr];exact ho,hk L lo hi⟩
  |succ i=>simp at e1
 ·rw [ht]
  match i,e1 with
  | 0,e1=>simp at e1;subst e1;rfl
  | 1,e1=>simp at e1;subst e1;rfl
  | 2,e1=>simp at e1;subst e1;rfl
  |i+3,e1=>simp at e1
 ·rintro _ _ ⟨rfl,rfl⟩
  refine⟨by simp[D.back,D.dh,D.fk], ?_⟩
  have:=hr L' H3 iA
  simp[St.back,lg,k8,this,ht]
abbrev ZU (N:Nat):Prop:=∀ (l:List Sm) (proc up next loop:Int) (out:List Im) (g ps:D) (lo hi:List Int) (b c:Option Nat),Sm.a7 l<N→out.length+Sm.jr l<1000000000→D.ok 0 0 g=true→D.ok 0 0 ps=true→
 ∀ {s:St} {o:Nat},s.ah[o]? = some (jj g ps out lo hi)→s.ay = [some out.length,b,c]→
 aF Tryz.prog kC [.ptr o 0, .slice .shared 13 (l.map bj), .agg (Xb proc up next loop)] s (.tuple []) ⟨s.ah.set o (jj g ps (Im.rows proc up next loop out l) lo hi),[some (Im.rows proc up next loop out l).length,b,c]⟩
theorem aju {N:Nat} (ih:ZU N) {l:List Sm} {proc up next loop:Int} {out:List Im} {g ps:D} {lo hi:List Int} {b c:Option Nat} (hs:Sm.a7 l<N+1) (hc:out.length+Sm.jr l<1000000000) (hg:D.ok 0 0 g=true) (hp:D.ok 0 0 ps=true) (hN:N<1000000000) :
 aF Tryz.prog kC [.ptr 0 0, .slice .shared 13 (l.map bj), .agg (Xb proc up next loop)] ⟨[jj g ps out lo hi],[some out.length,b,c]⟩ (.tuple []) ⟨[jj g ps (Im.rows proc up next loop out l) lo hi],[some (Im.rows proc up next loop out l).length,b,c]⟩:=by
 obtain⟨R,hR⟩ : ∃ R,R=Im.rows proc up next loop out l:=⟨_,rfl⟩
 have hlR:R.length=out.length+Sm.jr l:=by rw[hR,gP]
 rw[← hR]
 have k1 : ∀ n m,D.fg n m g=g:=fun n m=>QP n m _ hg
 have k2 : ∀ n m,D.fg n m ps=ps:=fun n m=>QP n m _ hp
 refine aF.go Cr rfl fun B Q hB hQ=>?_
 have⟨hD,hY,hZ,gA⟩:=bN
 repeat' (first
 |simp only[go_sem,hD,hY,hZ,gA,k1,k2]
 |(with_reducible first|refine bk fun hc=>?_|refine bl fun hc=>?_|refine bm (fun hc=>?_) fun hc=>?_)<;>(try simp only[hc,bs,↓reduceIte]at h)<;>try simp only[hc]
 |(with_reducible refine aE hQ ?_;simp only[aT,aV,bE,bF,go_sem,hD,hY,hZ,gA,k1,k2];try exact cf))
 refine fe 2 3 ?_ ?_ (br.ind (ι:=List Sm×Nat×List Im) (fun i=>l.drop i.2.1=i.1∧Im.rows proc up next loop i.2.2 i.1=R∧i.2.2.length+Sm.jr i.1=out.length+Sm.jr l) (fun i=>i.1.length)
  (fun i=> [(0, .ptr 0 0),(1, .slice .shared 13 (l.map bj)),(5, .ptr 1 0),(11, .slice .shared 13 (l.map bj)),(12, .int .i64 (l.length:Int)),(13, .int .i64 (i.2.1:Int))]) (fun i=>⟨[jj g ps i.2.2 lo hi,Xb proc up next loop],[some i.2.2.length,b,c]⟩) ?_ (l,0,out) ⟨rfl,hR.symm,rfl⟩)
 ·(simp only[go_sem,hD,hY,hZ,gA,k1,k2];try exact cq)
 ·(simp only[go_sem,hD,hY,hZ,gA,k1,k2];try exact cq)
 rintro⟨rest,k,cW⟩ ⟨h1,h2,h3⟩ IH
 dsimp only at h1 h2 h3
 have hlen:l.length<1000000000:=by have:=Sm.dS l;omega
 cases rest with
 |nil=>
  have hD:=drop_nil h1
  simp only[Im.rows]at h2
  subst h2
  repeat' (first
 |simp only[go_sem,hD,hY,hZ,gA,k1,k2]
 |(with_reducible first|refine bk fun hc=>?_|refine bl fun hc=>?_|refine bm (fun hc=>?_) fun hc=>?_)<;>(try simp only[hc,bs,↓reduceIte]at h)<;>try simp only[hc]
 |(with_reducible refine aE hQ ?_;simp only[aT,aV,bE,bF,go_sem,hD,hY,hZ,gA,k1,k2];try exact cf))
 | cons v rest=>
  obtain⟨hY,g2,hD,g4⟩:=drop_cons h1
  have bW:k<4611686018427387904:=by omega
  have hv:=Sm.df (List.mem_of_getElem? hY)
  have pQ:Sm.a7 v.bb<N∧Sm.a7 v.aP<N∧v.jQ=1+Sm.jr v.bb+Sm.jr v.aP:=by
   obtain⟨_,_,_,_,_,_,_,_,_,_⟩:=v
   simp only[Sm.size]at hv
   exact⟨by dsimp only;omega,by dsimp only;omega,rfl⟩
  obtain⟨yZ,Km,hv3⟩:=pQ
  simp only[Sm.jr]at h3
  simp only[Im.rows,Im.aeA]at h2
  have hZ:(cW.length+1)*241≤bx:=by unfold bx;omega
  have NM:IntKind.wrap .i64 ((cW.length:Int)+1)=(cW.length:Int)+1:=ek (by omega) (by omega)
  have uv:IntKind.wrap .i64 ((k:Int)+1)=((k+1:Nat):Int):=by rw[ek]<;>omega
  have ZV:IntKind.wrap .i64 ((cW.length:Int)+1+(v.jQ:Int))=(cW.length:Int)+1+(v.jQ:Int):=ek (by omega) (by omega)
  have dP:=fun s=>afe (v:=v) (by omega) s
  simp only[eK]at dP
  have BY:rest.length=l.length - (k+1):=by rw[← g2,List.length_drop]
  by_cases ayB:k+1<l.length
  ·have d1:decide (((k+1:Nat):Int)<(l.length:Int))=true:=by simp;omega
   have e1:(rest.length=0)=False:=by simp;intro h;rw[h]at BY;simp at BY;omega
   by_cases TR:v.kind=6
   ·have d2:(v.kind==6)=true:=by simp [TR]
    simp only[e1,d2,↓reduceIte,Bool.false_eq_true]at h2
    have f1:=fun {s:St} {o:Nat}=>@ih v.bb proc ((cW.length:Int)+1) ((cW.length:Int)+1) ((cW.length:Int)+1) (cW++ [⟨v,proc,up,((cW.length:Int)+1+(v.jQ:Int)),loop⟩]) g ps lo hi b c yZ (by simp;omega) hg hp s o
    have f2:=fun {s:St} {o:Nat}=>@ih v.aP proc ((cW.length:Int)+1) ((cW.length:Int)+1) ((cW.length:Int)+1) _ g ps lo hi b c Km (by rw[gP proc ((cW.length:Int)+1) ((cW.length:Int)+1) ((cW.length:Int)+1) (cW++ [⟨v,proc,up,((cW.length:Int)+1+(v.jQ:Int)),loop⟩]) v.bb];simp;omega) hg hp s o
    have hl:(Im.rows proc ((cW.length:Int)+1) ((cW.length:Int)+1) ((cW.length:Int)+1) (Im.rows proc ((cW.length:Int)+1) ((cW.length:Int)+1) ((cW.length:Int)+1) (cW++ [⟨v,proc,up,((cW.length:Int)+1+(v.jQ:Int)),loop⟩]) v.bb) v.aP).length=cW.length+v.jQ:=by rw[gP,gP];simp;omega
    simp only[jj,List.map_append,List.map_cons,List.map_nil,Q9,List.length_append,List.length_cons,List.length_nil]at f1
    repeat' (first
 |simp only[go_sem,hD,hY,hZ,gA,k1,k2,NM,uv,ZV,d1,d2,eK]
 |(with_reducible refine CU (dP _) ?_)
 |(with_reducible refine CU (f1 (by with_unfolding_all rfl) (by with_unfolding_all rfl)) ?_)
 |(with_reducible refine CU (f2 (by with_unfolding_all rfl) (by with_unfolding_all rfl)) ?_)
 | (with_reducible refine aE hQ ?_;exact bo))
    refine fe 2 3 ?_ ?_ (IH (rest,k+1,_) ⟨g2,h2,by dsimp only;rw[hl];omega⟩ (Nat.lt_succ_self _))
    ·(simp only[go_sem,hD,hY,hZ,gA,uv,k1,k2];try exact cq)
    ·(simp only[go_sem,hD,hY,hZ,gA,uv,k1,k2];try exact cq)
   ·have d2:(v.kind==6)=false:=by simp [TR]
    simp only[e1,d2,↓reduceIte,Bool.false_eq_true]at h2
    have f1:=fun {s:St} {o:Nat}=>@ih v.bb proc ((cW.length:Int)+1) ((cW.length:Int)+1+(v.jQ:Int)) loop (cW++ [⟨v,proc,up,((cW.length:Int)+1+(v.jQ:Int)),loop⟩]) g ps lo hi b c yZ (by simp;omega) hg hp s o
    have f2:=fun {s:St} {o:Nat}=>@ih v.aP proc ((cW.length:Int)+1) ((cW.length:Int)+1+(v.jQ:Int)) loop _ g ps lo hi b c Km (by rw[gP proc ((cW.length:Int)+1) ((cW.length:Int)+1+(v.jQ:Int)) loop (cW++ [⟨v,proc,up,((cW.length:Int)+1+(v.jQ:Int)),loop⟩]) v.bb];simp;omega) hg hp s o
    have hl:(Im.rows proc ((cW.length:Int)+1) ((cW.length:Int)+1+(v.jQ:Int)) loop (Im.rows proc ((cW.length:Int)+1) ((cW.length:Int)+1+(v.jQ:Int)) loop (cW++ [⟨v,proc,up,((cW.length:Int)+1+(v.jQ:Int)),loop⟩]) v.bb) v.aP).length=cW.length+v.jQ:=by rw[gP,gP];simp;omega
    simp only[jj,List.map_append,List.map_cons,List.map_nil,Q9,List.length_append,List.length_cons,List.length_nil]at f1
    repeat' (first
 |simp only[go_sem,hD,hY,hZ,gA,k1,k2,NM,uv,ZV,d1,d2,eK]
 |(with_reducible refine CU (dP _) ?_)
 |(with_reducible refine CU (f1 (by with_unfolding_all rfl) (by with_unfolding_all rfl)) ?_)
 |(with_reducible refine CU (f2 (by with_unfolding_all rfl) (by with_unfolding_all rfl)) ?_)
 | (with_reducible refine aE hQ ?_;exact bo))
    refine fe 2 3 ?_ ?_ (IH (rest,k+1,_) ⟨g2,h2,by dsimp only;rw[hl];omega⟩ (Nat.lt_succ_self _))
    ·(simp only[go_sem,hD,hY,hZ,gA,uv,k1,k2];try exact cq)
    ·(simp only[go_sem,hD,hY,hZ,gA,uv,k1,k2];try exact cq)
  ·have d1:decide (((k+1:Nat):Int)<(l.length:Int))=false:=by simp;omega
   have e1:(rest.length=0)=True:=by simp only[eq_iff_iff,iff_true];omega
   by_cases TR:v.kind=6
   ·have d2:(v.kind==6)=true:=by simp [TR]
    simp only[e1,d2,↓reduceIte,Bool.false_eq_true]at h2
    have f1:=fun {s:St} {o:Nat}=>@ih v.bb proc ((cW.length:Int)+1) ((cW.length:Int)+1) ((cW.length:Int)+1) (cW++ [⟨v,proc,up,next,loop⟩]) g ps lo hi b c yZ (by simp;omega) hg hp s o
    have f2:=fun {s:St} {o:Nat}=>@ih v.aP proc ((cW.length:Int)+1) ((cW.length:Int)+1) ((cW.length:Int)+1) _ g ps lo hi b c Km (by rw[gP proc ((cW.length:Int)+1) ((cW.length:Int)+1) ((cW.length:Int)+1) (cW++ [⟨v,proc,up,next,loop⟩]) v.bb];simp;omega) hg hp s o
    have hl:(Im.rows proc ((cW.length:Int)+1) ((cW.length:Int)+1) ((cW.length:Int)+1) (Im.rows proc ((cW.length:Int)+1) ((cW.length:Int)+1) ((cW.length:Int)+1) (cW++ [⟨v,proc,up,next,loop⟩]) v.bb) v.aP).length=cW.length+v.jQ:=by rw[gP,gP];simp;omega
    simp only[jj,List.map_append,List.map_cons,List.map_nil,Q9,List.length_append,List.length_cons,List.length_nil]at f1
    repeat' (first
 |simp only[go_sem,hD,hY,hZ,gA,k1,k2,NM,uv,ZV,d1,d2,eK]
 |(with_reducible refine CU (dP _) ?_)
 |(with_reducible refine CU (f1 (by with_unfolding_all rfl) (by with_unfolding_all rfl)) ?_)
 |(with_reducible refine CU (f2 (by with_unfolding_all rfl) (by with_unfolding_all rfl)) ?_)
 | (with_reducible refine aE hQ ?_;exact bo))
    refine fe 2 3 ?_ ?_ (IH (rest,k+1,_) ⟨g2,h2,by dsimp only;rw[hl];omega⟩ (Nat.lt_succ_self _))
    ·(simp only[go_sem,hD,hY,hZ,gA,uv,k1,k2];try exact cq)
    ·(simp only[go_sem,hD,hY,hZ,gA,uv,k1,k2];try exact cq)
   ·have d2:(v.kind==6)=false:=by simp [TR]
    simp only[e1,d2,↓reduceIte,Bool.false_eq_true]at h2
    have f1:=fun {s:St} {o:Nat}=>@ih v.bb proc ((cW.length:Int)+1) next loop (cW++ [⟨v,proc,up,next,loop⟩]) g ps lo hi b c yZ (by simp;omega) hg hp s o
    have f2:=fun {s:St} {o:Nat}=>@ih v.aP proc ((cW.length:Int)+1) next loop _ g ps lo hi b c Km (by rw[gP proc ((cW.length:Int)+1) next loop (cW++ [⟨v,proc,up,next,loop⟩]) v.bb];simp;omega) hg hp s o
    have hl:(Im.rows proc ((cW.length:Int)+1) next loop (Im.rows proc ((cW.length:Int)+1) next loop (cW++ [⟨v,proc,up,next,loop⟩]) v.bb) v.aP).length=cW.length+v.jQ:=by rw[gP,gP];simp;omega
    simp only[jj,List.map_append,List.map_cons,List.map_nil,Q9,List.length_append,List.length_cons,List.length_nil]at f1
    repeat' (first
 |simp only[go_sem,hD,hY,hZ,gA,k1,k2,NM,uv,ZV,d1,d2,eK]
 |(with_reducible refine CU (dP _) ?_)
 |(with_reducible refine CU (f1 (by with_unfolding_all rfl) (by with_unfolding_all rfl)) ?_)
 |(with_reducible refine CU (f2 (by with_unfolding_all rfl) (by with_unfolding_all rfl)) ?_)
 | (with_reducible refine aE hQ ?_;exact bo))
    refine fe 2 3 ?_ ?_ (IH (rest,k+1,_) ⟨g2,h2,by dsimp only;rw[hl];omega⟩ (Nat.lt_succ_self _))
    ·(simp only[go_sem,hD,hY,hZ,gA,uv,k1,k2];try exact cq)
    ·(simp only[go_sem,hD,hY,hZ,gA,uv,k1,k2];try exact cq)
theorem abJ : ∀ N,N<1000000000→ZU N:=by
 intro N
 induction N with
 |zero=>exact fun _ l proc up next loop out g ps lo hi b c h=>absurd h (Nat.not_lt_zero _)
 |succ N ih=>
  intro h l proc up next loop out g ps lo hi b c hs hc hg hp s o ho ht
  exact(aju (ih (by omega)) hs hc hg hp (by omega)).ajt (by simp[D.bJ,D.ok,Tag.ok,oy,D.gL]) hg hp ho ht
def fL (p:Pg):List D:= [.slice .shared 1 (p.globals.map encStr), .slice .shared 5 (p.procs.map cy), .slice .shared 17 (p.bg.L.map dF), .slice .shared 1 (p.bg.lo.map cz), .slice .shared 1 (p.bg.hi.map cz)]
theorem oA (p:Pg):fL p = [.slice .shared 1 (p.globals.map encStr), .slice .shared 5 (p.procs.map cy), .slice .shared 17 (p.bg.L.map dF), .slice .shared 1 (p.bg.lo.map cz), .slice .shared 1 (p.bg.hi.map cz)]:=nd rfl
theorem vb (p:Pg):D.bJ 0 0 (fL p)=true:=by simp[fL,D.bJ,D.ok,Tag.ok,ff,xr,JN,je]
theorem FT (p:Pg):cB p = [.slice .shared 1 (p.globals.map encStr), .slice .shared 5 (p.procs.map cy)]:=nd rfl
theorem ajv {p:Pg} (hs:Pc.a7 p.procs<1000000000):aF Tryz.prog lF [.agg (cB p)] S0 (.ptr 1 0) ⟨[cB p,jj (.slice .shared 1 (p.globals.map encStr)) (.slice .shared 5 (p.procs.map cy)) p.bg.L p.bg.lo p.bg.hi],[some p.bg.L.length,some p.bg.lo.length,some p.bg.hi.length]⟩:=by
 have hlen:p.procs.length<1000000000:=by have:=Pc.dS p.procs;omega
 obtain⟨R,hR⟩ : ∃ R,R=p.bg:=⟨_,rfl⟩
 have hR':=hR
 unfold Pg.bg at hR'
 unfold S0
 rw[FT, ← hR]
 refine aF.goK 2 3 (Nat.zero_le _) (Nat.zero_le _) K6 rfl fun B Q hB hQ=>?_
 have⟨hD,hY,hZ,gA⟩:=bN
 repeat' (first
 |simp only[go_sem,hD,hY,hZ,gA,FT]
 |(with_reducible refine aE hQ ?_;exact bo))
 refine br.wm 1 2 17 rfl rfl ?_
 simp only[go_sem,hD,hY,hZ,gA]
 refine br.wm 1 3 1 rfl rfl ?_
 simp only[go_sem,hD,hY,hZ,gA]
 refine br.wm 1 4 1 rfl rfl ?_
 simp only[go_sem,hD,hY,hZ,gA]
 refine fe 2 3 ?_ ?_ (br.ind (ι:=List Pc×Nat×Sh×Nat×Nat) (fun i=>p.procs.drop i.2.1=i.1∧Sh.go i.2.1 i.2.2.1 i.1=R∧i.2.2.1.L.length+Pc.a7 i.1≤Pc.a7 p.procs∧i.2.2.1.lo.length=i.2.1∧i.2.2.1.hi.length=i.2.1∧i.2.2.2.1=i.2.2.1.lo.length∧i.2.2.2.2=i.2.2.1.hi.length) (fun i=>i.1.length)
  (fun i=> [(1, .ptr 0 0),(3, .ptr 1 0),(10, .slice .shared 5 (p.procs.map cy)),(11, .int .i64 (p.procs.length:Int)),(12, .int .i64 (i.2.1:Int))]) (fun i=>⟨[[.slice .shared 1 (p.globals.map encStr), .slice .shared 5 (p.procs.map cy)],jj (.slice .shared 1 (p.globals.map encStr)) (.slice .shared 5 (p.procs.map cy)) i.2.2.1.L i.2.2.1.lo i.2.2.1.hi],[some i.2.2.1.L.length,some i.2.2.2.1,some i.2.2.2.2]⟩) ?_ (p.procs,0,⟨[],[],[]⟩,0,0) ⟨rfl,hR'.symm,by simp,rfl,rfl,rfl,rfl⟩)
 ·(simp only[go_sem,hD,hY,hZ,gA,jj];try exact cq)
 ·(simp only[go_sem,hD,hY,hZ,gA,jj];try exact cq)
 rintro⟨rest,k,h,n1,n2⟩ ⟨h1,h2,h3,h4,h5,h6,h7⟩ IH
 dsimp only at h1 h2 h3 h4 h5 h6 h7
 subst h6 h7
 cases rest with
 |nil=>
  have hD:=drop_nil h1
  simp only[Sh.go]at h2
  rw[← h2]at hQ
  repeat' (first
 |simp only[go_sem,hD,hY,hZ,gA,jj]
 |(with_reducible refine aE hQ ?_;exact bo))
 |cons f rest=>
  obtain⟨hY,g2,hD,g4⟩:=drop_cons h1
  have bW:k<4611686018427387904:=by omega
  simp only[Pc.a7,Pc.size]at h3
  simp only[Sh.go]at h2
  have c1:=oh f.body
  have hZ:(h.lo.length+1)*9≤bx:=by unfold bx;omega
  have aqv:(h.hi.length+1)*9≤bx:=by unfold bx;omega
  have NM:IntKind.wrap .i64 ((h.L.length:Int)+1)=(h.L.length:Int)+1:=ek (by omega) (by omega)
  have hl:(Im.rows (k:Int) 0 (-1) 0 h.L f.body).length=h.L.length+Sm.jr f.body:=gP ..
  have uv:IntKind.wrap .i64 (((Im.rows (k:Int) 0 (-1) 0 h.L f.body).length:Int)+1)=((Im.rows (k:Int) 0 (-1) 0 h.L f.body).length:Int)+1:=ek (by omega) (by omega)
  have hr:=fun {s:St} {o:Nat}=>@abJ (Sm.a7 f.body+1) (by omega) f.body (k:Int) 0 (-1) 0 h.L (.slice .shared 1 (p.globals.map encStr)) (.slice .shared 5 (p.procs.map cy)) (h.lo++ [(h.L.length:Int)+1]) h.hi (some (h.lo.length+1)) (some h.hi.length) (Nat.lt_succ_self _) (by omega) (by simp[D.ok,Tag.ok,ff]) (by simp[D.ok,Tag.ok,xr]) s o
  simp only[jj,List.map_append,List.map_cons,List.map_nil,cz]at hr
  repeat' (first
 |simp only[go_sem,hD,hY,hZ,gA,NM,uv,aqv,jj]
 |(with_reducible refine CU (hr (by with_unfolding_all rfl) (by with_unfolding_all rfl)) ?_)
 |(with_reducible refine aE hQ ?_;exact bo))
  refine fe 2 3 ?_ ?_ (IH (rest,k+1,⟨Im.rows (k:Int) 0 (-1) 0 h.L f.body,h.lo++ [(h.L.length:Int)+1],h.hi++ [((Im.rows (k:Int) 0 (-1) 0 h.L f.body).length:Int)+1]⟩,_,_) ⟨g2,h2,by dsimp only;rw[hl];omega,by simp[h4],by simp[h5],by simp,by simp⟩ (Nat.lt_succ_self _))
  ·(simp only[go_sem,hD,hY,hZ,gA,jj,aJ bW,List.map_append,List.map_cons,List.map_nil,cz];try exact cq)
  ·(simp only[go_sem,hD,hY,hZ,gA,jj,aJ bW,List.map_append,List.map_cons,List.map_nil,cz];try exact cq)
theorem Dp {p:Pg} (hs:Pc.a7 p.procs<1000000000) (s:St):aF Tryz.prog lF [.agg (cB p)] s (.dI (fL p) 0) s:=by
 refine aF.pure ?_ (by simp only[D.bJ,D.ok,jq];rfl) (by simp only[D.ok,vb]) s
 have h:=(ajv hs).BI (n:=0) (m:=0) rfl (Nat.le_refl _) (Nat.zero_le _) (Nat.le_refl _)
 simpa[D.gH,D.fg,Tag.fg,TC,Y6,ZS,TQ,St.cut,fL,S0]using h
def iF (x:az) (k:Int):List az→Int
 | []=> -1
 |s::l=>if x==s then k else iF x (k+1) l
def e9 (l:List az) (x:az):Bool:=decide (iF x 0 l≥0)
def kJ {α:Type} (b:α→Bool) (k:Int):List α→Int
 | []=> -1
 |s::l=>if b s then k else kJ b (k+1) l
theorem NN (x:az) : ∀ (l:List az) (k:Int),0≤k→(iF x k l≥0↔x∈l)
 | [],k,h=>by simp[iF]
 | s::l,k,h=>by
  by_cases e:x=s
  ·simp[iF,e];omega
  ·have e':(x==s)=false:=by simp [e]
   simp only[iF,e',Bool.false_eq_true,if_false,List.mem_cons,e,false_or]
   exact NN x l (k+1) (by omega)
theorem fP (l:List az) (x:az):e9 l x=true↔x∈l:=by
 simp only[e9,decide_eq_true_eq];exact NN x l 0 (Int.le_refl 0)
theorem Ho {α:Type} (b:α→Bool) : ∀ (l:List α) (k:Int),0≤k→(kJ b k l≥0↔l.any b=true)
 | [],k,h=>by simp[kJ]
 | s::l,k,h=>by
  by_cases e:b s=true
  ·simp[kJ,e];omega
  ·have e':b s=false:=by simpa using e
   simp only[kJ,e',Bool.false_eq_true,if_false,List.any_cons,Bool.or_eq_true,false_or]
   exact Ho b l (k+1) (by omega)
theorem Dq {l:List az} (hl:l.length<4611686018427387904) (x:az) (s:St):aF Tryz.prog gk [.slice .shared 1 (l.map encStr), .str x] s (.int .i64 (iF x 0 l)) s:=by
 refine aF.pure ?_ (by simp[D.bJ,D.ok,Tag.ok,ff]) rfl s
 generalize h:iF x 0 l=p
 unfold S0
 refine aF.go xa rfl fun B Q hB hQ=>?_
 have⟨hD,hY,hZ,gA⟩:=bN
 repeat' (first
 |simp only[go_sem,hD,hY,hZ,gA]
 |(with_reducible first|refine bk fun hc=>?_|refine bl fun hc=>?_|refine bm (fun hc=>?_) fun hc=>?_)<;>(try simp only[hc,bs,↓reduceIte]at h)<;>try simp only[hc]
 |(with_reducible refine aE hQ ?_;exact fD))
 refine fc 0 0 (br.ind (ι:=List az×Nat) (fun i=>l.drop i.2=i.1∧iF x (i.2:Int) i.1=p) (fun i=>i.1.length)
  (fun i=> [(0, .slice .shared 1 (l.map encStr)),(1, .str x),(7, .int .i64 (l.length:Int)),(8, .int .i64 (i.2:Int))]) (fun i=>⟨[],[]⟩) ?_ (l,0) ⟨rfl,h⟩)
 rintro⟨rest,k⟩ ⟨h1,h⟩ IH
 dsimp only at h1 h
 cases rest with
 |nil=>
  have hD:=drop_nil h1
  simp only[iF]at h
  repeat' (first
 |simp only[go_sem,hD,hY,hZ,gA]
 |(with_reducible first|refine bk fun hc=>?_|refine bl fun hc=>?_|refine bm (fun hc=>?_) fun hc=>?_)<;>(try simp only[hc,bs,↓reduceIte]at h)<;>try simp only[hc]
 |(with_reducible refine aE hQ ?_;exact fD))
 |cons a rest=>
  obtain⟨hY,g2,hD,g4⟩:=drop_cons h1
  have bW:k<4611686018427387904:=by omega
  simp only[iF]at h
  repeat' (first
 |simp only[go_sem,hD,hY,hZ,gA]
 |(with_reducible first|refine bk fun hc=>?_|refine bl fun hc=>?_|refine bm (fun hc=>?_) fun hc=>?_)<;>(try simp only[hc,bs,↓reduceIte]at h)<;>try simp only[hc]
 |(with_reducible refine aE hQ ?_;exact fD))
  refine fe 0 0 ?_ ?_ (IH (rest,k+1) ⟨g2,h⟩ (Nat.lt_succ_self _))
  ·(simp only[go_sem,hD,hY,hZ,gA,aJ bW];try exact cq)
  ·(simp only[go_sem,hD,hY,hZ,gA,aJ bW];try exact cq)
theorem sC {l:List az} (hl:l.length<4611686018427387904) (x:az) (s:St):aF Tryz.prog cD [.slice .shared 1 (l.map encStr), .str x] s (.bool (e9 l x)) s:=by
 refine aF.pure ?_ (by simp[D.bJ,D.ok,Tag.ok,ff]) rfl s
 have hi:=fun s=>Dq hl x s
 unfold S0
 refine aF.go u9 rfl fun B Q hB hQ=>?_
 have⟨hD,hY,hZ,gA⟩:=bN
 repeat' (first
 |simp only[go_sem,hD,hY,hZ,gA,e9]
 |(with_reducible refine CU (hi _) ?_)
 |(with_reducible first|refine bk fun hc=>?_|refine bl fun hc=>?_|refine bm (fun hc=>?_) fun hc=>?_)<;>(try simp only[hc,bs,↓reduceIte]at h)<;>try simp only[hc]
 |(with_reducible refine aE hQ ?_;simp only[aT,aV,bE,bF,go_sem,hD,hY,hZ,gA,e9];try exact cf))
theorem aF.ZW {P:Program} {f:Nat} {d d':D} {r:List D} {s s':St} {x:D} (h:aF P f (d'::r) s x s') (hw:Wk d d'):aF P f (d::r) s x s':=bP.sb (.cons hw (jK.refl r)) h
theorem jW {l:List az} (hl:l.length<4611686018427387904) (x:az) (g:Tag) (s:St):aF Tryz.prog cD [.slice g 1 (l.map encStr), .str x] s (.bool (e9 l x)) s:=
 (sC hl x s).ZW (Wk.shared _ _ _)
theorem Lh (x:az) (z:Nat) (g:Tag) (s:St):aF Tryz.prog cD [.slice g z [], .str x] s (.bool false) s:=
 (sC (l:= []) (by simp) x s).ZW (Wk.nil _ _ _)
theorem Ct {l:List az} (hl:l.length<4611686018427387904) {f:Nat} {row:List D} {b:az→Bool} (vA:D.bJ 0 0 row=true) (he:enters Tryz.prog f=true)
 (hb : ∀ x∈l,aF Tryz.prog f ([.str x]++ [.ptr 0 0]) ⟨[row],[]⟩ (.bool (b x)) ⟨[row],[]⟩) :
 aF Tryz.prog lG [.slice .shared 1 (l.map encStr), .gw f [.ptr 0 0]] ⟨[row],[]⟩ (.int .i64 (kJ b 0 l)) ⟨[row],[]⟩:=by
 generalize h:kJ b 0 l=p
 have k1 : ∀ n m,D.gH n m row=row:=fun n m=>iC n m _ vA
 refine aF.go uu rfl fun B Q hB hQ=>?_
 have⟨hD,hY,hZ,gA⟩:=bN
 repeat' (first
 |simp only[go_sem,hD,hY,hZ,gA,k1]
 |(with_reducible first|refine bk fun hc=>?_|refine bl fun hc=>?_|refine bm (fun hc=>?_) fun hc=>?_)<;>(try simp only[hc,bs,↓reduceIte]at h)<;>try simp only[hc]
 |(with_reducible refine aE hQ ?_;(try cases h);simp only[aT,aV,bE,bF,go_sem,hD,hY,hZ,gA,k1];try exact cf))
 refine fe 1 0 ?_ ?_ (br.ind (ι:=List az×Nat) (fun i=>l.drop i.2=i.1∧kJ b (i.2:Int) i.1=p) (fun i=>i.1.length)
  (fun i=> [(0, .slice .shared 1 (l.map encStr)),(1, .gw f [.ptr 0 0]),(7, .int .i64 (l.length:Int)),(8, .int .i64 (i.2:Int))]) (fun i=>⟨[row],[]⟩) ?_ (l,0) ⟨rfl,h⟩)
 ·(simp only[go_sem,hD,hY,hZ,gA,k1];try exact cq)
 ·(simp only[go_sem,hD,hY,hZ,gA,k1];try exact cq)
 rintro⟨rest,k⟩ ⟨h1,h⟩ IH
 dsimp only at h1 h
 cases rest with
 |nil=>
  have hD:=drop_nil h1
  simp only[kJ]at h
  repeat' (first
 |simp only[go_sem,hD,hY,hZ,gA,k1]
 |(with_reducible first|refine bk fun hc=>?_|refine bl fun hc=>?_|refine bm (fun hc=>?_) fun hc=>?_)<;>(try simp only[hc,bs,↓reduceIte]at h)<;>try simp only[hc]
 |(with_reducible refine aE hQ ?_;(try cases h);simp only[aT,aV,bE,bF,go_sem,hD,hY,hZ,gA,k1];try exact cf))
 |cons a rest=>
  obtain⟨hY,g2,hD,g4⟩:=drop_cons h1
  have bW:k<4611686018427387904:=by omega
  have hba:=hb a (List.mem_of_getElem? hY)
  simp only[kJ]at h
  repeat' (first
 |simp only[go_sem,hD,hY,hZ,gA,k1]
 |(with_reducible refine CV.use (he) (hba) ?_)
 |(with_reducible first|refine bk fun hc=>?_|refine bl fun hc=>?_|refine bm (fun hc=>?_) fun hc=>?_)<;>(try simp only[hc,bs,↓reduceIte]at h)<;>try simp only[hc]
 |(with_reducible refine aE hQ ?_;(try cases h);simp only[aT,aV,bE,bF,go_sem,hD,hY,hZ,gA,k1];try exact cf))
  refine fe 1 0 ?_ ?_ (IH (rest,k+1) ⟨g2,h⟩ (Nat.lt_succ_self _))
  ·(simp only[go_sem,hD,hY,hZ,gA,k1,aJ bW];try exact cq)
  ·(simp only[go_sem,hD,hY,hZ,gA,k1,aJ bW];try exact cq)
theorem Cu {P:Program} {g f:Nat} {row:List D} {rows:List (List D)} {z:Nat} {d:D} (h:aF P g [.slice .shared z rows, .gw f [.ptr 0 0]] ⟨[row],[]⟩ d ⟨[row],[]⟩) (vA:D.bJ 0 0 row=true) (hw:D.gL 0 0 rows=true) (hd:D.ok 0 0 d=true) {s:St} {o:Nat} (ho:s.ah[o]? = some row) :
 aF P g [.slice .shared z rows, .gw f [.ptr o 0]] s d s:=by
 refine bP.frame [o] [] h (by simp) List.nodup_nil (by simpa using (List.getElem?_eq_some_iff.1 ho).1) (by simp) rfl (fun i o' ds e1 e2=>?_) rfl (by simp) (by simp[D.fk,D.dh,Tag.dh,jB _ _ _ hw])
  (by simp[D.bJ,D.ok,Tag.ok,ng (Nat.zero_le 1) (Nat.le_refl 0) _ hw]) ?_
 ·cases i with
  |zero=>simp at e1 e2;subst e1;subst e2;exact⟨by rw[fM _ _ _ vA];exact ho,iQ (Nat.zero_le 1) (Nat.le_refl 0) _ vA⟩
  |succ i=>simp at e1
 ·rintro _ _ ⟨rfl,rfl⟩
  refine⟨rm _ _ _ hd, ?_⟩
  have:s.ah.set o row=s.ah:=by
   apply List.ext_getElem?
   intro i
   rw[List.getElem?_set]
   split
   ·rename_i e;subst e;rw [ho];split
    ·rfl
    ·rename_i hh;exact absurd (List.getElem?_eq_some_iff.1 ho).1 hh
   ·rfl
  simp[St.back,lg,fM _ _ _ vA,this]
theorem zA {l:List az} (hl:l.length<4611686018427387904) {f:Nat} {row:List D} {b:az→Bool} (vA:D.bJ 0 0 row=true) (he:enters Tryz.prog f=true)
 (hb : ∀ x∈l,aF Tryz.prog f ([.str x]++ [.ptr 0 0]) ⟨[row],[]⟩ (.bool (b x)) ⟨[row],[]⟩) :
 aF Tryz.prog gn [.slice .shared 1 (l.map encStr), .gw f [.ptr 0 0]] ⟨[row],[]⟩ (.bool (l.any b)) ⟨[row],[]⟩:=by
 have k1 : ∀ n m,D.gH n m row=row:=fun n m=>iC n m _ vA
 have hi:=Ct hl vA he hb
 have e:decide (kJ b 0 l≥0)=l.any b:=by
  have:=Ho b l 0 (Int.le_refl 0)
  cases hh:l.any b<;>simp_all
 refine aF.go sB rfl fun B Q hB hQ=>?_
 have⟨hD,hY,hZ,gA⟩:=bN
 repeat' (first
 |simp only[go_sem,hD,hY,hZ,gA,k1,e]
 |(with_reducible refine CU (hi) ?_)
 |(with_reducible first|refine bk fun hc=>?_|refine bl fun hc=>?_|refine bm (fun hc=>?_) fun hc=>?_)<;>(try simp only[hc,bs,↓reduceIte]at h)<;>try simp only[hc]
 |(with_reducible refine aE hQ ?_;simp only[aT,aV,bE,bF,go_sem,hD,hY,hZ,gA,k1,e];try exact cf))
theorem zB {l:List az} (hl:l.length<4611686018427387904) {f:Nat} {row:List D} {b:az→Bool} (vA:D.bJ 0 0 row=true) (he:enters Tryz.prog f=true)
 (hb : ∀ x∈l,aF Tryz.prog f ([.str x]++ [.ptr 0 0]) ⟨[row],[]⟩ (.bool (b x)) ⟨[row],[]⟩) {s:St} {o:Nat} (ho:s.ah[o]? = some row) :
 aF Tryz.prog gn [.slice .shared 1 (l.map encStr), .gw f [.ptr o 0]] s (.bool (l.any b)) s:=
 Cu (zA hl vA he hb) vA (ff l) rfl ho
theorem wJ {l:List Pc} (hl:l.length<4611686018427387904) {f:Nat} {row:List D} {b:Pc→Bool} (vA:D.bJ 0 0 row=true) (he:enters Tryz.prog f=true)
 (hb : ∀ x∈l,aF Tryz.prog f ([.agg (cy x)]++ [.ptr 0 0]) ⟨[row],[]⟩ (.bool (b x)) ⟨[row],[]⟩) :
 aF Tryz.prog gy [.slice .shared 5 (l.map cy), .gw f [.ptr 0 0]] ⟨[row],[]⟩ (.int .i64 (kJ b 0 l)) ⟨[row],[]⟩:=by
 generalize h:kJ b 0 l=p
 have k1 : ∀ n m,D.gH n m row=row:=fun n m=>iC n m _ vA
 refine aF.go sP rfl fun B Q hB hQ=>?_
 have⟨hD,hY,hZ,gA⟩:=bN
 repeat' (first
 |simp only[go_sem,hD,hY,hZ,gA,k1]
 |(with_reducible first|refine bk fun hc=>?_|refine bl fun hc=>?_|refine bm (fun hc=>?_) fun hc=>?_)<;>(try simp only[hc,bs,↓reduceIte]at h)<;>try simp only[hc]
 |(with_reducible refine aE hQ ?_;(try cases h);simp only[aT,aV,bE,bF,go_sem,hD,hY,hZ,gA,k1];try exact cf))
 refine fe 1 0 ?_ ?_ (br.ind (ι:=List Pc×Nat) (fun i=>l.drop i.2=i.1∧kJ b (i.2:Int) i.1=p) (fun i=>i.1.length)
  (fun i=> [(0, .slice .shared 5 (l.map cy)),(1, .gw f [.ptr 0 0]),(7, .int .i64 (l.length:Int)),(8, .int .i64 (i.2:Int))]) (fun i=>⟨[row],[]⟩) ?_ (l,0) ⟨rfl,h⟩)
 ·(simp only[go_sem,hD,hY,hZ,gA,k1];try exact cq)
 ·(simp only[go_sem,hD,hY,hZ,gA,k1];try exact cq)
 rintro⟨rest,k⟩ ⟨h1,h⟩ IH
 dsimp only at h1 h
 cases rest with
 |nil=>
  have hD:=drop_nil h1
  simp only[kJ]at h
  repeat' (first
 |simp only[go_sem,hD,hY,hZ,gA,k1]
 |(with_reducible first|refine bk fun hc=>?_|refine bl fun hc=>?_|refine bm (fun hc=>?_) fun hc=>?_)<;>(try simp only[hc,bs,↓reduceIte]at h)<;>try simp only[hc]
 |(with_reducible refine aE hQ ?_;(try cases h);simp only[aT,aV,bE,bF,go_sem,hD,hY,hZ,gA,k1];try exact cf))
 |cons a rest=>
  obtain⟨hY,g2,hD,g4⟩:=drop_cons h1
  have bW:k<4611686018427387904:=by omega
  have hba:=hb a (List.mem_of_getElem? hY)
  simp only[kJ]at h
  repeat' (first
 |simp only[go_sem,hD,hY,hZ,gA,k1]
 |(with_reducible refine CV.use (he) (hba) ?_)
 |(with_reducible first|refine bk fun hc=>?_|refine bl fun hc=>?_|refine bm (fun hc=>?_) fun hc=>?_)<;>(try simp only[hc,bs,↓reduceIte]at h)<;>try simp only[hc]
 |(with_reducible refine aE hQ ?_;(try cases h);simp only[aT,aV,bE,bF,go_sem,hD,hY,hZ,gA,k1];try exact cf))
  refine fe 1 0 ?_ ?_ (IH (rest,k+1) ⟨g2,h⟩ (Nat.lt_succ_self _))
  ·(simp only[go_sem,hD,hY,hZ,gA,k1,aJ bW];try exact cq)
  ·(simp only[go_sem,hD,hY,hZ,gA,k1,aJ bW];try exact cq)
theorem BB {l:List Pc} (hl:l.length<4611686018427387904) {f:Nat} {row:List D} {b:Pc→Bool} (vA:D.bJ 0 0 row=true) (he:enters Tryz.prog f=true)
 (hb : ∀ x∈l,aF Tryz.prog f ([.agg (cy x)]++ [.ptr 0 0]) ⟨[row],[]⟩ (.bool (b x)) ⟨[row],[]⟩) :
 aF Tryz.prog gY [.slice .shared 5 (l.map cy), .gw f [.ptr 0 0]] ⟨[row],[]⟩ (.bool (l.any b)) ⟨[row],[]⟩:=by
 have k1 : ∀ n m,D.gH n m row=row:=fun n m=>iC n m _ vA
 have hi:=wJ hl vA he hb
 have e:decide (kJ b 0 l≥0)=l.any b:=by
  have:=Ho b l 0 (Int.le_refl 0)
  cases hh:l.any b<;>simp_all
 refine aF.go rr rfl fun B Q hB hQ=>?_
 have⟨hD,hY,hZ,gA⟩:=bN
 repeat' (first
 |simp only[go_sem,hD,hY,hZ,gA,k1,e]
 |(with_reducible refine CU (hi) ?_)
 |(with_reducible first|refine bk fun hc=>?_|refine bl fun hc=>?_|refine bm (fun hc=>?_) fun hc=>?_)<;>(try simp only[hc,bs,↓reduceIte]at h)<;>try simp only[hc]
 |(with_reducible refine aE hQ ?_;simp only[aT,aV,bE,bF,go_sem,hD,hY,hZ,gA,k1,e];try exact cf))
mutual
def Sm.pre:Sm→List Sm
 |⟨id,kind,labels,name,pc,x,has,args,bb,aP⟩=>⟨id,kind,labels,name,pc,x,has,args,bb,aP⟩::(Sm.cL bb++Sm.cL aP)
def Sm.cL:List Sm→List Sm
 | []=> []
 |s::l=>s.pre++Sm.cL l
end
def Pg.pre (p:Pg):List Sm:=(p.procs.map fun f=>Sm.cL f.body).flatten
theorem Sm.nS (s:Sm):s.pre=s::(Sm.cL s.bb++Sm.cL s.aP):=by cases s;simp only[Sm.pre]
mutual
theorem abK (proc up next loop:Int) (out:List Im) : ∀ s:Sm,∃ e:List Im,Im.one proc up next loop out s=out++e∧e.map Im.s=s.pre
 |⟨id,kind,labels,name,pc,x,has,args,bb,aP⟩=>by
  simp only[Im.one,Sm.pre]
  obtain⟨e1,h1,k1⟩:=Aw proc ((out.length:Int)+1) (if kind==6 then(out.length:Int)+1 else next) (if kind==6 then(out.length:Int)+1 else loop) (out++ [⟨⟨id,kind,labels,name,pc,x,has,args,bb,aP⟩,proc,up,next,loop⟩]) bb
  obtain⟨e2,h2,k2⟩:=Aw proc ((out.length:Int)+1) (if kind==6 then(out.length:Int)+1 else next) (if kind==6 then(out.length:Int)+1 else loop) (Im.rows proc ((out.length:Int)+1) (if kind==6 then(out.length:Int)+1 else next) (if kind==6 then(out.length:Int)+1 else loop) (out++ [⟨⟨id,kind,labels,name,pc,x,has,args,bb,aP⟩,proc,up,next,loop⟩]) bb) aP
  refine⟨⟨⟨id,kind,labels,name,pc,x,has,args,bb,aP⟩,proc,up,next,loop⟩::(e1++e2), ?_, ?_⟩
  ·rw[h2,h1];simp
  ·simp[k1,k2]
theorem Aw (proc up next loop:Int) (out:List Im) : ∀ l:List Sm,∃ e:List Im,Im.rows proc up next loop out l=out++e∧e.map Im.s=Sm.cL l
 | []=>⟨[],by simp[Im.rows],rfl⟩
 |s::l=>by
  simp only[Im.rows,Sm.cL]
  obtain⟨e1,h1,k1⟩:=abK proc up (if l.length=0 then next else(out.length:Int)+1+(s.jQ:Int)) loop out s
  obtain⟨e2,h2,k2⟩:=Aw proc up next loop (Im.one proc up (if l.length=0 then next else(out.length:Int)+1+(s.jQ:Int)) loop out s) l
  refine⟨e1++e2, ?_,by simp[k1,k2]⟩
  rw[h2,h1];simp
end
theorem TS : ∀ (l:List Pc) (n:Nat) (h:Sh),h.lo.length=n→h.hi.length=n→
 ∃ e lo hi,Sh.go n h l = ⟨h.L++e,h.lo++lo,h.hi++hi⟩∧e.map Im.s=(l.map fun f=>Sm.cL f.body).flatten∧lo.length=l.length∧hi.length=l.length∧
  ∀ (i:Nat) (f:Pc),l[i]? = some f→∃ a b e' Np:List Im,lo[i]? = some (((h.L++a).length:Int)+1)∧hi[i]? = some (((h.L++a++b).length:Int)+1)∧b.map Im.s=Sm.cL f.body∧e=a++b++e'
 | [],n,h,hl,hh=>⟨[],[],[],by simp[Sh.go],rfl,rfl,rfl,fun i f h=>by simp at h⟩
 | f::l,n,h,hl,hh=>by
  simp only[Sh.go]
  obtain⟨e1,h1,k1⟩:=Aw (n:Int) 0 (-1) 0 h.L f.body
  obtain⟨e2,lo,hi,h2,k2,h3,h4,h5⟩:=TS l (n+1) ⟨Im.rows (n:Int) 0 (-1) 0 h.L f.body,h.lo++ [(h.L.length:Int)+1],h.hi++ [((Im.rows (n:Int) 0 (-1) 0 h.L f.body).length:Int)+1]⟩ (by simp[hl]) (by simp[hh])
  refine⟨e1++e2,((h.L.length:Int)+1)::lo,(((Im.rows (n:Int) 0 (-1) 0 h.L f.body).length:Int)+1)::hi, ?_,by simp[k1,k2],by simp[h3],by simp[h4],fun i g iA=>?_⟩
  ·rw[h2,h1];simp
  ·cases i with
   |zero=>
    simp only[List.getElem?_cons_zero,Option.some.injEq]at iA
    subst iA
    exact⟨[],e1,e2,[],by simp,by rw[h1];simp,k1,by simp⟩
   |succ i=>
    simp only[List.getElem?_cons_succ]at iA
    obtain⟨a,b,e',Np,g1,g2,g3,g4⟩:=h5 i g iA
    refine⟨e1++a,b,e',Np, ?_, ?_,g3,by rw[g4];simp⟩
    ·rw[List.getElem?_cons_succ,g1,h1];simp
    ·rw[List.getElem?_cons_succ,g2,h1];simp
theorem lR (p:Pg):p.bg.L.map Im.s=p.pre∧∀ (i:Nat) (f:Pc),p.procs[i]? = some f→∃ a b e:List Im,p.bg.lo[i]? = some ((a.length:Int)+1)∧p.bg.hi[i]? = some (((a++b).length:Int)+1)∧b.map Im.s=Sm.cL f.body∧p.bg.L=a++b++e:=by
 obtain⟨e,lo,hi,h1,h2,h3,h4,h5⟩:=TS p.procs 0 ⟨[],[],[]⟩ rfl rfl
 unfold Pg.bg
 rw[h1]
 refine⟨by simpa[Pg.pre]using h2,fun i f hf=>?_⟩
 obtain⟨a,b,e',_,g1,g2,g3,g4⟩:=h5 i f hf
 exact⟨a,b,e',by simpa using g1,by simpa using g2,g3,by simpa using g4⟩
def Pg.at (p:Pg) (name:az):Int:=kJ (fun f:Pc=>f.name==name) 0 p.procs
theorem abL (name:az) (f:Pc):aF Tryz.prog mB ([.agg (cy f)]++ [.ptr 0 0]) ⟨[[.str name]],[]⟩ (.bool (f.name==name)) ⟨[[.str name]],[]⟩:=by
 show aF Tryz.prog mB [.agg (cy f), .ptr 0 0] _ _ _
 refine aF.go zm rfl fun B Q hB hQ=>?_
 have⟨hD,hY,hZ,gA⟩:=bN
 repeat' (first
 |simp only[go_sem,hD,hY,hZ,gA]
 |(with_reducible refine aE hQ ?_;exact bo))
theorem FU {p:Pg} (hs:p.procs.length<4611686018427387904) (name:az) (s:St):aF Tryz.prog iR [.dI (fL p) 0, .str name] s (.int .i64 (p.at name)) s:=by
 refine aF.pure ?_ (by simp[D.bJ,D.ok,vb]) rfl s
 have hi:=fun {s:St} {o:Nat} (ho:s.ah[o]? = some [.str name])=>Cu (wJ (l:=p.procs) (f:=mB) (row:= [.str name]) (b:=fun f:Pc=>f.name==name) hs rfl (by with_unfolding_all rfl) (fun x _=>abL name x)) rfl (xr _) rfl ho
 have iA:=fun {s:St} {o:Nat} (ho:s.ah[o]? = some [.str name])=>(show aF Tryz.prog gy [.slice .shared 5 (p.procs.map cy), .gw 76 [.ptr o 0]] s (.int .i64 (p.at name)) s from hi ho)
 unfold S0
 rw[oA]
 refine aF.go Bz rfl fun B Q hB hQ=>?_
 have⟨hD,hY,hZ,gA⟩:=bN
 repeat' (first
 |simp only[go_sem,hD,hY,hZ,gA]
 |(with_reducible refine CU (iA (by with_unfolding_all rfl)) ?_)
 |(with_reducible refine aE hQ ?_;exact bo))
theorem TT : ∀ (l:List Pc) (n:Nat) (h:Sh),(Sh.go n h l).L.length≤h.L.length+Pc.a7 l
 | [],n,h=>by simp[Sh.go]
 |f::l,n,h=>by
  simp only[Sh.go]
  refine Nat.le_trans (TT l _ _) ?_
  have:=gP (n:Int) 0 (-1) 0 h.L f.body
  have:=oh f.body
  simp only[Pc.a7,Pc.size];omega
theorem p6 (p:Pg):p.bg.L.length≤Pc.a7 p.procs:=by have:=TT p.procs 0 ⟨[],[],[]⟩;simpa[Pg.bg]using this
theorem afg {p:Pg} {i:Nat} (hs:Pc.a7 p.procs<1000000000) {a b e:List Im} (h1:p.bg.lo[i]? = some ((a.length:Int)+1)) (h2:p.bg.hi[i]? = some (((a++b).length:Int)+1)) (h4:p.bg.L=a++b++e) (s:St) :
 aF Tryz.prog gX [.dI (fL p) 0, .int .i64 (i:Int)] s (.slice .shared 17 (b.map dF)) s:=by
 refine aF.pure ?_ (by simp[D.bJ,D.ok,vb]) (by simp[D.ok,Tag.ok,JN]) s
 have hL:p.bg.L.length<1000000000:=Nat.lt_of_le_of_lt (p6 p) hs
 have l1:(i:Int)<(p.bg.lo.length:Int):=by have:=(List.getElem?_eq_some_iff.1 h1).1;omega
 have l2:(i:Int)<(p.bg.hi.length:Int):=by have:=(List.getElem?_eq_some_iff.1 h2).1;omega
 have ZX:a.length+b.length≤p.bg.L.length:=by rw[h4];simp
 have w1:IntKind.wrap .i64 ((a.length:Int)+1 - 1)=(a.length:Int):=by rw[show(a.length:Int)+1 - 1=(a.length:Int) by omega];exact ek (by omega) (by omega)
 have w2:IntKind.wrap .i64 (((a.length+b.length:Nat):Int)+1 - 1)=((a.length+b.length:Nat):Int):=by rw[show((a.length+b.length:Nat):Int)+1 - 1=((a.length+b.length:Nat):Int) by omega];exact ek (by omega) (by omega)
 have c1:((a.length:Int)≤((a.length+b.length:Nat):Int))=True:=by simp only[eq_iff_iff,iff_true];omega
 have c2:(((a.length+b.length:Nat):Int)≤(p.bg.L.length:Int))=True:=by simp only[eq_iff_iff,iff_true];omega
 have hb:List.drop a.length (List.take (a.length+b.length) (List.map dF p.bg.L))=List.map dF b:=by rw[h4];simp[List.map_append,List.take_append,List.drop_append]
 unfold S0
 rw[oA]
 refine aF.go DQ rfl fun B Q hB hQ=>?_
 have⟨hD,hY,hZ,gA⟩:=bN
 repeat' (first
 |simp only[go_sem,hD,hY,hZ,gA,h1,h2,List.length_append,w1,w2,c1,c2,or_true,true_and,and_self,ite_self,Int.toNat_natCast,hb]
 |(with_reducible first|refine bk fun hc=>?_|refine bl fun hc=>?_|refine bm (fun hc=>?_) fun hc=>?_)<;>(try simp only[hc,bs,↓reduceIte]at h)<;>try simp only[hc]
 |(with_reducible refine aE hQ ?_;(try cases h);simp only[aT,aV,bE,bF,go_sem,hD,hY,hZ,gA,h1,h2,List.length_append,w1,w2,c1,c2,or_true,true_and,and_self,ite_self,Int.toNat_natCast,hb];try exact cf)
 |(cases h;done))
theorem Xc {p:Pg} {i:Nat} {f:Pc} (hf:p.procs[i]? = some f) (hs:Pc.a7 p.procs<1000000000) : ∃ it:List Im,it.map Im.s=Sm.cL f.body∧∀ s,aF Tryz.prog gX [.dI (fL p) 0, .int .i64 (i:Int)] s (.slice .shared 17 (it.map dF)) s:=by
 obtain⟨a,b,e,h1,h2,h3,h4⟩:=(lR p).2 i f hf
 exact⟨b,h3,afg hs h1 h2 h4⟩
theorem Ih {r:az} : Dn r=true↔pZ r=r.length:=by
 induction r with
 |nil=>simp[Dn,pZ]
 |cons c r ih=>
  simp only[Dn,pZ]
  cases h1:Cs c<;>cases h2:FQ c<;>simp[ih]
theorem zC (t:az) (hl:t.length<4611686018427387904) (s:St):aF Tryz.prog mU [.str t] s (.bool (isName t)) s:=by
 refine aF.pure ?_ rfl rfl s
 have hr:=fun s=>ajo (pos:=0) hl s
 simp only[List.drop_zero,Nat.zero_add]at hr
 unfold S0
 cases t with
 |nil=>
  have z:decide (((0:Nat):Int)<1)=true:=rfl
  have z':decide ((0:Int)<1)=true:=rfl
  have e:isName [] = false:=rfl
  rw[e]
  refine aF.go mz rfl fun B Q hB hQ=>?_
  have⟨hD,hY,hZ,gA⟩:=bN
  repeat' (first
 |simp only[go_sem,hD,hY,hZ,gA,z,z']
 |(with_reducible refine aE hQ ?_;exact bo))
 | cons c r=>
  have l1:decide (((r.length+1:Nat):Int)<1)=false:=by simp;omega
  generalize h:isName (c::r)=p
  simp only[isName]at h
  cases hL:Cs c
  ·simp only [hL,Bool.not_false,Bool.or_true, ↓reduceIte]at h
   subst h
   by_cases c8:decide (((r.length+1:Nat):Int) > 8)=true
   ·refine aF.go mz rfl fun B Q hB hQ=> ?_
    have⟨hD,hY,hZ,gA⟩:=bN
    repeat' (first
 |simp only[go_sem,hD,hY,hZ,gA,l1,c8]
 | (with_reducible refine aE hQ ?_;exact bo))
   ·have c8:decide (((r.length+1:Nat):Int) > 8)=false:=by simpa using c8
    refine aF.go mz rfl fun B Q hB hQ=>?_
    have⟨hD,hY,hZ,gA⟩:=bN
    repeat' (first
 |simp only[go_sem,hD,hY,hZ,gA,l1,c8,hL]
 |(with_reducible refine CU (tr _ _) ?_)
 | (with_reducible refine aE hQ ?_;exact bo))
  ·simp only [hL,Bool.not_true,Bool.or_false]at h
   by_cases c8:decide (((r.length+1:Nat):Int) > 8)=true
   ·simp only [c8, ↓reduceIte]at h
    subst h
    refine aF.go mz rfl fun B Q hB hQ=>?_
    have⟨hD,hY,hZ,gA⟩:=bN
    repeat' (first
 |simp only[go_sem,hD,hY,hZ,gA,l1,c8]
 | (with_reducible refine aE hQ ?_;exact bo))
   ·have c8:decide (((r.length+1:Nat):Int) > 8)=false:=by simpa using c8
    simp only[c8,Bool.false_eq_true,↓reduceIte]at h
    have dM:pZ (c::r)=pZ r+1:=by simp[pZ,hL]
    cases hn:Dn r
    ·simp only [hn,Bool.false_eq_true, ↓reduceIte]at h
     have:pZ r≠r.length:=fun e=>by rw[Ih.2 e]at hn;cases hn
     have e:(((pZ (c::r):Nat):Int)==((r.length+1:Nat):Int))=false:=by rw[dM];simp;omega
     subst h
     refine aF.go mz rfl fun B Q hB hQ=>?_
     have⟨hD,hY,hZ,gA⟩:=bN
     repeat' (first
 |simp only[go_sem,hD,hY,hZ,gA,l1,c8,hL,e]
 |(with_reducible refine CU (tr _ _) ?_)
 |(with_reducible refine CU (hr _) ?_)
 | (with_reducible refine aE hQ ?_;exact bo))
    ·simp only [hn, ↓reduceIte]at h
     have:=Ih.1 hn
     have e:(((pZ (c::r):Nat):Int)==((r.length+1:Nat):Int))=true:=by rw[dM];simp;omega
     subst h
     refine aF.go mz rfl fun B Q hB hQ=>?_
     have⟨hD,hY,hZ,gA⟩:=bN
     repeat' (first
 |simp only[go_sem,hD,hY,hZ,gA,l1,c8,hL,e]
 |(with_reducible refine CU (tr _ _) ?_)
 |(with_reducible refine CU (hr _) ?_)
 |(with_reducible refine CU (ae9 _ _) ?_)
 |(with_reducible refine aE hQ ?_;exact bo))
theorem Hp (op:Int) (s:St):aF Tryz.prog yu [.int .i64 op] s (.int .i64 (mV op)) s:=by
 refine aF.pure ?_ rfl rfl s
 unfold S0
 generalize h:mV op=p
 unfold mV at h
 refine aF.go Js rfl fun B Q hB hQ=>?_
 have⟨hD,hY,hZ,gA⟩:=bN
 repeat' (first
 |simp only[go_sem,hD,hY,hZ,gA]
 |(with_reducible first|refine bk fun hc=>?_|refine bl fun hc=>?_|refine bm (fun hc=>?_) fun hc=>?_)<;>(try simp only[hc,bs,↓reduceIte]at h)<;>try simp only[hc]
 |(with_reducible refine aE hQ ?_;exact fD))
theorem Ax {l:List az} (hl:l.length<4611686018427387904) (hs : ∀ t∈l,t.length<4611686018427387904) (s:St):aF Tryz.prog nP [.slice .shared 1 (l.map encStr)] s (.bool (e7 l)) s:=by
 refine aF.pure ?_ (by simp[D.bJ,D.ok,ff,Tag.ok]) rfl s
 unfold S0
 generalize h:e7 l=p
 refine aF.go He rfl fun B Q hB hQ=>?_
 have⟨hD,hY,hZ,gA⟩:=bN
 repeat' (first
 |simp only[go_sem,hD,hY,hZ,gA]
 |(with_reducible first|refine bk fun hc=>?_|refine bl fun hc=>?_|refine bm (fun hc=>?_) fun hc=>?_)<;>(try simp only[hc,bs,↓reduceIte]at h)<;>try simp only[hc]
 |(with_reducible refine aE hQ ?_;exact fD))
 refine fc 0 0 (br.ind (ι:=List az×Nat) (fun i=>l.drop i.2=i.1∧e7 i.1=p) (fun i=>i.1.length)
  (fun i=> [(5, .slice .shared 1 (l.map encStr)),(6, .int .i64 (l.length:Int)),(7, .int .i64 (i.2:Int))]) (fun i=>⟨[],[]⟩) ?_ (l,0) ⟨rfl,h⟩)
 rintro⟨rest,k⟩ ⟨h1,h⟩ IH
 dsimp only at h1 h
 cases rest with
 |nil=>
  have hD:=drop_nil h1
  simp only[e7]at h
  repeat' (first
 |simp only[go_sem,hD,hY,hZ,gA]
 |(with_reducible first|refine bk fun hc=>?_|refine bl fun hc=>?_|refine bm (fun hc=>?_) fun hc=>?_)<;>(try simp only[hc,bs,↓reduceIte]at h)<;>try simp only[hc]
 |(with_reducible refine aE hQ ?_;exact fD))
 |cons t rest=>
  obtain⟨hY,g2,hD,g4⟩:=drop_cons h1
  have hZ:k<4611686018427387904:=by omega
  have hn:=zC t (hs t (List.mem_of_getElem? hY))
  simp only[e7]at h
  repeat' (first
 |simp only[go_sem,hD,hY,hZ,gA]
 |(with_reducible refine CU (hn _) ?_)
 |(with_reducible first|refine bk fun hc=>?_|refine bl fun hc=>?_|refine bm (fun hc=>?_) fun hc=>?_)<;>(try simp only[hc,bs,↓reduceIte]at h)<;>try simp only[hc]
 |(with_reducible refine aE hQ ?_;exact fD))
  refine fc 0 0 (IH (rest,k+1) ⟨g2,h⟩ (Nat.lt_succ_self _))
mutual
def Ex.dp (left:Int):Ex→Bool
 |⟨op,n,name,kids⟩=>
  if decide (left<1) ||(kids.length:Int) != mV op then false
  else if op==1 then decide (n≥0) && name == []
  else if op==2 then n==0 && isName name
  else if n != 0 || !(name == [])then false
  else Ex.Cv (left - 1) kids
def Ex.Cv (left:Int):List Ex→Bool
 | []=>true
 |x::l=>if !(Ex.dp left x)then false else Ex.Cv left l
end
theorem abM : ∀ (m:Nat) (x:Ex),x.size≤m→x.size<4611686018427387904→x.texts→∀ left:Int,0≤left→left≤100→∀ s:St,aF Tryz.prog o8 [.agg (bS x), .int .i64 left] s (.bool (x.dp left)) s:=by
 intro m
 induction m with
 |zero=>rintro⟨op,v,name,kids⟩ h;simp only[Ex.size]at h;omega
 | succ m ih=>
  rintro⟨op,v,name,kids⟩ h hx ht left h0 Xd s
  refine aF.pure ?_ (by simp[D.bJ,D.ok,kV]) rfl s
  have hlen:kids.length<4611686018427387904:=by simp only[Ex.size]at hx;have:=Ex.dS kids;omega
  have hn:=zC name ht.1
  generalize hp:Ex.dp left ⟨op,v,name,kids⟩=p
  simp only[Ex.dp]at hp
  unfold S0
  by_cases wK:left<1
  ·have d1:decide (left<1)=true:=by simpa using wK
   simp only[d1,Bool.true_or,↓reduceIte]at hp
   subst hp
   refine aF.go u7 rfl fun B Q hB hQ=>?_
   have⟨hD,hY,hZ,gA⟩:=bN
   repeat' (first
 |simp only[go_sem,hD,hY,hZ,gA,d1]
 |(with_reducible refine CU (Hp _ _) ?_)
 |(with_reducible refine CU (hn _) ?_)
 | (with_reducible refine aE hQ ?_;exact bo))
  ·have d1:decide (left<1)=false:=by simpa using wK
   have w1:IntKind.wrap .i64 (left - 1)=left - 1:=ek (by omega) (by omega)
   have hk : ∀ y∈kids,∀ s,aF Tryz.prog o8 [.agg (bS y), .int .i64 (left - 1)] s (.bool (y.dp (left - 1))) s:=fun y hy s=>
    ih y (by simp only[Ex.size]at h;have:=Ex.df hy;omega) (by simp only[Ex.size]at hx;have:=Ex.df hy;omega) (Ex.TK ht hy) (left - 1) (by omega) (by omega) s
   simp only[d1,Bool.false_or]at hp
   have h:=hp
   clear hp
   refine aF.go u7 rfl fun B Q hB hQ=>?_
   have⟨hD,hY,hZ,gA⟩:=bN
   repeat' (first
 |simp only[go_sem,hD,hY,hZ,gA,d1]
 |(with_reducible refine CU (Hp _ _) ?_)
 |(with_reducible refine CU (hn _) ?_)
 |(with_reducible first|refine bk fun hc=>?_|refine bl fun hc=>?_|refine bm (fun hc=>?_) fun hc=>?_)<;>(try simp only[hc,bs,↓reduceIte]at h)<;>try simp only[hc]
 | (with_reducible refine aE hQ ?_;(try cases h);simp only [aT,aV,bE,bF,go_sem,hD,hY,hZ,gA,d1];repeat' (first | exact Ok.out | with_reducible refine jn ?_ ?_ | (simp;done))))
   all_goals
    refine fc 1 0 (br.ind (ι:=List Ex×Nat) (fun i=>kids.drop i.2=i.1∧Ex.Cv (left - 1) i.1=p) (fun i=>i.1.length)
     (fun i=> [(1, .int .i64 left),(49, .slice .shared 4 (kids.map bS)),(50, .int .i64 (kids.length:Int)),(51, .int .i64 (i.2:Int))]) (fun i=>⟨[bS ⟨op,v,name,kids⟩],[]⟩) ?_ (kids,0) ⟨rfl,h⟩)
    rintro⟨rest,k⟩ ⟨h1,h⟩ IH
    dsimp only at h1 h
    cases rest with
    |nil=>
     have hD:=drop_nil h1
     simp only[Ex.Cv]at h
     repeat' (first
 |simp only[go_sem,hD,hY,hZ,gA]
 |(with_reducible first|refine bk fun hc=>?_|refine bl fun hc=>?_|refine bm (fun hc=>?_) fun hc=>?_)<;>(try simp only[hc,bs,↓reduceIte]at h)<;>try simp only[hc]
 |(with_reducible refine aE hQ ?_;exact fD)
 | (cases h;done))
    |cons y rest=>
     obtain⟨hY,g2,hD,g4⟩:=drop_cons h1
     have hy:=hk y (List.mem_of_getElem? hY)
     have hZ:k<4611686018427387904:=by omega
     simp only[Ex.Cv]at h
     repeat' (first
 |simp only[go_sem,hD,hY,hZ,gA,w1]
 |(with_reducible refine CU (hy _) ?_)
 |(with_reducible first|refine bk fun hc=>?_|refine bl fun hc=>?_|refine bm (fun hc=>?_) fun hc=>?_)<;>(try simp only[hc,bs,↓reduceIte]at h)<;>try simp only[hc]
 |(with_reducible refine aE hQ ?_;(try cases h);simp only[aT,aV,bE,bF,go_sem,hD,hY,hZ,gA,w1];try exact cf))
     refine fc 1 0 (IH (rest,k+1) ⟨g2,h⟩ (Nat.lt_succ_self _))
theorem Ay {x:Ex} (hx:x.size<4611686018427387904) (ht:x.texts) (s:St):aF Tryz.prog jC [.agg (bS x)] s (.bool (x.dp 20)) s:=by
 refine aF.pure ?_ (by simp[D.bJ,D.ok,kV]) rfl s
 have hd:=fun s=>abM _ x (Nat.le_refl _) hx ht 20 (by omega) (by omega) s
 unfold S0
 refine aF.go wG rfl fun B Q hB hQ=>?_
 have⟨hD,hY,hZ,gA⟩:=bN
 repeat' (first
 |simp only[go_sem,hD,hY,hZ,gA]
 |(with_reducible refine CU (hd _) ?_)
 |(with_reducible refine aE hQ ?_;exact bo))
theorem abN (x:Ex) (s:St):aF Tryz.prog yx [.agg (bS x)] s (.bool x.none) s:=by
 refine aF.pure ?_ (by simp[D.bJ,D.ok,kV]) rfl s
 unfold S0
 generalize h:Ex.none x=p
 unfold Ex.none at h
 refine aF.go Ju rfl fun B Q hB hQ=>?_
 have⟨hD,hY,hZ,gA⟩:=bN
 repeat' (first
 |simp only[go_sem,hD,hY,hZ,gA]
 |(with_reducible first|refine bk fun hc=>?_|refine bl fun hc=>?_|refine bm (fun hc=>?_) fun hc=>?_)<;>(try simp only[hc,bs,↓reduceIte]at h)<;>try simp only[hc]
 |(with_reducible refine aE hQ ?_;exact fD))
def uw (t:az) (is:Bool):Bool:=(is && isName t) ||(!is && t == [])
theorem EK (t:az) (is:Bool) (hl:t.length<4611686018427387904) (s:St):aF Tryz.prog pV [.str t, .bool is] s (.bool (uw t is)) s:=by
 refine aF.pure ?_ rfl rfl s
 have hn:=zC t hl
 unfold S0
 generalize h:uw t is=p
 unfold uw at h
 refine aF.go Hk rfl fun B Q hB hQ=>?_
 have⟨hD,hY,hZ,gA⟩:=bN
 repeat' (first
 |simp only[go_sem,hD,hY,hZ,gA]
 |(with_reducible refine CU (hn _) ?_)
 |(with_reducible first|refine bk fun hc=>?_|refine bl fun hc=>?_|refine bm (fun hc=>?_) fun hc=>?_)<;>(try simp only[hc,bs,↓reduceIte]at h)<;>try simp only[hc]
 |(with_reducible refine aE hQ ?_;exact fD))
def wL (x:Ex) (is:Bool):Bool:=(is && x.dp 20) ||(!is && x.none)
theorem NO {x:Ex} (is:Bool) (hx:x.size<4611686018427387904) (ht:x.texts) (s:St):aF Tryz.prog sr [.agg (bS x), .bool is] s (.bool (wL x is)) s:=by
 refine aF.pure ?_ (by simp[D.bJ,D.ok,kV]) rfl s
 have hm:=Ay hx ht
 unfold S0
 generalize h:wL x is=p
 unfold wL at h
 refine aF.go Hl rfl fun B Q hB hQ=>?_
 have⟨hD,hY,hZ,gA⟩:=bN
 repeat' (first
 |simp only[go_sem,hD,hY,hZ,gA]
 |(with_reducible refine CU (hm _) ?_)
 |(with_reducible refine CU (abN _ _) ?_)
 |(with_reducible first|refine bk fun hc=>?_|refine bl fun hc=>?_|refine bm (fun hc=>?_) fun hc=>?_)<;>(try simp only[hc,bs,↓reduceIte]at h)<;>try simp only[hc]
 |(with_reducible refine aE hQ ?_;exact fD))
def qn:List Ar→Bool
 | []=>true
 |a::l=>if !(uw a.name a.ref) || !(wL a.x !a.ref)then false else qn l
theorem Xe {l:List Ar} (hl:l.length<4611686018427387904) (hs : ∀ a∈l,a.x.size<4611686018427387904∧a.x.texts∧a.name.length<4611686018427387904) (s:St) :
 aF Tryz.prog uW [.slice .shared 6 (l.map eC)] s (.bool (qn l)) s:=by
 refine aF.pure ?_ (by simp[D.bJ,D.ok,JL,Tag.ok]) rfl s
 unfold S0
 generalize h:qn l=p
 refine aF.go FP rfl fun B Q hB hQ=>?_
 have⟨hD,hY,hZ,gA⟩:=bN
 repeat' (first
 |simp only[go_sem,hD,hY,hZ,gA]
 |(with_reducible first|refine bk fun hc=>?_|refine bl fun hc=>?_|refine bm (fun hc=>?_) fun hc=>?_)<;>(try simp only[hc,bs,↓reduceIte]at h)<;>try simp only[hc]
 |(with_reducible refine aE hQ ?_;exact fD))
 refine fc 0 0 (br.ind (ι:=List Ar×Nat) (fun i=>l.drop i.2=i.1∧qn i.1=p) (fun i=>i.1.length)
  (fun i=> [(5, .slice .shared 6 (l.map eC)),(6, .int .i64 (l.length:Int)),(7, .int .i64 (i.2:Int))]) (fun i=>⟨[],[]⟩) ?_ (l,0) ⟨rfl,h⟩)
 rintro⟨rest,k⟩ ⟨h1,h⟩ IH
 dsimp only at h1 h
 cases rest with
 |nil=>
  have hD:=drop_nil h1
  simp only[qn]at h
  repeat' (first
 |simp only[go_sem,hD,hY,hZ,gA]
 |(with_reducible first|refine bk fun hc=>?_|refine bl fun hc=>?_|refine bm (fun hc=>?_) fun hc=>?_)<;>(try simp only[hc,bs,↓reduceIte]at h)<;>try simp only[hc]
 |(with_reducible refine aE hQ ?_;exact fD))
 |cons a rest=>
  obtain⟨hY,g2,hD,g4⟩:=drop_cons h1
  have hZ:k<4611686018427387904:=by omega
  obtain⟨a1,a2,a3⟩:=hs a (List.mem_of_getElem? hY)
  have hn:=fun b s=>EK a.name b a3 s
  have hw:=fun b s=>NO b a1 a2 s
  simp only[qn]at h
  repeat' (first
 |simp only[go_sem,hD,hY,hZ,gA]
 |(with_reducible refine CU (hn _ _) ?_)
 |(with_reducible refine CU (hw _ _) ?_)
 |(with_reducible first|refine bk fun hc=>?_|refine bl fun hc=>?_|refine bm (fun hc=>?_) fun hc=>?_)<;>(try simp only[hc,bs,↓reduceIte]at h)<;>try simp only[hc]
 |(with_reducible refine aE hQ ?_;exact fD))
  refine fc 0 0 (IH (rest,k+1) ⟨g2,h⟩ (Nat.lt_succ_self _))
def Sm.flags (s:Sm):Option (Bool×Bool×Bool×Bool×Bool×Bool):=
 if s.kind==1 then some (true,false,true,s.has,false,false)
 else if s.kind==2 ||s.kind==10 then some (true,false,false,s.has,false,false)
 else if s.kind==3 then some (false,false,true,s.has,false,false)
 else if s.kind==4 then some (!(s.name == []),true,false,s.has,false,false)
 else if s.kind==5 then some (false,false,true,s.has,true,true)
 else if s.kind==6 then some (false,false,true,s.has,true,false)
 else if s.kind==9 then some (false,false,s.has,false,false,false)
 else if s.kind==7 ||s.kind==8 then some (false,false,false,s.has,false,false)
 else none
def Sm.JO (s:Sm) (nm pr x:Bool):Bool:=if !(uw s.name nm) || !(uw s.proc pr) || !(wL s.x x)then false else qn s.args
def Sm.JP (s:Sm) (f:Bool×Bool×Bool×Bool×Bool×Bool):Bool:=
 if f.2.2.2.1 ||(!f.2.2.2.2.1 && decide ((s.bb.length:Int) > 0)) ||(!f.2.2.2.2.2 && decide ((s.aP.length:Int) > 0)) ||(!(s.kind==4) && decide ((s.args.length:Int) > 0))then false
 else s.JO f.1 f.2.1 f.2.2.1
def Sm.fields (s:Sm):Bool:=match s.flags with
 |none=>false
 |some f=>s.JP f
section
variable {v:Sm} {B:gi} {Q:Exit→Tm→St→Prop} {p:Bool}
theorem Xf {nm pr x:Bool} (hf:v.va) (hB:B.s = ⟨[],[]⟩) (hQ:qE 0 0 [(2,none)] (.bool p) ⟨[],[]⟩=Q) (h:v.JO nm pr x=p) :
 Sem Tryz.prog B 93 ae3 Q [(1, .ptr 0 0),(3, .bool nm),(4, .bool pr),(5, .bool x)] ⟨[bj v],[]⟩:=by
 have h1:=fun b s=>EK v.name b hf.name s
 have h2:=fun b s=>EK v.proc b hf.proc s
 have h3:=fun b s=>NO b hf.x hf.xt s
 have h4:=fun s=>Xe hf.aqt hf.arg s
 unfold Sm.JO at h
 have⟨hD,hY,hZ,gA⟩:=bN
 refine iW ?_
 repeat' (first
 |simp only[go_sem,hD,hY,hZ,gA]
 |(with_reducible refine CU (h1 _ _) ?_)
 |(with_reducible refine CU (h2 _ _) ?_)
 |(with_reducible refine CU (h3 _ _) ?_)
 |(with_reducible refine CU (h4 _) ?_)
 |(with_reducible first|refine bk fun hc=>?_|refine bl fun hc=>?_|refine bm (fun hc=>?_) fun hc=>?_)<;>(try simp only[hc,bs,↓reduceIte]at h)<;>try simp only[hc]
 |(with_reducible refine aE hQ ?_;exact fD))
theorem Xg {nm pr x has th ot ar:Bool} (hf:v.va) (hB:B.s = ⟨[],[]⟩) (hQ:qE 0 0 [(2,none)] (.bool p) ⟨[],[]⟩=Q) (e:(v.kind==4)=ar) (h:v.JP (nm,pr,x,has,th,ot)=p) :
 Sem Tryz.prog B 93 ae4 Q [(1, .ptr 0 0),(3, .bool nm),(4, .bool pr),(5, .bool x),(6, .bool has),(7, .bool th),(8, .bool ot),(9, .bool ar)] ⟨[bj v],[]⟩:=by
 simp only[Sm.JP,e]at h
 have⟨hD,hY,hZ,gA⟩:=bN
 refine Sem.nN ?_
 repeat' (first
 |simp only[go_sem,hD,hY,hZ,gA]
 |(with_reducible first|refine bk fun hc=>?_|refine bl fun hc=>?_|refine bm (fun hc=>?_) fun hc=>?_)<;>(try simp only[hc,bs,↓reduceIte]at h)<;>try simp only[hc]
 |(with_reducible refine aE hQ ?_;(try cases h);simp only[aT,aV,bE,bF,go_sem,hD,hY,hZ,gA];repeat' (first|exact Ok.out|with_reducible refine jn ?_ ?_|(simp;done))))
 all_goals
  refine Sem.re _ _ 1 0 (by rw[hB];exact D8 rfl) (by rw[hB];exact D8 rfl) ?_ ?_ (Xf hf hB hQ h)
  ·(simp only[go_sem,hD,hY,hZ,gA];repeat' (first|exact Ok.out|with_reducible refine jn ?_ ?_))
  ·(simp only[go_sem,hD,hY,hZ,gA];repeat' (first|exact Ok.out|with_reducible refine jn ?_ ?_))
theorem Xh {ar:Bool} (hf:v.va) (hB:B.s = ⟨[],[]⟩) (hQ:qE 0 0 [(2,none)] (.bool p) ⟨[],[]⟩=Q) (e:(v.kind==4)=ar) (h:v.fields=p) :
 Sem Tryz.prog B 93 W7 Q [(1, .ptr 0 0),(3, .bool false),(4, .bool false),(5, .bool false),(6, .bool v.has),(7, .bool false),(8, .bool false),(9, .bool ar)] ⟨[bj v],[]⟩:=by
 simp only[Sm.fields,Sm.flags]at h
 have⟨hD,hY,hZ,gA⟩:=bN
 refine Sem.nN ?_
 repeat' (first
 |simp only[go_sem,hD,hY,hZ,gA]
 |(with_reducible first|refine bk fun hc=>?_|refine bl fun hc=>?_|refine bm (fun hc=>?_) fun hc=>?_)<;>(try simp only[hc,bs,↓reduceIte]at h)<;>try simp only[hc]
 |(with_reducible refine aE hQ ?_;(try cases h);simp only[aT,aV,bE,bF,go_sem,hD,hY,hZ,gA];repeat' (first|exact Ok.out|with_reducible refine jn ?_ ?_|(simp;done))))
 all_goals
  refine Sem.re _ _ 1 0 (by rw[hB];exact D8 rfl) (by rw[hB];exact D8 rfl) ?_ ?_ (Xg hf hB hQ e h)
  ·(simp only[go_sem,hD,hY,hZ,gA];repeat' (first|exact Ok.out|with_reducible refine jn ?_ ?_))
  ·(simp only[go_sem,hD,hY,hZ,gA];repeat' (first|exact Ok.out|with_reducible refine jn ?_ ?_))
end
theorem Xi {v:Sm} (hf:v.va) (s:St):aF Tryz.prog uV [.agg (bj v)] s (.bool v.fields) s:=by
 refine aF.pure ?_ (by simp[D.bJ,D.ok,sf]) rfl s
 unfold S0
 refine aF.goS FL rfl fun B Q hB hQ=>?_
 have⟨hD,hY,hZ,gA⟩:=bN
 refine Sem.seq (b:=ae6) (iW ?_)
 repeat' (first
 |simp only[go_sem,hD,hY,hZ,gA]
 |(with_reducible refine aE hQ ?_;exact bo))
 refine Sem.seq (b:=ae5) (iW ?_)
 repeat' (first
 |simp only[go_sem,hD,hY,hZ,gA]
 |(with_reducible refine aE hQ ?_;exact bo))
 refine Sem.seq (b:=W7) (iW ?_)
 repeat' (first
 |simp only[go_sem,hD,hY,hZ,gA]
 |(with_reducible refine aE hQ ?_;exact bo))
 refine Sem.re _ _ 1 0 (by rw[hB];exact D8 rfl) (by rw[hB];exact D8 rfl) ?_ ?_ (Xh hf hB hQ rfl rfl)
 ·(simp only[go_sem,hD,hY,hZ,gA];repeat' (first|exact Ok.out|with_reducible refine jn ?_ ?_))
 ·(simp only[go_sem,hD,hY,hZ,gA];repeat' (first|exact Ok.out|with_reducible refine jn ?_ ?_))
end Go.Abs
namespace Go.Abs
set_option maxRecDepth 8000
open Go.Proofs
def fW (i:It):List D:= [.int .i64 i.s.id, .int .i64 i.s.kind, .slice .shared 1 (i.s.labels.map encStr), .str i.s.name, .str i.s.proc,
 .int .i64 i.s.x.op, .int .i64 i.s.x.n, .str i.s.x.name, .slice .shared 4 (i.s.x.kids.map bS), .bool i.s.has, .slice .shared 6 (i.s.args.map eC), .slice .shared 13 (i.s.bb.map bj), .slice .shared 13 (i.s.aP.map bj), .int .i64 i.deep, .int .i64 i.cu, .bool i.aP]
theorem Xj (i:It):D.bJ 0 0 (fW i)=true:=by simp[fW,D.bJ,D.ok,Tag.ok,ff,Y5,JL,oy]
theorem FW (l:List It):D.gL 0 0 (l.map fW)=true:=ig Xj l
theorem ajw (n m:Nat) (l:List It):D.kZ n m (l.map fW)=l.map fW:=mI Xj n m l
theorem ajx (n m:Nat) (i:It):D.gH n m (fW i)=fW i:=iC n m _ (Xj i)
theorem ajy (x:It):(fW x).length=16:=nd rfl
theorem afi (x:It):List.take 13 (fW x)=bj x.s:=by simp only[fW,eK];rfl
theorem Xk (x:It):(fW x)[0]? = some (.int .i64 x.s.id):=nd rfl
theorem TU (x:It):(fW x)[13]? = some (.int .i64 x.deep):=nd rfl
theorem Hq (s:Sm) (d n:Int) (e:Bool):fW ⟨s,d,n,e⟩ = [.int .i64 s.id, .int .i64 s.kind, .slice .shared 1 (s.labels.map encStr), .str s.name, .str s.proc,
 .int .i64 s.x.op, .int .i64 s.x.n, .str s.x.name, .slice .shared 4 (s.x.kids.map bS), .bool s.has, .slice .shared 6 (s.args.map eC), .slice .shared 13 (s.bb.map bj), .slice .shared 13 (s.aP.map bj), .int .i64 d, .int .i64 n, .bool e]:=nd rfl
attribute [go_sem] ajw ajx ajy afi Xk TU
theorem Li (deep cu:Int) (aP:Bool) (out:List It) (s:Sm) :
 iu deep cu aP out s=if decide (deep≤12)then dN (deep+1) s.id true (dN (deep+1) s.id false (out++ [⟨s,deep,cu,aP⟩]) s.bb) s.aP else out++ [⟨s,deep,cu,aP⟩]:=by
 cases s;simp only[iu]
mutual
theorem TV (deep cu:Int) (aP:Bool) (out:List It) (h:out.length≤200) : ∀ s:Sm,(iu deep cu aP out s).length≤201
 |⟨id,kind,labels,name,proc,x,has,args,bb,e⟩=>by
  simp only[iu]
  have h1:(out++ [(⟨⟨id,kind,labels,name,proc,x,has,args,bb,e⟩,deep,cu,aP⟩:It)]).length≤201:=by simp;omega
  split
  ·exact lS _ _ _ _ (lS _ _ _ _ h1 bb) e
  ·exact h1
theorem lS (deep cu:Int) (aP:Bool) (out:List It) (h:out.length≤201) : ∀ l:List Sm,(dN deep cu aP out l).length≤201
 | []=>by simpa only[dN]using h
 | s::l=>by
  simp only[dN]
  split
  ·rename_i hc
   simp only[decide_eq_true_eq]at hc
   exact lS deep cu aP _ (TV _ _ _ _ (by omega) s) l
  ·exact h
end
abbrev TW (N:Nat):Prop:=∀ (l:List Sm) (deep cu:Int) (aP:Bool) (out:List It),Sm.a7 l<N→0≤deep→deep≤13→out.length≤201→∀ {s:St} {t:Nat},s.ay[t]? = some (some out.length)→
 aF Tryz.prog nj [.slice .shared 13 (l.map bj), .int .i64 deep, .int .i64 cu, .bool aP, .slice (.tok t) 16 (out.map fW)] s (.slice (.tok t) 16 ((dN deep cu aP out l).map fW)) ⟨s.ah,s.ay.set t (some (dN deep cu aP out l).length)⟩
theorem afj {N:Nat} (hN:N<4611686018427387904) (ih:TW N) {l:List Sm} {deep cu:Int} {aP:Bool} {out:List It} (hs:Sm.a7 l<N+1) (Ii:0≤deep) (hd:deep≤13) (ho:out.length≤201) :
 aF Tryz.prog nj [.slice .shared 13 (l.map bj), .int .i64 deep, .int .i64 cu, .bool aP, .slice (.tok 0) 16 (out.map fW)] ⟨[],[some out.length]⟩ (.slice (.tok 0) 16 ((dN deep cu aP out l).map fW)) ⟨[],[some (dN deep cu aP out l).length]⟩:=by
 generalize hR:dN deep cu aP out l=R
 refine aF.go Bs rfl fun B Q hB hQ=>?_
 have⟨hD,hY,hZ,gA⟩:=bN
 repeat' (first
 |simp only[go_sem,hD,hY,hZ,gA]
 |(with_reducible refine aE hQ ?_;exact bo))
 refine fc 0 1 (br.ind (ι:=List Sm×Nat×List It×Nat) (fun i=>l.drop i.2.1=i.1∧dN deep cu aP i.2.2.1 i.1=R∧i.2.2.1.length≤201∧i.2.2.2=i.2.2.1.length) (fun i=>i.1.length)
  (fun i=> [(0, .slice .shared 13 (l.map bj)),(1, .int .i64 deep),(2, .int .i64 cu),(3, .bool aP),(4, .slice (.tok 0) 16 (i.2.2.1.map fW)),(11, .int .i64 (i.2.1:Int))]) (fun i=>⟨[],[some i.2.2.2]⟩) ?_ (l,0,out,out.length) ⟨rfl,hR,ho,rfl⟩)
 rintro⟨rest,k,out,n⟩ ⟨h1,h2,h3,h4⟩ IH
 dsimp only at h1 h2 h3 h4
 subst h4
 have hlen:l.length<4611686018427387904:=by have:=Sm.dS l;omega
 cases rest with
 |nil=>
  have hD:=drop_nil h1
  simp only[dN]at h2
  subst h2
  repeat' (first
 |simp only[go_sem,hD,hY,hZ,gA]
 |(with_reducible refine aE hQ ?_;exact bo))
 | cons v rest=>
  obtain⟨hY,g2,hD,g4⟩:=drop_cons h1
  have bW:k<4611686018427387904:=by omega
  have hv:=Sm.df (List.mem_of_getElem? hY)
  have pQ:Sm.a7 v.bb<N∧Sm.a7 v.aP<N:=by
   obtain⟨_,_,_,_,_,_,_,_,_,_⟩:=v
   simp only[Sm.size]at hv ⊢;omega
  simp only[dN]at h2
  by_cases hc:out.length≤200
  ·have c1:decide ((out.length:Int)≤200)=true:=by simp;omega
   simp only[c1,↓reduceIte,Li]at h2
   have hZ:(out.length+1)*233≤bx:=by unfold bx;omega
   have jc:(out++ [(⟨v,deep,cu,aP⟩:It)]).length≤201:=by simp;omega
   have hw:IntKind.wrap .i64 (deep+1)=deep+1:=ek (by omega) (by omega)
   by_cases aqw:deep≤12
   ·have c2:decide (deep≤12)=true:=by simp;omega
    simp only[c2,↓reduceIte]at h2
    have f1:=fun {s:St} {t:Nat} (ht:s.ay[t]? = some (some (out++ [(⟨v,deep,cu,aP⟩:It)]).length))=>ih v.bb (deep+1) v.id false _ pQ.1 (by omega) (by omega) jc ht
    have f2:=fun {s:St} {t:Nat} (ht:s.ay[t]? = some (some (dN (deep+1) v.id false (out++ [(⟨v,deep,cu,aP⟩:It)]) v.bb).length))=>ih v.aP (deep+1) v.id true _ pQ.2 (by omega) (by omega) (lS _ _ _ _ jc _) ht
    simp only[List.map_append,List.map_cons,List.map_nil,Hq,List.length_append,List.length_cons,List.length_nil]at f1
    repeat' (first
 |simp only[go_sem,hD,hY,hZ,gA,c1,c2,hw,eK]
 |(with_reducible refine CU (f1 (by with_unfolding_all rfl)) ?_)
 |(with_reducible refine CU (f2 (by with_unfolding_all rfl)) ?_)
 | (with_reducible refine aE hQ ?_;exact bo))
    refine fe 0 1 ?_ ?_ (IH (rest,k+1,_,_) ⟨g2,h2,lS _ _ _ _ (lS _ _ _ _ jc _) _,rfl⟩ (Nat.lt_succ_self _))
    ·(simp only[go_sem,hD,hY,hZ,gA,aJ bW];try exact cq)
    ·(simp only[go_sem,hD,hY,hZ,gA,aJ bW];try exact cq)
   ·have c2:decide (deep≤12)=false:=by simp;omega
    simp only[c2,Bool.false_eq_true,↓reduceIte]at h2
    repeat' (first
 |simp only[go_sem,hD,hY,hZ,gA,c1,c2,eK]
 | (with_reducible refine aE hQ ?_;exact bo))
    refine fe 0 1 ?_ ?_ (IH (rest,k+1,out++ [⟨v,deep,cu,aP⟩],out.length+1) ⟨g2,h2,jc,by simp⟩ (Nat.lt_succ_self _))
    ·(simp only[go_sem,hD,hY,hZ,gA,aJ bW,Hq,List.map_append,List.map_cons,List.map_nil];try exact cq)
    ·(simp only[go_sem,hD,hY,hZ,gA,aJ bW,Hq,List.map_append,List.map_cons,List.map_nil];try exact cq)
  ·have c1:decide ((out.length:Int)≤200)=false:=by simp;omega
   simp only[c1,Bool.false_eq_true,↓reduceIte]at h2
   subst h2
   repeat' (first
 |simp only[go_sem,hD,hY,hZ,gA,c1]
 |(with_reducible refine aE hQ ?_;exact bo))
theorem Xl : ∀ N,N<4611686018427387904→TW N:=by
 intro N
 induction N with
 |zero=>exact fun _ l deep cu aP out h=>absurd h (Nat.not_lt_zero _)
 |succ N ih=>
  intro h l deep cu aP out hs Ii hd ho s t ht
  exact(afj (by omega) (ih (by omega)) hs Ii hd ho).adz (pre:= [_,_,_,_]) (post:= []) (by simp[D.bJ,D.ok,Tag.ok,oy]) rfl (FW out) (FW _) ht
theorem Xm {l:List Sm} (hs:Sm.a7 l<4611686018427387000) (s:St) :
 aF Tryz.prog nj [.slice .shared 13 (l.map bj), .int .i64 1, .int .i64 0, .bool false, .slice .full 0 []] s (.slice .shared 16 ((dN 1 0 false [] l).map fW)) s:=by
 refine aF.pure ?_ (by simp[D.bJ,D.ok,Tag.ok,oy,D.gL]) (by simp[D.ok,Tag.ok,FW]) s
 obtain⟨N,hN⟩ : ∃ N,N=Sm.a7 l:=⟨_,rfl⟩
 have ih:=Xl N (by omega)
 replace hs:Sm.a7 l<N+1∧N<4611686018427387000:=by omega
 obtain⟨hs,hN⟩:=hs
 generalize hR:dN 1 0 false [] l=R
 obtain⟨deep,Ra⟩ : ∃ d:Int,d=1:=⟨_,rfl⟩
 obtain⟨cu,Xn⟩ : ∃ d:Int,d=0:=⟨_,rfl⟩
 obtain⟨aP,Xo⟩ : ∃ d:Bool,d=false:=⟨_,rfl⟩
 rw[← Ra, ← Xn, ← Xo]at hR
 rw[← Ra, ← Xn, ← Xo]
 have Ii:0≤deep:=by omega
 have hd:deep≤13:=by omega
 clear Ra Xn Xo
 have ho:([] : List It).length≤201:=Nat.zero_le _
 unfold S0
 refine aF.go Bs rfl fun B Q hB hQ=>?_
 have⟨hD,hY,hZ,gA⟩:=bN
 repeat' (first
 |simp only[go_sem,hD,hY,hZ,gA]
 |(with_reducible refine aE hQ ?_;exact bo))
 refine br.rn 4 16 rfl ?_
 simp only[go_sem,hD,hY,hZ,gA]
 refine fc 0 1 (br.ind (ι:=List Sm×Nat×List It×Nat) (fun i=>l.drop i.2.1=i.1∧dN deep cu aP i.2.2.1 i.1=R∧i.2.2.1.length≤201∧i.2.2.2=i.2.2.1.length) (fun i=>i.1.length)
  (fun i=> [(0, .slice .shared 13 (l.map bj)),(1, .int .i64 deep),(2, .int .i64 cu),(3, .bool aP),(4, .slice (.tok 0) 16 (i.2.2.1.map fW)),(11, .int .i64 (i.2.1:Int))]) (fun i=>⟨[],[some i.2.2.2]⟩) ?_ (l,0,[],0) ⟨rfl,hR,ho,rfl⟩)
 rintro⟨rest,k,out,n⟩ ⟨h1,h2,h3,h4⟩ IH
 dsimp only at h1 h2 h3 h4
 subst h4
 have hlen:l.length<4611686018427387904:=by have:=Sm.dS l;omega
 cases rest with
 |nil=>
  have hD:=drop_nil h1
  simp only[dN]at h2
  subst h2
  repeat' (first
 |simp only[go_sem,hD,hY,hZ,gA]
 |(with_reducible refine aE hQ ?_;exact bo))
 | cons v rest=>
  obtain⟨hY,g2,hD,g4⟩:=drop_cons h1
  have bW:k<4611686018427387904:=by omega
  have hv:=Sm.df (List.mem_of_getElem? hY)
  have pQ:Sm.a7 v.bb<N∧Sm.a7 v.aP<N:=by
   obtain⟨_,_,_,_,_,_,_,_,_,_⟩:=v
   simp only[Sm.size]at hv ⊢;omega
  simp only[dN]at h2
  by_cases hc:out.length≤200
  ·have c1:decide ((out.length:Int)≤200)=true:=by simp;omega
   simp only[c1,↓reduceIte,Li]at h2
   have hZ:(out.length+1)*233≤bx:=by unfold bx;omega
   have jc:(out++ [(⟨v,deep,cu,aP⟩:It)]).length≤201:=by simp;omega
   have hw:IntKind.wrap .i64 (deep+1)=deep+1:=ek (by omega) (by omega)
   by_cases aqw:deep≤12
   ·have c2:decide (deep≤12)=true:=by simp;omega
    simp only[c2,↓reduceIte]at h2
    have f1:=fun {s:St} {t:Nat} (ht:s.ay[t]? = some (some (out++ [(⟨v,deep,cu,aP⟩:It)]).length))=>ih v.bb (deep+1) v.id false _ pQ.1 (by omega) (by omega) jc ht
    have f2:=fun {s:St} {t:Nat} (ht:s.ay[t]? = some (some (dN (deep+1) v.id false (out++ [(⟨v,deep,cu,aP⟩:It)]) v.bb).length))=>ih v.aP (deep+1) v.id true _ pQ.2 (by omega) (by omega) (lS _ _ _ _ jc _) ht
    simp only[List.map_append,List.map_cons,List.map_nil,Hq,List.length_append,List.length_cons,List.length_nil]at f1
    repeat' (first
 |simp only[go_sem,hD,hY,hZ,gA,c1,c2,hw,eK]
 |(with_reducible refine CU (f1 (by with_unfolding_all rfl)) ?_)
 |(with_reducible refine CU (f2 (by with_unfolding_all rfl)) ?_)
 | (with_reducible refine aE hQ ?_;exact bo))
    refine fe 0 1 ?_ ?_ (IH (rest,k+1,_,_) ⟨g2,h2,lS _ _ _ _ (lS _ _ _ _ jc _) _,rfl⟩ (Nat.lt_succ_self _))
    ·(simp only[go_sem,hD,hY,hZ,gA,aJ bW];try exact cq)
    ·(simp only[go_sem,hD,hY,hZ,gA,aJ bW];try exact cq)
   ·have c2:decide (deep≤12)=false:=by simp;omega
    simp only[c2,Bool.false_eq_true,↓reduceIte]at h2
    repeat' (first
 |simp only[go_sem,hD,hY,hZ,gA,c1,c2,eK]
 | (with_reducible refine aE hQ ?_;exact bo))
    refine fe 0 1 ?_ ?_ (IH (rest,k+1,out++ [⟨v,deep,cu,aP⟩],out.length+1) ⟨g2,h2,jc,by simp⟩ (Nat.lt_succ_self _))
    ·(simp only[go_sem,hD,hY,hZ,gA,aJ bW,Hq,List.map_append,List.map_cons,List.map_nil];try exact cq)
    ·(simp only[go_sem,hD,hY,hZ,gA,aJ bW,Hq,List.map_append,List.map_cons,List.map_nil];try exact cq)
  ·have c1:decide ((out.length:Int)≤200)=false:=by simp;omega
   simp only[c1,Bool.false_eq_true,↓reduceIte]at h2
   subst h2
   repeat' (first
 |simp only[go_sem,hD,hY,hZ,gA,c1]
 |(with_reducible refine aE hQ ?_;exact bo))
theorem afk {f:Pc} (hs:Sm.a7 f.body<4611686018427387000) (s:St):aF Tryz.prog yr [.agg (cy f)] s (.slice .shared 16 (f.flat.map fW)) s:=by
 refine aF.pure ?_ (by simp only[D.bJ,D.ok,yj];rfl) (by simp[D.ok,Tag.ok,FW]) s
 have h:=fun s=>Xm hs s
 unfold S0
 refine aF.go Jr rfl fun B Q hB hQ=>?_
 have⟨hD,hY,hZ,gA⟩:=bN
 repeat' (first
 |simp only[go_sem,hD,hY,hZ,gA,Pc.flat]
 |(with_reducible refine CU (h _) ?_)
 |(with_reducible first|refine bk fun hc=>?_|refine bl fun hc=>?_|refine bm (fun hc=>?_) fun hc=>?_)<;>(try simp only[hc,bs,↓reduceIte]at h)<;>try simp only[hc]
 |(with_reducible refine aE hQ ?_;simp only[aT,aV,bE,bF,go_sem,hD,hY,hZ,gA,Pc.flat];try exact cf))
end Go.Abs
namespace Go.Abs
set_option maxRecDepth 8000
open Go.Proofs
theorem Pc.Xp (f:Pc):f.flat.length≤201:=lS _ _ _ _ (Nat.zero_le _) _
theorem ajz {p:Pg} (hs:Pc.a7 p.procs<4611686018427387000) (s:St):aF Tryz.prog Ai [.agg (cB p)] s (.slice .shared 16 (p.all.map fW)) s:=by
 refine aF.pure ?_ (by simp only[D.bJ,D.ok,jq];rfl) (by simp[D.ok,Tag.ok,FW]) s
 have hlen:p.procs.length<4611686018427387904:=by have:=Pc.dS p.procs;omega
 generalize hR:p.all=R
 unfold Pg.all at hR
 unfold S0
 refine aF.go K7 rfl fun B Q hB hQ=>?_
 have⟨hD,hY,hZ,gA⟩:=bN
 repeat' (first
 |simp only[go_sem,hD,hY,hZ,gA]
 |(with_reducible refine aE hQ ?_;exact bo))
 refine br.rn 3 16 rfl ?_
 simp only[go_sem,hD,hY,hZ,gA]
 refine fc 1 1 (br.ind (ι:=List Pc×Nat×List It×Nat) (fun i=>p.procs.drop i.2.1=i.1∧allM i.2.2.1 i.1=R∧i.2.2.1.length≤200∧i.2.2.2=i.2.2.1.length) (fun i=>i.1.length)
  (fun i=> [(1, .ptr 0 0),(3, .slice (.tok 0) 16 (i.2.2.1.map fW)),(7, .slice .shared 5 (p.procs.map cy)),(8, .int .i64 (p.procs.length:Int)),(9, .int .i64 (i.2.1:Int))]) (fun i=>⟨[cB p],[some i.2.2.2]⟩) ?_ (p.procs,0,[],0) ⟨rfl,hR,Nat.zero_le _,rfl⟩)
 rintro⟨rest,k,out,n⟩ ⟨h1,h,h3,h4⟩ IH
 dsimp only at h1 h h3 h4
 subst h4
 cases rest with
 |nil=>
  have hD:=drop_nil h1
  simp only[allM]at h
  subst h
  repeat' (first
 |simp only[go_sem,hD,hY,hZ,gA]
 |(with_reducible refine aE hQ ?_;exact bo))
 |cons f rest=>
  obtain⟨hY,g2,hD,g4⟩:=drop_cons h1
  have bW:k<4611686018427387904:=by omega
  have hf:=Pc.df (List.mem_of_getElem? hY)
  have hb:Sm.a7 f.body<4611686018427387000:=by simp only[Pc.size]at hf;omega
  have iJ:=fun s=>afk hb s
  have ayM:=f.Xp
  have hZ:(out.length+f.flat.length)*233≤bx:=by unfold bx;omega
  simp only[allM,List.length_append]at h
  have fb:=fun(o:List (List D))=>ox (size:=16) (bytes:=232) (t:=0) (rows:=out.map fW) (new:=f.flat.map fW) (g:= .shared) (s:=⟨o,[some out.length]⟩) (by simpa using hZ) (by simp)
  repeat' (first
 |simp only[go_sem,hD,hY,hZ,gA,fb]
 |(with_reducible refine CU (iJ _) ?_)
 |(with_reducible first|refine bk fun hc=>?_|refine bl fun hc=>?_|refine bm (fun hc=>?_) fun hc=>?_)<;>(try simp only[hc,bs,↓reduceIte]at h)<;>try simp only[hc]
 |(with_reducible refine aE hQ ?_;(try cases h);simp only[aT,aV,bE,bF,go_sem,hD,hY,hZ,gA,fb];try exact cf))
  refine fe 1 1 ?_ ?_ (IH (rest,k+1,out++f.flat,out.length+f.flat.length) ⟨g2,h,by rename_i hc;simp only[decide_eq_false_iff_not]at hc;simp only[List.length_append];omega,by simp⟩ (Nat.lt_succ_self _))
  ·(simp only[go_sem,hD,hY,hZ,gA,aJ bW];try exact cq)
  ·(simp only[go_sem,hD,hY,hZ,gA,aJ bW];try exact cq)
structure Pg.va (p:Pg):Prop where
 sz:p.size<4611686018427387000
 ve : ∀ t∈p.globals,t.length<4611686018427387904
 mC : ∀ f∈p.procs,f.name.length<4611686018427387904∧(∀ t∈f.vars,t.length<4611686018427387904)∧(∀ t∈f.fin,t.length<4611686018427387904)∧∀ a∈f.params,a.name.length<4611686018427387904
 items : ∀ i∈p.all,i.s.va
def gate (nest:Int) (len n:Nat) (r:Bool×Nat):Bool×Nat:=if decide (nest > 12) && decide ((len:Int) > 0)then(false,n)else r
mutual
def Sm.qJ (nest:Int) (n:Nat):Sm→Bool×Nat
 |⟨id,kind,labels,name,proc,x,has,args,bb,aP⟩=>
  if decide (((n+1:Nat):Int) > 200) ||id != ((n+1:Nat):Int) || !(e7 labels) || !(Sm.fields ⟨id,kind,labels,name,proc,x,has,args,bb,aP⟩)then(false,n+1)
  else if !(gate (nest+1) bb.length (n+1) (Sm.fz (nest+1) (n+1) bb)).1 then(false,(gate (nest+1) bb.length (n+1) (Sm.fz (nest+1) (n+1) bb)).2)
  else gate (nest+1) aP.length (gate (nest+1) bb.length (n+1) (Sm.fz (nest+1) (n+1) bb)).2 (Sm.fz (nest+1) (gate (nest+1) bb.length (n+1) (Sm.fz (nest+1) (n+1) bb)).2 aP)
def Sm.fz (nest:Int) (n:Nat):List Sm→Bool×Nat
 | []=>(true,n)
 |s::l=>if !(Sm.qJ nest n s).1 then(false,(Sm.qJ nest n s).2)else Sm.fz nest (Sm.qJ nest n s).2 l
end
def Sm.gI (nest:Int) (n:Nat) (l:List Sm):Bool×Nat:=gate nest l.length n (Sm.fz nest n l)
theorem Hr (nest:Int) (n:Nat) (s:Sm):Sm.qJ nest n s =
 if decide (((n+1:Nat):Int) > 200) ||s.id != ((n+1:Nat):Int) || !(e7 s.labels) || !(s.fields)then(false,n+1)
 else if !(Sm.gI (nest+1) (n+1) s.bb).1 then(false,(Sm.gI (nest+1) (n+1) s.bb).2)
 else Sm.gI (nest+1) (Sm.gI (nest+1) (n+1) s.bb).2 s.aP:=by
 cases s;simp only[Sm.qJ,Sm.gI];rfl
mutual
def Sm.xE:Sm→Prop
 |⟨id,kind,labels,name,proc,x,has,args,bb,aP⟩=>Sm.va ⟨id,kind,labels,name,proc,x,has,args,bb,aP⟩∧Sm.kX bb∧Sm.kX aP
def Sm.kX:List Sm→Prop
 | []=>True
 |s::l=>s.xE∧Sm.kX l
end
theorem EL (s:Sm):s.xE↔s.va∧Sm.kX s.bb∧Sm.kX s.aP:=by cases s;simp only[Sm.xE]
theorem FX {s:Sm} : ∀ {l:List Sm},Sm.kX l→s∈l→s.xE
 |y::l,h,m=>by
  simp only[Sm.kX]at h
  rcases List.mem_cons.1 m with rfl|m
  ·exact h.1
  ·exact FX h.2 m
mutual
theorem abO (nest:Int) (n:Nat) : ∀ s:Sm,n≤201→(Sm.qJ nest n s).2≤202∧((Sm.qJ nest n s).1=true→(Sm.qJ nest n s).2≤200)
 | ⟨id,kind,labels,name,proc,x,has,args,bb,aP⟩,hn=>by
  simp only[Sm.qJ]
  split
  ·exact⟨by dsimp only;omega,fun h=>by cases h⟩
  rename_i hc
  simp only[Bool.or_eq_true,decide_eq_true_eq,not_or]at hc
  have Bt:n+1≤200:=by omega
  have g1 : ∀ (nest:Int) (l:List Sm) (m:Nat),m≤200→(Sm.fz nest m l).2≤202∧((Sm.fz nest m l).1=true→(Sm.fz nest m l).2≤200)→
   (gate nest l.length m (Sm.fz nest m l)).2≤202∧((gate nest l.length m (Sm.fz nest m l)).1=true→(gate nest l.length m (Sm.fz nest m l)).2≤200):=by
   intro nest l m hm h
   unfold gate
   split
   ·exact⟨by dsimp only;omega,fun h=>by cases h⟩
   ·exact h
  have h1:=g1 (nest+1) bb (n+1) Bt (Dr (nest+1) (n+1) bb Bt)
  split
  ·exact⟨h1.1,fun h=>by cases h⟩
  rename_i J9
  have h2:=h1.2 (by simpa using J9)
  exact g1 (nest+1) aP _ h2 (Dr (nest+1) _ aP h2)
theorem Dr (nest:Int) (n:Nat) : ∀ l:List Sm,n≤200→(Sm.fz nest n l).2≤202∧((Sm.fz nest n l).1=true→(Sm.fz nest n l).2≤200)
 | [],hn=>by simp only[Sm.fz];exact⟨by omega,fun _=>hn⟩
 |s::l,hn=>by
  simp only[Sm.fz]
  have h1:=abO nest n s (by omega)
  split
  ·exact⟨h1.1,fun h=>by cases h⟩
  rename_i hc
  exact Dr nest _ l (h1.2 (by simpa using hc))
end
theorem Hs {nest:Int} {n:Nat} {l:List Sm} (hn:n≤200):(Sm.gI nest n l).2≤202∧((Sm.gI nest n l).1=true→(Sm.gI nest n l).2≤200):=by
 unfold Sm.gI gate
 split
 ·exact⟨by dsimp only;omega,fun h=>by cases h⟩
 ·exact Dr nest n l hn
theorem abP : ∀ (m:Nat) (l:List Sm),Sm.a7 l≤m→Sm.a7 l<4611686018427387000→Sm.kX l→∀ (nest:Int) (n:Nat),0≤nest→nest≤13→n≤200→
 aF Tryz.prog kW [.ptr 0 0, .slice .shared 13 (l.map bj), .int .i64 nest] ⟨[[.int .i64 n]],[]⟩ (.bool (Sm.gI nest n l).1) ⟨[[.int .i64 (Sm.gI nest n l).2]],[]⟩:=by
 intro m
 induction m with
 | zero=>
  intro l h hs hf nest n h0 h13 hn
  cases l with
  |nil=>
   have d1:decide ((0:Int) > 0)=false:=rfl
   have e:Sm.gI nest n [] = (true,n):=by simp[Sm.gI,gate,Sm.fz]
   have z:decide ((0:Int)<0)=false:=rfl
   rw[e]
   refine aF.go sy rfl fun B Q hB hQ=>?_
   have⟨hD,hY,hZ,gA⟩:=bN
   repeat' (first
 |simp only[go_sem,hD,hY,hZ,gA,d1,z]
 |(with_reducible refine br.lE ?_)
 |(with_reducible first|refine bk fun hc=>?_|refine bl fun hc=>?_|refine bm (fun hc=>?_) fun hc=>?_)<;>(try simp only[hc,bs,↓reduceIte]at h)<;>try simp only[hc]
 |(with_reducible refine aE hQ ?_;exact bo))
  |cons s l=>simp only[Sm.a7]at h;omega
 |succ m ih=>
  intro l h hs hf nest n h0 h13 hn
  generalize hR:Sm.gI nest n l=R
  have hlen:=Sm.dS l
  unfold Sm.gI gate at hR
  have h:=hR
  refine aF.go sy rfl fun B Q hB hQ=>?_
  have⟨hD,hY,hZ,gA⟩:=bN
  repeat' (first
 |simp only[go_sem,hD,hY,hZ,gA]
 |(with_reducible first|refine bk fun hc=>?_|refine bl fun hc=>?_|refine bm (fun hc=>?_) fun hc=>?_)<;>(try simp only[hc,bs,↓reduceIte]at h)<;>try simp only[hc]
 | (with_reducible refine aE hQ ?_;(try cases h);simp only [aT,aV,bE,bF,go_sem,hD,hY,hZ,gA];repeat' (first | exact Ok.out | with_reducible refine jn ?_ ?_ | (simp;done))))
  all_goals
   have ajA:l≠ []→nest≤12:=by
    intro eW
    have:l.length≠0:=by simpa using eW
    simp_all<;>omega
   refine fc 1 0 (br.ind (ι:=List Sm×Nat×Nat) (fun i=>l.drop i.2.1=i.1∧Sm.fz nest i.2.2 i.1=R∧i.2.2≤200) (fun i=>i.1.length)
    (fun i=> [(0, .ptr 0 0),(2, .int .i64 nest),(16, .slice .shared 13 (l.map bj)),(17, .int .i64 (l.length:Int)),(18, .int .i64 (i.2.1:Int))]) (fun i=>⟨[[.int .i64 (i.2.2:Int)]],[]⟩) ?_ (l,0,n) ⟨rfl,h,hn⟩)
   rintro⟨rest,k,j⟩ ⟨h1,h,hj⟩ IH
   dsimp only at h1 h hj
   cases rest with
   |nil=>
    have hD:=drop_nil h1
    simp only[Sm.fz]at h
    repeat' (first
 |simp only[go_sem,hD,hY,hZ,gA]
 |(with_reducible first|refine bk fun hc=>?_|refine bl fun hc=>?_|refine bm (fun hc=>?_) fun hc=>?_)<;>(try simp only[hc,bs,↓reduceIte]at h)<;>try simp only[hc]
 | (with_reducible refine aE hQ ?_;exact fD))
   | cons s rest=>
    obtain⟨hY,g2,hD,g4⟩:=drop_cons h1
    have hZ:k<4611686018427387904:=by omega
    have gN:=List.mem_of_getElem? hY
    have dP:=Sm.df gN
    have ayN:=ajA (by rintro rfl;simp at gN)
    obtain⟨Fm,hft,hfe⟩:=(EL s).1 (FX hf gN)
    have VC:Sm.a7 s.bb<s.size∧Sm.a7 s.aP<s.size:=by cases s;simp only[Sm.size];omega
    have w1:IntKind.wrap .i64 ((j:Int)+1)=((j+1:Nat):Int):=by rw[ek]<;>omega
    have w2:IntKind.wrap .i64 (nest+1)=nest+1:=ek (by omega) (by omega)
    have c1:=fun s=>Ax Fm.aqs Fm.Ig s
    have c2:=fun s=>Xi Fm s
    simp only[Sm.fz,Hr]at h
    by_cases TX:j+1≤200
    ·have r1:=Hs (nest:=nest+1) (l:=s.bb) TX
     have c3:=fun s' ho=>(ih s.bb (by omega) (by omega) hft (nest+1) (j+1) (by omega) (by omega) TX).VI (s:=s') (o:=0) (by simp[D.bJ,D.ok,oy,Tag.ok]) rfl rfl rfl ho
     by_cases xu:(Sm.gI (nest+1) (j+1) s.bb).1=true
     ·have c4:=fun s' ho=>(ih s.aP (by omega) (by omega) hfe (nest+1) _ (by omega) (by omega) (r1.2 xu)).VI (s:=s') (o:=0) (by simp [D.bJ,D.ok,oy,Tag.ok]) rfl rfl rfl ho
      have r2:=Hs (nest:=nest+1) (l:=s.aP) (r1.2 xu)
      simp only[xu]at c3
      simp only[xu,Bool.not_true,Bool.false_eq_true,↓reduceIte]at h
      repeat' (first
 |simp only[go_sem,hD,hY,hZ,gA,w1,w2,xu]
 |(with_reducible refine CU (c1 _) ?_)
 |(with_reducible refine CU (c2 _) ?_)
 |(with_reducible refine CU (c3 _ rfl) ?_)
 |(with_reducible refine CU (c4 _ rfl) ?_)
 |(with_reducible first|refine bk fun hc=>?_|refine bl fun hc=>?_|refine bm (fun hc=>?_) fun hc=>?_)<;>(try simp only[hc,bs,↓reduceIte]at h)<;>try simp only[hc]
 |(with_reducible refine aE hQ ?_;(try cases h);simp only[aT,aV,bE,bF,go_sem,hD,hY,hZ,gA,w1,w2,xu];try exact cf))
      refine fc 1 0 (IH (rest,k+1,(Sm.gI (nest+1) (Sm.gI (nest+1) (j+1) s.bb).2 s.aP).2) ⟨g2,h,r2.2 (by assumption)⟩ (Nat.lt_succ_self _))
     ·have xu:(Sm.gI (nest+1) (j+1) s.bb).1=false:=by simpa using xu
      simp only[xu]at c3
      simp only[xu,Bool.not_false,↓reduceIte]at h
      repeat' (first
 |simp only[go_sem,hD,hY,hZ,gA,w1,w2,xu]
 |(with_reducible refine CU (c1 _) ?_)
 |(with_reducible refine CU (c2 _) ?_)
 |(with_reducible refine CU (c3 _ rfl) ?_)
 |(with_reducible first|refine bk fun hc=>?_|refine bl fun hc=>?_|refine bm (fun hc=>?_) fun hc=>?_)<;>(try simp only[hc,bs,↓reduceIte]at h)<;>try simp only[hc]
 | (with_reducible refine aE hQ ?_;(try cases h);simp only [aT,aV,bE,bF,go_sem,hD,hY,hZ,gA,w1,w2,xu];try exact cf))
    ·have d1:decide (((j+1:Nat):Int) > 200)=true:=by simp;omega
     simp only[d1,Bool.true_or,Bool.not_false,↓reduceIte]at h
     repeat' (first
 |simp only[go_sem,hD,hY,hZ,gA,w1,w2,d1]
 |(with_reducible refine CU (c1 _) ?_)
 |(with_reducible refine CU (c2 _) ?_)
 |(with_reducible first|refine bk fun hc=>?_|refine bl fun hc=>?_|refine bm (fun hc=>?_) fun hc=>?_)<;>(try simp only[hc,bs,↓reduceIte]at h)<;>try simp only[hc]
 |(with_reducible refine aE hQ ?_;(try cases h);simp only[aT,aV,bE,bF,go_sem,hD,hY,hZ,gA,w1,w2,d1];try exact cf))
def Pc.fz (n:Nat):List Pc→Bool
 | []=>true
 |f::l=>
  if decide ((f.params.length:Int) > 8) ||decide ((f.vars.length:Int) > 16) || !(isName f.name) || !(e7 f.vars) || !(e7 f.fin)then false
  else if !(Pm.fx f.params)then false
  else if !(Sm.gI 1 n f.body).1 then false
  else Pc.fz (Sm.gI 1 n f.body).2 l
def Pg.Ht (p:Pg):Bool:=
 if decide ((p.globals.length:Int) > 16) ||decide ((p.procs.length:Int) > 16) || !(e7 p.globals)then false
 else Pc.fz 0 p.procs
structure Pg.JQ (p:Pg):Prop where
 sz:p.size<4611686018427387000
 ve : ∀ t∈p.globals,t.length<4611686018427387904
 mC : ∀ f∈p.procs,f.name.length<4611686018427387904∧(∀ t∈f.vars,t.length<4611686018427387904)∧(∀ t∈f.fin,t.length<4611686018427387904)∧∀ a∈f.params,a.name.length<4611686018427387904
 body : ∀ f∈p.procs,Sm.kX f.body
theorem Lj {p:Pg} (hf:p.JQ) (s:St):aF Tryz.prog sj [.agg (cB p)] s (.bool p.Ht) s:=by
 refine aF.pure ?_ (by simp only[D.bJ,D.ok,jq];rfl) rfl s
 obtain⟨dP,sD,afl,Dg⟩:=hf
 have sE:Pc.a7 p.procs<4611686018427387000:=by simp only[Pg.size]at dP;omega
 have ajB:p.globals.length<4611686018427387904:=by simp only[Pg.size]at dP;omega
 have ayC:p.procs.length<4611686018427387904:=by have:=Pc.dS p.procs;omega
 have hg:=fun s=>Ax ajB sD s
 unfold S0
 generalize h:p.Ht=R
 unfold Pg.Ht at h
 refine aF.go K5 rfl fun B Q hB hQ=>?_
 have⟨hD,hY,hZ,gA⟩:=bN
 repeat' (first
 |simp only[go_sem,hD,hY,hZ,gA]
 |(with_reducible refine CU (hg _) ?_)
 |(with_reducible first|refine bk fun hc=>?_|refine bl fun hc=>?_|refine bm (fun hc=>?_) fun hc=>?_)<;>(try simp only[hc,bs,↓reduceIte]at h)<;>try simp only[hc]
 |(with_reducible refine aE hQ ?_;exact fD))
 refine fc 2 0 (br.ind (ι:=List Pc×Nat×Nat) (fun i=>p.procs.drop i.2.1=i.1∧Pc.fz i.2.2 i.1=R∧i.2.2≤200) (fun i=>i.1.length)
  (fun i=> [(1, .ptr 0 0),(3, .ptr 1 0),(27, .slice .shared 5 (p.procs.map cy)),(28, .int .i64 (p.procs.length:Int)),(29, .int .i64 (i.2.1:Int))]) (fun i=>⟨[cB p,[.int .i64 (i.2.2:Int)]],[]⟩) ?_ (p.procs,0,0) ⟨rfl,h,Nat.zero_le _⟩)
 rintro⟨rest,k,n⟩ ⟨h1,h,hn⟩ IH
 dsimp only at h1 h hn
 cases rest with
 |nil=>
  have hD:=drop_nil h1
  simp only[Pc.fz]at h
  repeat' (first
 |simp only[go_sem,hD,hY,hZ,gA]
 |(with_reducible first|refine bk fun hc=>?_|refine bl fun hc=>?_|refine bm (fun hc=>?_) fun hc=>?_)<;>(try simp only[hc,bs,↓reduceIte]at h)<;>try simp only[hc]
 |(with_reducible refine aE hQ ?_;exact fD))
 |cons f rest=>
  obtain⟨hY,g2,hD,g4⟩:=drop_cons h1
  have bW:k<4611686018427387904:=by omega
  have gN:=List.mem_of_getElem? hY
  have Bu:=Pc.df gN
  simp only[Pc.size]at Bu
  obtain⟨Bv,hfv,hff,hfp⟩:=afl f gN
  have hnm:=zC f.name Bv
  have hv:=fun s=>Ax (by omega) hfv s
  have he:=fun s=>Ax (by omega) hff s
  have hb:=fun s' o ho=>(abP _ f.body (Nat.le_refl _) (by omega) (Dg f gN) 1 n (by omega) (by omega) hn).VI (s:=s') (o:=o) (by simp[D.bJ,D.ok,oy,Tag.ok]) rfl rfl rfl ho
  have hle:=Hs (nest:=1) (l:=f.body) hn
  simp only[Pc.fz]at h
  repeat' (first
 |simp only[go_sem,hD,hY,hZ,gA]
 |(with_reducible refine CU (hnm _) ?_)
 |(with_reducible refine CU (hv _) ?_)
 |(with_reducible refine CU (he _) ?_)
 |(with_reducible first|refine bk fun hc=>?_|refine bl fun hc=>?_|refine bm (fun hc=>?_) fun hc=>?_)<;>(try simp only[hc,bs,↓reduceIte]at h)<;>try simp only[hc]
 |(with_reducible refine aE hQ ?_;exact fD)
 | (cases h;done))
  refine fc 3 0 (br.ind (ι:=List Pm×Nat) (fun i=>f.params.drop i.2=i.1∧(if !(Pm.fx i.1)then false else if !(Sm.gI 1 n f.body).1 then false else Pc.fz (Sm.gI 1 n f.body).2 rest)=R) (fun i=>i.1.length)
   (fun i=> [(1, .ptr 0 0),(3, .ptr 1 0),(5, .ptr 2 0),(27, .slice .shared 5 (p.procs.map cy)),(28, .int .i64 (p.procs.length:Int)),(29, .int .i64 (k:Int)),(62, .slice .shared 2 (f.params.map il)),(63, .int .i64 (f.params.length:Int)),(64, .int .i64 (i.2:Int))]) (fun i=>⟨[cB p,[.int .i64 (n:Int)],cy f],[]⟩) ?_ (f.params,0) ⟨rfl,h⟩)
  rintro⟨Rb,j⟩ ⟨j1,h⟩ FY
  dsimp only at j1 h
  cases Rb with
  |nil=>
   have hD:=drop_nil j1
   simp only[Pm.fx,Bool.not_true,Bool.false_eq_true,↓reduceIte]at h
   repeat' (first
 |simp only[go_sem,hD,hY,hZ,gA]
 |(with_reducible refine CU (hb _ _ rfl) ?_)
 |(with_reducible first|refine bk fun hc=>?_|refine bl fun hc=>?_|refine bm (fun hc=>?_) fun hc=>?_)<;>(try simp only[hc,bs,↓reduceIte]at h)<;>try simp only[hc]
 |(with_reducible refine aE hQ ?_;exact fD)
 | (cases h;done))
   refine fe 2 0 ?_ ?_ (IH (rest,k+1,(Sm.gI 1 n f.body).2) ⟨g2,h,hle.2 (by assumption)⟩ (Nat.lt_succ_self _))
   ·(simp only[go_sem,hD,hY,hZ,gA,aJ bW];try exact cq)
   ·(simp only[go_sem,hD,hY,hZ,gA,aJ bW];try exact cq)
  |cons a Rb=>
   obtain⟨hY,b2,hD,b4⟩:=drop_cons j1
   have TX:j<4611686018427387904:=by omega
   have ha:=zC a.name (hfp a (List.mem_of_getElem? hY))
   simp only[Pm.fx]at h
   repeat' (first
 |simp only[go_sem,hD,hY,hZ,gA]
 |(with_reducible refine CU (ha _) ?_)
 |(with_reducible first|refine bk fun hc=>?_|refine bl fun hc=>?_|refine bm (fun hc=>?_) fun hc=>?_)<;>(try simp only[hc,bs,↓reduceIte]at h)<;>try simp only[hc]
 |(with_reducible refine aE hQ ?_;exact fD)
 | (cases h;done))
   refine fe 3 0 ?_ ?_ (FY (Rb,j+1) ⟨b2,h⟩ (Nat.lt_succ_self _))
   ·(simp only[go_sem,hD,hY,hZ,gA,aJ TX];try exact cq)
   ·(simp only[go_sem,hD,hY,hZ,gA,aJ TX];try exact cq)
theorem Az {s:az} (h:isName s=true):s.length≤8:=by
 cases s with
 |nil=>simp
 | cons c r=>
  simp only[isName]at h
  split at h
  ·cases h
  ·rename_i hc
   simp only[Bool.or_eq_true,decide_eq_true_eq,not_or]at hc
   simp only[List.length_cons];omega
theorem p7 {t:az} : ∀ {l:List az},e7 l=true→t∈l→isName t=true
 | s::l,h,m=>by
  simp only[e7]at h
  cases hs:isName s
  ·simp[hs]at h
  ·simp [hs]at h
   rcases List.mem_cons.1 m with rfl|m
   ·exact hs
   ·exact p7 h m
theorem Lk {a:Ar} : ∀ {l:List Ar},Ar.fx l=true→a∈l→a.may=true
 | s::l,h,m=>by
  simp only[Ar.fx]at h
  cases hs:s.may
  ·simp[hs]at h
  ·simp [hs]at h
   rcases List.mem_cons.1 m with rfl|m
   ·exact hs
   ·exact Lk h m
theorem Ij {a:Pm} : ∀ {l:List Pm},Pm.fx l=true→a∈l→isName a.name=true
 | s::l,h,m=>by
  simp only[Pm.fx]at h
  cases hs:isName s.name
  ·simp[hs]at h
  ·simp [hs]at h
   rcases List.mem_cons.1 m with rfl|m
   ·exact hs
   ·exact Ij h m
mutual
theorem FZ : ∀ x:Ex,x.form=true→x.texts
 | ⟨op,n,name,kids⟩,h=>by
  simp only[Ex.form]at h
  split at h
  ·cases h
  ·rename_i hc
   refine⟨?_,Ec kids h⟩
   simp only[Bool.or_eq_true,Bool.and_eq_true,Bool.not_eq_true',not_or,not_and,Bool.not_eq_false]at hc
   cases hn:(name == [])
   ·have:=Az (hc.2 hn);omega
   ·simp at hn;subst hn;simp
theorem Ec : ∀ l:List Ex,Ex.qm l=true→Ex.wH l
 | [],_=>trivial
 | x::l,h=>by
  simp only[Ex.qm]at h
  cases hx:x.form
  ·simp[hx]at h
  ·simp [hx]at h
   exact⟨FZ x hx,Ec l h⟩
end
theorem Ik {x:Ex} (h:x.may=true):x.texts:=by
 unfold Ex.may at h
 simp only[Bool.and_eq_true]at h
 exact FZ x h.2
theorem F0 {x:Ex} (h:x.none=true):x.texts:=by
 obtain⟨op,n,name,kids⟩:=x
 simp[Ex.none]at h
 obtain⟨⟨_,h1⟩,h2⟩:=h
 subst h1 h2
 exact⟨by simp,trivial⟩
mutual
theorem TY {deep cu:Int} {aP:Bool} {out:List It} {i:It} : ∀ s:Sm,i∈iu deep cu aP out s→i∈out∨i.s.size≤s.size
 | ⟨id,kind,labels,name,proc,x,has,args,bb,e⟩,h=>by
  simp only[iu]at h
  have key:i∈out++ [(⟨⟨id,kind,labels,name,proc,x,has,args,bb,e⟩,deep,cu,aP⟩:It)]→i∈out∨i.s.size≤(⟨id,kind,labels,name,proc,x,has,args,bb,e⟩:Sm).size:=by
   intro h
   rcases List.mem_append.1 h with h|h
   ·exact .inl h
   ·simp at h;subst h;exact .inr (Nat.le_refl _)
  split at h
  ·rcases xF e h with h | h
   ·rcases xF bb h with h | h
    ·exact key h
    ·right;simp only[Sm.size];omega
   ·right;simp only[Sm.size];omega
  ·exact key h
theorem xF {deep cu:Int} {aP:Bool} {out:List It} {i:It} : ∀ l:List Sm,i∈dN deep cu aP out l→i∈out∨i.s.size<Sm.a7 l
 | [],h=>by simp only[dN]at h;exact .inl h
 | s::l,h=>by
  simp only[dN]at h
  split at h
  ·rcases xF l h with h | h
   ·rcases TY s h with h | h
    ·exact .inl h
    ·right;simp only[Sm.a7];omega
   ·right;simp only[Sm.a7];omega
  ·exact .inl h
end
theorem Ll {i:It} : ∀ (l:List Pc) (out:List It),i∈allM out l→i∈out∨i.s.size<Pc.a7 l
 | [],out,h=>by simp only[allM]at h;exact .inl h
 | f::l,out,h=>by
  have key:i∈out++f.flat→i∈out∨i.s.size<Pc.a7 (f::l):=by
   intro h
   rcases List.mem_append.1 h with h|h
   ·exact .inl h
   ·rcases xF _ h with h | h
    ·simp at h
    ·right;simp only[Pc.a7,Pc.size];omega
  simp only[allM]at h
  split at h
  ·exact key h
  ·rcases Ll l _ h with h | h
   ·exact key h
   ·right;simp only[Pc.a7];omega
theorem F1 {i:It} : ∀ (l:List It) (n:Nat),It.fx n l=true→i∈l→i.s.one=true
 | s::l,n,h,m=>by
  simp only[It.fx]at h
  split at h
  ·cases h
  ·rename_i hc
   simp only[Bool.or_eq_true,Bool.not_eq_true',not_or,Bool.not_eq_false]at hc
   rcases List.mem_cons.1 m with rfl|m
   ·exact hc.2
   ·exact F1 l (n+1) h m
theorem Lm {s:Sm} (h:s.one=true) (hs:s.size<4611686018427387000):s.va:=by
 unfold Sm.one at h
 split at h
 ·cases h
 split at h
 ·cases h
 split at h
 ·cases h
 split at h
 ·cases h
 rename_i c1 c2 c3 c4
 simp only[Bool.or_eq_true,Bool.and_eq_true,Bool.not_eq_true',not_or,not_and,Bool.not_eq_false,decide_eq_true_eq]at c1 c2 c3 c4
 obtain⟨⟨⟨⟨⟨_,_⟩,aqx⟩,cx⟩,cn⟩,_⟩:=c1
 obtain⟨c21,c22⟩:=c2
 obtain⟨⟨c31,c32⟩,c33⟩:=c3
 have nm : ∀ {t:az},isName t=true→t.length<4611686018427387904:=fun h=>by have:=Az h;omega
 have dP:1+s.labels.length+s.x.size+Ar.a7 s.args≤s.size:=by cases s;simp only[Sm.size];omega
 have vw:=Ar.dS s.args
 refine⟨fun t ht=>nm (p7 aqx ht),by omega, ?_, ?_,by omega, ?_,by omega,fun a ha=>?_⟩
 ·cases hn:s.hasName
  ·cases he:(s.name == [])
   ·exact nm (c22 ⟨hn,he⟩).2
   ·simp at he;rw[he];simp
  ·exact nm (c21 hn)
 ·cases pA:s.wI
  ·rw [pA]at c31
   have:s.proc = []:=by simpa using c31
   rw[this];simp
  ·exact nm (c32 pA)
 ·cases hx:s.Lf
  ·exact F0 (cn hx)
  ·exact Ik (cx hx)
 ·have hm:=Lk c4 ha
  have ZY:=Ar.df ha
  unfold Ar.may at hm
  split at hm
  ·simp only [Bool.and_eq_true]at hm
   exact⟨by omega,F0 hm.2,nm hm.1⟩
  ·simp only [Bool.and_eq_true,beq_iff_eq]at hm
   exact⟨by omega,Ik hm.2,by rw[hm.1];simp⟩
theorem Il {f:Pc} : ∀ {l:List Pc},Pc.mC l=true→f∈l→isName f.name=true∧e7 f.vars=true∧e7 f.fin=true∧Pm.fx f.params=true
 |s::l,h,m=>by
  simp only[Pc.mC]at h
  split at h
  ·cases h
  split at h
  ·cases h
  rename_i c1 c2
  simp only[Bool.or_eq_true,Bool.not_eq_true',not_or,Bool.not_eq_false]at c1 c2
  rcases List.mem_cons.1 m with rfl|m
  ·exact⟨c1.1.1.1.1,c1.1.2,c1.2,c2⟩
  ·exact Il h m
theorem Xq {p:Pg} (h:p.may=true) (hs:p.size<4611686018427387000):p.va:=by
 unfold Pg.may at h
 split at h
 ·cases h
 split at h
 ·cases h
 split at h
 ·cases h
 rename_i c1 c2 c3
 simp only[Bool.or_eq_true,Bool.not_eq_true',not_or,Bool.not_eq_false]at c1 c2
 have nm : ∀ {t:az},isName t=true→t.length<4611686018427387904:=fun h=>by have:=Az h;omega
 refine⟨hs,fun t ht=>nm (p7 c1.2 ht),fun f hf=>?_,fun i hi=>?_⟩
 ·obtain⟨a,b,c,d⟩:=Il c2 hf
  exact⟨nm a,fun t ht=>nm (p7 b ht),fun t ht=>nm (p7 c ht),fun t ht=>nm (Ij d ht)⟩
 ·refine Lm (F1 _ _ h hi) ?_
  rcases Ll _ _ hi with h1|h1
  ·simp at h1
  ·simp only[Pg.size]at hs;omega
theorem T1 {t:az} (h:isName t=true):t≠ []:=by rintro rfl;cases h
theorem Xr (op n:Int) (name:az) (kids:List Ex):Ex.form ⟨op,n,name,kids⟩=true↔
 mV op=(kids.length:Int)∧(op=1∨n=0)∧0≤n∧(op=2↔name≠ [])∧(name = []∨isName name=true)∧Ex.qm kids=true:=by
 simp only[Ex.form]
 split
 ·rename_i h
  simp only[Bool.or_eq_true,Bool.and_eq_true,bne_iff_ne,ne_eq,decide_eq_true_eq,Bool.not_eq_true']at h
  refine⟨fun h=>(Bool.false_ne_true h).elim,fun⟨h1,h2,h3,h4,h5,_⟩=>?_⟩
  exfalso
  rcases h with (((h|h)|h)|h)|h
  ·exact h h1
  ·rcases h2 with h2 | h2
   ·exact h.1 h2
   ·exact h.2 h2
  ·omega
  ·by_cases h2:op=2<;>cases name<;>simp_all
  ·rcases h5 with h5 | h5
   ·subst h5;simp at h
   ·rw[h5]at h;simp at h
 ·rename_i h
  simp only[Bool.or_eq_true,Bool.and_eq_true,bne_iff_ne,ne_eq,decide_eq_true_eq,Bool.not_eq_true',not_or,not_and,Decidable.not_not,Bool.not_eq_false]at h
  obtain⟨⟨⟨⟨h1,h2⟩,h3⟩,h4⟩,h5⟩:=h
  refine⟨fun h=>⟨h1, ?_,by omega, ?_, ?_,h⟩,fun h=>h.2.2.2.2.2⟩
  ·by_cases h:op=1
   ·exact .inl h
   ·exact .inr (h2 h)
  ·by_cases h2:op=2<;>cases name<;>simp_all
  ·cases name with
   |nil=>exact .inl rfl
   |cons c r=>exact .inr (h5 rfl)
theorem Ln (op n:Int) (name:az) (kids:List Ex) (k:Int):Ex.dp k ⟨op,n,name,kids⟩=true↔
 1≤k∧(kids.length:Int)=mV op∧(if op=1 then 0≤n∧name = []else if op=2 then n=0∧isName name=true else n=0∧name = []∧Ex.Cv (k - 1) kids=true):=by
 simp only[Ex.dp]
 split
 ·rename_i h
  simp only[Bool.or_eq_true,decide_eq_true_eq,bne_iff_ne,ne_eq]at h
  refine⟨fun h=>(Bool.false_ne_true h).elim,fun⟨h1,h2,_⟩=>?_⟩
  rcases h with h|h
  ·omega
  ·exact(h h2).elim
 rename_i h
 simp only[Bool.or_eq_true,decide_eq_true_eq,bne_iff_ne,ne_eq,not_or,Decidable.not_not]at h
 have h1:1≤k:=by omega
 simp only[h1,h.2,true_and]
 by_cases o1:op=1
 ·subst o1
  cases name<;>simp
 ·have o1' : ¬ (op==1)=true:=by simpa using o1
  rw[if_neg o1',if_neg o1]
  by_cases o2:op=2
  ·subst o2;simp
  ·have o2' : ¬ (op==2)=true:=by simpa using o2
   rw[if_neg o2',if_neg o2]
   by_cases hn:n=0
   ·subst hn
    cases name<;>simp
   ·simp[hn]
mutual
theorem ZZ : ∀ (x:Ex) (k:Int),0≤k→(x.dp k=true↔(x.depth:Int)≤k∧x.form=true)
 | ⟨op,n,name,kids⟩,k,hk=>by
  rw[Ln,Xr]
  have hd:Ex.depth ⟨op,n,name,kids⟩=Ex.nO kids+1:=by simp only[Ex.depth]
  rw[hd]
  by_cases h1:1≤k
  ·have ih:=T2 kids (k - 1) (by omega)
   by_cases o1:op=1
   ·subst o1
    have ha:mV 1=0:=rfl
    rw[ha,if_pos rfl]
    constructor
    ·rintro⟨_,h2,h3,h4⟩
     have:kids = []:=List.eq_nil_of_length_eq_zero (by omega)
     subst this;subst h4
     simp[Ex.nO,Ex.qm,h3];omega
    ·rintro⟨h2,h3,_,h4,h5,_⟩
     refine⟨h1,h3.symm,h4, ?_⟩
     cases name
     ·rfl
     ·simp at h5
   ·rw [if_neg o1]
    by_cases o2:op=2
    ·subst o2
     have ha:mV 2=0:=rfl
     rw[ha,if_pos rfl]
     constructor
     ·rintro⟨_,h2,h3,h4⟩
      have:kids = []:=List.eq_nil_of_length_eq_zero (by omega)
      subst this;subst h3
      have:=T1 h4
      simp[Ex.nO,Ex.qm,h4,this];omega
     ·rintro⟨h2,h3,h4,_,h5,h6,_⟩
      refine⟨h1,h3.symm,h4.resolve_left o1, ?_⟩
      exact h6.resolve_left (h5.1 rfl)
    ·rw [if_neg o2,ih]
     constructor
     ·rintro⟨_,h2,h3,h4,h5,h6⟩
      subst h3;subst h4
      exact⟨by omega,h2.symm, .inr rfl,Int.le_refl _,by simp[o2], .inl rfl,h6⟩
     ·rintro⟨h2,h3,h4,_,h5,h6,h7⟩
      refine⟨h1,h3.symm,h4.resolve_left o1, ?_,by omega,h7⟩
      exact Decidable.byContradiction fun h=>o2 (h5.2 h)
  ·constructor
   ·rintro⟨h,_⟩;exact(h1 h).elim
   ·rintro⟨h,_⟩;omega
theorem T2 : ∀ (l:List Ex) (k:Int),0≤k→(Ex.Cv k l=true↔(Ex.nO l:Int)≤k∧Ex.qm l=true)
 | [],k,hk=>by simp[Ex.Cv,Ex.nO,Ex.qm,hk]
 | x::l,k,hk=>by
  have h1:=ZZ x k hk
  have h2:=T2 l k hk
  have hd:Ex.nO (x::l)=max x.depth (Ex.nO l):=by simp only[Ex.nO]
  rw[hd]
  simp only[Ex.Cv,Ex.qm]
  cases hx:Ex.dp k x
  ·simp only [Bool.not_false, ↓reduceIte,Bool.false_eq_true,false_iff,not_and]
   intro h3
   have : ¬ ((x.depth:Int)≤k∧x.form=true):=by rw[← h1,hx];simp
   have hf:x.form=false:=by
    cases hf:x.form
    ·rfl
    ·exact(this ⟨by omega,hf⟩).elim
   simp[hf]
  ·have:=h1.1 hx
   simp only[Bool.not_true,Bool.false_eq_true,↓reduceIte,this.2,h2]
   have h3:=this.1
   refine and_congr_left fun _=>?_
   omega
end
theorem F2 (x:Ex):x.dp 20=x.may:=by
 rw[Bool.eq_iff_iff,ZZ x 20 (by omega)]
 unfold Ex.may
 simp only[Bool.and_eq_true,decide_eq_true_eq]
 refine and_congr_left fun _=>?_
 omega
theorem Io (x:Ex) (b:Bool):wL x b=if b then x.may else x.none:=by
 unfold wL
 rw[F2]
 cases b<;>simp
theorem Ip (t:az) (b:Bool):uw t b=if b then isName t else t == []:=by
 unfold uw
 cases b<;>simp
theorem Ed : ∀ l:List Ar,qn l=Ar.fx l
 | []=>rfl
 |a::l=>by
  simp only[qn,Ar.fx,Ar.may,Io,Ip,Ed l]
  grind
theorem Ps {α:Type} (l:List α):((l.length:Int)==0) = !(decide ((l.length:Int) > 0)):=by
 cases l with
 |nil=>rfl
 |cons a l=>
  have h1:(((a::l).length:Int)==0)=false:=by simp only[List.length_cons,beq_eq_false_iff_ne];omega
  have h2:decide (((a::l).length:Int) > 0)=true:=by simp only[List.length_cons,decide_eq_true_eq];omega
  rw[h1,h2];rfl
theorem F3 (s:Sm):s.one=(e7 s.labels && s.fields):=by
 have hk:s.kind=1∨s.kind=2∨s.kind=3∨s.kind=4∨s.kind=5∨s.kind=6∨s.kind=7∨s.kind=8∨s.kind=9∨s.kind=10∨s.kind<1∨s.kind > 10:=by omega
 unfold Sm.one Sm.fields Sm.flags Sm.Lf Sm.hasName Sm.wI
 have p1:isName [] = false:=rfl
 rcases hk with h|h|h|h|h|h|h|h|h|h|h|h
 all_goals
  simp only[h,Ps,Ed,Io,Ip,Sm.JP,Sm.JO]
  grind
mutual
def Ex.lK (out:List az):Ex→List az
 |⟨op,_,name,kids⟩=>Ex.kQ (if op==2 && !(e9 out name)then out++ [name]else out) kids
def Ex.kQ (out:List az):List Ex→List az
 | []=>out
 |x::l=>Ex.kQ (Ex.lK out x) l
end
def Ex.names (x:Ex):List az:=if x.may then x.lK []else []
mutual
theorem tt (out:List az) : ∀ x:Ex,(Ex.lK out x).length≤out.length+x.size
 |⟨op,n,name,kids⟩=>by
  simp only[Ex.lK,Ex.size]
  have h:=Iq (if op==2 && !(e9 out name)then out++ [name]else out) kids
  refine Nat.le_trans h ?_
  split<;>simp<;>omega
theorem Iq (out:List az) : ∀ l:List Ex,(Ex.kQ out l).length≤out.length+Ex.a7 l
 | []=>by simp[Ex.kQ,Ex.a7]
 |x::l=>by
  simp only[Ex.kQ,Ex.a7]
  have h1:=tt out x
  have h2:=Iq (Ex.lK out x) l
  omega
end
def tR (out:List az) (x:az):List az:=if e9 out x then out else out++ [x]
def ajC (x:az):List az→Bool
 | []=>false
 |s::l=>if s==x then true else ajC x l
abbrev T3 (N:Nat):Prop:=∀ (x:Ex),x.size≤N→∀ out:List az,out.length+x.size≤1000000000→∀ {s:St} {t:Nat},s.ay[t]? = some (some out.length)→
 aF Tryz.prog ji [.agg (bS x), .slice (.tok t) 1 (out.map encStr)] s (.slice (.tok t) 1 ((x.lK out).map encStr)) ⟨s.ah,s.ay.set t (some (x.lK out).length)⟩
theorem afo {N:Nat} (ih:T3 N) {op m:Int} {name:az} {kids:List Ex} (h:Ex.size ⟨op,m,name,kids⟩≤N+1) {out:List az} (ho:out.length+Ex.size ⟨op,m,name,kids⟩≤1000000000) :
 aF Tryz.prog ji [.agg (bS ⟨op,m,name,kids⟩), .slice (.tok 0) 1 (out.map encStr)] ⟨[],[some out.length]⟩ (.slice (.tok 0) 1 ((Ex.lK out ⟨op,m,name,kids⟩).map encStr)) ⟨[],[some (Ex.lK out ⟨op,m,name,kids⟩).length]⟩:=by
 obtain⟨R,hG⟩ : ∃ R,Ex.lK out ⟨op,m,name,kids⟩=R:=⟨_,rfl⟩
 rw[hG]
 simp only[Ex.lK]at hG
 simp only[Ex.size]at h ho
 have hlen:kids.length<1000000000:=by have:=Ex.dS kids;omega
 have hk : ∀ y∈kids,∀ out:List az,out.length+y.size≤1000000000→∀ {s:St} {t:Nat},s.ay[t]? = some (some out.length)→
  aF Tryz.prog ji [.agg (bS y), .slice (.tok t) 1 (out.map encStr)] s (.slice (.tok t) 1 ((y.lK out).map encStr)) ⟨s.ah,s.ay.set t (some (y.lK out).length)⟩:=fun y hy out ho=>
  ih y (by have:=Ex.df hy;omega) out ho
 refine aF.go sA rfl fun B Q hB hQ=>?_
 have⟨hD,hY,hZ,gA⟩:=bN
 have hZ:(out.length+1)*17≤bx:=by unfold bx;omega
 rcases Bool.eq_false_or_eq_true (op==2)with b1|b1
 ·rcases Bool.eq_false_or_eq_true (e9 out name)with b2 | b2
  ·simp only [b1,b2,Bool.not_true,Bool.and_false,Bool.false_eq_true,if_false]at hG
   repeat' (first
 |simp only[go_sem,hD,hY,hZ,gA,b1,b2]
 |(with_reducible refine CU (jW (l:=out) (by omega) name _ _) ?_)
 | (with_reducible refine aE hQ ?_;exact bo))
   refine fc 1 1 (br.ind (ι:=List Ex×Nat×List az×Nat) (fun i=>kids.drop i.2.1=i.1∧Ex.kQ i.2.2.1 i.1=R∧i.2.2.1.length+Ex.a7 i.1≤1000000000∧i.2.2.2=i.2.2.1.length) (fun i=>i.1.length)
    (fun i=> [(1, .slice (.tok 0) 1 (i.2.2.1.map encStr)),(2, .ptr 0 0),(23, .slice .shared 4 (kids.map bS)),(24, .int .i64 (kids.length:Int)),(25, .int .i64 (i.2.1:Int))]) (fun i=>⟨[bS ⟨op,m,name,kids⟩],[some i.2.2.2]⟩) ?_ (kids,0,out,out.length) ⟨rfl,hG,by simp;omega,by simp⟩)
   rintro⟨rest,k,cW,n'⟩ ⟨h1,h2,h3,h4⟩ IH
   dsimp only at h1 h2 h3 h4
   subst h4
   cases rest with
   |nil=>
    have hD:=drop_nil h1
    simp only[Ex.kQ]at h2
    subst h2
    repeat' (first
 |simp only[go_sem,hD,hY,hZ,gA]
 | (with_reducible refine aE hQ ?_;exact bo))
   |cons y rest=>
    obtain⟨hY,g2,hD,g4⟩:=drop_cons h1
    have bW:k<4611686018427387904:=by omega
    simp only[Ex.kQ]at h2
    simp only[Ex.a7]at h3
    have hy:=fun {s:St} {t:Nat} (ht:s.ay[t]? = some (some cW.length))=>hk y (List.mem_of_getElem? hY) cW (by omega) ht
    have hl:=tt cW y
    repeat' (first
 |simp only[go_sem,hD,hY,hZ,gA]
 |(with_reducible refine CU (hy (by with_unfolding_all rfl)) ?_)
 | (with_reducible refine aE hQ ?_;exact bo))
    refine fe 1 1 ?_ ?_ (IH (rest,k+1,_,_) ⟨g2,h2,by dsimp only;omega,rfl⟩ (Nat.lt_succ_self _))
    ·(simp only[go_sem,hD,hY,hZ,gA,aJ bW];try exact cq)
    ·(simp only[go_sem,hD,hY,hZ,gA,aJ bW];try exact cq)
  ·simp only [b1,b2,Bool.not_false,Bool.and_true,if_true]at hG
   repeat' (first
 |simp only[go_sem,hD,hY,hZ,gA,b1,b2]
 |(with_reducible refine CU (jW (l:=out) (by omega) name _ _) ?_)
 | (with_reducible refine aE hQ ?_;exact bo))
   refine fe 1 1 ?_ ?_ (br.ind (ι:=List Ex×Nat×List az×Nat) (fun i=>kids.drop i.2.1=i.1∧Ex.kQ i.2.2.1 i.1=R∧i.2.2.1.length+Ex.a7 i.1≤1000000000∧i.2.2.2=i.2.2.1.length) (fun i=>i.1.length)
    (fun i=> [(1, .slice (.tok 0) 1 (i.2.2.1.map encStr)),(2, .ptr 0 0),(23, .slice .shared 4 (kids.map bS)),(24, .int .i64 (kids.length:Int)),(25, .int .i64 (i.2.1:Int))]) (fun i=>⟨[bS ⟨op,m,name,kids⟩],[some i.2.2.2]⟩) ?_ (kids,0,(out++ [name]),(out.length+1)) ⟨rfl,hG,by simp;omega,by simp⟩)
   ·(simp only[go_sem,hD,hY,hZ,gA,List.map_append,List.map_cons,List.map_nil,List.length_append,List.length_cons,List.length_nil,encStr];try exact cq)
   ·(simp only[go_sem,hD,hY,hZ,gA,List.map_append,List.map_cons,List.map_nil,List.length_append,List.length_cons,List.length_nil,encStr];try exact cq)
   rintro⟨rest,k,cW,n'⟩ ⟨h1,h2,h3,h4⟩ IH
   dsimp only at h1 h2 h3 h4
   subst h4
   cases rest with
   |nil=>
    have hD:=drop_nil h1
    simp only[Ex.kQ]at h2
    subst h2
    repeat' (first
 |simp only[go_sem,hD,hY,hZ,gA]
 | (with_reducible refine aE hQ ?_;exact bo))
   |cons y rest=>
    obtain⟨hY,g2,hD,g4⟩:=drop_cons h1
    have bW:k<4611686018427387904:=by omega
    simp only[Ex.kQ]at h2
    simp only[Ex.a7]at h3
    have hy:=fun {s:St} {t:Nat} (ht:s.ay[t]? = some (some cW.length))=>hk y (List.mem_of_getElem? hY) cW (by omega) ht
    have hl:=tt cW y
    repeat' (first
 |simp only[go_sem,hD,hY,hZ,gA]
 |(with_reducible refine CU (hy (by with_unfolding_all rfl)) ?_)
 | (with_reducible refine aE hQ ?_;exact bo))
    refine fe 1 1 ?_ ?_ (IH (rest,k+1,_,_) ⟨g2,h2,by dsimp only;omega,rfl⟩ (Nat.lt_succ_self _))
    ·(simp only[go_sem,hD,hY,hZ,gA,aJ bW];try exact cq)
    ·(simp only[go_sem,hD,hY,hZ,gA,aJ bW];try exact cq)
 ·simp only [b1,Bool.false_and,Bool.false_eq_true,if_false]at hG
  repeat' (first
 |simp only[go_sem,hD,hY,hZ,gA,b1]
 | (with_reducible refine aE hQ ?_;exact bo))
  refine fc 1 1 (br.ind (ι:=List Ex×Nat×List az×Nat) (fun i=>kids.drop i.2.1=i.1∧Ex.kQ i.2.2.1 i.1=R∧i.2.2.1.length+Ex.a7 i.1≤1000000000∧i.2.2.2=i.2.2.1.length) (fun i=>i.1.length)
   (fun i=> [(1, .slice (.tok 0) 1 (i.2.2.1.map encStr)),(2, .ptr 0 0),(23, .slice .shared 4 (kids.map bS)),(24, .int .i64 (kids.length:Int)),(25, .int .i64 (i.2.1:Int))]) (fun i=>⟨[bS ⟨op,m,name,kids⟩],[some i.2.2.2]⟩) ?_ (kids,0,out,out.length) ⟨rfl,hG,by simp;omega,by simp⟩)
  rintro⟨rest,k,cW,n'⟩ ⟨h1,h2,h3,h4⟩ IH
  dsimp only at h1 h2 h3 h4
  subst h4
  cases rest with
  |nil=>
   have hD:=drop_nil h1
   simp only[Ex.kQ]at h2
   subst h2
   repeat' (first
 |simp only[go_sem,hD,hY,hZ,gA]
 | (with_reducible refine aE hQ ?_;exact bo))
  |cons y rest=>
   obtain⟨hY,g2,hD,g4⟩:=drop_cons h1
   have bW:k<4611686018427387904:=by omega
   simp only[Ex.kQ]at h2
   simp only[Ex.a7]at h3
   have hy:=fun {s:St} {t:Nat} (ht:s.ay[t]? = some (some cW.length))=>hk y (List.mem_of_getElem? hY) cW (by omega) ht
   have hl:=tt cW y
   repeat' (first
 |simp only[go_sem,hD,hY,hZ,gA]
 |(with_reducible refine CU (hy (by with_unfolding_all rfl)) ?_)
 | (with_reducible refine aE hQ ?_;exact bo))
   refine fe 1 1 ?_ ?_ (IH (rest,k+1,_,_) ⟨g2,h2,by dsimp only;omega,rfl⟩ (Nat.lt_succ_self _))
   ·(simp only[go_sem,hD,hY,hZ,gA,aJ bW];try exact cq)
   ·(simp only[go_sem,hD,hY,hZ,gA,aJ bW];try exact cq)
theorem Xs : ∀ N,T3 N:=by
 intro N
 induction N with
 |zero=>rintro⟨op,m,name,kids⟩ h;simp only[Ex.size]at h;omega
 |succ N ih=>
  rintro⟨op,m,name,kids⟩ h out ho s t ht
  exact(afo ih h ho).adz (pre:= [_]) (post:= []) (by simp only[D.bJ,D.ok,kV];rfl) rfl (ff out) (ff _) ht
abbrev arn (N:Nat):Prop:=∀ (x:Ex),x.size≤N→∀ out:List az,out.length+x.size≤1000000000→∀ {s:St} {t:Nat},s.ay[t]? = some (some out.length)→
 aF Tryz.prog M6 [.agg (bS x), .slice (.tok t) 1 (out.map encStr)] s (.slice (.tok t) 1 ((x.lK out).map encStr)) ⟨s.ah,s.ay.set t (some (x.lK out).length)⟩
theorem T4 {op m:Int} {name:az} {kids:List Ex} (h:Ex.form ⟨op,m,name,kids⟩=true) (h2:(op==2)=true):kids = []:=by
 have e:op=2:=by simpa using h2
 subst e
 simp only[Ex.form]at h
 split at h
 ·cases h
 ·rename_i hh
  simp only[Bool.or_eq_true,not_or,bne_iff_ne,ne_eq,Decidable.not_not]at hh
  have:=hh.1.1.1.1
  have e:mV 2=0:=rfl
  rw[e]at this
  exact List.length_eq_zero_iff.1 (by omega)
theorem Xt {op m:Int} {name:az} {kids:List Ex} (hf:(op==2)=true→kids = []) (ho:Ex.size ⟨op,m,name,kids⟩≤1000000000) (s:St) :
 aF Tryz.prog ji [.agg (bS ⟨op,m,name,kids⟩), .slice .full 0 []] s (.slice .shared 1 ((Ex.lK [] ⟨op,m,name,kids⟩).map encStr)) s:=by
 refine aF.pure ?_ (by simp only[D.bJ,D.ok,kV];rfl) (by simp only[D.ok,Tag.ok,ff];rfl) s
 obtain⟨R,hG⟩ : ∃ R,Ex.lK [] ⟨op,m,name,kids⟩=R:=⟨_,rfl⟩
 rw[hG]
 simp only[Ex.lK]at hG
 simp only[Ex.size]at ho
 have hlen:kids.length<1000000000:=by have:=Ex.dS kids;omega
 have hk : ∀ y∈kids,∀ out:List az,out.length+y.size≤1000000000→∀ {s:St} {t:Nat},s.ay[t]? = some (some out.length)→
  aF Tryz.prog ji [.agg (bS y), .slice (.tok t) 1 (out.map encStr)] s (.slice (.tok t) 1 ((y.lK out).map encStr)) ⟨s.ah,s.ay.set t (some (y.lK out).length)⟩:=fun y hy out ho=>
  Xs y.size y (Nat.le_refl _) out ho
 unfold S0
 rcases Bool.eq_false_or_eq_true (op==2)with b1|b1
 ·have hk0:=hf b1
  subst hk0
  have e:e9 [] name=false:=rfl
  simp only[b1,e,Bool.not_false,Bool.and_true,if_true,Ex.kQ,List.nil_append]at hG
  subst hG
  refine aF.go sA rfl fun B Q hB hQ=>?_
  have⟨hD,hY,hZ,gA⟩:=bN
  have hZ:17≤bx:=by unfold bx;omega
  repeat' (first
 |simp only[go_sem,hD,hY,hZ,gA,b1,List.map_nil,List.map_cons,List.length_nil,encStr,Int.natCast_zero,Int.lt_irrefl,decide_false]
 |(with_reducible refine CU (Lh name _ _ _) ?_)
 |(with_reducible refine br.lE ?_)
 |(with_reducible refine aE hQ ?_;exact bo))
 ·simp only [b1,Bool.false_and,Bool.false_eq_true,if_false]at hG
  refine aF.go sA rfl fun B Q hB hQ=>?_
  have⟨hD,hY,hZ,gA⟩:=bN
  repeat' (first
 |simp only[go_sem,hD,hY,hZ,gA,b1]
 | (with_reducible refine aE hQ ?_;exact bo))
  refine br.rn 1 1 rfl ?_
  simp only[go_sem,hD,hY,hZ,gA]
  refine fc 1 1 (br.ind (ι:=List Ex×Nat×List az×Nat) (fun i=>kids.drop i.2.1=i.1∧Ex.kQ i.2.2.1 i.1=R∧i.2.2.1.length+Ex.a7 i.1≤1000000000∧i.2.2.2=i.2.2.1.length) (fun i=>i.1.length)
   (fun i=> [(1, .slice (.tok 0) 1 (i.2.2.1.map encStr)),(2, .ptr 0 0),(23, .slice .shared 4 (kids.map bS)),(24, .int .i64 (kids.length:Int)),(25, .int .i64 (i.2.1:Int))]) (fun i=>⟨[bS ⟨op,m,name,kids⟩],[some i.2.2.2]⟩) ?_ (kids,0,[],0) ⟨rfl,hG,by simp;omega,by simp⟩)
  rintro⟨rest,k,cW,n'⟩ ⟨h1,h2,h3,h4⟩ IH
  dsimp only at h1 h2 h3 h4
  subst h4
  cases rest with
  |nil=>
   have hD:=drop_nil h1
   simp only[Ex.kQ]at h2
   subst h2
   repeat' (first
 |simp only[go_sem,hD,hY,hZ,gA]
 | (with_reducible refine aE hQ ?_;exact bo))
  |cons y rest=>
   obtain⟨hY,g2,hD,g4⟩:=drop_cons h1
   have bW:k<4611686018427387904:=by omega
   simp only[Ex.kQ]at h2
   simp only[Ex.a7]at h3
   have hy:=fun {s:St} {t:Nat} (ht:s.ay[t]? = some (some cW.length))=>hk y (List.mem_of_getElem? hY) cW (by omega) ht
   have hl:=tt cW y
   repeat' (first
 |simp only[go_sem,hD,hY,hZ,gA]
 |(with_reducible refine CU (hy (by with_unfolding_all rfl)) ?_)
 | (with_reducible refine aE hQ ?_;exact bo))
   refine fe 1 1 ?_ ?_ (IH (rest,k+1,_,_) ⟨g2,h2,by dsimp only;omega,rfl⟩ (Nat.lt_succ_self _))
   ·(simp only[go_sem,hD,hY,hZ,gA,aJ bW];try exact cq)
   ·(simp only[go_sem,hD,hY,hZ,gA,aJ bW];try exact cq)
theorem nT {x:Ex} (hx:x.size≤1000000000) (ht:x.texts) (s:St):aF Tryz.prog sx [.agg (bS x)] s (.slice .shared 1 (x.names.map encStr)) s:=by
 refine aF.pure ?_ (by simp only[D.bJ,D.ok,kV];rfl) (by simp only[D.ok,Tag.ok,ff];rfl) s
 have hm:=fun s=>Ay (x:=x) (by omega) ht s
 simp only[F2]at hm
 unfold Ex.names
 unfold S0
 cases hb:x.may
 ·simp only [hb]at hm
  simp only[Bool.false_eq_true,if_false,List.map_nil]
  refine aF.go zu rfl fun B Q hB hQ=>?_
  have⟨hD,hY,hZ,gA⟩:=bN
  repeat' (first
 |simp only[go_sem,hD,hY,hZ,gA]
 |(with_reducible refine CU (hm _) ?_)
 |(with_reducible refine aE hQ ?_;exact bo))
 ·simp only [hb]at hm
  simp only[if_true]
  have hg : ∀ s,aF Tryz.prog ji [.agg (bS x), .slice .full 0 []] s (.slice .shared 1 ((x.lK []).map encStr)) s:=by
   intro s
   obtain⟨op,m,name,kids⟩:=x
   exact Xt (fun h2=>T4 (by simp only[Ex.may,Bool.and_eq_true]at hb;exact hb.2) h2) hx s
  refine aF.go zu rfl fun B Q hB hQ=>?_
  have⟨hD,hY,hZ,gA⟩:=bN
  repeat' (first
 |simp only[go_sem,hD,hY,hZ,gA]
 |(with_reducible refine CU (hm _) ?_)
 |(with_reducible refine CU (hg _) ?_)
 |(with_reducible refine aE hQ ?_;exact bo))
def Ar.said (out:List az):List Ar→List az
 | []=>out
 |a::l=>Ar.said ((if a.ref then out++ [a.name]else out)++a.x.names) l
def Sm.sF (v:Sm):List az:=if v.kind != 10 && v.name != []then [v.name]else []
def Sm.said (v:Sm):List az:=Ar.said (v.sF++v.x.names) v.args
theorem lT (x:Ex):x.names.length≤x.size:=by
 unfold Ex.names
 split
 ·simpa using tt [] x
 ·exact Nat.zero_le _
def Ar.wH:List Ar→Prop
 | []=>True
 |a::l=>a.x.texts∧Ar.wH l
def Sm.nU (v:Sm):Prop:=v.x.texts∧(∀ a∈v.args,a.x.texts)∧v.x.size+Ar.a7 v.args<1000000
theorem ln {l nx:List az} {n:Nat} (hn:n=l.length) (h:l.length+nx.length≤1000000000) {g:Tag} (o:List (List D)) :
 iP 1 16 (.slice (.tok 0) 1 (l.map encStr)) (.slice g 1 (nx.map encStr)) ⟨o,[some n]⟩=some (.slice (.tok 0) 1 ((l++nx).map encStr),⟨o,[some (l++nx).length]⟩):=by
 subst hn
 have:=ox (size:=1) (bytes:=16) (t:=0) (rows:=l.map encStr) (new:=nx.map encStr) (g:=g) (s:=⟨o,[some l.length]⟩) (by simp only[List.length_map];unfold bx;omega) (by simp)
 rw[this]
 simp
theorem Cw {v:Sm} (hv:v.nU) (s:St):aF Tryz.prog su [.agg (bj v)] s (.slice .shared 1 (v.said.map encStr)) s:=by
 refine aF.pure ?_ (by simp only[D.bJ,D.ok,sf];rfl) (by simp only[D.ok,Tag.ok,ff];rfl) s
 obtain⟨xG,ux,dP⟩:=hv
 obtain⟨R,hG⟩ : ∃ R,v.said=R:=⟨_,rfl⟩
 rw[hG]
 simp only[Sm.said]at hG
 have hlen:v.args.length<1000000000:=by have:=Ar.dS v.args;omega
 have hx:=fun s=>nT (x:=v.x) (by omega) xG s
 have NP:=lT v.x
 unfold S0
 refine aF.go Hg rfl fun B Q hB hQ=>?_
 have⟨hD,hY,hZ,gA⟩:=bN
 have hZ:17≤bx:=by unfold bx;omega
 by_cases hb:(v.kind != 10 && v.name != [])=true
 ·simp only [Sm.sF,hb,if_true]at hG
  rw[Bool.and_eq_true]at hb
  obtain⟨b1,b2⟩:=hb
  have fb:=ln (l:= [v.name]) (nx:=v.x.names) (n:=1) rfl (by simp;omega) (g:= .shared)
  simp only[List.map_append,List.map_cons,List.map_nil,encStr]at fb
  have b3:(v.name == [])=false:=by simpa using b2
  repeat' (first
 |simp only[go_sem,hD,hY,hZ,gA,b1,b2,b3,fb]
 |(with_reducible refine CU (hx _) ?_)
 | (with_reducible refine aE hQ ?_;exact bo))
  refine fe 1 1 ?_ ?_ (br.ind (ι:=List Ar×Nat×List az×Nat) (fun i=>v.args.drop i.2.1=i.1∧Ar.said i.2.2.1 i.1=R∧i.2.2.1.length+Ar.a7 i.1≤2000000∧i.2.2.2=i.2.2.1.length) (fun i=>i.1.length)
   (fun i=> [(3, .slice (.tok 0) 1 (i.2.2.1.map encStr)),(1, .ptr 0 0),(25, .slice .shared 6 (v.args.map eC)),(26, .int .i64 (v.args.length:Int)),(27, .int .i64 (i.2.1:Int))]) (fun i=>⟨[bj v],[some i.2.2.2]⟩) ?_ (v.args,0,([v.name]++v.x.names),(v.x.names.length+1)) ⟨rfl,hG,by simp at NP ⊢;omega,by simp⟩)
  ·(simp only[go_sem,hD,hY,hZ,gA,List.map_append,List.map_cons,List.map_nil,encStr];try exact cq)
  ·(simp only[go_sem,hD,hY,hZ,gA,List.map_append,List.map_cons,List.map_nil,encStr];try exact cq)
  rintro⟨rest,k,out,n'⟩ ⟨h1,h2,h3,h4⟩ IH
  dsimp only at h1 h2 h3 h4
  subst h4
  cases rest with
  |nil=>
   have hD:=drop_nil h1
   simp only[Ar.said]at h2
   subst h2
   repeat' (first
 |simp only[go_sem,hD,hY,hZ,gA]
 | (with_reducible refine aE hQ ?_;exact bo))
  | cons a rest=>
   obtain⟨hY,g2,hD,g4⟩:=drop_cons h1
   have bW:k<4611686018427387904:=by omega
   simp only[Ar.said]at h2
   simp only[Ar.a7]at h3
   have sX:=fun s=>nT (x:=a.x) (by have:=Ar.df (List.mem_of_getElem? hY);omega) (ux a (List.mem_of_getElem? hY)) s
   have hl:=lT a.x
   have hZ:(out.length+1)*17≤bx:=by unfold bx;omega
   rcases Bool.eq_false_or_eq_true a.ref with b1|b1
   ·simp only [b1,if_true]at h2
    have fb:=ln (l:=out++ [a.name]) (nx:=a.x.names) (n:=out.length+1) (by simp) (by simp;omega) (g:= .shared)
    simp only[List.map_append,List.map_cons,List.map_nil,encStr]at fb
    repeat' (first
 |simp only[go_sem,hD,hY,hZ,gA,b1,fb]
 |(with_reducible refine CU (sX _) ?_)
 | (with_reducible refine aE hQ ?_;exact bo))
    refine fe 1 1 ?_ ?_ (IH (rest,k+1,out++ [a.name]++a.x.names,_) ⟨g2,h2,by simp;omega,by simp<;>omega⟩ (Nat.lt_succ_self _))
    ·(simp only[go_sem,hD,hY,hZ,gA,aJ bW,List.map_append,List.map_cons,List.map_nil,encStr];try exact cq)
    ·(simp only[go_sem,hD,hY,hZ,gA,aJ bW,List.map_append,List.map_cons,List.map_nil,encStr];try exact cq)
   ·simp only [b1,Bool.false_eq_true,if_false]at h2
    have fb:=ln (l:=out) (nx:=a.x.names) rfl (by omega) (g:= .shared)
    repeat' (first
 |simp only[go_sem,hD,hY,hZ,gA,b1,fb]
 |(with_reducible refine CU (sX _) ?_)
 | (with_reducible refine aE hQ ?_;exact bo))
    refine fe 1 1 ?_ ?_ (IH (rest,k+1,out++a.x.names,_) ⟨g2,h2,by simp;omega,by simp<;>omega⟩ (Nat.lt_succ_self _))
    ·(simp only[go_sem,hD,hY,hZ,gA,aJ bW];try exact cq)
    ·(simp only[go_sem,hD,hY,hZ,gA,aJ bW];try exact cq)
 ·simp only [Sm.sF,hb,Bool.false_eq_true,if_false,List.nil_append]at hG
  have sS:(v.kind != 10 && v.name != [])=false:=by simpa using hb
  obtain⟨nx,hnx⟩ : ∃ nx,nx=v.x.names:=⟨_,rfl⟩
  rw[← hnx]at hG NP
  simp only[← hnx]at hx
  by_cases Kl:nx = []
  ·subst Kl
   simp only[List.map_nil]at hx
   have fb : ∀ o:List (List D),iP 1 16 (.slice .full 0 []) (.slice .shared 1 []) ⟨o,[]⟩=some (.slice .full 0 [],⟨o,[]⟩):=fun o=>by simp[iP,bx]
   have HB:(v.kind != 10)=false∨(v.kind != 10)=true∧(v.name != [])=false:=by
    cases h1:(v.kind != 10)
    ·exact .inl rfl
    ·rw[h1]at sS;exact .inr ⟨rfl,by simpa using sS⟩
   rcases HB with b1|⟨b1,b2⟩
   ·rcases Bool.eq_false_or_eq_true (v.name != [])with b2 | b2
    all_goals
     have b3:(v.name == []) = !(v.name != []):=by simp only[bne,Bool.not_not]
     rw[b2]at b3
     repeat' (first
 |simp only[go_sem,hD,hY,hZ,gA,b1,b2,b3,Bool.not_true,Bool.not_false,fb]
 |(with_reducible refine CU (hx _) ?_)
 | (with_reducible refine aE hQ ?_;simp only [aT,aV,bE,bF,go_sem,hD,hY,hZ,gA];repeat' (first | exact Ok.out | with_reducible refine jn ?_ ?_ | (simp;done))))
    all_goals
     refine br.rn 3 1 rfl ?_
     simp only[go_sem,hD,hY,hZ,gA]
     refine fc 1 1 (br.ind (ι:=List Ar×Nat×List az×Nat) (fun i=>v.args.drop i.2.1=i.1∧Ar.said i.2.2.1 i.1=R∧i.2.2.1.length+Ar.a7 i.1≤2000000∧i.2.2.2=i.2.2.1.length) (fun i=>i.1.length)
      (fun i=> [(3, .slice (.tok 0) 1 (i.2.2.1.map encStr)),(1, .ptr 0 0),(25, .slice .shared 6 (v.args.map eC)),(26, .int .i64 (v.args.length:Int)),(27, .int .i64 (i.2.1:Int))]) (fun i=>⟨[bj v],[some i.2.2.2]⟩) ?_ (v.args,0,[],0) ⟨rfl,hG,by simp at NP ⊢;omega,by simp⟩)
     rintro⟨rest,k,out,n'⟩ ⟨h1,h2,h3,h4⟩ IH
     dsimp only at h1 h2 h3 h4
     subst h4
     cases rest with
     |nil=>
      have hD:=drop_nil h1
      simp only[Ar.said]at h2
      subst h2
      repeat' (first
 |simp only[go_sem,hD,hY,hZ,gA]
 |(with_reducible refine aE hQ ?_;exact bo))
     | cons a rest=>
      obtain⟨hY,g2,hD,g4⟩:=drop_cons h1
      have bW:k<4611686018427387904:=by omega
      simp only[Ar.said]at h2
      simp only[Ar.a7]at h3
      have sX:=fun s=>nT (x:=a.x) (by have:=Ar.df (List.mem_of_getElem? hY);omega) (ux a (List.mem_of_getElem? hY)) s
      have hl:=lT a.x
      have hZ:(out.length+1)*17≤bx:=by unfold bx;omega
      rcases Bool.eq_false_or_eq_true a.ref with b1|b1
      ·simp only [b1,if_true]at h2
       have fb:=ln (l:=out++ [a.name]) (nx:=a.x.names) (n:=out.length+1) (by simp) (by simp;omega) (g:= .shared)
       simp only[List.map_append,List.map_cons,List.map_nil,encStr]at fb
       repeat' (first
 |simp only[go_sem,hD,hY,hZ,gA,b1,fb]
 |(with_reducible refine CU (sX _) ?_)
 |(with_reducible refine aE hQ ?_;exact bo))
       refine fe 1 1 ?_ ?_ (IH (rest,k+1,out++ [a.name]++a.x.names,_) ⟨g2,h2,by simp;omega,by simp<;>omega⟩ (Nat.lt_succ_self _))
       ·(simp only[go_sem,hD,hY,hZ,gA,aJ bW,List.map_append,List.map_cons,List.map_nil,encStr];try exact cq)
       ·(simp only[go_sem,hD,hY,hZ,gA,aJ bW,List.map_append,List.map_cons,List.map_nil,encStr];try exact cq)
      ·simp only [b1,Bool.false_eq_true,if_false]at h2
       have fb:=ln (l:=out) (nx:=a.x.names) rfl (by omega) (g:= .shared)
       repeat' (first
 |simp only[go_sem,hD,hY,hZ,gA,b1,fb]
 |(with_reducible refine CU (sX _) ?_)
 | (with_reducible refine aE hQ ?_;exact bo))
       refine fe 1 1 ?_ ?_ (IH (rest,k+1,out++a.x.names,_) ⟨g2,h2,by simp;omega,by simp<;>omega⟩ (Nat.lt_succ_self _))
       ·(simp only[go_sem,hD,hY,hZ,gA,aJ bW];try exact cq)
       ·(simp only[go_sem,hD,hY,hZ,gA,aJ bW];try exact cq)
   ·have b3:(v.name == [])=true:=by simpa using b2
    repeat' (first
 |simp only[go_sem,hD,hY,hZ,gA,b1,b2,b3,fb]
 |(with_reducible refine CU (hx _) ?_)
 | (with_reducible refine aE hQ ?_;exact bo))
    refine br.rn 3 1 rfl ?_
    simp only[go_sem,hD,hY,hZ,gA]
    refine fc 1 1 (br.ind (ι:=List Ar×Nat×List az×Nat) (fun i=>v.args.drop i.2.1=i.1∧Ar.said i.2.2.1 i.1=R∧i.2.2.1.length+Ar.a7 i.1≤2000000∧i.2.2.2=i.2.2.1.length) (fun i=>i.1.length)
     (fun i=> [(3, .slice (.tok 0) 1 (i.2.2.1.map encStr)),(1, .ptr 0 0),(25, .slice .shared 6 (v.args.map eC)),(26, .int .i64 (v.args.length:Int)),(27, .int .i64 (i.2.1:Int))]) (fun i=>⟨[bj v],[some i.2.2.2]⟩) ?_ (v.args,0,[],0) ⟨rfl,hG,by simp at NP ⊢;omega,by simp⟩)
    rintro⟨rest,k,out,n'⟩ ⟨h1,h2,h3,h4⟩ IH
    dsimp only at h1 h2 h3 h4
    subst h4
    cases rest with
    |nil=>
     have hD:=drop_nil h1
     simp only[Ar.said]at h2
     subst h2
     repeat' (first
 |simp only[go_sem,hD,hY,hZ,gA]
 | (with_reducible refine aE hQ ?_;exact bo))
    | cons a rest=>
     obtain⟨hY,g2,hD,g4⟩:=drop_cons h1
     have bW:k<4611686018427387904:=by omega
     simp only[Ar.said]at h2
     simp only[Ar.a7]at h3
     have sX:=fun s=>nT (x:=a.x) (by have:=Ar.df (List.mem_of_getElem? hY);omega) (ux a (List.mem_of_getElem? hY)) s
     have hl:=lT a.x
     have hZ:(out.length+1)*17≤bx:=by unfold bx;omega
     rcases Bool.eq_false_or_eq_true a.ref with b1|b1
     ·simp only [b1,if_true]at h2
      have fb:=ln (l:=out++ [a.name]) (nx:=a.x.names) (n:=out.length+1) (by simp) (by simp;omega) (g:= .shared)
      simp only[List.map_append,List.map_cons,List.map_nil,encStr]at fb
      repeat' (first
 |simp only[go_sem,hD,hY,hZ,gA,b1,fb]
 |(with_reducible refine CU (sX _) ?_)
 |(with_reducible refine aE hQ ?_;exact bo))
      refine fe 1 1 ?_ ?_ (IH (rest,k+1,out++ [a.name]++a.x.names,_) ⟨g2,h2,by simp;omega,by simp<;>omega⟩ (Nat.lt_succ_self _))
      ·(simp only[go_sem,hD,hY,hZ,gA,aJ bW,List.map_append,List.map_cons,List.map_nil,encStr];try exact cq)
      ·(simp only[go_sem,hD,hY,hZ,gA,aJ bW,List.map_append,List.map_cons,List.map_nil,encStr];try exact cq)
     ·simp only [b1,Bool.false_eq_true,if_false]at h2
      have fb:=ln (l:=out) (nx:=a.x.names) rfl (by omega) (g:= .shared)
      repeat' (first
 |simp only[go_sem,hD,hY,hZ,gA,b1,fb]
 |(with_reducible refine CU (sX _) ?_)
 | (with_reducible refine aE hQ ?_;exact bo))
      refine fe 1 1 ?_ ?_ (IH (rest,k+1,out++a.x.names,_) ⟨g2,h2,by simp;omega,by simp<;>omega⟩ (Nat.lt_succ_self _))
      ·(simp only[go_sem,hD,hY,hZ,gA,aJ bW];try exact cq)
      ·(simp only[go_sem,hD,hY,hZ,gA,aJ bW];try exact cq)
  ·have fb : ∀ o:List (List D),iP 1 16 (.slice .full 0 []) (.slice .shared 1 (nx.map encStr)) ⟨o,[]⟩=some (.slice (.tok 0) 1 (nx.map encStr),⟨o,[some nx.length]⟩):=fun o=>by
    have:nx.length*17≤bx:=by unfold bx;omega
    cases nx with
    |nil=>exact absurd rfl Kl
    |cons a r=>simp only[List.length_cons]at this;simp[iP,this]
   have HB:(v.kind != 10)=false∨(v.kind != 10)=true∧(v.name != [])=false:=by
    cases h1:(v.kind != 10)
    ·exact .inl rfl
    ·rw[h1]at sS;exact .inr ⟨rfl,by simpa using sS⟩
   rcases HB with b1|⟨b1,b2⟩
   ·rcases Bool.eq_false_or_eq_true (v.name != [])with b2 | b2
    all_goals
     have b3:(v.name == []) = !(v.name != []):=by simp only[bne,Bool.not_not]
     rw[b2]at b3
     repeat' (first
 |simp only[go_sem,hD,hY,hZ,gA,b1,b2,b3,Bool.not_true,Bool.not_false,fb]
 |(with_reducible refine CU (hx _) ?_)
 | (with_reducible refine aE hQ ?_;simp only [aT,aV,bE,bF,go_sem,hD,hY,hZ,gA];repeat' (first | exact Ok.out | with_reducible refine jn ?_ ?_ | (simp;done))))
    all_goals
     refine fc 1 1 (br.ind (ι:=List Ar×Nat×List az×Nat) (fun i=>v.args.drop i.2.1=i.1∧Ar.said i.2.2.1 i.1=R∧i.2.2.1.length+Ar.a7 i.1≤2000000∧i.2.2.2=i.2.2.1.length) (fun i=>i.1.length)
      (fun i=> [(3, .slice (.tok 0) 1 (i.2.2.1.map encStr)),(1, .ptr 0 0),(25, .slice .shared 6 (v.args.map eC)),(26, .int .i64 (v.args.length:Int)),(27, .int .i64 (i.2.1:Int))]) (fun i=>⟨[bj v],[some i.2.2.2]⟩) ?_ (v.args,0,nx,_) ⟨rfl,hG,by simp at NP ⊢;omega,by simp⟩)
     rintro⟨rest,k,out,n'⟩ ⟨h1,h2,h3,h4⟩ IH
     dsimp only at h1 h2 h3 h4
     subst h4
     cases rest with
     |nil=>
      have hD:=drop_nil h1
      simp only[Ar.said]at h2
      subst h2
      repeat' (first
 |simp only[go_sem,hD,hY,hZ,gA]
 |(with_reducible refine aE hQ ?_;exact bo))
     | cons a rest=>
      obtain⟨hY,g2,hD,g4⟩:=drop_cons h1
      have bW:k<4611686018427387904:=by omega
      simp only[Ar.said]at h2
      simp only[Ar.a7]at h3
      have sX:=fun s=>nT (x:=a.x) (by have:=Ar.df (List.mem_of_getElem? hY);omega) (ux a (List.mem_of_getElem? hY)) s
      have hl:=lT a.x
      have hZ:(out.length+1)*17≤bx:=by unfold bx;omega
      rcases Bool.eq_false_or_eq_true a.ref with b1|b1
      ·simp only [b1,if_true]at h2
       have fb:=ln (l:=out++ [a.name]) (nx:=a.x.names) (n:=out.length+1) (by simp) (by simp;omega) (g:= .shared)
       simp only[List.map_append,List.map_cons,List.map_nil,encStr]at fb
       repeat' (first
 |simp only[go_sem,hD,hY,hZ,gA,b1,fb]
 |(with_reducible refine CU (sX _) ?_)
 |(with_reducible refine aE hQ ?_;exact bo))
       refine fe 1 1 ?_ ?_ (IH (rest,k+1,out++ [a.name]++a.x.names,_) ⟨g2,h2,by simp;omega,by simp<;>omega⟩ (Nat.lt_succ_self _))
       ·(simp only[go_sem,hD,hY,hZ,gA,aJ bW,List.map_append,List.map_cons,List.map_nil,encStr];try exact cq)
       ·(simp only[go_sem,hD,hY,hZ,gA,aJ bW,List.map_append,List.map_cons,List.map_nil,encStr];try exact cq)
      ·simp only [b1,Bool.false_eq_true,if_false]at h2
       have fb:=ln (l:=out) (nx:=a.x.names) rfl (by omega) (g:= .shared)
       repeat' (first
 |simp only[go_sem,hD,hY,hZ,gA,b1,fb]
 |(with_reducible refine CU (sX _) ?_)
 | (with_reducible refine aE hQ ?_;exact bo))
       refine fe 1 1 ?_ ?_ (IH (rest,k+1,out++a.x.names,_) ⟨g2,h2,by simp;omega,by simp<;>omega⟩ (Nat.lt_succ_self _))
       ·(simp only[go_sem,hD,hY,hZ,gA,aJ bW];try exact cq)
       ·(simp only[go_sem,hD,hY,hZ,gA,aJ bW];try exact cq)
   ·have b3:(v.name == [])=true:=by simpa using b2
    repeat' (first
 |simp only[go_sem,hD,hY,hZ,gA,b1,b2,b3,fb]
 |(with_reducible refine CU (hx _) ?_)
 | (with_reducible refine aE hQ ?_;exact bo))
    refine fc 1 1 (br.ind (ι:=List Ar×Nat×List az×Nat) (fun i=>v.args.drop i.2.1=i.1∧Ar.said i.2.2.1 i.1=R∧i.2.2.1.length+Ar.a7 i.1≤2000000∧i.2.2.2=i.2.2.1.length) (fun i=>i.1.length)
     (fun i=> [(3, .slice (.tok 0) 1 (i.2.2.1.map encStr)),(1, .ptr 0 0),(25, .slice .shared 6 (v.args.map eC)),(26, .int .i64 (v.args.length:Int)),(27, .int .i64 (i.2.1:Int))]) (fun i=>⟨[bj v],[some i.2.2.2]⟩) ?_ (v.args,0,nx,_) ⟨rfl,hG,by simp at NP ⊢;omega,by simp⟩)
    rintro⟨rest,k,out,n'⟩ ⟨h1,h2,h3,h4⟩ IH
    dsimp only at h1 h2 h3 h4
    subst h4
    cases rest with
    |nil=>
     have hD:=drop_nil h1
     simp only[Ar.said]at h2
     subst h2
     repeat' (first
 |simp only[go_sem,hD,hY,hZ,gA]
 | (with_reducible refine aE hQ ?_;exact bo))
    | cons a rest=>
     obtain⟨hY,g2,hD,g4⟩:=drop_cons h1
     have bW:k<4611686018427387904:=by omega
     simp only[Ar.said]at h2
     simp only[Ar.a7]at h3
     have sX:=fun s=>nT (x:=a.x) (by have:=Ar.df (List.mem_of_getElem? hY);omega) (ux a (List.mem_of_getElem? hY)) s
     have hl:=lT a.x
     have hZ:(out.length+1)*17≤bx:=by unfold bx;omega
     rcases Bool.eq_false_or_eq_true a.ref with b1|b1
     ·simp only [b1,if_true]at h2
      have fb:=ln (l:=out++ [a.name]) (nx:=a.x.names) (n:=out.length+1) (by simp) (by simp;omega) (g:= .shared)
      simp only[List.map_append,List.map_cons,List.map_nil,encStr]at fb
      repeat' (first
 |simp only[go_sem,hD,hY,hZ,gA,b1,fb]
 |(with_reducible refine CU (sX _) ?_)
 |(with_reducible refine aE hQ ?_;exact bo))
      refine fe 1 1 ?_ ?_ (IH (rest,k+1,out++ [a.name]++a.x.names,_) ⟨g2,h2,by simp;omega,by simp<;>omega⟩ (Nat.lt_succ_self _))
      ·(simp only[go_sem,hD,hY,hZ,gA,aJ bW,List.map_append,List.map_cons,List.map_nil,encStr];try exact cq)
      ·(simp only[go_sem,hD,hY,hZ,gA,aJ bW,List.map_append,List.map_cons,List.map_nil,encStr];try exact cq)
     ·simp only [b1,Bool.false_eq_true,if_false]at h2
      have fb:=ln (l:=out) (nx:=a.x.names) rfl (by omega) (g:= .shared)
      repeat' (first
 |simp only[go_sem,hD,hY,hZ,gA,b1,fb]
 |(with_reducible refine CU (sX _) ?_)
 |(with_reducible refine aE hQ ?_;exact bo))
      refine fe 1 1 ?_ ?_ (IH (rest,k+1,out++a.x.names,_) ⟨g2,h2,by simp;omega,by simp<;>omega⟩ (Nat.lt_succ_self _))
      ·(simp only[go_sem,hD,hY,hZ,gA,aJ bW];try exact cq)
      ·(simp only[go_sem,hD,hY,hZ,gA,aJ bW];try exact cq)
end Go.Abs
