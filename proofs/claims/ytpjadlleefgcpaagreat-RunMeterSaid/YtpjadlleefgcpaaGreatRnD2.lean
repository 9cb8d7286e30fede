/-
  What is proved here: part 2 of the road to the claim (Codes1, Have1, Codes2, Have2, Codes3, Codes4, Have4, Codes5, Have5, Have3, MirLex, MirMay, Prs, Lex1, Lex2, RefLex1, Prs2, Ref1, Ref2, RefMay2, Flat1, Flat2, Flat3, Sl1, MirFlat2, Sl2, TMay1, TMay2, RefMay3, RefMay4, TMay3, TMay4, MayFine, MayEq, Nm1, Nm2, Nm3, MayEq2, Sc1, Sc2, Sc3, ScP).
  No conditions.
-/
import Derived.Test.YtpjadlleefgcpaaGreatRnD1
import Derived.Test.YtpjadlleefgcpaaGreatProg
import Derived.KernelRfl

set_option linter.unusedSimpArgs false
set_option linter.unusedVariables false
namespace Go.Abs
abbrev Q6X:AC:= .seq (.run [.o 1 (.box bC),(.o 2 (.mv (.k (.val (.complex .f64 0 0)))))]) (.seq (.run [.o 3 (.aq bA 1), .o 4 (.load cH false 1), .o 5 (.nY (.ofInt .f64) fF fF), .o 6 (.aq bA 2), .o 7 (.load dA false 1), .o 8 (.nY (.ofInt .f64) cZ cZ), .o 9 (.nY .HO cm de), .m 2 dw]) .ret)
abbrev Q6Z:AC:= .run [(.o 3 (.dv [(.str [])] 1 1 [(0,(.k (.str [118])))])), .c 4 qY [(.k (.int .i64 2))],(.o 5 (.build [(.int .i64 0),(.int .i64 0),(.slice .full 0 []),(.str []),(.str []),(.int .i64 0),(.int .i64 0),(.str []),(.slice .full 0 []),(.bool false),(.slice .full 0 []),(.slice .full 0 []),(.slice .full 0 [])] [(0,(1,(.k (.int .i64 1)))),(1,(1,(.k (.int .i64 1)))),(3,(1,(.k (.str [118])))),(5,(4,fF))])), .c 6 qY [(.k (.int .i64 3))], .o 7 (.build [(.bool false),(.str []),(.int .i64 0),(.int .i64 0),(.str []),(.slice .full 0 [])] [(2,(4,dA))]),(.o 8 (.build [(.bool false),(.str []),(.int .i64 0),(.int .i64 0),(.str []),(.slice .full 0 [])] [(0,(1,(.k (.bool true)))),(1,(1,(.k (.str [118]))))])), .o 9 (.dv [(.bool false),(.str []),(.int .i64 0),(.int .i64 0),(.str []),(.slice .full 0 [])] 6 2 [(0,cZ),(1,de)]),(.o 10 (.build [(.int .i64 0),(.int .i64 0),(.slice .full 0 []),(.str []),(.str []),(.int .i64 0),(.int .i64 0),(.str []),(.slice .full 0 []),(.bool false),(.slice .full 0 []),(.slice .full 0 []),(.slice .full 0 [])] [(0,(1,(.k (.int .i64 2)))),(1,(1,(.k (.int .i64 4)))),(3,(1,(.k (.str [103])))),(4,(1,(.k (.str [112])))),(10,(1,dw))])),(.c 11 kV [(.k (.str [118]))]),(.o 12 (.build [(.int .i64 0),(.int .i64 0),(.slice .full 0 []),(.str []),(.str []),(.int .i64 0),(.int .i64 0),(.str []),(.slice .full 0 []),(.bool false),(.slice .full 0 []),(.slice .full 0 []),(.slice .full 0 [])] [(0,(1,(.k (.int .i64 3)))),(1,(1,(.k (.int .i64 3)))),(5,(4,dk))])),(.c 13 kV [(.k (.str [103]))]),(.o 14 (.build [(.int .i64 0),(.int .i64 0),(.slice .full 0 []),(.str []),(.str []),(.int .i64 0),(.int .i64 0),(.str []),(.slice .full 0 []),(.bool false),(.slice .full 0 []),(.slice .full 0 []),(.slice .full 0 [])] [(0,(1,(.k (.int .i64 4)))),(1,(1,(.k (.int .i64 3)))),(5,(4,dm))])), .o 15 (.dv [(.int .i64 0),(.int .i64 0),(.slice .full 0 []),(.str []),(.str []),(.int .i64 0),(.int .i64 0),(.str []),(.slice .full 0 []),(.bool false),(.slice .full 0 []),(.slice .full 0 []),(.slice .full 0 [])] 13 4 [(0,cm),(1,cb),(2,dd),(3,cT)]),(.o 16 (.build [(.str []),(.slice .full 0 []),(.slice .full 0 []),(.slice .full 0 []),(.slice .full 0 [])] [(0,(1,(.k (.str [109,97,105,110])))),(2,(1,cH)),(3,(1,dF))])), .o 1 (.alloc [(.str []),(.slice .full 0 []),(.slice .full 0 []),(.slice .full 0 []),(.slice .full 0 [])]), .op none none (.store bA dn 5)]
abbrev Q70:AC:= .run [(.o 17 (.build [(.str []),(.bool false)] [(0,(1,(.k (.str [120]))))])),(.o 18 (.build [(.str []),(.bool false)] [(0,(1,(.k (.str [121])))),(1,(1,(.k (.bool true))))])), .o 19 (.dv [(.str []),(.bool false)] 2 2 [(0,dJ),(1,dG)]),(.o 20 (.dv [(.str [])] 1 1 [(0,(.k (.str [101])))])),(.c 21 kV [(.k (.str [121]))]),(.c 22 kV [(.k (.str [120]))]), .c 23 uD [(.k (.int .i64 8)),ez,eI],(.o 24 (.build [(.int .i64 0),(.int .i64 0),(.slice .full 0 []),(.str []),(.str []),(.int .i64 0),(.int .i64 0),(.str []),(.slice .full 0 []),(.bool false),(.slice .full 0 []),(.slice .full 0 []),(.slice .full 0 [])] [(0,(1,(.k (.int .i64 5)))),(1,(1,(.k (.int .i64 1)))),(3,(1,(.k (.str [121])))),(5,(4,eD))])),(.c 25 kV [(.k (.str [121]))]), .c 26 qY [(.k (.int .i64 9))], .c 27 uD [(.k (.int .i64 12)),e9,fx],(.o 28 (.build [(.int .i64 0),(.int .i64 0),(.slice .full 0 []),(.str []),(.str []),(.int .i64 0),(.int .i64 0),(.str []),(.slice .full 0 []),(.bool false),(.slice .full 0 []),(.slice .full 0 []),(.slice .full 0 [])] [(0,(1,(.k (.int .i64 7)))),(1,(1,(.k (.int .i64 10)))),(3,(1,(.k (.str [101]))))])), .o 29 (.dv [(.int .i64 0),(.int .i64 0),(.slice .full 0 []),(.str []),(.str []),(.int .i64 0),(.int .i64 0),(.str []),(.slice .full 0 []),(.bool false),(.slice .full 0 []),(.slice .full 0 []),(.slice .full 0 [])] 13 1 [(0,gv)]),(.o 30 (.build [(.int .i64 0),(.int .i64 0),(.slice .full 0 []),(.str []),(.str []),(.int .i64 0),(.int .i64 0),(.str []),(.slice .full 0 []),(.bool false),(.slice .full 0 []),(.slice .full 0 []),(.slice .full 0 [])] [(0,(1,(.k (.int .i64 6)))),(1,(1,(.k (.int .i64 5)))),(5,(4,fA)),(11,(1,gH))])),(.c 31 kV [(.k (.str [121]))]),(.o 32 (.build [(.int .i64 0),(.int .i64 0),(.slice .full 0 []),(.str []),(.str []),(.int .i64 0),(.int .i64 0),(.str []),(.slice .full 0 []),(.bool false),(.slice .full 0 []),(.slice .full 0 []),(.slice .full 0 [])] [(0,(1,(.k (.int .i64 8)))),(1,(1,(.k (.int .i64 9)))),(9,(1,(.k (.bool true)))),(5,(4,gI))])), .o 33 (.dv [(.int .i64 0),(.int .i64 0),(.slice .full 0 []),(.str []),(.str []),(.int .i64 0),(.int .i64 0),(.str []),(.slice .full 0 []),(.bool false),(.slice .full 0 []),(.slice .full 0 []),(.slice .full 0 [])] 13 3 [(0,e8),(1,gX),(2,gY)]),(.o 34 (.build [(.str []),(.slice .full 0 []),(.slice .full 0 []),(.slice .full 0 []),(.slice .full 0 [])] [(0,(1,(.k (.str [112])))),(1,(1,ey)),(4,(1,eC)),(3,(1,gR))])), .o 2 (.alloc [(.str []),(.slice .full 0 []),(.slice .full 0 []),(.slice .full 0 []),(.slice .full 0 [])]), .op none none (.store dz iV 5)]
abbrev Q72:AC:= .seq (.run [(.o 35 (.dv [(.str [])] 1 1 [(0,(.k (.str [103])))])), .o 36 (.load bA true 5), .o 37 (.load dz true 5), .o 38 (.dv [(.str []),(.slice .full 0 []),(.slice .full 0 []),(.slice .full 0 []),(.slice .full 0 [])] 5 2 [(0,iH),(1,jr)]), .o 39 (.build [(.slice .full 0 []),(.slice .full 0 [])] [(0,(1,gZ)),(1,(1,jU))]), .op none none (.store bC jG 2)]) .ret
abbrev Q75:AC:= .seq (.run [.o 0 (.alloc [(.slice .full 0 []),(.slice .full 0 [])])]) (.seq Q6Z (.seq Q70 Q72))
abbrev Q7F:AC:= .seq (.seq (.run [.m 6 cm, .m 7 bC, .o 8 (.len cZ), .o 9 (.bin .lss dA de), .m 10 dw, .g 11 10 true (.mv bA), .g 12 10 true (.bin .leq dk (.k (.int .i64 20000))), .o 13 (.pick cb dd (.k (.bool false)))]) (.cond dm .skip (.exit 0))) (.seq (.block 1 (.run [.m 16 bC, .m 17 cm, .o 18 (.cy dn dJ 1), .o 19 (.load dG false 1), .m 20 bA, .c 21 gd [ey,eC], .m 1 ez])) (.run [.m 14 cm, .o 15 (.bin .add cT (.k (.int .i64 1))), .m 5 dF]))
abbrev Q7L:AC:= .seq (.seq (.run [.o 5 (.mv (.k (.int .i64 0)))]) (.block 0 (.loop Q7F))) (.seq (.run [.m 22 bA, .m 4 eI]) .ret)
abbrev Q7M:AC:= .seq (.run [.o 4 (.mv (.k (.int .i64 0)))]) Q7L
abbrev Q7R:AC:= .cond dm (.seq (.run [.o 4 (.mv (.k (.int .i64 20001)))]) .ret) .skip
abbrev Q7V:AC:= .seq (.seq (.run [.m 5 bA, .o 6 (.bin .gtr cm (.k (.int .i64 20000))), .m 7 dA, .g 8 7 false (.mv bC), .g 9 7 false (.uR de), .g 10 7 false (.mv bA), .g 11 7 false (.bin .sub (.k (.int .i64 20000)) cb), .g 12 7 false (.bin .geq dw dk), .o 13 (.pick cZ (.k (.bool true)) dd)]) Q7R) (.seq (.run [.m 14 bA, .o 15 (.bin .add cT (.k (.int .i64 1))), .m 16 bC, .o 17 (.uR dn), .o 18 (.bin .add dF dJ), .m 4 dG]) .ret)
abbrev Q7W:AC:= .seq (.run [.o 4 (.mv (.k (.int .i64 0)))]) Q7V
abbrev Q83:AC:= .par [.o 22 (.aq dA 4), .o 23 (.load eI false 1), .o 24 (.aq dA 3), .o 25 (.load e8 false 1), .o 26 (.aq dA 2), .o 27 (.load fx false 1), .o 28 (.aq dA 5), .o 29 (.load gv true 4), .m 30 bA, .c 31 jS [gH,gX], .c 32 jA [fA,gI], .c 33 gd [e9,gY], .c 34 gd [eD,gR], .m 1 iV] [(6,0),(7,0),(8,0),(9,0),(4,0),(5,1),(10,0),(2,0),(3,2),(11,0),(0,0),(1,3),(12,0),(13,0)]
abbrev Q88:AC:= .par [.o 46 (.aq dA 10), .o 47 (.load lx false 1), .m 48 cZ, .o 49 (.cy mr ly 6), .o 50 (.aq lz 1), .o 51 (.load lK false 1), .o 52 (.aq dA 10), .o 53 (.load kN false 1), .m 54 cZ, .o 55 (.cy lA lL 6), .o 56 (.aq lM 2), .o 57 (.load nQ true 4), .m 58 bA, .c 59 jS [oZ,oz], .c 60 gd [kM,mY], .m 1 qo] [(6,0),(7,0),(8,0),(9,0),(10,0),(11,0),(12,0),(13,0),(0,0),(1,1),(2,0),(3,0),(4,0),(5,1),(14,0),(15,0)]
abbrev Q8C:AC:= .seq (.seq (.run [.m 35 cZ, .o 36 (.aq dA 10), .o 37 (.load iH false 1), .o 38 (.len jr), .o 39 (.bin .lss gZ jU), .m 40 jG, .g 41 40 true (.mv bA), .g 42 40 true (.bin .leq kl (.k (.int .i64 20000))), .o 43 (.pick ky kK (.k (.bool false)))]) (.cond kz .skip (.exit 2))) (.seq (.block 3 Q88) (.run [.m 44 cZ, .o 45 (.bin .add kL (.k (.int .i64 1))), .m 7 lu]))
abbrev Q8G:AC:= .par [.o 61 (.aq dA 12), .o 62 (.load sa false 1), .o 63 (.aq dA 11), .o 64 (.load sb false 1), .m 65 bA, .c 66 kC [sc,vm], .c 67 kC [rh,xf], .m 1 xg] [(2,0),(3,0),(4,0),(5,0),(0,0),(1,1),(6,0),(7,0)]
abbrev Q8H:AC:= .seq (.seq (.run [.o 7 (.mv (.k (.int .i64 0)))]) (.block 2 (.loop Q8C))) Q8G
abbrev Q8M:AC:= .seq (.block 1 (.seq (.run [.m 18 bC, .m 19 cm, .o 20 (.cy dG ey 13), .o 21 (.load eC true 13), .o 6 (.alloc [(.int .i64 0),(.int .i64 0),(.slice .full 0 []),(.str []),(.str []),(.int .i64 0),(.int .i64 0),(.str []),(.slice .full 0 []),(.bool false),(.slice .full 0 []),(.slice .full 0 []),(.slice .full 0 [])]), .op none none (.store dA ez 13)]) (.seq Q83 Q8H))) (.run [.m 16 cm, .o 17 (.bin .add dn (.k (.int .i64 1))), .m 5 dJ])
abbrev Q8N:AC:= .seq (.seq (.run [.m 8 cm, .m 9 bC, .o 10 (.len dw), .o 11 (.bin .lss de cb), .m 12 dk, .g 13 12 true (.mv bA), .g 14 12 true (.bin .leq dm (.k (.int .i64 20000))), .o 15 (.pick dd cT (.k (.bool false)))]) (.cond dF .skip (.exit 0))) Q8M
abbrev Q8T:AC:= .seq (.seq (.run [.o 5 (.mv (.k (.int .i64 0)))]) (.block 0 (.loop Q8N))) (.seq (.run [.m 68 bA, .m 4 vn]) .ret)
abbrev Q8U:AC:= .seq (.run [.o 4 (.mv (.k (.int .i64 0)))]) Q8T
abbrev Q91:AC:= .par [.m 17 cH, .m 18 cH, .o 19 (.bQ dG), .o 20 (.aq ey 3), .o 21 (.load eC false 1), .m 22 cH, .o 23 (.bQ eI), .o 24 (.aq eD 2), .o 25 (.load e8 false 1), .o 26 (.len e9), .o 27 (.bin .add fx (.k (.int .i64 1))), .o 28 (.dv [(.int .i64 0)] 1 1 [(0,fA)]), .o 29 (.app 1 8 ez gv), .o 30 (.bQ dJ), .o 31 (.aq gX 3), .op none none (.store gI gH 1)] [(1,0),(2,0),(3,0),(4,0),(5,0),(6,0),(7,0),(8,0),(9,0),(10,0),(11,0),(12,0),(0,0),(13,0),(14,0),(15,0)]
abbrev Q93:AC:= .par [.m 38 cH, .m 39 cH, .o 40 (.bQ jG), .o 41 (.aq ky 4), .o 42 (.load kl false 1), .m 43 cH, .o 44 (.bQ kz), .o 45 (.aq kL 2), .o 46 (.load lu false 1), .o 47 (.len lx), .o 48 (.bin .add mr (.k (.int .i64 1))), .o 49 (.dv [(.int .i64 0)] 1 1 [(0,ly)]), .o 50 (.app 1 8 kK lz), .o 51 (.bQ jU), .o 52 (.aq kM 4), .op none none (.store kN lK 1)] [(1,0),(2,0),(3,0),(4,0),(5,0),(6,0),(7,0),(8,0),(9,0),(10,0),(11,0),(12,0),(0,0),(13,0),(14,0),(15,0)]
abbrev Q94:AC:= .seq (.run [.m 32 cH, .o 33 (.aq cm 3), .o 34 (.load gR false 1), .m 35 fF,(.o 36 (.build [(.int .i64 0),(.int .i64 0),(.slice .full 0 []),(.str []),(.str []),(.int .i64 0),(.int .i64 0),(.str []),(.slice .full 0 []),(.bool false),(.slice .full 0 []),(.slice .full 0 []),(.slice .full 0 []),(.int .i64 0),(.int .i64 0),(.int .i64 0),(.int .i64 0)] [(13,(1,gZ)),(15,(1,(.k (.int .i64 (-1)))))])), .c 37 jT [gY,iV,iH]]) Q93
abbrev Q99:AC:= .seq (.block 1 (.seq (.run [.m 14 dd, .o 15 (.cy cb dd 5), .o 16 (.load dF true 5), .o 5 (.alloc [(.str []),(.slice .full 0 []),(.slice .full 0 []),(.slice .full 0 []),(.slice .full 0 [])]), .m 4 cT, .op none none (.store cm dn 5)]) (.seq Q91 Q94))) (.run [.o 53 (.bin .add dd (.k (.int .i64 1))), .m 12 lA])
abbrev Q9D:AC:= .block 0 (.loop (.seq (.run [.o 13 (.bin .lss dd dk)]) (.seq (.cond dm .skip (.exit 0)) Q99)))
abbrev Q9H:AC:= .seq (.seq (.run [.o 9 (.aq bA 1), .o 10 (.load dw false 1), .o 11 (.len cb), .o 12 (.mv (.k (.int .i64 0)))]) Q9D) (.seq (.run [.m 54 cH, .m 2 lL]) .ret)
abbrev Q9J:AC:= .seq (.run [.o 1 (.box bC), .o 2 (.mv (.k .dO))]) (.seq (.run [.o 6 (.load bA true 2), .o 7 (.build [(.slice .full 0 []),(.slice .full 0 []),(.slice .full 0 []),(.slice .full 0 []),(.slice .full 0 [])] [(0,(2,dA))]), .o 8 (.box cZ), .m 3 de]) Q9H)
abbrev Q9M:AC:= .par [.m 22 bA, .m 23 bC, .o 24 (.bQ eD), .o 25 (.aq e8 0), .o 26 (.load e9 false 1), .o 27 (.bQ fx), .o 28 (.aq fA 0), .o 29 (.load gv true 2), .o 30 (.aq dw 0), .o 31 (.load gX false 1), .c 32 vg [gH,gI], .m 33 cH, .o 34 (.build [(.int .i64 0),(.slice .full 0 []),(.slice .full 0 []),(.int .i64 0)] [(0,(1,eI)),(1,(1,gY)),(3,(1,gR))]), .o 35 (.box iV), .m 10 gZ] [(1,0),(2,0),(3,0),(4,0),(5,0),(6,0),(7,0),(8,0),(9,0),(10,0),(0,0),(11,0),(12,0),(13,0),(14,0)]
abbrev Q9N:AC:= .par [.m 36 cb, .m 37 cb, .o 38 (.bQ jr), .o 39 (.aq jU 2), .o 40 (.load jG false 1), .m 41 bC, .o 42 (.bQ kl), .o 43 (.aq kK 1), .o 44 (.load kz false 1), .o 45 (.app 1 8 ky kL), .m 46 dz, .o 47 (.app 1 8 lu lx), .o 48 (.bQ iH), .o 49 (.aq ly 2), .op none none (.store lz mr 1)] [(1,0),(2,0),(3,0),(4,0),(5,0),(6,0),(7,0),(8,0),(9,0),(10,0),(11,0),(0,0),(12,0),(13,0),(14,0)]
abbrev Q9V:AC:= .seq (.cond lL .skip (.exit 0)) (.seq (.block 1 (.run [.m 55 cb, .m 56 cb, .o 57 (.bQ nQ), .o 58 (.aq oZ 2), .o 59 (.load oz false 1), .o 60 (.alloc [(.int .i64 0)]), .o 61 (.dv [.dO] 1 1 [(0,qo)]), .o 62 (.app 1 8 mY sa), .o 63 (.bQ lM), .o 64 (.aq sb 2), .op none none (.store sc rh 1)])) (.run [.o 65 (.bin .add lA (.k (.int .i64 1))), .m 53 vm]))
abbrev Q9W:AC:= .seq (.run [.o 54 (.bin .lss lA kN)]) Q9V
abbrev QA3:AC:= .seq (.run [.m 66 bC, .m 67 bC, .o 68 (.bQ xg), .o 69 (.aq vn 4), .o 70 (.load yR false 1), .m 71 cb, .o 72 (.dv [.dO] 1 1 [(0,Dc)]), .o 73 (.app 1 8 yS A5), .o 74 (.bQ xf), .o 75 (.aq Dd 4), .op none none (.store De A6 1)]) (.seq (.run [.m 76 bC, .o 77 (.bQ A7), .o 78 (.aq Df 0), .o 79 (.load yT false 1), .m 80 bA, .c 81 oW [Fj,Fk], .m 8 Fl]) .ret)
abbrev QA4:AC:= .seq (.seq (.run [.o 50 (.aq dw 2), .o 51 (.load lK false 1), .o 52 (.len kM), .o 53 (.mv (.k (.int .i64 0)))]) (.block 0 (.loop Q9W))) QA3
abbrev QA8:AC:= .seq (.run [.o 8 (.mv (.k (.int .i64 0)))]) (.seq (.run [.m 11 bC, .o 12 (.bQ dk), .o 13 (.aq dd 0), .o 14 (.load dm false 1), .o 15 (.bQ cT), .o 16 (.aq dF 0), .o 17 (.aq dn 1), .o 18 (.load dJ false 1), .m 19 bA, .o 20 (.cy dG ey 5), .o 21 (.load eC true 5), .o 9 (.alloc [(.str []),(.slice .full 0 []),(.slice .full 0 []),(.slice .full 0 []),(.slice .full 0 [])]), .op none none (.store dw ez 5)]) (.seq Q9M (.seq Q9N QA4)))
abbrev QAC:AC:= .seq (.run [.o 3 (.box bA), .o 4 (.mv (.k (.int .i64 0)))]) (.seq (.run [.m 5 bC, .o 6 (.bQ cm), .o 7 (.aq dA 0), .o 8 (.aq cZ 1), .o 9 (.load de false 1), .o 10 (.uy 76 [cH]), .c 11 fY [dw,cb], .m 4 dk]) .ret)
abbrev QAN:AC:= .seq (.run [.o 18 (.aq cZ 0), .o 19 (.load dG false 1)]) (.cond ey (.seq (.run [.m 20 cm, .m 21 bC, .o 22 (.aq cZ 1), .o 23 (.load eI false 1), .c 24 iE [ez,eD], .o 25 (.dv [.dO] 1 1 [(0,e8)]), .o 26 (.app 1 8 eC e9), .m 5 fx]) (.exit 1)) .skip)
abbrev QAR:AC:= .seq (.run [(.o 4 (.mv (.k (.int .i64 (-1)))))]) .ret
abbrev QAY:AC:= .seq (.run [.m 28 bC, .o 29 (.aq cZ 2), .o 30 (.load gH true 4), .c 31 jN [gv,gX], .m 27 gI, .o 32 (.ext fA 0), .o 33 (.ext fA 1), .m 8 gY, .m 9 gR]) (.seq (.seq (.run [.m 34 dw, .o 35 (.un .not iV)]) (.cond gZ QAR .skip)) (.seq (.run [.m 36 de, .o 10 (.alloc [(.int .i64 0)]), .op none none (.store cb iH 1)]) (.run [.m 37 cm, .o 38 (.dv [.dO] 1 1 [(0,cb)]), .o 39 (.app 1 8 jr jU), .m 5 jG])))
abbrev QB3:AC:= .seq (.block 1 (.seq (.run [.o 16 (.cy dd cT 6), .o 17 (.load dn true 6), .o 7 (.alloc [(.bool false),(.str []),(.int .i64 0),(.int .i64 0),(.str []),(.slice .full 0 [])]), .op none none (.store cZ dJ 6)]) (.seq QAN QAY))) (.run [.o 40 (.bin .add cT (.k (.int .i64 1))), .m 14 ky])
abbrev QB5:AC:= .seq (.run [.o 15 (.bin .lss cT dm)]) (.seq (.cond dF .skip (.exit 0)) QB3)
abbrev QBC:AC:= .seq (.run [(.o 4 (.mv (.k (.int .i64 (-1)))))]) .ret
abbrev QBE:AC:= .cond lx (.seq (.run [.m 47 bC, .o 48 (.bQ mr), .o 49 (.aq ly 6), .o 50 (.aq lz 0), .op none none (.store lK (.k (.int .i64 5)) 1)]) QBC) .skip
abbrev QBH:AC:= .par [.m 55 bC, .m 56 bC, .o 57 (.bQ nQ), .o 58 (.aq oZ 0), .o 59 (.load oz false 1), .o 60 (.aq cH 4), .o 61 (.load qo false 1), .c 62 ik [mY,sa], .m 63 cm, .o 64 (.aq cH 0), .o 65 (.load sc false 1), .c 66 jd [lM,rh,sb,vm], .m 4 xf] [(1,0),(2,0),(3,0),(4,0),(5,0),(6,0),(7,0),(0,0),(8,0),(9,0),(10,1),(11,0),(12,0)]
abbrev QBK:AC:= .seq (.seq (.run [.m 41 bC, .o 42 (.bQ kl), .o 43 (.aq kK 4), .o 44 (.load kz false 1), .o 45 (.len kL), .o 46 (.bin .gtr lu (.k (.int .i64 100)))]) QBE) (.seq (.run [.m 51 bC, .o 52 (.aq cH 0), .o 53 (.load kN false 1),(.c 54 dY [kM,lA,(.k (.slice .full 0 []))])]) (.seq QBH .ret))
abbrev QBL:AC:= .seq (.seq (.run [.o 11 (.aq cH 10), .o 12 (.load dk false 1), .o 13 (.len dd), .o 14 (.mv (.k (.int .i64 0)))]) (.block 0 (.loop QB5))) QBK
abbrev QBN:AC:= .seq (.run [.o 3 (.box bA), .o 4 (.mv (.k (.int .i64 0)))]) (.seq (.run [.o 5 (.mv (.k (.slice .full 0 [])))]) QBL)
abbrev QBT:AC:= .seq (.run [.m 10 bC, .o 11 (.aq cH 0), .o 12 (.load dk false 1),(.c 13 dY [cb,dd,(.k (.slice .full 0 []))])]) (.seq (.run [.o 4 (.mv (.k (.int .i64 0)))]) .ret)
abbrev QC3:AC:= .seq (.seq (.run [.m 21 dA]) (.cond ez (.run [.m 22 bC, .o 23 (.aq cH 0), .o 24 (.load eD false 1), .m 25 cm, .o 26 (.dv [(.int .i64 0)] 1 1 [(0,e9)]), .c 27 dY [eI,e8,fx]]) .skip)) (.seq (.run [.m 28 cm, .m 4 gv]) .ret)
abbrev QC6:AC:= .seq (.run [.o 3 (.box bA), .o 4 (.mv (.k (.int .i64 0)))]) (.seq (.seq (.run [.o 7 (.aq cH 9), .o 8 (.load cZ false 1), .o 9 (.un .not de)]) (.cond dw QBT .skip)) (.seq (.run [.m 15 bC, .o 16 (.aq cH 5), .o 17 (.load dn true 4), .c 18 jN [dF,dJ], .m 14 dG, .o 19 (.ext cT 0), .o 20 (.ext cT 1), .m 5 ey, .m 6 eC]) QC3))
abbrev QCC:AC:= .par [.m 21 bC, .o 22 (.bQ ez), .o 23 (.aq eI 0), .o 24 (.load eD false 1), .o 25 (.bQ e8), .o 26 (.aq e9 2), .o 27 (.load fx false 1), .o 28 (.aq cH 16), .o 29 (.load gv false 1), .o 30 (.bin .sub gH (.k (.int .i64 1))), .o 31 (.cy fA gX 17), .o 32 (.aq gI 15), .o 33 (.load gY false 1), .m 4 gR] [(0,0),(1,0),(2,0),(3,0),(4,0),(5,0),(6,0),(7,0),(8,0),(9,0),(10,0),(11,0),(12,0),(13,0)]
abbrev QCM:AC:= .par [.m 49 bC, .o 50 (.bQ lz), .o 51 (.aq lK 0), .o 52 (.load kM false 1), .o 53 (.aq cH 13), .o 54 (.load lA false 1), .o 55 (.aq cm 3), .o 56 (.load lM false 1), .c 57 oI [kN,lL,nQ], .m 48 oZ, .o 58 (.ext ly 0), .o 59 (.ext ly 1), .m 6 oz, .m 7 mY] [(0,0),(1,0),(2,0),(3,0),(4,0),(5,0),(6,0),(7,0),(8,0),(9,0),(10,0),(11,0),(12,0),(13,0)]
abbrev QCS:AC:= .par [.m 63 bC, .o 64 (.bQ sb), .o 65 (.aq sc 6), .o 66 (.aq vm 2), .o 67 (.load xf false 1), .m 68 bC, .o 69 (.bQ vn), .o 70 (.aq yR 2), .o 71 (.load yS false 1), .o 72 (.len Dc), .o 73 (.bin .geq xg A5)] [(0,0),(1,0),(2,0),(3,0),(4,0),(5,0),(6,0),(7,0),(8,0),(9,0),(10,0)]
abbrev QCV:AC:= .seq (.run [(.o 4 (.mv (.k (.int .i64 (-1)))))]) .ret
abbrev QCX:AC:= .cond A6 (.seq (.run [.m 74 bC, .o 75 (.bQ Dd), .o 76 (.aq De 6), .o 77 (.aq A7 0), .op none none (.store Df (.k (.int .i64 3)) 1)]) QCV) .skip
abbrev QCZ:AC:= .par [.m 78 bC, .o 79 (.bQ yT), .o 80 (.aq Fj 2), .o 81 (.load Fk false 1), .m 82 bC, .o 83 (.bQ I0), .o 84 (.aq I1 6), .o 85 (.aq I2 2), .o 86 (.load I3 false 1), .o 87 (.cy Fl I4 1), .o 88 (.load I5 false 1), .m 8 I6] [(0,0),(1,0),(2,0),(3,0),(4,0),(5,0),(6,0),(7,0),(8,0),(9,0),(10,0),(11,0)]
abbrev QD7:AC:= .seq (.run [.m 89 bC, .o 90 (.bQ Dg), .o 91 (.aq Fm 6), .o 92 (.aq I7 2), .o 93 (.load Oy false 1), .o 94 (.bin .add Ur (.k (.int .i64 1))), .o 95 (.bQ Dg), .o 96 (.aq Ut 6), .o 97 (.aq ab3 2), .op none none (.store ab4 Us 1)]) (.seq (.run [.m 98 bC, .o 99 (.aq cm 3), .o 100 (.load ab6 false 1), .c 101 iE [ab5,WA], .m 102 de, .o 103 (.bQ WB), .op none none (.store WD WC 1)]) (.seq (.run [.m 104 bC, .o 105 (.aq cm 0), .o 106 (.load WG false 1), .m 107 de, .o 108 (.dv [(.int .i64 0)] 1 1 [(0,WI)]), .c 109 dY [WE,WH,WJ]]) (.seq (.run [.o 110 (.aq cH 15), .o 111 (.load WK false 1), .m 4 WL]) .ret)))
abbrev QDC:AC:= .cond kK (.seq (.run [.m 44 bC, .o 45 (.aq cm 0), .o 46 (.load lu false 1),(.c 47 dY [kL,lx,(.k (.slice .full 0 []))])]) (.seq QCM (.seq (.run [.m 60 dA, .m 4 qo]) .ret))) (.seq (.run [.o 62 (.bin .eql cT (.k (.int .i64 2))), .m 61 rh]) (.cond sa (.seq (.seq QCS QCX) (.seq QCZ QD7)) .skip))
abbrev QDE:AC:= .cond iV (.seq (.run [.m 36 bC, .o 37 (.aq cm 0), .o 38 (.load jr false 1),(.c 39 dY [iH,jU,(.k (.slice .full 0 []))])]) (.seq (.run [.o 40 (.aq cH 16), .o 41 (.load ky false 1), .m 4 kl]) .ret)) (.seq (.run [.o 43 (.bin .eql cT (.k (.int .i64 10))), .m 42 kz]) QDC)
abbrev QDG:AC:= .cond dF (.seq (.run [.m 17 bC, .o 18 (.aq cm 0), .o 19 (.load dG false 1),(.c 20 dY [dJ,ey,(.k (.slice .full 0 []))])]) (.seq QCC .ret)) (.seq (.run [.o 35 (.bin .eql cT (.k (.int .i64 8))), .m 34 gZ]) QDE)
abbrev QDI:AC:= .block 0 (.seq (.run [.o 16 (.bin .eql cT (.k (.int .i64 7))), .m 15 dn]) QDG)
abbrev QDN:AC:= .seq (.run [(.o 4 (.mv (.k (.int .i64 (-1)))))]) .ret
abbrev QE4:AC:= .seq (.seq (.run [.m 153 dw, .o 154 (.bin .neq af1 (.k (.int .i64 0)))]) (.cond af2 (.seq (.run [.o 155 (.aq cm 11), .o 156 (.load af3 false 1), .o 157 (.aq cH 15), .o 158 (.load af5 false 1), .c 159 pY [af4,af6], .m 4 af7]) .ret) .skip)) (.seq (.run [.o 160 (.aq cm 12), .o 161 (.load af8 false 1), .o 162 (.aq cH 15), .o 163 (.load aga false 1), .c 164 pY [af9,agb], .m 4 agc]) .ret)
abbrev QEB:AC:= .cond agd (.seq (.run [.m 167 dw, .o 168 (.bin .neq agf (.k (.int .i64 0)))]) (.cond agh (.seq (.run [.o 169 (.aq cm 11), .o 170 (.load agi false 1), .o 171 (.aq cm 0), .o 172 (.load agk false 1), .c 173 pY [agj,agl], .m 4 agm]) .ret) .skip)) .skip
abbrev QED:AC:= .cond afZ QE4 (.seq (.run [.o 166 (.bin .eql Eb (.k (.int .i64 6))), .m 165 age]) QEB)
abbrev QEF:AC:= .cond afL (.run [.m 139 bC, .m 140 bC, .o 141 (.bQ afO), .o 142 (.aq afP 6), .o 143 (.aq afQ 3), .o 144 (.load afR false 1), .m 145 dw, .o 146 (.dv [(.int .i64 0)] 1 1 [(0,afT)]), .o 147 (.app 1 8 afS afU), .o 148 (.bQ afN), .o 149 (.aq afW 6), .o 150 (.aq afX 3), .op none none (.store afY afV 1)]) (.seq (.run [.o 152 (.bin .eql Eb (.k (.int .i64 5))), .m 151 af0]) QED)
abbrev QEH:AC:= .cond W1 (.run [.m 131 bC, .o 132 (.aq cm 3), .o 133 (.load afG false 1), .c 134 iE [afF,afH], .m 135 dw, .o 136 (.bQ afI), .op none none (.store afK afJ 1)]) (.seq (.run [.o 138 (.bin .eql Eb (.k (.int .i64 3))), .m 137 afM]) QEF)
abbrev QEJ:AC:= .block 1 (.seq (.run [.o 130 (.bin .eql Eb (.k (.int .i64 1))), .m 129 W2]) QEH)
abbrev QEP:AC:= .seq (.seq (.run [.m 119 cb, .o 120 (.un .not WT)]) (.cond WU QDN .skip)) (.seq (.run [.m 121 bC, .o 122 (.aq cm 0), .o 123 (.load WW false 1), .m 124 dw, .o 125 (.dv [(.int .i64 0)] 1 1 [(0,WY)]), .c 126 dY [WV,WX,WZ]]) (.seq (.seq (.run [.o 127 (.aq cm 1), .o 128 (.load W0 false 1)]) QEJ) (.seq (.run [.o 174 (.aq cH 15), .o 175 (.load agn false 1), .m 4 ago]) .ret)))
abbrev QET:AC:= .seq (.run [.o 3 (.box bA), .o 4 (.mv (.k (.int .i64 0)))]) (.seq (.run [.o 11 (.aq cH 0), .o 12 (.load dk true 13), .o 5 (.alloc [(.int .i64 0),(.int .i64 0),(.slice .full 0 []),(.str []),(.str []),(.int .i64 0),(.int .i64 0),(.str []),(.slice .full 0 []),(.bool false),(.slice .full 0 []),(.slice .full 0 []),(.slice .full 0 [])]), .op none none (.store cm dd 13)]) (.seq (.seq (.run [.o 13 (.aq cm 1), .o 14 (.load dm false 1)]) QDI) (.seq (.run [.m 113 bC, .o 114 (.aq cm 5), .o 115 (.load WN true 4), .c 116 jN [WM,WO], .m 112 WQ, .o 117 (.ext Oz 0), .o 118 (.ext Oz 1), .m 9 WR, .m 10 WS]) QEP)))
abbrev QEW:AC:= .par [.m 12 bC, .m 13 bC, .o 14 (.bQ dm), .o 15 (.aq cT 4), .o 16 (.load dF false 1), .m 17 bC, .o 18 (.bQ dJ), .o 19 (.aq dG 4), .o 20 (.load ey false 1), .o 21 (.len eC), .o 22 (.bin .sub ez (.k (.int .i64 1))), .o 23 (.DJ 1 dn none (some eI)), .o 24 (.bQ dd), .o 25 (.aq e8 4), .op none none (.store e9 eD 1)] [(0,0),(1,0),(2,0),(3,0),(4,0),(5,0),(6,0),(7,0),(8,0),(9,0),(10,0),(11,0),(12,0),(13,0),(14,0)]
abbrev QF0:AC:= .seq (.run [(.o 4 (.mv (.k (.int .i64 (-1)))))]) .ret
abbrev QF2:AC:= .cond fA (.seq (.run [.m 28 bC, .o 29 (.bQ gv), .o 30 (.aq gH 6), .o 31 (.aq gX 0), .op none none (.store gI (.k (.int .i64 1)) 1)]) QF0) .skip
abbrev QFB:AC:= .seq (.seq (.run [.o 43 (.aq dA 0), .o 44 (.aq kz 3), .o 45 (.load kL false 1), .o 46 (.bin .neq lu (.k (.str [])))]) (.cond lx (.run [.m 47 bC, .o 48 (.aq dA 0), .o 49 (.aq ly 3), .o 50 (.load lz false 1), .c 51 iE [mr,lK], .m 52 bA, .o 53 (.bQ kM), .op none none (.store lA kN 1)]) .skip)) (.seq (.run [.o 54 (.aq dA 15), .o 55 (.load lL false 1), .m 4 lM]) .ret)
abbrev QFD:AC:= .seq (.seq (.run [.m 26 cm, .o 27 (.bin .eql fx (.k (.int .i64 0)))]) QF2) (.seq (.run [.m 32 bC, .o 33 (.bQ gY), .o 34 (.aq gR 0), .o 35 (.load iV false 1), .o 36 (.bQ gZ), .o 37 (.aq iH 2), .o 38 (.load jr false 1), .m 39 cm, .o 40 (.bin .sub jG (.k (.int .i64 1))), .o 41 (.cy jU ky 17), .o 42 (.load kl true 17), .o 6 (.alloc [(.int .i64 0),(.int .i64 0),(.slice .full 0 []),(.str []),(.str []),(.int .i64 0),(.int .i64 0),(.str []),(.slice .full 0 []),(.bool false),(.slice .full 0 []),(.slice .full 0 []),(.slice .full 0 []),(.int .i64 0),(.int .i64 0),(.int .i64 0),(.int .i64 0)]), .op none none (.store dA kK 17)]) QFB)
abbrev QFG:AC:= .seq (.run [.o 4 (.mv (.k (.int .i64 0)))]) (.seq (.run [.m 7 bC, .c 8 kD [cZ], .o 9 (.bQ de), .o 10 (.aq dw 3), .o 11 (.load cb false 1), .m 5 dk]) (.seq QEW QFD))
abbrev QFK:AC:= .seq (.run [(.o 7 (.build [(.int .i64 0),(.int .i64 0)] [(0,(1,(.k (.int .i64 1))))])), .op none none (.store dz cZ 2)]) .ret
abbrev QG2:AC:= .seq (.seq (.run [.o 20 (.aq cH 0), .o 21 (.load eC false 1), .o 22 (.bin .eql ez (.k (.int .i64 0)))]) (.cond eI (.run [.o 23 (.load bA true 2), .c 24 tL [eD], .op none none (.store cH e8 2)]) .skip)) (.seq (.run [.o 25 (.load cH true 2), .op none none (.store dz e9 2)]) .ret)
abbrev QG3:AC:= .seq (.seq (.run [.o 15 (.aq cH 0), .o 16 (.load dF false 1), .o 17 (.bin .eql dn (.k (.int .i64 0)))]) (.cond dJ (.run [.o 18 (.load bA true 2), .c 19 vh [dG], .op none none (.store cH ey 2)]) .skip)) QG2
abbrev QG4:AC:= .seq (.seq (.run [.o 10 (.aq cH 0), .o 11 (.load cb false 1), .o 12 (.bin .eql dk (.k (.int .i64 0)))]) (.cond dd (.run [.o 13 (.load bA true 2), .c 14 qd [dm], .op none none (.store cH cT 2)]) .skip)) QG3
abbrev QG7:AC:= .seq (.run [.o 1 (.box bC), .o 2 (.alloc [(.int .i64 0),(.int .i64 0)])]) (.seq (.seq (.run [.o 4 (.load bA true 2), .c 5 qX [fF], .o 6 (.un .not cm)]) (.cond dA QFK .skip)) (.seq (.run [.o 8 (.load bA true 2), .c 9 lP [de], .o 3 (.alloc [(.int .i64 0),(.int .i64 0)]), .op none none (.store cH dw 2)]) QG4))
abbrev QG9:AC:= .par [.m 7 bA, .o 8 (.bin .lss cZ (.k (.int .i64 1))), .m 9 de, .g 10 9 false (.aq dz 3), .g 11 9 false (.load cb false 1), .g 12 9 false (.len dk), .g 13 9 false (.aq dz 0), .g 14 9 false (.load dm false 1), .d 15 9 false xb [cT], .g 16 9 false (.bin .neq dd dF), .o 17 (.pick dw (.k (.bool true)) dn)] [(0,0),(1,0),(2,0),(6,0),(7,0),(8,0),(3,0),(4,1),(5,0),(9,0),(10,0)]
abbrev QGC:AC:= .cond dJ (.seq (.run [.o 4 (.mv (.k (.bool false)))]) .ret) .skip
abbrev QGL:AC:= .cond gX (.seq (.run [.o 32 (.aq dz 1), .o 33 (.load gY false 1), .o 34 (.bin .eql gR (.k (.int .i64 0))), .m 35 iV, .g 36 35 true (.aq dz 2), .g 37 35 true (.load iH false 1), .d 38 35 true nP [jr], .o 39 (.pick gZ jU (.k (.bool false))), .m 4 jG]) .ret) .skip
abbrev QGN:AC:= .cond eC (.seq (.run [.o 22 (.aq dz 1), .o 23 (.load eI false 1), .o 24 (.bin .geq eD (.k (.int .i64 0))), .m 25 e8, .g 26 25 true (.aq dz 2), .g 27 25 true (.load fx false 1), .g 28 25 true (.bin .eql fA (.k (.str []))), .o 29 (.pick e9 gv (.k (.bool false))), .m 4 gH]) .ret) (.seq (.run [.o 31 (.bin .eql ey (.k (.int .i64 2))), .m 30 gI]) QGL)
abbrev QGP:AC:= .block 0 (.seq (.run [.o 21 (.bin .eql ey (.k (.int .i64 1))), .m 20 ez]) QGN)
abbrev QGU:AC:= .cond mr (.seq (.run [.o 4 (.mv (.k (.bool false)))]) .ret) .skip
abbrev QH3:AC:= .cond mY (.seq (.run [.o 4 (.mv (.k (.bool false)))]) .ret) .skip
abbrev QH5:AC:= .seq (.run [.o 53 (.cy lz kM 4), .o 54 (.load lA true 4), .o 6 (.alloc [(.int .i64 0),(.int .i64 0),(.str []),(.slice .full 0 [])]), .op none none (.store dA lL 4)]) (.seq (.run [.o 55 (.load dA true 4), .m 56 bA, .o 57 (.bin .sub nQ (.k (.int .i64 1))), .c 58 pX [lM,oZ], .o 59 (.un .not oz)]) QH3)
abbrev QH9:AC:= .seq (.cond kN .skip (.exit 1)) (.seq (.block 2 QH5) (.run [.o 60 (.bin .add kM (.k (.int .i64 1))), .m 51 qo]))
abbrev QHD:AC:= .seq (.run [.o 48 (.aq dz 3), .o 49 (.load ly false 1), .o 50 (.len lz), .o 51 (.mv (.k (.int .i64 0)))]) (.block 1 (.loop (.seq (.run [.o 52 (.bin .lss kM lK)]) QH9)))
abbrev QHG:AC:= .seq QHD (.seq (.run [.o 4 (.mv (.k (.bool true)))]) .ret)
abbrev QHH:AC:= .seq (.seq (.run [.o 40 (.aq dz 1), .o 41 (.load ky false 1), .o 42 (.bin .neq kl (.k (.int .i64 0))), .m 43 kK, .g 44 43 false (.aq dz 2), .g 45 43 false (.load kL false 1), .g 46 43 false (.bin .neq lu (.k (.str []))), .o 47 (.pick kz (.k (.bool true)) lx)]) QGU) QHG
abbrev QHK:AC:= .seq (.run [.o 2 (.box bC), .o 4 (.mv (.k (.bool false)))]) (.seq (.seq QG9 QGC) (.seq (.seq (.run [.o 18 (.aq dz 0), .o 19 (.load dG false 1)]) QGP) QHH))
open Go.Proofs
theorem Hh:Has Tryz.prog oj 10 [(2,none)] Q6X:=⟨Tryz.f38,by kernel_rfl,by kernel_rfl⟩
theorem Hi:Has Tryz.prog w9 40 [(0,(some (true,2)))] Q75:=⟨Tryz.f39,by kernel_rfl,by kernel_rfl⟩
theorem Ab:Has Tryz.prog jA 23 [(4,none)] Q7M:=⟨Tryz.f40,by kernel_rfl,by kernel_rfl⟩
theorem o5:Has Tryz.prog gd 19 [(4,none)] Q7W:=⟨Tryz.f41,by kernel_rfl,by kernel_rfl⟩
theorem rN:Has Tryz.prog kC 69 [(4,none)] Q8U:=⟨Tryz.f42,by kernel_rfl,by kernel_rfl⟩
theorem I9:Has Tryz.prog kI 55 [(2,none)] Q9J:=⟨Tryz.f43,by kernel_rfl,by kernel_rfl⟩
theorem yU:Has Tryz.prog jd 82 [(8,none)] QA8:=⟨Tryz.f44,by kernel_rfl,by kernel_rfl⟩
theorem Ac:Has Tryz.prog ik 12 [(4,none)] QAC:=⟨Tryz.f45,by kernel_rfl,by kernel_rfl⟩
theorem yV:Has Tryz.prog oV 67 [(4,none)] QBN:=⟨Tryz.f46,by kernel_rfl,by kernel_rfl⟩
theorem xR:Has Tryz.prog ox 29 [(4,none)] QC6:=⟨Tryz.f47,by kernel_rfl,by kernel_rfl⟩
theorem gS:Has Tryz.prog qn 176 [(4,none)] QET:=⟨Tryz.f48,by kernel_rfl,by kernel_rfl⟩
theorem qz:Has Tryz.prog oy 56 [(4,none)] QFG:=⟨Tryz.f49,by kernel_rfl,by kernel_rfl⟩
theorem oa:Has Tryz.prog xa 26 [(2,(some (true,2)))] QG7:=⟨Tryz.f53,by kernel_rfl,by kernel_rfl⟩
theorem zX:Has Tryz.prog pX 61 [(4,none)] QHK:=⟨Tryz.f55,by kernel_rfl,by kernel_rfl⟩
abbrev QHT:AC:= .cond dm (.seq (.run [.o 2 (.mv (.k (.bool false)))]) .ret) .skip
abbrev QHY:AC:= .seq (.block 1 (.seq (.run [.o 9 (.cy cm cZ 1), .o 10 (.load dw false 1), .m 4 cb]) (.seq (.run [.m 11 fF, .c 12 nP [dk], .o 13 (.un .not dd)]) QHT))) (.run [.o 14 (.bin .add cZ (.k (.int .i64 1))), .m 7 cT])
abbrev QI2:AC:= .block 0 (.loop (.seq (.run [.o 8 (.bin .lss cZ dA)]) (.seq (.cond de .skip (.exit 0)) QHY)))
abbrev QI6:AC:= .seq (.seq (.run [.m 5 bC, .o 6 (.len cm), .o 7 (.mv (.k (.int .i64 0)))]) QI2) (.seq (.run [.o 2 (.mv (.k (.bool true)))]) .ret)
abbrev QI7:AC:= .seq (.run [.o 2 (.mv (.k (.bool false)))]) QI6
abbrev QIC:AC:= .cond dn (.seq (.run [.o 2 (.mv (.k (.bool false)))]) .ret) .skip
abbrev QIG:AC:= .seq (.seq (.run [.m 3 bC, .o 4 (.uR cH), .o 5 (.bin .lss fF (.k (.int .i64 1))), .m 6 cm, .g 7 6 false (.mv bC), .g 8 6 false (.uR cZ), .g 9 6 false (.bin .gtr de (.k (.int .i64 8))), .o 10 (.pick dA (.k (.bool true)) dw), .m 11 cb, .g 12 11 false (.mv bC), .g 13 11 false (.Al dd (.k (.int .i64 0))), .d 14 11 false qZ [dm], .g 15 11 false (.un .not cT), .o 16 (.pick dk (.k (.bool true)) dF)]) QIC) (.seq (.run [.m 17 bC, .c 18 A2 [dJ,(.k (.int .i64 0))], .m 19 bC, .o 20 (.uR ey), .o 21 (.bin .eql dG eC), .m 22 ez, .g 23 22 true (.mv bC), .d 24 22 true yO [eD], .g 25 22 true (.un .not e8), .o 26 (.pick eI e9 (.k (.bool false))), .m 2 fx]) .ret)
abbrev QIH:AC:= .seq (.run [.o 2 (.mv (.k (.bool false)))]) QIG
abbrev QIM:AC:= .cond dF (.seq (.run [.o 6 (.mv (.k (.bool false)))]) .ret) .skip
abbrev QIT:AC:= .par [.m 29 bC, .o 30 (.bQ gH), .o 31 (.aq gX 0), .o 32 (.load gI false 1), .o 33 (.bin .gtr gY (.k (.int .i64 200))), .m 34 gR, .g 35 34 false (.aq de 0), .g 36 34 false (.load gZ false 1), .g 37 34 false (.mv bC), .g 38 34 false (.bQ jr), .g 39 34 false (.aq jU 0), .g 40 34 false (.load jG false 1), .g 41 34 false (.bin .neq iH ky), .o 42 (.pick iV (.k (.bool true)) kl), .m 43 kK, .g 44 43 false (.aq de 2), .g 45 43 false (.load kL false 1), .d 46 43 false mW [lu], .g 47 43 false (.un .not lx), .o 48 (.pick kz (.k (.bool true)) mr), .m 49 ly, .g 50 49 false (.load de true 13), .d 51 49 false tM [lK], .g 52 49 false (.un .not kM), .o 53 (.pick lz (.k (.bool true)) kN)] [(0,0),(1,0),(2,0),(3,0),(4,0),(5,0),(6,0),(7,0),(8,0),(9,0),(10,0),(11,0),(12,0),(13,0),(14,0),(15,0),(16,0),(17,0),(18,0),(19,0),(20,0),(21,0),(22,0),(23,0),(24,0)]
abbrev QIW:AC:= .cond lA (.seq (.run [.o 6 (.mv (.k (.bool false)))]) .ret) .skip
abbrev QJ1:AC:= .cond yR (.seq (.run [.o 6 (.mv (.k (.bool false)))]) .ret) .skip
abbrev QJ3:AC:= .seq (.seq QIT QIW) (.seq (.run [.m 54 bC, .o 55 (.aq de 11), .o 56 (.load lM false 1), .m 57 dz, .o 58 (.bin .add oZ (.k (.int .i64 1))), .c 59 kj [lL,nQ,oz], .o 60 (.un .not mY), .m 61 qo, .g 62 61 false (.mv bC), .g 63 61 false (.aq de 12), .g 64 61 false (.load sb false 1), .g 65 61 false (.mv dz), .g 66 61 false (.bin .add vm (.k (.int .i64 1))), .d 67 61 false kj [rh,sc,xf], .g 68 61 false (.un .not xg), .o 69 (.pick sa (.k (.bool true)) vn)]) QJ1)
abbrev QJ5:AC:= .seq (.run [.o 20 (.cy dn dG 13), .o 21 (.load eC true 13), .o 8 (.alloc [(.int .i64 0),(.int .i64 0),(.slice .full 0 []),(.str []),(.str []),(.int .i64 0),(.int .i64 0),(.str []),(.slice .full 0 []),(.bool false),(.slice .full 0 []),(.slice .full 0 []),(.slice .full 0 [])]), .op none none (.store de ez 13)]) (.seq (.run [.m 22 bC, .o 23 (.bQ eI), .o 24 (.aq eD 0), .o 25 (.load e8 false 1), .o 26 (.bin .add e9 (.k (.int .i64 1))), .o 27 (.bQ eI), .o 28 (.aq fA 0), .op none none (.store gv fx 1)]) QJ3)
abbrev QJ9:AC:= .seq (.cond ey .skip (.exit 0)) (.seq (.block 1 QJ5) (.run [.o 70 (.bin .add dG (.k (.int .i64 1))), .m 18 yS]))
abbrev QJD:AC:= .seq (.run [.m 16 bA, .o 17 (.len dn), .o 18 (.mv (.k (.int .i64 0)))]) (.block 0 (.loop (.seq (.run [.o 19 (.bin .lss dG dJ)]) QJ9)))
abbrev QJG:AC:= .seq QJD (.seq (.run [.o 6 (.mv (.k (.bool true)))]) .ret)
abbrev QJH:AC:= .seq (.seq (.run [.m 9 dz, .o 10 (.bin .gtr dw (.k (.int .i64 12))), .m 11 cb, .g 12 11 true (.mv bA), .g 13 11 true (.len dd), .g 14 11 true (.bin .gtr dm (.k (.int .i64 0))), .o 15 (.pick dk cT (.k (.bool false)))]) QIM) QJG
abbrev QJI:AC:= .seq (.run [.o 6 (.mv (.k (.bool false)))]) QJH
abbrev QJL:AC:= .seq (.run [.m 3 bC,(.o 4 (.build [(.int .i64 0),(.int .i64 0),(.str []),(.slice .full 0 [])] [(0,(1,(.k (.int .i64 1)))),(1,(1,cH))])), .op none none (.store dz fF 4)]) .ret
abbrev QJM:AC:= .seq (.run [.o 2 (.alloc [(.int .i64 0),(.int .i64 0),(.str []),(.slice .full 0 [])])]) QJL
abbrev QJP:AC:= .seq (.run [.m 3 bC,(.o 4 (.build [(.int .i64 0),(.int .i64 0),(.str []),(.slice .full 0 [])] [(0,(1,(.k (.int .i64 2)))),(2,(1,cH))])), .op none none (.store dz fF 4)]) .ret
abbrev QJQ:AC:= .seq (.run [.o 2 (.alloc [(.int .i64 0),(.int .i64 0),(.str []),(.slice .full 0 [])])]) QJP
abbrev QJU:AC:= .seq (.run [.o 4 (.box bA), .o 5 (.box dz), .o 6 (.alloc [(.int .i64 0),(.int .i64 0),(.str []),(.slice .full 0 [])])]) (.seq (.run [.m 7 bC, .o 8 (.load fF true 4), .o 9 (.load cm true 4), .o 10 (.dv [(.int .i64 0),(.int .i64 0),(.str []),(.slice .full 0 [])] 4 2 [(0,de),(1,dw)]), .o 11 (.build [(.int .i64 0),(.int .i64 0),(.str []),(.slice .full 0 [])] [(0,(1,cZ)),(3,(1,cb))]), .op none none (.store dA dk 4)]) .ret)
abbrev QK5:AC:= .seq (.seq (.run [.m 10 cm, .o 11 (.aq dz 3), .o 12 (.load dk false 1), .o 13 (.len dd), .o 14 (.bin .lss cb dm), .m 15 cT, .g 16 15 true (.mv bA), .g 17 15 true (.bin .leq dn (.k (.int .i64 20000))), .o 18 (.pick dF dJ (.k (.bool false)))]) (.cond dG .skip (.exit 0))) (.seq (.block 1 (.run [.o 21 (.aq dz 3), .o 22 (.load ez false 1), .m 23 cm, .o 24 (.cy eI eD 4), .o 25 (.load e8 true 4), .m 26 bA, .c 27 jS [e9,fx], .m 1 fA])) (.run [.m 19 cm, .o 20 (.bin .add ey (.k (.int .i64 1))), .m 5 eC]))
abbrev QKB:AC:= .seq (.seq (.run [.o 5 (.mv (.k (.int .i64 0)))]) (.block 0 (.loop QK5))) (.seq (.run [.m 28 bA, .m 4 gv]) .ret)
abbrev QKD:AC:= .seq (.run [.o 2 (.box bC), .o 4 (.mv (.k (.int .i64 0)))]) (.seq (.run [.o 6 (.aq dz 2), .o 7 (.load dA false 1), .m 8 bA, .c 9 gd [cZ,de], .m 1 dw]) QKB)
abbrev QKQ:AC:= .par [.m 37 bC, .m 38 bC, .o 39 (.bQ jU), .o 40 (.aq jG 2), .o 41 (.load ky false 1), .o 42 (.load dw true 17), .o 43 (.dv [(.int .i64 0),(.int .i64 0),(.slice .full 0 []),(.str []),(.str []),(.int .i64 0),(.int .i64 0),(.str []),(.slice .full 0 []),(.bool false),(.slice .full 0 []),(.slice .full 0 []),(.slice .full 0 []),(.int .i64 0),(.int .i64 0),(.int .i64 0),(.int .i64 0)] 17 1 [(0,kK)]), .o 44 (.app 17 240 kl kz), .o 45 (.bQ jr), .o 46 (.aq lu 2), .op none none (.store lx kL 1)] [(1,0),(2,0),(3,0),(4,0),(5,0),(6,0),(7,0),(0,0),(8,0),(9,0),(10,0)]
abbrev QKR:AC:= .run [.o 47 (.aq cm 13), .o 48 (.load mr false 1), .m 49 de, .o 50 (.aq dw 15), .o 51 (.load lK false 1), .o 52 (.aq cm 16), .o 53 (.load kN false 1), .o 54 (.build [(.int .i64 0),(.int .i64 0),(.slice .full 0 []),(.str []),(.str []),(.int .i64 0),(.int .i64 0),(.str []),(.slice .full 0 []),(.bool false),(.slice .full 0 []),(.slice .full 0 []),(.slice .full 0 []),(.int .i64 0),(.int .i64 0),(.int .i64 0),(.int .i64 0)] [(13,(1,ly)),(14,(1,lz)),(15,(1,kM)),(16,(1,lA))]), .o 10 (.alloc [(.int .i64 0),(.int .i64 0),(.slice .full 0 []),(.str []),(.str []),(.int .i64 0),(.int .i64 0),(.str []),(.slice .full 0 []),(.bool false),(.slice .full 0 []),(.slice .full 0 []),(.slice .full 0 []),(.int .i64 0),(.int .i64 0),(.int .i64 0),(.int .i64 0)]), .op none none (.store cb lL 17)]
abbrev QKZ:AC:= .seq (.seq (.run [.o 55 (.aq cZ 1), .o 56 (.load lM false 1), .o 57 (.bin .eql nQ (.k (.int .i64 6)))]) (.cond oZ (.run [.m 58 de, .m 59 de, .o 60 (.aq cb 15), .op none none (.store qo oz 1), .o 61 (.aq cb 16), .op none none (.store sa mY 1)]) .skip)) (.seq (.run [.m 62 bC, .o 63 (.aq cZ 11), .o 64 (.load sb false 1), .o 65 (.load cb true 17), .c 66 jT [rh,sc,vm]]) (.run [.m 67 bC, .o 68 (.aq cZ 12), .o 69 (.load vn false 1), .o 70 (.load cb true 17), .c 71 jT [xg,yR,yS]]))
abbrev QL2:AC:= .seq (.seq (.run [.m 27 dA, .o 28 (.bin .add fA (.k (.int .i64 1))), .m 29 bA, .o 30 (.len gH), .o 31 (.bin .lss gv gX)]) (.cond gI (.run [.m 32 de, .o 33 (.load cZ true 13), .c 34 mn [gR], .o 35 (.bin .add gY iV), .o 36 (.aq dw 15), .op none none (.store iH gZ 1)]) .skip)) (.seq QKQ (.seq QKR QKZ))
abbrev QL6:AC:= .seq (.run [.m 15 dm, .o 16 (.cy dk dm 13), .o 17 (.load dn true 13), .o 7 (.alloc [(.int .i64 0),(.int .i64 0),(.slice .full 0 []),(.str []),(.str []),(.int .i64 0),(.int .i64 0),(.str []),(.slice .full 0 []),(.bool false),(.slice .full 0 []),(.slice .full 0 []),(.slice .full 0 [])]), .m 6 dF, .op none none (.store cZ dJ 13)]) (.seq (.run [.m 18 bC, .o 19 (.bQ dG), .o 20 (.aq ey 2), .o 21 (.load eC false 1), .o 22 (.len ez), .o 23 (.bin .add eI (.k (.int .i64 1))), .m 8 eD]) (.seq (.run [.o 24 (.load cm true 17), .o 9 (.alloc [(.int .i64 0),(.int .i64 0),(.slice .full 0 []),(.str []),(.str []),(.int .i64 0),(.int .i64 0),(.str []),(.slice .full 0 []),(.bool false),(.slice .full 0 []),(.slice .full 0 []),(.slice .full 0 []),(.int .i64 0),(.int .i64 0),(.int .i64 0),(.int .i64 0)]), .op none none (.store dw e8 17)]) (.seq (.run [.o 25 (.load cZ true 13), .o 26 (.aq dw 0), .op none none (.store fx e9 13)]) QL2)))
abbrev QLA:AC:= .seq (.cond cT .skip (.exit 0)) (.seq (.block 1 QL6) (.run [.o 72 (.bin .add dm (.k (.int .i64 1))), .m 13 A5]))
abbrev QLE:AC:= .seq (.run [.m 11 bA, .o 12 (.len dk), .o 13 (.mv (.k (.int .i64 0)))]) (.block 0 (.loop (.seq (.run [.o 14 (.bin .lss dm dd)]) QLA)))
abbrev QLF:AC:= .seq (.run [.o 5 (.box dz)]) QLE
abbrev QLK:AC:= .cond dw (.seq (.run [.o 4 (.mv (.k (.slice .full 0 [])))]) .ret) .skip
abbrev QLR:AC:= .par [.o 21 (.aq dz 0), .o 22 (.load ez false 1), .c 23 kq [eI], .o 24 (.load dA true 5), .c 25 sD [e8], .o 26 (.app 1 16 eD e9), .m 4 fx] [(0,0),(1,0),(2,0),(3,1),(4,0),(5,0),(6,0)]
abbrev QLY:AC:= .seq (.block 1 (.seq (.run [.o 15 (.cy dk dm 5), .o 16 (.load dF true 5), .o 6 (.alloc [(.str []),(.slice .full 0 []),(.slice .full 0 []),(.slice .full 0 []),(.slice .full 0 [])]), .op none none (.store dA dn 5)]) (.seq (.run [.o 17 (.aq dA 0), .o 18 (.load dJ false 1), .m 19 bA, .o 20 (.bin .eql dG ey)]) (.cond eC (.seq QLR .ret) .skip)))) (.run [.o 27 (.bin .add dm (.k (.int .i64 1))), .m 13 fA])
abbrev QM2:AC:= .block 0 (.loop (.seq (.run [.o 14 (.bin .lss dm dd)]) (.seq (.cond cT .skip (.exit 0)) QLY)))
abbrev QM6:AC:= .seq (.seq (.run [.o 10 (.aq dz 1), .o 11 (.load cb false 1), .o 12 (.len dk), .o 13 (.mv (.k (.int .i64 0)))]) QM2) (.seq (.run [.o 4 (.mv (.k (.slice .full 0 [])))]) .ret)
abbrev QM8:AC:= .seq (.run [.o 2 (.box bC), .o 4 (.mv (.k (.slice .full 0 [])))]) (.seq (.seq (.run [.o 7 (.load dz true 2), .c 8 qX [cZ], .o 9 (.un .not de)]) QLK) QM6)
abbrev QMA:AC:= .par [.m 5 bC, .o 6 (.bQ cm), .o 7 (.aq dA 3), .o 8 (.load cZ false 1), .m 9 bA, .o 10 (.cy de dw 1), .o 11 (.load cb false 1), .m 12 bC, .o 13 (.bQ dd), .o 14 (.aq dm 4), .o 15 (.load cT false 1), .m 16 bA, .o 17 (.cy dF dn 1), .o 18 (.load dJ false 1), .o 19 (.bin .lss dk dG)] [(0,0),(1,0),(2,0),(3,0),(4,0),(5,0),(6,0),(7,0),(8,0),(9,0),(10,0),(11,0),(12,0),(13,0),(14,0)]
abbrev QMG:AC:= .seq (.run [(.o 4 (.mv (.k (.int .i64 (-1)))))]) .ret
abbrev QMH:AC:= .seq (.seq QMA (.cond ey (.seq (.run [.m 20 bC, .o 21 (.bQ eC), .o 22 (.aq ez 3), .o 23 (.load eI false 1), .m 24 bA, .o 25 (.cy eD e8 1), .o 26 (.load e9 false 1), .m 4 fx]) .ret) .skip)) QMG
abbrev QMI:AC:= .seq (.run [.o 4 (.mv (.k (.int .i64 0)))]) QMH
abbrev QMU:AC:= .block 1 (.seq (.run [.m 10 de, .m 5 cb]) (.seq (.run [.m 11 bA, .m 12 bC, .m 13 cm, .o 14 (.cy dd dm 5), .o 15 (.load cT true 5),(.jj (some 16) none 11 [dF])]) (.cond dn (.seq (.run [.m 17 cm, .m 4 dJ]) .ret) .skip)))
abbrev QMX:AC:= .seq (.cond dw .skip (.exit 0)) (.seq QMU (.run [.o 18 (.bin .add de (.k (.int .i64 1))), .m 8 dG]))
abbrev QN1:AC:= .seq (.run [.m 6 bC, .o 7 (.len dA), .o 8 (.mv (.k (.int .i64 0)))]) (.block 0 (.loop (.seq (.run [.o 9 (.bin .lss de cZ)]) QMX)))
abbrev QN3:AC:= .seq (.run [(.o 4 (.mv (.k (.int .i64 (-1)))))]) .ret
abbrev QN5:AC:= .seq (.run [.o 4 (.mv (.k (.int .i64 0)))]) (.seq QN1 QN3)
abbrev QN9:AC:= .seq (.run [.o 2 (.box bC), .o 3 (.mv (.k (.bool false)))]) (.seq (.run [.o 4 (.aq dz 0), .o 5 (.load fF false 1), .o 6 (.load bA false 1), .o 7 (.bin .eql cm dA), .m 3 cZ]) .ret)
abbrev QNC:AC:= .par [.m 8 cm, .o 9 (.bQ de), .o 10 (.aq dw 2), .o 11 (.load cb false 1), .m 12 cm, .o 13 (.bQ dd), .o 14 (.aq dm 1), .o 15 (.load cT false 1), .m 16 bA, .c 17 fR [dF,dn], .o 18 (.cy dk dJ 1), .o 19 (.load dG false 1), .m 4 ey] [(4,0),(5,0),(6,0),(7,0),(8,0),(9,0),(0,0),(1,0),(2,0),(3,1),(10,0),(11,0),(12,0)]
abbrev QNF:AC:= .seq (.run [.o 4 (.mv (.k .dO))]) (.seq (.run [.m 6 bC, .c 7 kD [dA], .m 5 cZ]) (.seq QNC .ret))
abbrev QNN:AC:= .par [.m 30 bC, .m 31 bC, .o 32 (.bQ gI), .o 33 (.aq gY 5), .o 34 (.load gR false 1), .m 35 de, .o 36 (.bQ gZ), .o 37 (.load iH false 1), .o 38 (.dv [(.int .i64 0)] 1 1 [(0,jr)]), .o 39 (.app 1 8 iV jU), .o 40 (.bQ gX), .o 41 (.aq ky 5), .op none none (.store kl jG 1)] [(1,0),(2,0),(3,0),(4,0),(5,0),(6,0),(7,0),(8,0),(9,0),(0,0),(10,0),(11,0),(12,0)]
abbrev QNS:AC:= .seq (.cond fA .skip (.exit 0)) (.seq (.block 1 (.seq (.run [.o 28 (.cy e8 fx 1), .o 29 (.load gv false 1), .m 8 gH]) QNN)) (.run [.o 42 (.bin .add fx (.k (.int .i64 1))), .m 26 kK]))
abbrev QNT:AC:= .seq (.run [.o 27 (.bin .lss fx e9)]) QNS
abbrev QNX:AC:= .par [.o 44 (.load cH true 4), .m 45 dA, .o 46 (.bQ lu), .o 47 (.aq lx 1), .o 48 (.load mr false 1), .m 49 bC, .o 50 (.bQ lz), .o 51 (.aq lK 5), .o 52 (.load kM false 1), .c 53 wj [kL,ly,kN], .m 43 lA, .o 54 (.ext kz 0), .o 55 (.ext kz 1), .m 9 lL, .m 10 lM] [(0,0),(1,0),(2,0),(3,0),(4,0),(5,0),(6,0),(7,0),(8,0),(9,0),(10,0),(11,0),(12,0),(13,0),(14,0)]
abbrev QO1:AC:= .seq (.run [.m 56 cb, .o 57 (.un .not nQ)]) (.cond oZ (.run [.m 58 bC, .o 59 (.bQ oz), .o 60 (.aq mY 6), .o 61 (.aq qo 0), .op none none (.store sa (.k (.int .i64 4)) 1)]) .skip)
abbrev QO5:AC:= .seq QNX (.seq QO1 (.seq (.run [.m 62 dw, .m 63 cb, .m 4 rh, .m 5 sb]) .ret))
abbrev QO6:AC:= .seq (.seq (.run [.m 21 dA, .o 22 (.bQ ez), .o 23 (.aq eI 2), .o 24 (.load eD false 1), .o 25 (.len e8), .o 26 (.mv (.k (.int .i64 0)))]) (.block 0 (.loop QNT))) QO5
abbrev QO7:AC:= .seq (.run [.m 13 bC, .m 14 bC, .o 15 (.bQ cT), .o 16 (.aq dF 5), .o 17 (.load dn false 1),(.o 18 (.DJ 1 dJ none (some (.k (.int .i64 0))))), .o 19 (.bQ dm), .o 20 (.aq ey 5), .op none none (.store eC dG 1)]) QO6
abbrev QO9:AC:= .seq (.run [.o 3 (.box bA), .o 4 (.mv (.k (.int .i64 0))), .o 5 (.mv (.k (.bool false)))]) (.seq (.run [.m 11 bC, .c 12 kD [dk], .m 6 dd]) QO7)
abbrev QOD:AC:= .seq (.run [.m 6 bC, .o 7 (.bQ dA), .o 8 (.aq cZ 3), .o 9 (.load de false 1), .m 10 bA, .c 11 mX [dw,cb]]) (.cond dk (.run [.m 12 bC, .m 13 bC, .o 14 (.bQ dm), .o 15 (.aq cT 6), .o 16 (.aq dF 4), .o 17 (.load dn false 1), .m 18 bA, .m 19 dz, .o 20 (.build [(.int .i64 0),(.slice .full 0 [])] [(0,(1,dG)),(1,(1,ey))]), .o 21 (.dv [(.int .i64 0),(.slice .full 0 [])] 2 1 [(0,eC)]), .o 22 (.app 2 32 dJ ez), .o 23 (.bQ dd), .o 24 (.aq eD 6), .o 25 (.aq e8 4), .op none none (.store e9 eI 1)]) .skip)
abbrev QOM:AC:= .cond eI (.seq (.run [.o 23 (.aq dw 0), .o 24 (.aq eD 0), .o 25 (.load e8 false 1), .m 6 e9, .o 7 (.mv (.k (.bool true)))]) .ret) .skip
abbrev QOR:AC:= .seq (.block 1 (.seq (.run [.o 16 (.cy dd cT 17), .o 17 (.load dn true 17), .o 9 (.alloc [(.int .i64 0),(.int .i64 0),(.slice .full 0 []),(.str []),(.str []),(.int .i64 0),(.int .i64 0),(.str []),(.slice .full 0 []),(.bool false),(.slice .full 0 []),(.slice .full 0 []),(.slice .full 0 []),(.int .i64 0),(.int .i64 0),(.int .i64 0),(.int .i64 0)]), .op none none (.store dw dJ 17)]) (.seq (.run [.o 18 (.aq dw 0), .o 19 (.aq dG 2), .o 20 (.load ey false 1), .m 21 dz, .c 22 bZ [eC,ez]]) QOM))) (.run [.o 26 (.bin .add cT (.k (.int .i64 1))), .m 14 fx])
abbrev QOV:AC:= .block 0 (.loop (.seq (.run [.o 15 (.bin .lss cT dm)]) (.seq (.cond dF .skip (.exit 0)) QOR)))
abbrev QOZ:AC:= .seq (.run [(.o 6 (.mv (.k (.int .i64 (-1))))), .o 7 (.mv (.k (.bool true)))]) .ret
abbrev QP4:AC:= .seq (.seq (.run [.m 27 bC, .o 28 (.bQ fA), .o 29 (.aq gv 0), .o 30 (.aq gH 1), .o 31 (.load gX false 1), .m 32 bA, .o 33 (.cy gI gY 5), .o 34 (.aq gR 4), .o 35 (.load iV false 1), .m 36 dz, .c 37 bZ [gZ,iH]]) (.cond jr QOZ .skip)) (.seq (.run [.o 6 (.mv (.k (.int .i64 0))), .o 7 (.mv (.k (.bool false)))]) .ret)
abbrev QP5:AC:= .seq (.seq (.run [.m 10 bC, .m 11 bA, .c 12 gF [cb,dk], .o 13 (.len dd), .o 14 (.mv (.k (.int .i64 0)))]) QOV) QP4
abbrev QP6:AC:= .seq (.run [.o 6 (.mv (.k (.int .i64 0))), .o 7 (.mv (.k (.bool false)))]) QP5
abbrev QPB:AC:= .cond cZ (.seq (.run [.m 8 bC, .o 9 (.cy de (.k (.int .i64 0)) 13), .o 10 (.aq dw 0), .o 11 (.load cb false 1), .m 4 dk]) .ret) .skip
abbrev QPF:AC:= .seq (.seq (.run [.m 5 bC, .o 6 (.len cm), .o 7 (.bin .gtr dA (.k (.int .i64 0)))]) QPB) (.seq (.run [.m 12 bA, .m 4 dd]) .ret)
abbrev QPG:AC:= .seq (.run [.o 4 (.mv (.k (.int .i64 0)))]) QPF
abbrev QPI:AC:= .par [.m 3 bC, .o 4 (.bQ cH), .o 5 (.aq fF 4), .o 6 (.load cm false 1), .m 7 bC, .o 8 (.bQ cZ), .o 9 (.aq de 4), .o 10 (.load dw false 1), .o 11 (.len cb), .o 12 (.bin .sub dk (.k (.int .i64 1))), .o 13 (.cy dA dd 1), .o 14 (.load dm false 1), .m 2 cT] [(0,0),(1,0),(2,0),(3,0),(4,0),(5,0),(6,0),(7,0),(8,0),(9,0),(10,0),(11,0),(12,0)]
abbrev QPK:AC:= .seq (.run [.o 2 (.mv (.k .dO))]) (.seq QPI .ret)
abbrev QPO:AC:= .seq (.run [(.o 16 (.build [(.int .i64 0),(.int .i64 0)] [(0,(1,(.k (.int .i64 1))))])), .op none none (.store dz dn 2)]) .ret
abbrev QQ0:AC:= .seq (.block 1 (.seq (.run [.o 22 (.cy dG eC 5), .o 23 (.load eI true 5), .o 5 (.alloc [(.str []),(.slice .full 0 []),(.slice .full 0 []),(.slice .full 0 []),(.slice .full 0 [])]), .op none none (.store cm eD 5)]) (.run [.m 24 cH, .o 25 (.aq cm 0), .o 26 (.load e9 false 1), .o 27 (.dv [(.str [])] 1 1 [(0,fx)]), .o 28 (.app 1 16 e8 fA), .m 3 gv]))) (.run [.o 29 (.bin .add eC (.k (.int .i64 1))), .m 20 gH])
abbrev QQ4:AC:= .block 0 (.loop (.seq (.run [.o 21 (.bin .lss eC ey)]) (.seq (.cond ez .skip (.exit 0)) QQ0)))
abbrev QQ9:AC:= .seq (.run [(.o 53 (.build [(.int .i64 0),(.int .i64 0)] [(0,(1,(.k (.int .i64 5))))])), .op none none (.store dz lA 2)]) .ret
abbrev QQK:AC:= .seq (.run [(.o 73 (.build [(.int .i64 0),(.int .i64 0)] [(0,(1,(.k (.int .i64 5))))])), .op none none (.store dz A6 2)]) .ret
abbrev QQT:AC:= .seq (.run [.o 89 (.aq dd 0), .o 90 (.aq Dg 0), .o 91 (.load Fm false 1),(.o 92 (.build [(.int .i64 0),(.int .i64 0)] [(0,(1,(.k (.int .i64 5)))),(1,(1,I7))])), .op none none (.store dz Oy 2)]) .ret
abbrev QQZ:AC:= .seq (.block 5 (.seq (.run [.o 80 (.cy A7 yT 17), .o 81 (.load Fk true 17), .o 12 (.alloc [(.int .i64 0),(.int .i64 0),(.slice .full 0 []),(.str []),(.str []),(.int .i64 0),(.int .i64 0),(.str []),(.slice .full 0 []),(.bool false),(.slice .full 0 []),(.slice .full 0 []),(.slice .full 0 []),(.int .i64 0),(.int .i64 0),(.int .i64 0),(.int .i64 0)]), .op none none (.store dd Fl 17)]) (.seq (.run [.o 82 (.load bA true 2), .o 83 (.load dw true 5), .m 84 cH, .o 85 (.aq dd 0), .o 86 (.load I3 true 13), .c 87 qe [I0,I1,I2,I4], .o 88 (.un .not I5)]) (.cond I6 QQT .skip)))) (.run [.o 93 (.bin .add yT (.k (.int .i64 1))), .m 78 Ur])
abbrev QR3:AC:= .block 4 (.loop (.seq (.run [.o 79 (.bin .lss yT Df)]) (.seq (.cond Fj .skip (.exit 4)) QQZ)))
abbrev QR5:AC:= .seq (.seq (.run [.m 66 cb, .c 67 n9 [xf], .m 68 xg, .g 69 68 false (.mv cb), .g 70 68 false (.uy 130 [bA]), .d 71 68 false fS [yR,yS], .o 72 (.pick vn (.k (.bool true)) Dc)]) (.cond A5 QQK .skip)) (.seq (.run [.m 74 cZ, .m 75 de, .c 76 gF [Dd,De], .o 77 (.len A7), .o 78 (.mv (.k (.int .i64 0)))]) QR3)
abbrev QRA:AC:= .seq (.block 3 (.seq (.run [.m 61 mY, .o 62 (.cy oZ mY 5), .o 63 (.load rh true 5), .o 9 (.alloc [(.str []),(.slice .full 0 []),(.slice .full 0 []),(.slice .full 0 []),(.slice .full 0 [])]), .m 8 sa, .op none none (.store dw sb 5)]) (.seq (.run [.o 64 (.load dw true 5), .c 65 sD [sc], .m 10 vm]) QR5))) (.run [.o 94 (.bin .add mY (.k (.int .i64 1))), .m 59 Us])
abbrev QRE:AC:= .block 2 (.loop (.seq (.run [.o 60 (.bin .lss mY oz)]) (.seq (.cond qo .skip (.exit 2)) QRA)))
abbrev QRI:AC:= .seq (.seq (.run [.o 56 (.aq bA 1), .o 57 (.load nQ false 1), .o 58 (.len oZ), .o 59 (.mv (.k (.int .i64 0)))]) QRE) (.seq (.run [.o 95 (.build [(.int .i64 0),(.int .i64 0)] []), .op none none (.store dz Ut 2)]) .ret)
abbrev QRK:AC:= .seq (.seq (.run [.o 32 (.aq bA 0), .o 33 (.load gY false 1), .c 34 n9 [gR], .m 35 iV, .g 36 35 false (.mv cH), .d 37 35 false n9 [iH], .o 38 (.pick gZ (.k (.bool true)) jr), .m 39 jU, .g 40 39 false (.mv dA), .g 41 39 false (.bin .lss ky (.k (.int .i64 0))), .o 42 (.pick jG (.k (.bool true)) kl), .m 43 kK, .g 44 43 false (.aq bA 1), .g 45 43 false (.load kL false 1), .g 46 43 false (.mv dA), .g 47 43 false (.cy lu lx 5), .g 48 43 false (.aq mr 1), .g 49 43 false (.load ly false 1), .g 50 43 false (.len lz), .g 51 43 false (.bin .gtr lK (.k (.int .i64 0))), .o 52 (.pick kz (.k (.bool true)) kM)]) (.cond kN QQ9 .skip)) (.seq (.run [.o 54 (.load bA true 2), .c 55 kI [lL], .m 7 lM]) QRI)
abbrev QRM:AC:= .seq (.seq (.run [.o 17 (.aq bA 1), .o 18 (.load dJ false 1), .o 19 (.len dG), .o 20 (.mv (.k (.int .i64 0)))]) QQ4) (.seq (.run [.m 30 cH,(.c 31 fR [gX,(.k (.str [109,97,105,110]))]), .m 6 gI]) QRK)
abbrev QRO:AC:= .seq (.seq (.run [.o 13 (.load bA true 2), .c 14 qX [dm], .o 15 (.un .not cT)]) (.cond dF QPO .skip)) (.seq (.run [.o 3 (.mv (.k (.slice .full 0 [])))]) QRM)
abbrev QRP:AC:= .seq (.run [.o 1 (.box bC), .o 2 (.alloc [(.int .i64 0),(.int .i64 0)])]) QRO
abbrev QRT:AC:= .seq (.run [(.o 9 (.build [(.int .i64 0),(.int .i64 0)] [(0,(1,(.k (.int .i64 1))))])), .op none none (.store dz dw 2)]) .ret
abbrev QS2:AC:= .seq (.run [.o 31 (.aq fF 0), .o 32 (.aq gI 0), .o 33 (.load gY false 1),(.o 34 (.build [(.int .i64 0),(.int .i64 0)] [(0,(1,(.k (.int .i64 6)))),(1,(1,gR))])), .op none none (.store dz iV 2)]) .ret
abbrev QS5:AC:= .seq (.run [.o 18 (.cy cT dn 17), .o 19 (.load dG true 17), .o 4 (.alloc [(.int .i64 0),(.int .i64 0),(.slice .full 0 []),(.str []),(.str []),(.int .i64 0),(.int .i64 0),(.str []),(.slice .full 0 []),(.bool false),(.slice .full 0 []),(.slice .full 0 []),(.slice .full 0 []),(.int .i64 0),(.int .i64 0),(.int .i64 0),(.int .i64 0)]), .op none none (.store fF ey 17)]) (.seq (.run [.o 20 (.aq fF 0), .o 21 (.aq eC 1), .o 22 (.load ez false 1), .o 23 (.bin .eql eI (.k (.int .i64 4))), .m 24 eD, .g 25 24 true (.load bA true 2), .g 26 24 true (.aq fF 0), .g 27 24 true (.load fx true 13), .d 28 24 true vi [e9,fA], .g 29 24 true (.un .not gv), .o 30 (.pick e8 gH (.k (.bool false)))]) (.cond gX QS2 .skip))
abbrev QS9:AC:= .seq (.cond dJ .skip (.exit 0)) (.seq (.block 1 QS5) (.run [.o 35 (.bin .add dn (.k (.int .i64 1))), .m 16 gZ]))
abbrev QSD:AC:= .seq (.run [.o 10 (.load bA true 2), .c 11 kI [cb], .o 12 (.bQ dk), .o 13 (.aq dd 2), .o 14 (.load dm false 1), .o 15 (.len cT), .o 16 (.mv (.k (.int .i64 0)))]) (.block 0 (.loop (.seq (.run [.o 17 (.bin .lss dn dF)]) QS9)))
abbrev QSH:AC:= .seq (.seq (.run [.o 5 (.load bA true 2), .c 6 lP [cm], .o 7 (.Cp dA 0 false 1), .o 8 (.bin .neq cZ (.k (.int .i64 0)))]) (.cond de QRT .skip)) (.seq QSD (.seq (.run [.o 36 (.build [(.int .i64 0),(.int .i64 0)] []), .op none none (.store dz iH 2)]) .ret))
abbrev QSI:AC:= .seq (.run [.o 1 (.box bC), .o 2 (.alloc [(.int .i64 0),(.int .i64 0)])]) QSH
abbrev QSN:AC:= .seq (.run [(.o 14 (.build [(.int .i64 0),(.int .i64 0)] [(0,(1,(.k (.int .i64 1))))])), .op none none (.store dz cT 2)]) .ret
abbrev QT3:AC:= .seq (.run [.o 47 (.aq dw 0), .o 48 (.aq mr 0), .o 49 (.load ly false 1),(.o 50 (.build [(.int .i64 0),(.int .i64 0)] [(0,(1,(.k (.int .i64 7)))),(1,(1,lz))])), .op none none (.store dz lK 2)]) .ret
abbrev QT6:AC:= .seq (.run [.m 32 dA, .o 33 (.aq dw 0), .o 34 (.aq gR 2), .o 35 (.load iV false 1), .c 36 pZ [gY,gZ], .m 31 iH, .o 37 (.ext gI 0), .o 38 (.ext gI 1), .m 6 jr, .m 7 jU]) (.seq (.run [.m 39 cZ, .o 40 (.un .not jG), .m 41 ky, .g 42 41 false (.mv cH), .g 43 41 false (.load dw true 17), .d 44 41 false vj [kK,kz], .g 45 41 false (.un .not kL), .o 46 (.pick kl (.k (.bool true)) lu)]) (.cond lx QT3 .skip))
abbrev QTA:AC:= .seq (.block 3 (.seq (.run [.o 29 (.cy e9 fA 17), .o 30 (.load gH true 17), .o 9 (.alloc [(.int .i64 0),(.int .i64 0),(.slice .full 0 []),(.str []),(.str []),(.int .i64 0),(.int .i64 0),(.str []),(.slice .full 0 []),(.bool false),(.slice .full 0 []),(.slice .full 0 []),(.slice .full 0 []),(.int .i64 0),(.int .i64 0),(.int .i64 0),(.int .i64 0)]), .op none none (.store dw gX 17)]) QT6)) (.run [.o 51 (.bin .add fA (.k (.int .i64 1))), .m 27 kM])
abbrev QTE:AC:= .block 2 (.loop (.seq (.run [.o 28 (.bin .lss fA fx)]) (.seq (.cond gv .skip (.exit 2)) QTA)))
abbrev QTJ:AC:= .seq (.run [(.o 61 (.build [(.int .i64 0),(.int .i64 0)] [(0,(1,(.k (.int .i64 7))))])), .op none none (.store dz sa 2)]) .ret
abbrev QTN:AC:= .seq (.seq (.run [.m 23 cH, .m 24 fF, .c 25 gF [eD,e8], .o 26 (.len e9), .o 27 (.mv (.k (.int .i64 0)))]) QTE) (.seq (.run [.m 53 dA, .o 54 (.aq cm 4), .o 55 (.load lL false 1), .c 56 pZ [lA,lM], .m 52 nQ, .o 57 (.ext kN 0), .o 58 (.ext kN 1), .m 7 oz]) (.seq (.run [.m 59 cZ, .o 60 (.un .not mY)]) (.cond qo QTJ .skip)))
abbrev QTP:AC:= .seq (.run [.o 6 (.mv (.k (.slice .full 0 [])))]) (.seq (.run [.o 7 (.mv (.k (.bool true)))]) QTN)
abbrev QTT:AC:= .seq (.block 1 (.seq (.run [.m 20 dG, .o 21 (.cy dn dG 5), .o 22 (.load ez true 5), .o 5 (.alloc [(.str []),(.slice .full 0 []),(.slice .full 0 []),(.slice .full 0 []),(.slice .full 0 [])]), .m 4 eC, .op none none (.store cm eI 5)]) QTP)) (.run [.o 62 (.bin .add dG (.k (.int .i64 1))), .m 18 rh])
abbrev QTX:AC:= .block 0 (.loop (.seq (.run [.o 19 (.bin .lss dG dJ)]) (.seq (.cond ey .skip (.exit 0)) QTT)))
abbrev QU1:AC:= .seq (.seq (.run [.o 15 (.aq bA 1), .o 16 (.load dF false 1), .o 17 (.len dn), .o 18 (.mv (.k (.int .i64 0)))]) QTX) (.seq (.run [.o 63 (.build [(.int .i64 0),(.int .i64 0)] []), .op none none (.store dz sb 2)]) .ret)
abbrev QU3:AC:= .seq (.run [.o 10 (.load bA true 2), .c 11 q5 [cb], .m 3 dk]) (.seq (.seq (.run [.m 12 cH, .o 13 (.FZ false dd (.k .dO))]) (.cond dm QSN .skip)) QU1)
abbrev QU4:AC:= .seq (.run [.o 1 (.box bC), .o 2 (.alloc [(.int .i64 0),(.int .i64 0)])]) QU3
abbrev QU8:AC:= .seq (.run [(.o 12 (.build [(.int .i64 0),(.int .i64 0)] [(0,(1,(.k (.int .i64 1))))])), .op none none (.store dz dd 2)]) .ret
abbrev QUG:AC:= .par [.m 21 cH, .o 22 (.aq cm 0), .o 23 (.load eI false 1), .o 24 (.load bA true 2), .o 25 (.aq cm 0), .o 26 (.load e9 false 1), .c 27 q6 [e8,fx], .op none none (.yu ez eD fA)] [(3,0),(4,0),(5,0),(6,0),(0,0),(1,0),(2,1),(7,0)]
abbrev QUK:AC:= .seq (.block 1 (.seq (.run [.o 19 (.cy dF dJ 5), .o 20 (.load ey true 5), .o 5 (.alloc [(.str []),(.slice .full 0 []),(.slice .full 0 []),(.slice .full 0 []),(.slice .full 0 [])]), .op none none (.store cm eC 5)]) QUG)) (.run [.o 28 (.bin .add dJ (.k (.int .i64 1))), .m 17 gv])
abbrev QUO:AC:= .block 0 (.loop (.seq (.run [.o 18 (.bin .lss dJ dn)]) (.seq (.cond dG .skip (.exit 0)) QUK)))
abbrev QUW:AC:= .seq (.run [.o 54 (.aq cZ 0), .o 55 (.aq lL 0), .o 56 (.load lM false 1),(.o 57 (.build [(.int .i64 0),(.int .i64 0)] [(0,(1,(.k (.int .i64 8)))),(1,(1,nQ))])), .op none none (.store dz oZ 2)]) .ret
abbrev QUZ:AC:= .seq (.run [.o 37 (.cy gR gZ 17), .o 38 (.load jr true 17), .o 7 (.alloc [(.int .i64 0),(.int .i64 0),(.slice .full 0 []),(.str []),(.str []),(.int .i64 0),(.int .i64 0),(.str []),(.slice .full 0 []),(.bool false),(.slice .full 0 []),(.slice .full 0 []),(.slice .full 0 []),(.int .i64 0),(.int .i64 0),(.int .i64 0),(.int .i64 0)]), .op none none (.store cZ jU 17)]) (.seq (.run [.o 39 (.aq cZ 0), .o 40 (.aq jG 1), .o 41 (.load ky false 1), .o 42 (.bin .eql kl (.k (.int .i64 4))), .m 43 kK, .g 44 43 true (.aq cZ 0), .g 45 43 true (.load kL true 13), .g 46 43 true (.mv cH), .g 47 43 true (.aq cZ 0), .g 48 43 true (.aq mr 4), .g 49 43 true (.load ly false 1), .g 50 43 true (.vR lx lz (.slice .full 0 [])), .d 51 43 true rY [lu,lK], .g 52 43 true (.un .not kM), .o 53 (.pick kz kN (.k (.bool false)))]) (.cond lA QUW .skip))
abbrev QV3:AC:= .seq (.cond iH .skip (.exit 2)) (.seq (.block 3 QUZ) (.run [.o 58 (.bin .add gZ (.k (.int .i64 1))), .m 35 oz]))
abbrev QV7:AC:= .seq (.run [.o 29 (.load bA true 2), .c 30 kI [gH], .o 31 (.bQ gX), .o 32 (.aq gI 2), .o 33 (.load gY false 1), .o 34 (.len gR), .o 35 (.mv (.k (.int .i64 0)))]) (.block 2 (.loop (.seq (.run [.o 36 (.bin .lss gZ iV)]) QV3)))
abbrev QVB:AC:= .seq (.seq (.run [.o 14 (.aq bA 1), .o 15 (.load cT false 1), .o 16 (.len dF), .o 17 (.mv (.k (.int .i64 0)))]) QUO) (.seq QV7 (.seq (.run [.o 59 (.build [(.int .i64 0),(.int .i64 0)] []), .op none none (.store dz mY 2)]) .ret))
abbrev QVD:AC:= .seq (.seq (.run [.o 8 (.load bA true 2), .c 9 qd [de], .o 10 (.Cp dw 0 false 1), .o 11 (.bin .neq cb (.k (.int .i64 0)))]) (.cond dk QU8 .skip)) (.seq (.run [.op (some 13) none .uz, .m 3 dm]) QVB)
abbrev QVE:AC:= .seq (.run [.o 1 (.box bC), .o 2 (.alloc [(.int .i64 0),(.int .i64 0)])]) QVD
abbrev QVP:AC:= .cond dJ (.seq (.run [.o 2 (.mv (.k (.int .i64 2)))]) .ret) .skip
abbrev QVR:AC:= .cond cb (.seq (.run [.o 2 (.mv (.k (.int .i64 1)))]) .ret) (.seq (.run [.m 18 bC, .o 19 (.bin .geq dG (.k (.int .i64 5))), .m 20 ey, .g 21 20 true (.mv bC), .g 22 20 true (.bin .leq ez (.k (.int .i64 17))), .o 23 (.pick eC eI (.k (.bool false))), .m 17 eD]) QVP)
abbrev QVT:AC:= .cond cH (.seq (.run [.o 2 (.mv (.k (.int .i64 0)))]) .ret) (.seq (.run [.m 11 bC, .o 12 (.bin .eql dk (.k (.int .i64 3))), .m 13 dd, .g 14 13 false (.mv bC), .g 15 13 false (.bin .eql cT (.k (.int .i64 4))), .o 16 (.pick dm (.k (.bool true)) dF), .m 10 dn]) QVR)
abbrev QVV:AC:= .block 0 (.seq (.run [.m 4 bC, .o 5 (.bin .eql fF (.k (.int .i64 1))), .m 6 cm, .g 7 6 false (.mv bC), .g 8 6 false (.bin .eql cZ (.k (.int .i64 2))), .o 9 (.pick dA (.k (.bool true)) de), .m 3 dw]) QVT)
abbrev QVX:AC:= .seq (.run [(.o 2 (.mv (.k (.int .i64 (-1)))))]) .ret
abbrev QVZ:AC:= .seq (.run [.o 2 (.mv (.k (.int .i64 0)))]) (.seq QVV QVX)
open Go.Proofs
theorem Fo:Has Tryz.prog mW 15 [(2,none)] QI7:=⟨Tryz.f64,by kernel_rfl,by kernel_rfl⟩
theorem mZ:Has Tryz.prog nP 27 [(2,none)] QIH:=⟨Tryz.f65,by kernel_rfl,by kernel_rfl⟩
theorem ri:Has Tryz.prog kj 71 [(6,none)] QJI:=⟨Tryz.f66,by kernel_rfl,by kernel_rfl⟩
theorem Ja:Has Tryz.prog qY 5 [(2,(some (true,4)))] QJM:=⟨Tryz.f68,by kernel_rfl,by kernel_rfl⟩
theorem Hj:Has Tryz.prog kV 5 [(2,(some (true,4)))] QJQ:=⟨Tryz.f69,by kernel_rfl,by kernel_rfl⟩
theorem Jb:Has Tryz.prog uD 12 [(6,(some (true,4)))] QJU:=⟨Tryz.f70,by kernel_rfl,by kernel_rfl⟩
theorem A8:Has Tryz.prog jS 29 [(4,none)] QKD:=⟨Tryz.f71,by kernel_rfl,by kernel_rfl⟩
theorem A9:Has Tryz.prog jT 73 [] QLF:=⟨Tryz.f72,by kernel_rfl,by kernel_rfl⟩
theorem Fp:Has Tryz.prog vg 28 [(4,none)] QM8:=⟨Tryz.f73,by kernel_rfl,by kernel_rfl⟩
theorem yW:Has Tryz.prog oW 27 [(4,none)] QMI:=⟨Tryz.f74,by kernel_rfl,by kernel_rfl⟩
theorem rG:Has Tryz.prog fY 19 [(4,none)] QN5:=⟨Tryz.f75,by kernel_rfl,by kernel_rfl⟩
theorem xS:Has Tryz.prog lB 8 [(3,none)] QN9:=⟨Tryz.f76,by kernel_rfl,by kernel_rfl⟩
theorem xT:Has Tryz.prog iE 20 [(4,none)] QNF:=⟨Tryz.f77,by kernel_rfl,by kernel_rfl⟩
theorem xU:Has Tryz.prog jN 64 [(4,none),(5,none)] QO9:=⟨Tryz.f78,by kernel_rfl,by kernel_rfl⟩
theorem xV:Has Tryz.prog dY 26 [] QOD:=⟨Tryz.f79,by kernel_rfl,by kernel_rfl⟩
theorem Ci:Has Tryz.prog oI 38 [(6,none),(7,none)] QP6:=⟨Tryz.f80,by kernel_rfl,by kernel_rfl⟩
theorem zY:Has Tryz.prog pY 13 [(4,none)] QPG:=⟨Tryz.f81,by kernel_rfl,by kernel_rfl⟩
theorem Ad:Has Tryz.prog kD 15 [(2,none)] QPK:=⟨Tryz.f82,by kernel_rfl,by kernel_rfl⟩
theorem wk:Has Tryz.prog lP 96 [(2,(some (true,2)))] QRP:=⟨Tryz.f95,by kernel_rfl,by kernel_rfl⟩
theorem wm:Has Tryz.prog qd 37 [(2,(some (true,2)))] QSI:=⟨Tryz.f96,by kernel_rfl,by kernel_rfl⟩
theorem xW:Has Tryz.prog vh 64 [(2,(some (true,2)))] QU4:=⟨Tryz.f97,by kernel_rfl,by kernel_rfl⟩
theorem wo:Has Tryz.prog tL 60 [(2,(some (true,2)))] QVE:=⟨Tryz.f98,by kernel_rfl,by kernel_rfl⟩
theorem Hk:Has Tryz.prog xb 24 [(2,none)] QVZ:=⟨Tryz.f99,by kernel_rfl,by kernel_rfl⟩
abbrev QW3:AC:= .seq (.run [.o 2 (.mv (.k (.bool false)))]) (.seq (.run [.m 3 bC, .o 4 (.bin .geq cH (.k (.int .u8 97))), .m 5 fF, .g 6 5 true (.mv bC), .g 7 5 true (.bin .leq dA (.k (.int .u8 122))), .o 8 (.pick cm cZ (.k (.bool false))), .m 2 de]) .ret)
abbrev QWA:AC:= .seq (.seq (.run [.m 5 bA, .m 6 bC, .o 7 (.uR dA), .o 8 (.bin .lss cm cZ), .m 9 de, .g 10 9 true (.mv bC), .g 11 9 true (.mv bA), .g 12 9 true (.Al cb dk), .d 13 9 true qZ [dd], .g 14 9 true (.mv dm), .g 15 14 false (.mv bC), .g 16 14 false (.mv bA), .g 17 14 false (.Al dF dn), .d 18 14 false xc [dJ], .g 19 9 true (.pick cT (.k (.bool true)) dG), .o 20 (.pick dw ey (.k (.bool false)))]) (.cond eC .skip (.exit 0))) (.block 1 (.run [.m 21 bA, .o 22 (.bin .add ez (.k (.int .i64 1))), .m 1 eI]))
abbrev QWG:AC:= .seq (.run [.o 4 (.mv (.k (.int .i64 0)))]) (.seq (.block 0 (.loop QWA)) (.seq (.run [.m 23 bA, .m 4 eD]) .ret))
abbrev QWX:AC:= .seq (.run [.o 16 (.bin .eql cH (.k (.str [114,101,97,100]))), .m 4 dn]) (.cond fF .skip (.run [.o 17 (.bin .eql cH (.k (.str [112,114,105,110,116]))), .m 4 dJ]))
abbrev QX0:AC:= .cond fF .skip (.seq (.run [.o 15 (.bin .eql cH (.k (.str [103,111,116,111]))), .m 4 dF]) (.cond fF .skip QWX))
abbrev QX2:AC:= .cond fF .skip (.seq (.run [.o 14 (.bin .eql cH (.k (.str [114,101,116,117,114,110]))), .m 4 cT]) QX0)
abbrev QX4:AC:= .cond fF .skip (.seq (.run [.o 13 (.bin .eql cH (.k (.str [99,111,110,116,105,110,117,101]))), .m 4 dm]) QX2)
abbrev QX6:AC:= .cond fF .skip (.seq (.run [.o 12 (.bin .eql cH (.k (.str [98,114,101,97,107]))), .m 4 dd]) QX4)
abbrev QX8:AC:= .cond fF .skip (.seq (.run [.o 11 (.bin .eql cH (.k (.str [119,104,105,108,101]))), .m 4 dk]) QX6)
abbrev QXA:AC:= .cond fF .skip (.seq (.run [.o 10 (.bin .eql cH (.k (.str [101,108,115,101]))), .m 4 cb]) QX8)
abbrev QXC:AC:= .cond fF .skip (.seq (.run [.o 9 (.bin .eql cH (.k (.str [105,102]))), .m 4 dw]) QXA)
abbrev QXE:AC:= .cond fF .skip (.seq (.run [.o 8 (.bin .eql cH (.k (.str [114,101,102]))), .m 4 de]) QXC)
abbrev QXG:AC:= .cond fF .skip (.seq (.run [.o 7 (.bin .eql cH (.k (.str [118,97,114]))), .m 4 cZ]) QXE)
abbrev QXI:AC:= .cond fF .skip (.seq (.run [.o 6 (.bin .eql cH (.k (.str [112,114,111,99]))), .m 4 dA]) QXG)
abbrev QXM:AC:= .cond fF (.seq (.run [.o 2 (.mv (.k (.bool true)))]) .ret) .skip
abbrev QXN:AC:= .seq (.seq (.run [.o 5 (.bin .eql cH (.k (.str [103,108,111,98,97,108]))), .m 4 cm]) QXI) QXM
abbrev QXS:AC:= .seq (.seq (.run [.m 3 bC]) (.block 0 QXN)) (.seq (.run [.o 2 (.mv (.k (.bool false)))]) .ret)
abbrev QXT:AC:= .seq (.run [.o 2 (.mv (.k (.bool false)))]) QXS
abbrev QXV:AC:= .par [.o 10 (.aq bA 9), .o 11 (.load cb false 1), .o 3 (.mv (.k (.bool false))), .o 4 (.mv (.k (.bool false))), .o 5 (.mv (.k (.bool false))), .m 6 dk, .o 7 (.mv (.k (.bool false))), .o 8 (.mv (.k (.bool false)))] [(0,0),(1,0),(2,0),(3,0),(4,0),(5,0),(6,0),(7,0)]
abbrev QY3:AC:= .seq (.run [.o 20 (.bin .eql dn (.k (.int .i64 2))), .m 19 eC]) (.cond ey .skip (.run [.o 21 (.bin .eql dn (.k (.int .i64 10))), .m 19 ez]))
abbrev QYI:AC:= .seq (.run [.o 38 (.bin .eql dn (.k (.int .i64 7))), .m 37 jU]) (.cond jr .skip (.run [.o 39 (.bin .eql dn (.k (.int .i64 8))), .m 37 jG]))
abbrev QYL:AC:= .cond jr .skip (.seq (.run [.o 2 (.mv (.k (.bool false)))]) .ret)
abbrev QYO:AC:= .seq (.run [.o 34 (.bin .eql dn (.k (.int .i64 9))), .m 33 iV]) (.cond gR (.run [.o 35 (.aq bA 9), .o 36 (.load gZ false 1), .m 5 iH, .o 6 (.mv (.k (.bool false)))]) (.seq QYI QYL))
abbrev QYQ:AC:= .seq (.run [.o 32 (.bin .eql dn (.k (.int .i64 6))), .m 31 gY]) (.cond gI (.run [.o 5 (.mv (.k (.bool true))), .o 7 (.mv (.k (.bool true)))]) QYO)
abbrev QYS:AC:= .seq (.run [.o 30 (.bin .eql dn (.k (.int .i64 5))), .m 29 gX]) (.cond gH (.run [.o 5 (.mv (.k (.bool true))), .o 7 (.mv (.k (.bool true))), .o 8 (.mv (.k (.bool true)))]) QYQ)
abbrev QYU:AC:= .seq (.run [.o 25 (.bin .eql dn (.k (.int .i64 4))), .m 24 e9]) (.cond e8 (.run [.o 26 (.aq bA 3), .o 27 (.load fx false 1), .o 28 (.bin .neq fA (.k (.str []))), .m 3 gv, .o 4 (.mv (.k (.bool true)))]) QYS)
abbrev QYW:AC:= .seq (.run [.o 23 (.bin .eql dn (.k (.int .i64 3))), .m 22 eD]) (.cond eI (.run [.o 5 (.mv (.k (.bool true)))]) QYU)
abbrev QYY:AC:= .seq QY3 (.cond ey (.run [.o 3 (.mv (.k (.bool true)))]) QYW)
abbrev QZ0:AC:= .seq (.run [.o 18 (.bin .eql dn (.k (.int .i64 1))), .m 17 dG]) (.cond dJ (.run [.o 3 (.mv (.k (.bool true))), .o 5 (.mv (.k (.bool true)))]) QYY)
abbrev QZ3:AC:= .run [.m 40 dA, .m 41 ky, .g 42 41 false (.mv cZ), .g 43 41 false (.un .not kK), .g 44 41 false (.mv kz), .g 45 44 true (.aq bA 11), .g 46 44 true (.load lu false 1), .g 47 44 true (.len lx), .g 48 44 true (.bin .gtr mr (.k (.int .i64 0))), .g 49 41 false (.pick kL ly (.k (.bool false))), .o 50 (.pick kl (.k (.bool true)) lz), .m 51 lK, .g 52 51 false (.mv de), .g 53 51 false (.un .not kN), .g 54 51 false (.mv lA), .g 55 54 true (.aq bA 12), .g 56 54 true (.load lM false 1), .g 57 54 true (.len nQ), .g 58 54 true (.bin .gtr oZ (.k (.int .i64 0))), .g 59 51 false (.pick lL oz (.k (.bool false))), .o 60 (.pick kM (.k (.bool true)) mY), .m 61 qo, .g 62 61 false (.mv dw), .g 63 61 false (.un .not rh), .g 64 61 false (.mv sb), .g 65 64 true (.aq bA 10), .g 66 64 true (.load vm false 1), .g 67 64 true (.len xf), .g 68 64 true (.bin .gtr xg (.k (.int .i64 0))), .g 69 61 false (.pick sc vn (.k (.bool false))), .o 70 (.pick sa (.k (.bool true)) yR)]
abbrev QZ6:AC:= .cond yS (.seq (.run [.o 2 (.mv (.k (.bool false)))]) .ret) .skip
abbrev QZB:AC:= .cond Dg (.seq (.run [.o 2 (.mv (.k (.bool false)))]) .ret) .skip
abbrev QZF:AC:= .seq (.seq (.run [.o 71 (.aq bA 3), .o 72 (.load Dc false 1), .m 73 cH, .c 74 oX [A5,A6], .o 75 (.un .not Dd), .m 76 De, .g 77 76 false (.aq bA 4), .g 78 76 false (.load Df false 1), .g 79 76 false (.mv fF), .d 80 76 false oX [yT,Fj], .g 81 76 false (.un .not Fk), .o 82 (.pick A7 (.k (.bool true)) Fl), .m 83 I0, .g 84 83 false (.aq bA 5), .g 85 83 false (.load I2 true 4), .g 86 83 false (.mv cm), .d 87 83 false q7 [I3,I4], .g 88 83 false (.un .not I5), .o 89 (.pick I1 (.k (.bool true)) I6)]) QZB) (.seq (.run [.o 90 (.aq bA 10), .o 91 (.load Fm false 1), .c 92 tO [I7], .m 2 Oy]) .ret)
abbrev QZG:AC:= .seq (.seq QZ3 QZ6) QZF
abbrev QZH:AC:= .seq (.seq (.run [.o 15 (.aq bA 1), .o 16 (.load dF false 1)]) (.block 0 QZ0)) QZG
abbrev QZI:AC:= .seq (.run [.o 12 (.aq bA 1), .o 13 (.load dd false 1), .o 14 (.bin .eql dm (.k (.int .i64 4))), .m 9 cT]) QZH
abbrev QZJ:AC:= .seq QXV QZI
abbrev QZK:AC:= .seq (.run [.o 1 (.box bC), .o 2 (.mv (.k (.bool false)))]) QZJ
abbrev QZV:AC:= .seq (.block 1 (.seq (.run [.o 13 (.cy dw dk 13), .o 14 (.load dm true 13), .o 5 (.alloc [(.int .i64 0),(.int .i64 0),(.slice .full 0 []),(.str []),(.str []),(.int .i64 0),(.int .i64 0),(.str []),(.slice .full 0 []),(.bool false),(.slice .full 0 []),(.slice .full 0 []),(.slice .full 0 [])]), .op none none (.store cm cT 13)]) (.run [.m 15 cH, .o 16 (.load cm true 13), .c 17 mn [dn], .o 18 (.bin .add dF dJ), .m 3 dG]))) (.run [.o 19 (.bin .add dk (.k (.int .i64 1))), .m 11 ey])
abbrev QZZ:AC:= .block 0 (.loop (.seq (.run [.o 12 (.bin .lss dk cb)]) (.seq (.cond dd .skip (.exit 0)) QZV)))
abbrev ajl:AC:= .seq (.block 3 (.seq (.run [.o 25 (.cy ez eD 13), .o 26 (.load e9 true 13), .o 7 (.alloc [(.int .i64 0),(.int .i64 0),(.slice .full 0 []),(.str []),(.str []),(.int .i64 0),(.int .i64 0),(.str []),(.slice .full 0 []),(.bool false),(.slice .full 0 []),(.slice .full 0 []),(.slice .full 0 [])]), .op none none (.store cZ fx 13)]) (.run [.m 27 cH, .o 28 (.load cZ true 13), .c 29 mn [gv], .o 30 (.bin .add fA gH), .m 3 gX]))) (.run [.o 31 (.bin .add eD (.k (.int .i64 1))), .m 23 gI])
abbrev ajm:AC:= .block 2 (.loop (.seq (.run [.o 24 (.bin .lss eD eI)]) (.seq (.cond e8 .skip (.exit 2)) ajl)))
abbrev ajn:AC:= .seq (.seq (.run [.o 20 (.aq bA 12), .o 21 (.load eC false 1), .o 22 (.len ez), .o 23 (.mv (.k (.int .i64 0)))]) ajm) (.seq (.run [.m 32 cH, .m 2 gY]) .ret)
abbrev ajo:AC:= .seq (.seq (.run [.o 8 (.aq bA 11), .o 9 (.load de false 1), .o 10 (.len dw), .o 11 (.mv (.k (.int .i64 0)))]) QZZ) ajn
abbrev ajp:AC:= .seq (.run [.o 1 (.box bC), .o 2 (.mv (.k (.int .i64 0)))]) (.seq (.run [.o 3 (.mv (.k (.int .i64 1)))]) ajo)
abbrev ajq:AC:= .cond fF (.seq (.run [.o 2 (.mv (.k (.slice .full 0 [])))]) .ret) .skip
abbrev ajr:AC:= .seq (.run [.o 2 (.mv (.k (.slice .full 0 [])))]) (.seq (.seq (.run [.m 3 bC, .nil (some 4) none false cH]) ajq) (.seq (.run [.o 5 (.dv [(.str [])] 1 0 []), .m 6 bC, .o 7 (.app 1 16 cm dA), .m 2 cZ]) .ret))
abbrev ajs:AC:= .seq (.block 1 (.seq (.run [.o 11 (.cy cZ dw 2), .o 12 (.load dk true 2), .o 5 (.alloc [(.str []),(.bool false)]), .op none none (.store cm dd 2)]) (.run [.m 13 cH, .o 14 (.aq cm 0), .o 15 (.load cT false 1), .o 16 (.dv [(.str [])] 1 1 [(0,dF)]), .o 17 (.app 1 16 dm dn), .m 3 dJ]))) (.run [.o 18 (.bin .add dw (.k (.int .i64 1))), .m 9 dG])
abbrev ajt:AC:= .block 0 (.loop (.seq (.run [.o 10 (.bin .lss dw de)]) (.seq (.cond cb .skip (.exit 0)) ajs)))
abbrev aju:AC:= .seq (.seq (.run [.o 6 (.aq bA 1), .o 7 (.load dA false 1), .o 8 (.len cZ), .o 9 (.mv (.k (.int .i64 0)))]) ajt) (.seq (.run [.m 19 cH, .o 20 (.aq bA 2), .o 21 (.load eC false 1), .o 22 (.app 1 16 ey ez), .m 2 eI]) .ret)
abbrev ajv:AC:= .seq (.run [.o 1 (.box bC), .o 2 (.mv (.k (.slice .full 0 [])))]) (.seq (.run [.o 3 (.mv (.k (.slice .full 0 [])))]) aju)
abbrev ajw:AC:= .block 1 (.seq (.run [.m 10 de, .m 5 cb]) (.seq (.run [.m 11 bA, .m 12 bC, .m 13 cm, .o 14 (.cy dd dm 1), .o 15 (.load cT false 1), .o 16 (.bin .eql dk dF)]) (.cond dn (.seq (.run [.m 17 cm, .m 4 dJ]) .ret) .skip)))
abbrev ajx:AC:= .seq (.cond dw .skip (.exit 0)) (.seq ajw (.run [.o 18 (.bin .add de (.k (.int .i64 1))), .m 8 dG]))
abbrev ajy:AC:= .seq (.run [.m 6 bC, .o 7 (.len dA), .o 8 (.mv (.k (.int .i64 0)))]) (.block 0 (.loop (.seq (.run [.o 9 (.bin .lss de cZ)]) ajx)))
abbrev ajz:AC:= .seq (.run [(.o 4 (.mv (.k (.int .i64 (-1)))))]) .ret
abbrev ajA:AC:= .seq (.run [.o 4 (.mv (.k (.int .i64 0)))]) (.seq ajy ajz)
abbrev ajB:AC:= .cond cb (.seq (.run [.o 6 (.mv (.k (.int .i64 0))), .o 7 (.mv (.k (.bool false)))]) .ret) .skip
abbrev ajC:AC:= .seq (.run [.o 3 (.box bC), .o 6 (.mv (.k (.int .i64 0))), .o 7 (.mv (.k (.bool false)))]) (.seq (.seq (.run [.o 8 (.load cH true 4), .c 9 mV [de], .o 10 (.un .not dw)]) ajB) (.seq (.run [.o 11 (.load cH true 4), .m 12 bA, .m 13 dz, .c 14 kW [dk,dd,dm], .o 15 (.ext cT 0), .o 16 (.ext cT 1), .m 6 dF, .m 7 dn]) .ret))
abbrev ajD:AC:= .seq (.run [.o 4 (.mv (.k (.bool false)))]) (.seq (.run [.m 5 bC, .m 6 bA, .c 7 oY [cm,dA], .o 8 (.bin .geq cZ (.k (.int .i64 0))), .m 4 de]) .ret)
abbrev ajE:AC:= .par [.m 5 bC, .o 6 (.bQ cm), .o 7 (.aq dA 2), .o 8 (.load cZ false 1), .m 9 bC, .o 10 (.bQ dw), .o 11 (.aq cb 3), .o 12 (.load dk false 1), .m 13 bA, .o 14 (.cy dd dm 1), .o 15 (.load cT false 1), .o 16 (.bin .sub dF (.k (.int .i64 1))), .m 17 bC, .o 18 (.bQ dJ), .o 19 (.aq dG 4), .o 20 (.load ey false 1), .m 21 bA, .o 22 (.cy eC ez 1), .o 23 (.load eI false 1), .o 24 (.bin .sub eD (.k (.int .i64 1))), .o 25 (.DJ 17 de (some dn) (some e8)), .m 4 e9] [(0,0),(1,0),(2,0),(3,0),(4,0),(5,0),(6,0),(7,0),(8,0),(9,0),(10,0),(11,0),(12,0),(13,0),(14,0),(15,0),(16,0),(17,0),(18,0),(19,0),(20,0),(21,0)]
abbrev ajF:AC:= .seq (.run [.o 4 (.mv (.k (.slice .full 0 [])))]) (.seq ajE .ret)
abbrev ajG:AC:= .seq (.run [.o 4 (.mv (.k (.bool false)))]) (.seq (.run [.m 5 bC, .m 6 bA, .c 7 fR [cm,dA], .o 8 (.bin .geq cZ (.k (.int .i64 0))), .m 4 de]) .ret)
abbrev ajH:AC:= .cond dn (.seq (.run [.o 2 (.mv (.k (.bool true)))]) .ret) .skip
abbrev ajI:AC:= .block 1 (.seq (.run [.m 9 cZ, .o 10 (.cy cm cZ 1), .o 11 (.load cb false 1), .m 3 dw, .m 4 dk]) (.seq (.run [.m 12 bC, .m 13 cH, .o 14 (.DJ 1 dd none (some dm)), .m 15 fF, .c 16 bZ [cT,dF]]) ajH))
abbrev ajJ:AC:= .seq (.cond de .skip (.exit 0)) (.seq ajI (.run [.o 17 (.bin .add cZ (.k (.int .i64 1))), .m 7 dJ]))
abbrev ajK:AC:= .seq (.run [.m 5 bC, .o 6 (.len cm), .o 7 (.mv (.k (.int .i64 0)))]) (.block 0 (.loop (.seq (.run [.o 8 (.bin .lss cZ dA)]) ajJ)))
abbrev ajL:AC:= .seq ajK (.seq (.run [.o 2 (.mv (.k (.bool false)))]) .ret)
abbrev ajM:AC:= .seq (.run [.o 2 (.mv (.k (.bool false)))]) ajL
abbrev ajN:AC:= .seq (.run [.o 4 (.mv (.k (.bool false)))]) (.seq (.run [.m 5 bC, .m 6 bA, .c 7 kJ [cm,dA], .o 8 (.bin .geq cZ (.k (.int .i64 0))), .m 4 de]) .ret)
abbrev ajO:AC:= .seq (.run [.o 3 (.mv (.k (.bool false)))]) (.seq (.run [.o 4 (.aq bA 0), .o 5 (.load fF false 1), .m 6 bC, .c 7 bZ [cm,dA], .m 3 cZ]) .ret)
abbrev ajP:AC:= .cond eI (.seq (.run [.o 8 (.mv (.k (.bool false)))]) .ret) .skip
abbrev ajQ:AC:= .seq (.run [.o 16 (.cy dd cT 1), .o 17 (.load dn false 1), .m 10 dJ]) (.seq (.run [.o 18 (.load fF true 2), .o 19 (.load cm true 5), .m 20 cb, .c 21 vk [dG,ey,eC], .o 22 (.bin .eql ez (.k (.int .i64 0)))]) ajP)
abbrev ajR:AC:= .seq (.cond dF .skip (.exit 0)) (.seq (.block 1 ajQ) (.run [.o 23 (.bin .add cT (.k (.int .i64 1))), .m 14 eD]))
abbrev ajS:AC:= .seq (.run [.o 11 (.load cZ true 13), .c 12 q8 [dk], .o 13 (.len dd), .o 14 (.mv (.k (.int .i64 0)))]) (.block 0 (.loop (.seq (.run [.o 15 (.bin .lss cT dm)]) ajR)))
abbrev ajT:AC:= .seq ajS (.seq (.run [.o 24 (.aq cZ 1), .o 25 (.load e8 false 1), .o 26 (.bin .neq e9 (.k (.int .i64 4))), .m 27 fx, .g 28 27 false (.aq cZ 4), .g 29 27 false (.load gv false 1), .g 30 27 false (.bin .neq gH (.k (.str [109,97,105,110]))), .g 31 27 false (.mv gX), .g 32 31 true (.mv dz), .g 33 31 true (.aq cZ 4), .g 34 31 true (.load gR false 1), .d 35 31 true bZ [gY,iV], .g 36 27 false (.pick gI gZ (.k (.bool false))), .o 37 (.pick fA (.k (.bool true)) iH), .m 8 jr]) .ret)
abbrev ajU:AC:= .seq (.run [.o 4 (.box bC), .o 5 (.box bA), .o 7 (.box cH), .o 8 (.mv (.k (.bool false)))]) ajT
abbrev ajV:AC:= .cond dw (.seq (.run [.o 4 (.mv (.k (.bool false)))]) .ret) .skip
abbrev ajW:AC:= .seq (.run [.o 15 (.cy dk dm 5), .o 16 (.load dF true 5), .o 6 (.alloc [(.str []),(.slice .full 0 []),(.slice .full 0 []),(.slice .full 0 []),(.slice .full 0 [])]), .op none none (.store dA dn 5)]) (.seq (.run [.o 17 (.aq dA 0), .o 18 (.load dJ false 1), .o 19 (.aq cH 4), .o 20 (.load ey false 1), .o 21 (.bin .eql dG eC)]) (.cond ez (.seq (.run [.o 22 (.aq dA 1), .o 23 (.load eI false 1), .o 24 (.aq cH 10), .o 25 (.load e8 false 1), .c 26 vl [eD,e9], .m 4 fx]) .ret) .skip))
abbrev ajX:AC:= .seq (.cond cT .skip (.exit 0)) (.seq (.block 1 ajW) (.run [.o 27 (.bin .add dm (.k (.int .i64 1))), .m 13 fA]))
abbrev ajY:AC:= .seq (.run [.o 10 (.aq dz 1), .o 11 (.load cb false 1), .o 12 (.len dk), .o 13 (.mv (.k (.int .i64 0)))]) (.block 0 (.loop (.seq (.run [.o 14 (.bin .lss dm dd)]) ajX)))
abbrev ajZ:AC:= .seq ajY (.seq (.run [.o 4 (.mv (.k (.bool false)))]) .ret)
abbrev aj0:AC:= .seq (.seq (.run [.o 7 (.aq cH 1), .o 8 (.load cZ false 1), .o 9 (.bin .neq de (.k (.int .i64 4)))]) ajV) ajZ
abbrev aj1:AC:= .seq (.run [.o 2 (.box bC), .o 3 (.box bA), .o 4 (.mv (.k (.bool false)))]) aj0
abbrev aj2:AC:= .seq (.run [.o 3 (.load bA true 2), .c 4 lP [cH], .o 5 (.Cp fF 0 false 1), .o 6 (.bin .neq cm (.k (.int .i64 0)))]) (.cond dA (.seq (.run [.o 2 (.mv (.k .dO))]) .ret) .skip)
abbrev aj3:AC:= .seq (.run [.o 1 (.box bC), .o 2 (.mv (.k .dO))]) (.seq aj2 (.seq (.run [.o 7 (.load bA true 2), .c 8 kI [cZ], .m 2 de]) .ret))
abbrev aj4:AC:= .cond dn (.seq (.run [.m 17 bC, .m 4 dJ, .o 5 (.mv (.k (.bool false)))]) .ret) .skip
abbrev aj5:AC:= .block 1 (.seq (.run [.o 12 (.cy de cb 1), .o 13 (.load dd false 1), .m 7 dm]) (.seq (.seq (.run [.m 14 bC, .m 15 cZ, .c 16 bZ [cT,dF]]) aj4) (.run [.m 18 bC, .m 19 cZ, .o 20 (.dv [(.str [])] 1 1 [(0,ey)]), .o 21 (.app 1 16 dG eC), .m 0 ez])))
abbrev aj6:AC:= .seq (.cond dk .skip (.exit 0)) (.seq aj5 (.run [.o 22 (.bin .add cb (.k (.int .i64 1))), .m 10 eI]))
abbrev aj7:AC:= .seq (.run [.m 8 bA, .o 9 (.len de), .o 10 (.mv (.k (.int .i64 0)))]) (.block 0 (.loop (.seq (.run [.o 11 (.bin .lss cb dw)]) aj6)))
abbrev aj8:AC:= .seq aj7 (.seq (.run [.m 23 bC, .m 4 eD, .o 5 (.mv (.k (.bool true)))]) .ret)
abbrev aj9:AC:= .seq (.run [.o 4 (.mv (.k (.slice .full 0 []))), .o 5 (.mv (.k (.bool false)))]) aj8
abbrev aka:AC:= .seq (.run [.o 11 (.bin .eql dw (.k (.int .i64 7))), .m 10 dk]) (.cond cb .skip (.run [.o 12 (.bin .eql dw (.k (.int .i64 8))), .m 10 dd]))
abbrev akb:AC:= .cond cb (.seq (.run [.o 13 (.aq cH 16), .o 14 (.load dm false 1), .o 15 (.bin .neq cT (.k (.int .i64 0))), .m 4 dF]) .ret) (.seq (.run [.o 17 (.bin .eql dw (.k (.int .i64 10))), .m 16 dJ]) (.cond dn (.seq (.run [.m 19 bC, .o 20 (.aq cH 13), .o 21 (.load eC false 1), .o 22 (.aq cH 0), .o 23 (.aq eI 3), .o 24 (.load eD false 1), .c 25 oI [ey,ez,e8], .m 18 e9, .o 26 (.ext dG 0), .o 27 (.ext dG 1), .m 5 fx, .m 6 fA]) (.seq (.run [.m 28 dA, .m 4 gv]) .ret)) .skip))
abbrev akc:AC:= .seq (.seq (.run [.o 7 (.aq cH 0), .o 8 (.aq cZ 1), .o 9 (.load de false 1)]) (.block 0 (.seq aka akb))) (.seq (.run [.o 4 (.mv (.k (.bool true)))]) .ret)
abbrev akd:AC:= .seq (.run [.o 3 (.box bA), .o 4 (.mv (.k (.bool false)))]) akc
abbrev ake:AC:= .cond dn (.seq (.run [.o 4 (.mv (.k (.slice .full 0 [])))]) .ret) .skip
abbrev akf:AC:= .seq (.run [.o 43 (.cy jG kl 1), .o 44 (.load kz false 1), .m 12 kL]) (.seq (.run [.o 45 (.aq dz 0), .o 46 (.load lu false 1), .m 47 dd, .c 48 bZ [lx,mr]]) (.cond ly (.run [.m 49 dA, .m 50 dd, .o 51 (.dv [(.str [])] 1 1 [(0,lK)]), .o 52 (.app 1 16 lz kM), .m 6 kN]) .skip))
abbrev akg:AC:= .seq (.cond kK .skip (.exit 4)) (.seq (.block 5 akf) (.run [.o 53 (.bin .add kl (.k (.int .i64 1))), .m 41 lA]))
abbrev akh:AC:= .seq (.run [.o 37 (.aq cb 0), .o 38 (.load jr true 13), .c 39 q8 [jU], .o 40 (.len jG), .o 41 (.mv (.k (.int .i64 0)))]) (.block 4 (.loop (.seq (.run [.o 42 (.bin .lss kl ky)]) akg)))
abbrev aki:AC:= .seq (.block 3 (.seq (.run [.o 35 (.cy gI gR 17), .o 36 (.load gZ true 17), .o 10 (.alloc [(.int .i64 0),(.int .i64 0),(.slice .full 0 []),(.str []),(.str []),(.int .i64 0),(.int .i64 0),(.str []),(.slice .full 0 []),(.bool false),(.slice .full 0 []),(.slice .full 0 []),(.slice .full 0 []),(.int .i64 0),(.int .i64 0),(.int .i64 0),(.int .i64 0)]), .op none none (.store cb iH 17)]) akh)) (.run [.o 54 (.bin .add gR (.k (.int .i64 1))), .m 33 lL])
abbrev akj:AC:= .block 2 (.loop (.seq (.run [.o 34 (.bin .lss gR gY)]) (.seq (.cond iV .skip (.exit 2)) aki)))
abbrev akk:AC:= .seq (.run [.o 25 (.cy ez eD 1), .o 26 (.load e9 false 1), .m 8 fx]) (.seq (.run [.m 27 cm, .m 28 cm, .m 29 de, .c 30 ik [gv,gH], .c 31 gF [fA,gX], .o 32 (.len gI), .o 33 (.mv (.k (.int .i64 0)))]) akj)
abbrev akl:AC:= .seq (.cond e8 .skip (.exit 0)) (.seq (.block 1 akk) (.run [.o 55 (.bin .add eD (.k (.int .i64 1))), .m 23 lM]))
abbrev akm:AC:= .seq (.run [.m 19 cm, .m 20 bA, .c 21 xd [ey,eC], .o 22 (.len ez), .o 23 (.mv (.k (.int .i64 0)))]) (.block 0 (.loop (.seq (.run [.o 24 (.bin .lss eD eI)]) akl)))
abbrev akn:AC:= .seq (.run [.o 17 (.load dz true 2), .c 18 kI [dJ], .m 5 dG]) (.seq (.run [.o 6 (.mv (.k (.slice .full 0 [])))]) (.seq akm (.seq (.run [.m 56 dA, .c 57 jo [nQ]]) (.seq (.run [.m 58 dA, .c 59 jJ [oz], .m 4 mY]) .ret))))
abbrev ako:AC:= .seq (.run [.o 2 (.box bC), .o 4 (.mv (.k (.slice .full 0 [])))]) (.seq (.seq (.run [.o 13 (.load dz true 2), .m 14 bA, .c 15 tP [dm,cT], .o 16 (.un .not dF)]) ake) akn)
abbrev akp:AC:= .cond iV (.seq (.run [.o 4 (.mv (.k (.bool false)))]) .ret) .skip
abbrev akq:AC:= .seq (.seq (.run [.m 18 cm, .o 19 (.aq cZ 1), .o 20 (.load ey false 1), .c 21 bZ [dG,eC], .m 22 ez, .g 23 22 false (.aq cZ 1), .g 24 22 false (.load eD false 1), .g 25 22 false (.aq dz 3), .g 26 22 false (.load e9 false 1), .g 27 22 false (.bin .eql e8 fx), .o 28 (.pick eI (.k (.bool true)) fA), .m 29 gv, .g 30 29 false (.mv bA), .g 31 29 false (.aq cZ 1), .g 32 29 false (.load gI false 1), .d 33 29 false bZ [gX,gY], .o 34 (.pick gH (.k (.bool true)) gR)]) akp) (.run [.m 35 cm, .o 36 (.aq cZ 1), .o 37 (.load iH false 1), .o 38 (.dv [(.str [])] 1 1 [(0,jr)]), .o 39 (.app 1 16 gZ jU), .m 5 jG])
abbrev akr:AC:= .block 1 (.seq (.run [.o 13 (.cy dw dk 6), .o 14 (.load dm true 6), .o 7 (.alloc [(.bool false),(.str []),(.int .i64 0),(.int .i64 0),(.str []),(.slice .full 0 [])]), .op none none (.store cZ cT 6)]) (.seq (.seq (.run [.o 15 (.aq cZ 0), .o 16 (.load dF false 1), .o 17 (.un .not dn)]) (.cond dJ (.exit 1) .skip)) akq))
abbrev aks:AC:= .seq (.cond dd .skip (.exit 0)) (.seq akr (.run [.o 40 (.bin .add dk (.k (.int .i64 1))), .m 11 ky]))
abbrev akt:AC:= .seq (.run [.o 8 (.aq dz 10), .o 9 (.load de false 1), .o 10 (.len dw), .o 11 (.mv (.k (.int .i64 0)))]) (.block 0 (.loop (.seq (.run [.o 12 (.bin .lss dk cb)]) aks)))
abbrev aku:AC:= .seq akt (.seq (.run [.o 4 (.mv (.k (.bool true)))]) .ret)
abbrev akv:AC:= .seq (.run [.o 2 (.box bC), .o 4 (.mv (.k (.bool false)))]) (.seq (.run [.o 5 (.mv (.k (.slice .full 0 [])))]) aku)
abbrev akw:AC:= .seq (.run [.o 2 (.mv (.k (.bool false)))]) (.seq (.run [.m 3 bC, .o 4 (.bin .geq cH (.k (.int .u8 48))), .m 5 fF, .g 6 5 true (.mv bC), .g 7 5 true (.bin .leq dA (.k (.int .u8 57))), .o 8 (.pick cm cZ (.k (.bool false))), .m 2 de]) .ret)
abbrev akx:AC:= .seq (.run [.o 4 (.mv (.k (.bool false)))]) (.seq (.run [.m 5 bA, .m 6 cm, .g 7 6 true (.mv bC), .d 8 6 true nP [cZ], .o 9 (.pick dA de (.k (.bool false))), .m 10 dw, .g 11 10 false (.mv bA), .g 12 10 false (.un .not dk), .g 13 10 false (.mv dd), .g 14 13 true (.mv bC), .g 15 13 true (.bin .eql cT (.k (.str []))), .g 16 10 false (.pick dm dF (.k (.bool false))), .o 17 (.pick cb (.k (.bool true)) dn), .m 4 dJ]) .ret)
abbrev aky:AC:= .seq (.run [.o 2 (.box bC), .o 4 (.mv (.k (.bool false)))]) (.seq (.run [.m 5 bA, .m 6 cm, .g 7 6 true (.load dz true 4), .d 8 6 true mV [cZ], .o 9 (.pick dA de (.k (.bool false))), .m 10 dw, .g 11 10 false (.mv bA), .g 12 10 false (.un .not dk), .g 13 10 false (.mv dd), .g 14 13 true (.load dz true 4), .d 15 13 true xe [cT], .g 16 10 false (.pick dm dF (.k (.bool false))), .o 17 (.pick cb (.k (.bool true)) dn), .m 4 dJ]) .ret)
abbrev akz:AC:= .cond e9 (.seq (.run [.o 2 (.mv (.k (.bool false)))]) .ret) .skip
abbrev akA:AC:= .seq (.run [.o 9 (.cy cm cZ 6), .o 10 (.load dw true 6), .o 4 (.alloc [(.bool false),(.str []),(.int .i64 0),(.int .i64 0),(.str []),(.slice .full 0 [])]), .op none none (.store fF cb 6)]) (.seq (.run [.o 11 (.aq fF 1), .o 12 (.load dk false 1), .o 13 (.aq fF 0), .o 14 (.load dm false 1), .c 15 oX [dd,cT], .o 16 (.un .not dF), .m 17 dn, .g 18 17 false (.aq fF 2), .g 19 17 false (.load dG true 4), .g 20 17 false (.aq fF 0), .g 21 17 false (.load eC false 1), .g 22 17 false (.un .not ez), .d 23 17 false q7 [ey,eI], .g 24 17 false (.un .not eD), .o 25 (.pick dJ (.k (.bool true)) e8)]) akz)
abbrev akB:AC:= .seq (.cond de .skip (.exit 0)) (.seq (.block 1 akA) (.run [.o 26 (.bin .add cZ (.k (.int .i64 1))), .m 7 fx]))
abbrev akC:AC:= .seq (.run [.m 5 bC, .o 6 (.len cm), .o 7 (.mv (.k (.int .i64 0)))]) (.block 0 (.loop (.seq (.run [.o 8 (.bin .lss cZ dA)]) akB)))
abbrev akD:AC:= .seq akC (.seq (.run [.o 2 (.mv (.k (.bool true)))]) .ret)
abbrev akE:AC:= .seq (.run [.o 2 (.mv (.k (.bool false)))]) akD
abbrev akF:AC:= .cond gI (.seq (.run [.m 32 dz, .m 33 de, .o 34 (.cy gY gR 1), .o 35 (.load iV false 1), .m 6 gZ, .o 7 (.mv (.k (.bool true)))]) .ret) .skip
abbrev akG:AC:= .seq (.run [.m 20 bA, .o 21 (.aq cH 2), .o 22 (.load ez false 1), .c 23 fR [eC,eI], .m 8 eD]) (.seq (.run [.m 24 de, .o 25 (.bin .geq e8 (.k (.int .i64 0))), .m 26 e9, .g 27 26 true (.mv de), .g 28 26 true (.mv dz), .g 29 26 true (.len gv), .g 30 26 true (.bin .lss fA gH), .o 31 (.pick fx gX (.k (.bool false)))]) akF)
abbrev akH:AC:= .seq akG (.seq (.run [.o 6 (.mv (.k (.int .i64 0))), .o 7 (.mv (.k (.bool true)))]) .ret)
abbrev akI:AC:= .cond cT (.seq (.run [.o 16 (.aq cH 1), .o 17 (.load dn false 1), .m 6 dJ, .o 7 (.mv (.k (.bool true)))]) .ret) (.seq (.run [.o 19 (.bin .eql dm (.k (.int .i64 2))), .m 18 ey]) (.cond dG akH .skip))
abbrev akJ:AC:= .block 0 (.seq (.run [.o 15 (.bin .eql dm (.k (.int .i64 1))), .m 14 dF]) akI)
abbrev akK:AC:= .cond mr (.seq (.run [.o 6 (.mv (.k (.int .i64 0))), .o 7 (.mv (.k (.bool false)))]) .ret) .skip
abbrev akL:AC:= .cond vm (.seq (.run [.o 6 (.mv (.k (.int .i64 0))), .o 7 (.mv (.k (.bool true)))]) .ret) .skip
abbrev akM:AC:= .cond A5 (.seq (.run [.o 6 (.mv (.k (.int .i64 1))), .o 7 (.mv (.k (.bool true)))]) .ret) .skip
abbrev akN:AC:= .cond I2 (.seq (.run [.o 6 (.mv (.k (.int .i64 0))), .o 7 (.mv (.k (.bool false)))]) .ret) .skip
abbrev akO:AC:= .seq (.seq (.run [.o 66 (.aq cH 0), .o 67 (.load xf false 1), .o 68 (.bin .eql xg (.k (.int .i64 17))), .m 69 vn, .g 70 69 true (.mv dw), .d 71 69 true q9 [yS], .o 72 (.pick yR Dc (.k (.bool false)))]) akM) (.seq (.run [.o 74 (.aq cH 3), .o 75 (.load Dd false 1), .o 76 (.cy De (.k (.int .i64 1)) 4), .o 77 (.load A7 true 4), .m 78 bA, .m 79 dz, .c 80 kW [Df,yT,Fj], .m 73 Fk, .o 81 (.ext A6 0), .o 82 (.ext A6 1), .m 11 Fl, .m 10 I0]) (.seq (.seq (.run [.m 83 cb, .o 84 (.un .not I1)]) akN) (.seq (.run [.o 85 (.aq cH 0), .o 86 (.load I3 false 1), .m 87 dw, .m 88 dk, .c 89 yQ [I4,I5,I6], .o 90 (.ext Dg 0), .o 91 (.ext Dg 1), .m 6 Fm, .m 7 I7]) .ret)))
abbrev akP:AC:= .seq (.seq (.run [.o 58 (.aq cH 0), .o 59 (.load oz false 1), .o 60 (.bin .eql mY (.k (.int .i64 16))), .m 61 qo, .g 62 61 true (.mv dw), .d 63 61 true q9 [rh], .g 64 61 true (.un .not sb), .o 65 (.pick sa sc (.k (.bool false)))]) akL) akO
abbrev akQ:AC:= .seq (.seq (.run [.o 48 (.aq cH 3), .o 49 (.load ly false 1), .o 50 (.len lz), .o 51 (.bin .eql lK (.k (.int .i64 1)))]) (.cond kM (.seq (.run [.o 52 (.aq cH 0), .o 53 (.load kN false 1), .m 54 dw, .c 55 yP [lA,lL], .o 56 (.ext lM 0), .o 57 (.ext lM 1), .m 6 nQ, .m 7 oZ]) .ret) .skip)) akP
abbrev akR:AC:= .seq (.seq (.run [.o 12 (.aq cH 0), .o 13 (.load dd false 1)]) akJ) (.seq (.run [.o 37 (.aq cH 3), .o 38 (.load jr false 1), .o 39 (.cy jU (.k (.int .i64 0)) 4), .o 40 (.load jG true 4), .m 41 bA, .m 42 dz, .c 43 kW [ky,kl,kK], .m 36 kz, .o 44 (.ext iH 0), .o 45 (.ext iH 1), .m 9 kL, .m 10 lu]) (.seq (.seq (.run [.m 46 cb, .o 47 (.un .not lx)]) akK) akQ))
abbrev akS:AC:= .seq (.run [.o 3 (.box bC), .o 6 (.mv (.k (.int .i64 0))), .o 7 (.mv (.k (.bool false)))]) akR
abbrev akT:AC:= .block 1 (.seq (.run [.m 10 de, .m 5 cb]) (.seq (.run [.m 11 bA, .m 12 bC, .m 13 cm, .o 14 (.cy dd dm 1), .o 15 (.load cT false 1), .o 16 (.bin .eql dk dF)]) (.cond dn (.seq (.run [.m 17 cm, .m 4 dJ]) .ret) .skip)))
abbrev akU:AC:= .seq (.cond dw .skip (.exit 0)) (.seq akT (.run [.o 18 (.bin .add de (.k (.int .i64 1))), .m 8 dG]))
abbrev akV:AC:= .seq (.run [.m 6 bC, .o 7 (.len dA), .o 8 (.mv (.k (.int .i64 0)))]) (.block 0 (.loop (.seq (.run [.o 9 (.bin .lss de cZ)]) akU)))
abbrev akW:AC:= .seq (.run [(.o 4 (.mv (.k (.int .i64 (-1)))))]) .ret
abbrev akX:AC:= .seq (.run [.o 4 (.mv (.k (.int .i64 0)))]) (.seq akV akW)
abbrev akY:AC:= .block 1 (.seq (.run [.m 10 de, .m 5 cb]) (.seq (.run [.m 11 bA, .m 12 bC, .m 13 cm, .o 14 (.cy dd dm 1), .o 15 (.load cT false 1),(.jj (some 16) none 11 [dF])]) (.cond dn (.seq (.run [.m 17 cm, .m 4 dJ]) .ret) .skip)))
abbrev akZ:AC:= .seq (.cond dw .skip (.exit 0)) (.seq akY (.run [.o 18 (.bin .add de (.k (.int .i64 1))), .m 8 dG]))
abbrev ak0:AC:= .seq (.run [.m 6 bC, .o 7 (.len dA), .o 8 (.mv (.k (.int .i64 0)))]) (.block 0 (.loop (.seq (.run [.o 9 (.bin .lss de cZ)]) akZ)))
abbrev ak1:AC:= .seq (.run [(.o 4 (.mv (.k (.int .i64 (-1)))))]) .ret
abbrev ak2:AC:= .seq (.run [.o 4 (.mv (.k (.int .i64 0)))]) (.seq ak0 ak1)
abbrev ak3:AC:= .seq (.seq (.run [.o 31 (.aq cm 0), .o 32 (.load gI false 1)]) (.cond gY (.run [.m 33 cH, .o 34 (.aq cm 1), .o 35 (.load iV false 1), .o 36 (.dv [(.str [])] 1 1 [(0,gZ)]), .o 37 (.app 1 16 gR iH), .m 3 jr]) .skip)) (.run [.m 38 cH, .o 39 (.aq cm 2), .o 40 (.load jG true 4), .c 41 rf [ky], .o 42 (.app 1 16 jU kl), .m 3 kK])
abbrev ak4:AC:= .seq (.block 1 (.seq (.run [.o 29 (.cy e9 fA 6), .o 30 (.load gH true 6), .o 5 (.alloc [(.bool false),(.str []),(.int .i64 0),(.int .i64 0),(.str []),(.slice .full 0 [])]), .op none none (.store cm gX 6)]) ak3)) (.run [.o 43 (.bin .add fA (.k (.int .i64 1))), .m 27 kz])
abbrev ak5:AC:= .block 0 (.loop (.seq (.run [.o 28 (.bin .lss fA fx)]) (.seq (.cond gv .skip (.exit 0)) ak4)))
abbrev ak6:AC:= .seq (.seq (.run [.o 24 (.aq bA 10), .o 25 (.load e8 false 1), .o 26 (.len e9), .o 27 (.mv (.k (.int .i64 0)))]) ak5) (.seq (.run [.m 44 cH, .m 2 kL]) .ret)
abbrev ak7:AC:= .seq (.seq (.run [.o 6 (.aq bA 1), .o 7 (.load dA false 1), .o 8 (.bin .neq cZ (.k (.int .i64 10))), .m 9 de, .g 10 9 true (.aq bA 3), .g 11 9 true (.load cb false 1), .g 12 9 true (.bin .neq dk (.k (.str []))), .o 13 (.pick dw dd (.k (.bool false)))]) (.cond dm (.run [.m 14 cH, .o 15 (.aq bA 3), .o 16 (.load dF false 1), .o 17 (.dv [(.str [])] 1 1 [(0,dn)]), .o 18 (.app 1 16 cT dJ), .m 3 dG]) .skip)) (.seq (.run [.m 19 cH, .o 20 (.aq bA 5), .o 21 (.load eC true 4), .c 22 rf [ez], .o 23 (.app 1 16 ey eI), .m 3 eD]) ak6)
abbrev ak8:AC:= .seq (.run [.o 1 (.box bC), .o 2 (.mv (.k (.slice .full 0 [])))]) (.seq (.run [.o 3 (.mv (.k (.slice .full 0 [])))]) ak7)
abbrev ak9:AC:= .cond eD (.seq (.run [.o 6 (.mv (.k (.int .i64 3)))]) .ret) .skip
abbrev ala:AC:= .cond fA (.seq (.run [.o 6 (.mv (.k (.int .i64 2)))]) .ret) .skip
abbrev alb:AC:= .seq (.seq (.run [.o 16 (.aq de 0), .o 17 (.load dn false 1), .m 18 dz, .o 19 (.bin .eql dJ dG), .m 20 ey, .g 21 20 true (.aq de 1), .g 22 20 true (.load ez false 1), .o 23 (.pick eC eI (.k (.bool false)))]) ak9) (.seq (.run [.o 24 (.aq de 0), .o 25 (.load e8 false 1), .m 26 dz, .o 27 (.bin .eql e9 fx)]) ala)
abbrev alc:AC:= .seq (.block 1 (.seq (.run [.o 14 (.cy cb dd 2), .o 15 (.load cT true 2), .o 8 (.alloc [(.str []),(.bool false)]), .op none none (.store de dF 2)]) alb)) (.run [.o 28 (.bin .add dd (.k (.int .i64 1))), .m 12 gv])
abbrev ald:AC:= .block 0 (.loop (.seq (.run [.o 13 (.bin .lss dd dk)]) (.seq (.cond dm .skip (.exit 0)) alc)))
abbrev ale:AC:= .cond gY (.seq (.run [.o 6 (.mv (.k (.int .i64 4)))]) .ret) .skip
abbrev alf:AC:= .cond iH (.seq (.run [.o 6 (.mv (.k (.int .i64 1)))]) .ret) .skip
abbrev alg:AC:= .seq (.seq (.run [.o 33 (.aq cH 0), .o 34 (.load gR false 1), .m 35 dz, .c 36 bZ [iV,gZ]]) alf) (.seq (.run [.o 6 (.mv (.k (.int .i64 0)))]) .ret)
abbrev alh:AC:= .seq (.seq (.run [.o 9 (.aq fF 1), .o 10 (.load dw false 1), .o 11 (.len cb), .o 12 (.mv (.k (.int .i64 0)))]) ald) (.seq (.seq (.run [.o 29 (.aq fF 2), .o 30 (.load gH false 1), .m 31 dz, .c 32 bZ [gX,gI]]) ale) alg)
abbrev ali:AC:= .seq (.run [.o 3 (.box bC), .o 4 (.box bA), .o 6 (.mv (.k (.int .i64 0)))]) alh
abbrev alj:AC:= .cond dk (.seq (.run [.o 4 (.mv (.k (.bool false)))]) .ret) .skip
abbrev alk:AC:= .par [.o 19 (.aq dA 1), .o 20 (.load ey false 1), .m 21 bA, .m 22 cm, .o 23 (.cy ez eI 6), .o 24 (.aq eD 0), .o 25 (.load e8 false 1), .o 26 (.FY true eC e9)] [(0,0),(1,0),(2,0),(3,0),(4,0),(5,0),(6,0),(7,0)]
abbrev alm:AC:= .cond fx (.seq (.run [.o 4 (.mv (.k (.bool false)))]) .ret) .skip
abbrev aln:AC:= .seq (.block 1 (.seq (.run [.m 16 cT, .o 17 (.cy dd cT 2), .o 18 (.load dJ true 2), .o 6 (.alloc [(.str []),(.bool false)]), .m 5 dn, .op none none (.store dA dG 2)]) (.seq alk alm))) (.run [.o 27 (.bin .add cT (.k (.int .i64 1))), .m 14 fA])
abbrev alo:AC:= .block 0 (.loop (.seq (.run [.o 15 (.bin .lss cT dm)]) (.seq (.cond dF .skip (.exit 0)) aln)))
abbrev alp:AC:= .seq (.seq (.run [.m 12 bC, .o 13 (.len dd), .o 14 (.mv (.k (.int .i64 0)))]) alo) (.seq (.run [.o 4 (.mv (.k (.bool true)))]) .ret)
abbrev alq:AC:= .seq (.run [.o 4 (.mv (.k (.bool false)))]) (.seq (.seq (.run [.m 7 bC, .o 8 (.len cZ), .m 9 bA, .o 10 (.len dw), .o 11 (.bin .neq de cb)]) alj) alp)
abbrev alr:AC:= .seq (.run [.o 2 (.box bC), .o 3 (.box bA), .o 4 (.mv (.k (.bool false)))]) (.seq (.run [.o 5 (.load dz true 2), .c 6 lP [cm], .o 7 (.Cp dA 0 false 1), .o 8 (.bin .eql cZ (.k (.int .i64 0))), .m 9 de, .g 10 9 true (.aq dz 1), .g 11 9 true (.load cb false 1), .g 12 9 true (.uy 191 [cH]), .d 13 9 true gG [dk,dd], .o 14 (.pick dw dm (.k (.bool false))), .m 4 cT]) .ret)
abbrev als:AC:= .seq (.run [.o 26 (.cy eI e8 1), .o 27 (.load fx false 1), .m 8 fA]) (.seq (.run [.m 28 cm, .m 29 de, .c 30 bZ [gv,gH], .o 31 (.un .not gX)]) (.cond gI (.run [.m 32 cm, .m 33 de, .o 34 (.dv [(.str [])] 1 1 [(0,gR)]), .o 35 (.app 1 16 gY iV), .m 5 gZ]) .skip))
abbrev alu:AC:= .seq (.cond e9 .skip (.exit 2)) (.seq (.block 3 als) (.run [.o 36 (.bin .add e8 (.k (.int .i64 1))), .m 24 iH]))
abbrev alv:AC:= .seq (.run [.m 17 bC, .m 18 cm, .m 19 dA, .o 20 (.cy dG ey 1), .o 21 (.load eC false 1), .c 22 tQ [dJ,ez], .o 23 (.len eI), .o 24 (.mv (.k (.int .i64 0)))]) (.block 2 (.loop (.seq (.run [.o 25 (.bin .lss e8 eD)]) alu)))
abbrev alw:AC:= .seq (.seq (.run [.m 11 dA, .m 12 cm, .o 13 (.len dd), .o 14 (.bin .lss dk dm)]) (.cond cT .skip (.exit 0))) (.seq (.block 1 alv) (.run [.m 15 dA, .o 16 (.bin .add dF (.k (.int .i64 1))), .m 6 dn]))
abbrev aca:AC:= .seq (.run [.m 39 cm, .m 4 jG]) .ret
abbrev alx:AC:= .seq (.seq (.run [.o 6 (.mv (.k (.int .i64 0)))]) (.block 0 (.loop alw))) (.seq (.run [.m 37 cm, .c 38 jo [jr]]) aca)
abbrev aly:AC:= .seq (.run [.o 4 (.mv (.k (.slice .full 0 [])))]) (.seq (.run [.m 9 bA, .o 10 (.dv [(.str [])] 1 1 [(0,dw)]), .m 5 cb]) alx)
abbrev alz:AC:= .seq (.run [.o 1 (.box bC), .o 2 (.mv (.k (.bool false)))]) (.seq (.run [.o 3 (.aq bA 0), .o 4 (.load cH false 1), .o 5 (.bin .eql fF (.k (.int .i64 0))), .m 6 cm, .g 7 6 true (.aq bA 1), .g 8 6 true (.load cZ false 1), .g 9 6 true (.bin .eql de (.k (.int .i64 0))), .o 10 (.pick dA dw (.k (.bool false))), .m 11 cb, .g 12 11 true (.aq bA 2), .g 13 11 true (.load dd false 1), .g 14 11 true (.bin .eql dm (.k (.str []))), .o 15 (.pick dk cT (.k (.bool false))), .m 16 dF, .g 17 16 true (.aq bA 3), .g 18 16 true (.load dJ false 1), .g 19 16 true (.len dG), .g 20 16 true (.bin .eql ey (.k (.int .i64 0))), .o 21 (.pick dn eC (.k (.bool false))), .m 2 ez]) .ret)
abbrev alA:AC:= .cond dk (.seq (.run [.m 13 bA, .o 14 (.bin .eql dm (.k (.int .i64 0))), .c 15 jq [cT], .m 4 dF, .o 5 (.mv (.k (.bool true)))]) .ret) .skip
abbrev alB:AC:= .cond cZ (.seq (.run [.m 9 bA, .o 10 (.bin .sub (.k (.int .i64 0)) dw), .m 4 cb, .o 5 (.mv (.k (.bool true)))]) .ret) (.seq (.run [.o 12 (.bin .eql dA (.k (.int .i64 4))), .m 11 dd]) alA)
abbrev alC:AC:= .block 0 (.seq (.run [.o 8 (.bin .eql dA (.k (.int .i64 3))), .m 7 de]) alB)
abbrev alD:AC:= .seq (.seq (.run [.m 6 bC]) alC) (.seq (.run [.o 4 (.mv (.k (.int .i64 0))), .o 5 (.mv (.k (.bool false)))]) .ret)
abbrev alE:AC:= .seq (.run [.o 4 (.mv (.k (.int .i64 0))), .o 5 (.mv (.k (.bool false)))]) alD
abbrev alG:AC:= .seq (.run [.o 2 (.mv (.k (.bool false)))]) (.seq (.run [.m 3 bC, .o 4 (.bin .neq cH (.k (.int .i64 0))), .m 2 fF]) .ret)
abbrev alH:AC:= .seq (.run [.o 25 (.bin .eql de (.k (.int .i64 6))), .m 24 e9]) (.cond e8 .skip (.run [.o 26 (.bin .eql de (.k (.int .i64 7))), .m 24 fx]))
abbrev alI:AC:= .cond kK (.seq (.run [.m 44 bA, .o 45 (.bin .neq kL (.k (.int .i64 0))), .m 46 lu, .g 47 46 false (.mv dz), .g 48 46 false (.bin .neq mr (.k (.int .i64 0))), .o 49 (.pick lx (.k (.bool true)) ly), .c 50 jq [lz], .m 6 lK, .o 7 (.mv (.k (.bool true)))]) .ret) .skip
abbrev alJ:AC:= .cond gR (.seq (.run [.m 35 bA, .o 36 (.bin .neq gZ (.k (.int .i64 0))), .m 37 iH, .g 38 37 true (.mv dz), .g 39 37 true (.bin .neq jU (.k (.int .i64 0))), .o 40 (.pick jr jG (.k (.bool false))), .c 41 jq [ky], .m 6 kl, .o 7 (.mv (.k (.bool true)))]) .ret) (.seq (.run [.o 43 (.bin .eql de (.k (.int .i64 17))), .m 42 kz]) alI)
abbrev alK:AC:= .cond e8 (.seq (.run [.m 27 bC, .m 28 bA, .m 29 dz, .c 30 tR [fA,gv,gH], .o 31 (.ext gX 0), .o 32 (.ext gX 1), .m 6 gI, .m 7 gY]) .ret) (.seq (.run [.o 34 (.bin .eql de (.k (.int .i64 16))), .m 33 iV]) alJ)
abbrev alL:AC:= .cond ey (.seq (.run [.m 21 bA, .m 22 dz, .o 23 (.bin .mul ez eI), .m 6 eD, .o 7 (.mv (.k (.bool true)))]) .ret) (.seq alH alK)
abbrev alM:AC:= .cond cT (.seq (.run [.m 16 bA, .m 17 dz, .o 18 (.bin .sub dn dJ), .m 6 dG, .o 7 (.mv (.k (.bool true)))]) .ret) (.seq (.run [.o 20 (.bin .eql de (.k (.int .i64 5))), .m 19 eC]) alL)
abbrev alN:AC:= .cond dw (.seq (.run [.m 11 bA, .m 12 dz, .o 13 (.bin .add dk dd), .m 6 dm, .o 7 (.mv (.k (.bool true)))]) .ret) (.seq (.run [.o 15 (.bin .eql de (.k (.int .i64 9))), .m 14 dF]) alM)
abbrev alO:AC:= .block 0 (.seq (.run [.o 10 (.bin .eql de (.k (.int .i64 8))), .m 9 cb]) alN)
abbrev alP:AC:= .seq (.run [.o 6 (.mv (.k (.int .i64 0))), .o 7 (.mv (.k (.bool false)))]) (.seq (.seq (.run [.m 8 bC]) alO) (.seq (.run [.m 51 bC, .m 52 bA, .m 53 dz, .c 54 rZ [kM,kN,lA], .o 55 (.ext lL 0), .o 56 (.ext lL 1), .m 6 lM, .m 7 nQ]) .ret))
abbrev alQ:AC:= .cond cm (.seq (.run [.o 2 (.mv (.k (.slice .full 0 [])))]) .ret) .skip
abbrev alR:AC:= .seq (.seq (.run [.o 3 (.load bA true 4), .c 4 mV [cH], .o 5 (.un .not fF)]) alQ) (.seq (.run [.o 6 (.load bA true 4),(.c 7 iK [dA,(.k (.slice .full 0 []))]), .m 2 cZ]) .ret)
abbrev alS:AC:= .seq (.run [.o 1 (.box bC), .o 2 (.mv (.k (.slice .full 0 [])))]) alR
abbrev alT:AC:= .seq (.run [.o 4 (.mv (.k (.bool false)))]) (.seq (.run [.m 5 bC, .m 6 bA, .c 7 fY [cm,dA], .o 8 (.bin .geq cZ (.k (.int .i64 0))), .m 4 de]) .ret)
abbrev alU:AC:= .seq (.run [.o 2 (.box bC), .o 3 (.mv (.k (.bool false)))]) (.seq (.run [.o 4 (.aq dz 0), .o 5 (.load fF false 1), .o 6 (.load bA false 1), .o 7 (.bin .eql cm dA), .m 3 cZ]) .ret)
abbrev alV:AC:= .seq (.run [.o 16 (.cy dd cT 17), .o 17 (.load dn true 17), .o 7 (.alloc [(.int .i64 0),(.int .i64 0),(.slice .full 0 []),(.str []),(.str []),(.int .i64 0),(.int .i64 0),(.str []),(.slice .full 0 []),(.bool false),(.slice .full 0 []),(.slice .full 0 []),(.slice .full 0 []),(.int .i64 0),(.int .i64 0),(.int .i64 0),(.int .i64 0)]), .op none none (.store cZ dJ 17)]) (.seq (.run [.o 18 (.aq cZ 0), .o 19 (.aq dG 1), .o 20 (.load ey false 1), .o 21 (.bin .eql eC (.k (.int .i64 4)))]) (.cond ez (.run [.m 22 cm, .o 23 (.aq cZ 0), .o 24 (.aq eD 4), .o 25 (.load e8 false 1), .o 26 (.dv [(.str [])] 1 1 [(0,e9)]), .o 27 (.app 1 16 eI fx), .m 5 fA]) .skip))
abbrev alW:AC:= .seq (.cond dF .skip (.exit 0)) (.seq (.block 1 alV) (.run [.o 28 (.bin .add cT (.k (.int .i64 1))), .m 14 gv]))
abbrev alX:AC:= .seq (.run [.m 8 bC, .m 9 bC, .m 10 bA, .c 11 ik [dw,cb], .c 12 gF [de,dk], .o 13 (.len dd), .o 14 (.mv (.k (.int .i64 0)))]) (.block 0 (.loop (.seq (.run [.o 15 (.bin .lss cT dm)]) alW)))
abbrev alY:AC:= .seq (.run [.o 4 (.mv (.k (.slice .full 0 [])))]) (.seq (.run [.o 5 (.mv (.k (.slice .full 0 [])))]) (.seq alX (.seq (.run [.m 29 cm, .c 30 jo [gH]]) (.seq (.run [.m 31 cm, .c 32 jJ [gI], .m 4 gY]) .ret))))
open Go.Proofs
theorem yX:Has Tryz.prog oY 19 [(4,none)] akX:=⟨Tryz.f146,by kernel_rfl,by kernel_rfl⟩
theorem s8:Has Tryz.prog kJ 19 [(4,none)] ak2:=⟨Tryz.f167,by kernel_rfl,by kernel_rfl⟩
theorem Fq:Has Tryz.prog q8 45 [(2,none)] ak8:=⟨Tryz.f168,by kernel_rfl,by kernel_rfl⟩
theorem Fs:Has Tryz.prog vk 37 [(6,none)] ali:=⟨Tryz.f169,by kernel_rfl,by kernel_rfl⟩
theorem xX:Has Tryz.prog vl 28 [(4,none)] alq:=⟨Tryz.f170,by kernel_rfl,by kernel_rfl⟩
theorem wq:Has Tryz.prog tP 15 [(4,none)] alr:=⟨Tryz.f171,by kernel_rfl,by kernel_rfl⟩
theorem Hl:Has Tryz.prog xd 40 [(4,none)] aly:=⟨Tryz.f172,by kernel_rfl,by kernel_rfl⟩
theorem Hn:Has Tryz.prog xe 22 [(2,none)] alz:=⟨Tryz.f175,by kernel_rfl,by kernel_rfl⟩
theorem Jc:Has Tryz.prog yP 16 [(4,none),(5,none)] alE:=⟨Tryz.f176,by kernel_rfl,by kernel_rfl⟩
theorem Ft:Has Tryz.prog q9 5 [(2,none)] alG:=⟨Tryz.f177,by kernel_rfl,by kernel_rfl⟩
theorem Jd:Has Tryz.prog yQ 57 [(6,none),(7,none)] alP:=⟨Tryz.f178,by kernel_rfl,by kernel_rfl⟩
theorem xY:Has Tryz.prog rf 8 [(2,none)] alS:=⟨Tryz.f189,by kernel_rfl,by kernel_rfl⟩
theorem qp:Has Tryz.prog gG 9 [(4,none)] alT:=⟨Tryz.f190,by kernel_rfl,by kernel_rfl⟩
theorem Cj:Has Tryz.prog oK 8 [(3,none)] alU:=⟨Tryz.f191,by kernel_rfl,by kernel_rfl⟩
theorem Ed:Has Tryz.prog tQ 33 [(4,none)] alY:=⟨Tryz.f192,by kernel_rfl,by kernel_rfl⟩
abbrev alZ:AC:= .cond cH (.seq (.run [.o 2 (.mv (.k (.int .i64 1)))]) .ret) .skip
abbrev al0:AC:= .seq (.seq (.run [.m 3 bC]) alZ) (.seq (.run [.o 2 (.mv (.k (.int .i64 0)))]) .ret)
abbrev al1:AC:= .seq (.run [.o 2 (.mv (.k (.int .i64 0)))]) al0
abbrev al2:AC:= .cond dw (.seq (.run [.o 6 (.mv (.k (.int .i64 0))), .o 7 (.mv (.k (.bool false)))]) .ret) .skip
abbrev al3:AC:= .cond dm (.seq (.run [.o 6 (.mv (.k (.int .i64 0))), .o 7 (.mv (.k (.bool true)))]) .ret) .skip
abbrev al4:AC:= .cond dF (.seq (.run [.m 16 bA, .m 6 dn, .o 7 (.mv (.k (.bool true)))]) .ret) .skip
abbrev al5:AC:= .seq (.run [.m 14 bA,(.o 15 (.bin .eql cT (.k (.int .i64 (-9223372036854775808)))))]) al4
abbrev al6:AC:= .seq al5 (.seq (.run [.m 17 bA, .o 18 (.bin .sub (.k (.int .i64 0)) dJ), .m 6 dG, .o 7 (.mv (.k (.bool true)))]) .ret)
abbrev al7:AC:= .seq (.seq (.run [.m 12 bC, .o 13 (.bin .eql dd (.k (.int .i64 7)))]) al3) al6
abbrev al8:AC:= .seq (.run [.m 10 dz,(.o 11 (.bin .eql cb (.k (.int .i64 (-1)))))]) (.cond dk al7 .skip)
abbrev al9:AC:= .cond eC (.seq (.run [.m 21 bA, .m 22 dz, .o 23 (.bin .rem ez eI), .m 6 eD, .o 7 (.mv (.k (.bool true)))]) .ret) .skip
abbrev ama:AC:= .seq (.seq (.run [.m 19 bC, .o 20 (.bin .eql ey (.k (.int .i64 7)))]) al9) (.seq (.run [.m 24 bA, .m 25 dz, .o 26 (.bin .quo e8 e9), .m 6 fx, .o 7 (.mv (.k (.bool true)))]) .ret)
abbrev amb:AC:= .seq (.seq (.run [.m 8 dz, .o 9 (.bin .eql de (.k (.int .i64 0)))]) al2) (.seq al8 ama)
abbrev amc:AC:= .seq (.run [.o 6 (.mv (.k (.int .i64 0))), .o 7 (.mv (.k (.bool false)))]) amb
abbrev amd:AC:= .cond jG (.seq (.run [.m 41 bA, .m 42 dz, .o 43 (.bin .neq kl kK), .c 44 jq [kz], .m 6 kL, .o 7 (.mv (.k (.bool true)))]) .ret) .skip
abbrev ame:AC:= .cond gR (.seq (.run [.m 35 bA, .m 36 dz, .o 37 (.bin .eql gZ iH), .c 38 jq [jr], .m 6 jU, .o 7 (.mv (.k (.bool true)))]) .ret) (.seq (.run [.o 40 (.bin .eql de (.k (.int .i64 15))), .m 39 ky]) amd)
abbrev amf:AC:= .cond fA (.seq (.run [.m 29 bA, .m 30 dz, .o 31 (.bin .geq gH gX), .c 32 jq [gI], .m 6 gY, .o 7 (.mv (.k (.bool true)))]) .ret) (.seq (.run [.o 34 (.bin .eql de (.k (.int .i64 14))), .m 33 iV]) ame)
abbrev amg:AC:= .cond ez (.seq (.run [.m 23 bA, .m 24 dz, .o 25 (.bin .gtr eD e8), .c 26 jq [e9], .m 6 fx, .o 7 (.mv (.k (.bool true)))]) .ret) (.seq (.run [.o 28 (.bin .eql de (.k (.int .i64 13))), .m 27 gv]) amf)
abbrev amh:AC:= .cond dF (.seq (.run [.m 17 bA, .m 18 dz, .o 19 (.bin .leq dJ dG), .c 20 jq [ey], .m 6 eC, .o 7 (.mv (.k (.bool true)))]) .ret) (.seq (.run [.o 22 (.bin .eql de (.k (.int .i64 12))), .m 21 eI]) amg)
abbrev ami:AC:= .cond dw (.seq (.run [.m 11 bA, .m 12 dz, .o 13 (.bin .lss dk dd), .c 14 jq [dm], .m 6 cT, .o 7 (.mv (.k (.bool true)))]) .ret) (.seq (.run [.o 16 (.bin .eql de (.k (.int .i64 11))), .m 15 dn]) amh)
abbrev amj:AC:= .block 0 (.seq (.run [.o 10 (.bin .eql de (.k (.int .i64 10))), .m 9 cb]) ami)
abbrev amk:AC:= .seq (.seq (.run [.m 8 bC]) amj) (.seq (.run [.o 6 (.mv (.k (.int .i64 0))), .o 7 (.mv (.k (.bool false)))]) .ret)
abbrev aml:AC:= .seq (.run [.o 6 (.mv (.k (.int .i64 0))), .o 7 (.mv (.k (.bool false)))]) amk
abbrev amm:AC:= .seq (.block 1 (.seq (.run [.o 27 (.cy eD e9 4), .o 28 (.load fA true 4), .o 6 (.alloc [(.int .i64 0),(.int .i64 0),(.str []),(.slice .full 0 [])]), .op none none (.store dA gv 4)]) (.run [.o 29 (.load dA true 4), .m 30 bA, .c 31 iK [gH,gX], .m 1 gI]))) (.run [.o 32 (.bin .add e9 (.k (.int .i64 1))), .m 25 gY])
abbrev amn:AC:= .block 0 (.loop (.seq (.run [.o 26 (.bin .lss e9 e8)]) (.seq (.cond fx .skip (.exit 0)) amm)))
abbrev amo:AC:= .seq (.seq (.run [.o 22 (.aq dz 3), .o 23 (.load eI false 1), .o 24 (.len eD), .o 25 (.mv (.k (.int .i64 0)))]) amn) (.seq (.run [.m 33 bA, .m 4 gR]) .ret)
abbrev amp:AC:= .seq (.seq (.run [.o 7 (.aq dz 0), .o 8 (.load cZ false 1), .o 9 (.bin .eql de (.k (.int .i64 2))), .m 10 dw, .g 11 10 true (.mv bA), .g 12 10 true (.aq dz 2), .g 13 10 true (.load dd false 1), .d 14 10 true bZ [dk,dm], .g 15 10 true (.un .not cT), .o 16 (.pick cb dF (.k (.bool false)))]) (.cond dn (.run [.m 17 bA, .o 18 (.aq dz 2), .o 19 (.load dG false 1), .o 20 (.dv [(.str [])] 1 1 [(0,ey)]), .o 21 (.app 1 16 dJ eC), .m 1 ez]) .skip)) amo
abbrev amq:AC:= .seq (.run [.o 2 (.box bC), .o 4 (.mv (.k (.slice .full 0 [])))]) amp
open Go.Proofs
theorem Je:Has Tryz.prog jq 4 [(2,none)] al1:=⟨Tryz.f195,by kernel_rfl,by kernel_rfl⟩
theorem wu:Has Tryz.prog tR 27 [(6,none),(7,none)] amc:=⟨Tryz.f196,by kernel_rfl,by kernel_rfl⟩
theorem Di:Has Tryz.prog rZ 45 [(6,none),(7,none)] aml:=⟨Tryz.f197,by kernel_rfl,by kernel_rfl⟩
theorem rj:Has Tryz.prog iK 34 [(4,none)] amq:=⟨Tryz.f207,by kernel_rfl,by kernel_rfl⟩
open Go.Proofs
theorem Fu:Has Tryz.prog qZ 9 [(2,none)] QW3:=⟨Tryz.f104,by kernel_rfl,by kernel_rfl⟩
theorem KV:Has Tryz.prog A2 24 [(4,none)] QWG:=⟨Tryz.f105,by kernel_rfl,by kernel_rfl⟩
theorem Jf:Has Tryz.prog yO 18 [(2,none)] QXT:=⟨Tryz.f106,by kernel_rfl,by kernel_rfl⟩
theorem Ee:Has Tryz.prog tM 93 [(2,none)] QZK:=⟨Tryz.f107,by kernel_rfl,by kernel_rfl⟩
theorem Ho:Has Tryz.prog mn 33 [(2,none)] ajp:=⟨Tryz.f108,by kernel_rfl,by kernel_rfl⟩
theorem pF:Has Tryz.prog kq 8 [(2,none)] ajr:=⟨Tryz.f109,by kernel_rfl,by kernel_rfl⟩
theorem Hp:Has Tryz.prog sD 23 [(2,none)] ajv:=⟨Tryz.f110,by kernel_rfl,by kernel_rfl⟩
theorem vO:Has Tryz.prog fR 19 [(4,none)] ajA:=⟨Tryz.f111,by kernel_rfl,by kernel_rfl⟩
theorem CG:Has Tryz.prog wj 17 [(6,none),(7,none)] ajC:=⟨Tryz.f112,by kernel_rfl,by kernel_rfl⟩
theorem vP:Has Tryz.prog mX 9 [(4,none)] ajD:=⟨Tryz.f113,by kernel_rfl,by kernel_rfl⟩
theorem Ck:Has Tryz.prog gF 26 [(4,none)] ajF:=⟨Tryz.f114,by kernel_rfl,by kernel_rfl⟩
theorem tT:Has Tryz.prog bZ 9 [(4,none)] ajG:=⟨Tryz.f115,by kernel_rfl,by kernel_rfl⟩
theorem Ef:Has Tryz.prog n9 18 [(2,none)] ajM:=⟨Tryz.f128,by kernel_rfl,by kernel_rfl⟩
theorem rk:Has Tryz.prog fS 9 [(4,none)] ajN:=⟨Tryz.f129,by kernel_rfl,by kernel_rfl⟩
theorem Cl:Has Tryz.prog oJ 8 [(3,none)] ajO:=⟨Tryz.f130,by kernel_rfl,by kernel_rfl⟩
theorem Eg:Has Tryz.prog qe 38 [(8,none)] ajU:=⟨Tryz.f131,by kernel_rfl,by kernel_rfl⟩
theorem xZ:Has Tryz.prog vi 28 [(4,none)] aj1:=⟨Tryz.f132,by kernel_rfl,by kernel_rfl⟩
theorem x7:Has Tryz.prog q5 9 [(2,none)] aj3:=⟨Tryz.f133,by kernel_rfl,by kernel_rfl⟩
theorem Hq:Has Tryz.prog pZ 24 [(4,none),(5,none)] aj9:=⟨Tryz.f134,by kernel_rfl,by kernel_rfl⟩
theorem px:Has Tryz.prog vj 29 [(4,none)] akd:=⟨Tryz.f135,by kernel_rfl,by kernel_rfl⟩
theorem ur:Has Tryz.prog q6 60 [(4,none)] ako:=⟨Tryz.f136,by kernel_rfl,by kernel_rfl⟩
theorem Dj:Has Tryz.prog rY 41 [(4,none)] akv:=⟨Tryz.f137,by kernel_rfl,by kernel_rfl⟩
theorem Hr:Has Tryz.prog xc 9 [(2,none)] akw:=⟨Tryz.f141,by kernel_rfl,by kernel_rfl⟩
theorem Fv:Has Tryz.prog oX 18 [(4,none)] akx:=⟨Tryz.f142,by kernel_rfl,by kernel_rfl⟩
theorem Fw:Has Tryz.prog q7 18 [(4,none)] aky:=⟨Tryz.f143,by kernel_rfl,by kernel_rfl⟩
theorem Eh:Has Tryz.prog tO 27 [(2,none)] akE:=⟨Tryz.f144,by kernel_rfl,by kernel_rfl⟩
theorem om:Has Tryz.prog kW 92 [(6,none),(7,none)] akS:=⟨Tryz.f145,by kernel_rfl,by kernel_rfl⟩
def Ba (c:UInt8):Bool:=decide ((c.toNat:Int)≥97) && decide ((c.toNat:Int)≤122)
def Ei (c:UInt8):Bool:=decide ((c.toNat:Int)≥48) && decide ((c.toNat:Int)≤57)
def isB (c:UInt8):Bool:=(c.toNat:Int)==32 ||(c.toNat:Int)==9 ||(c.toNat:Int)==10 ||(c.toNat:Int)==13
def o6:aE→Nat
 | []=>0
 |c::r=>if Ba c ||Ei c then o6 r+1 else 0
def acb:aE→Nat
 | []=>0
 |c::r=>if Ei c then acb r+1 else 0
def OA:aE→Nat
 | []=>0
 |c::r=>if(c.toNat:Int) != 10 then OA r+1 else 0
def isWord (s:aE):Bool:=
 s == [103,108,111,98,97,108] ||s == [112,114,111,99] ||s == [118,97,114] ||s == [114,101,102] ||s == [105,102] ||s == [101,108,115,101] ||s == [119,104,105,108,101] ||s == [98,114,101,97,107] ||s == [99,111,110,116,105,110,117,101] ||s == [114,101,116,117,114,110] ||s == [103,111,116,111] ||s == [114,101,97,100] ||s == [112,114,105,110,116]
def agp (s:aE):Bool:=s == [61,61] ||s == [33,61] ||s == [60,61] ||s == [62,61] ||s == [38,38] ||s == [124,124]
def W3 (c:UInt8):Bool:=
 (c.toNat:Int)==40 ||(c.toNat:Int)==41 ||(c.toNat:Int)==123 ||(c.toNat:Int)==125 ||(c.toNat:Int)==44 ||(c.toNat:Int)==59 ||(c.toNat:Int)==58 ||(c.toNat:Int)==61 ||
 (c.toNat:Int)==33 ||(c.toNat:Int)==60 ||(c.toNat:Int)==62 ||(c.toNat:Int)==43 ||(c.toNat:Int)==45 ||(c.toNat:Int)==42 ||(c.toNat:Int)==47 ||(c.toNat:Int)==37
def W4:aE→Nat
 | []=>0
 | [c]=>if W3 c then 1 else 0
 |c::d::_=>if agp [c,d]then 2 else if W3 c then 1 else 0
def bg:Int→aE→Option Int
 |n,[]=>some n
 |n,c::r=>if n > (9223372036854775807 - ((c.toNat:Int) - 48)) / 10 then none else bg (n*10+((c.toNat:Int) - 48)) r
def amr (pos:Nat):aE→pV ⊕ Int
 | []=> .inr 2
 | c::r=>
  if Ba c then
   let s:=(c::r).take (o6 (c::r))
   if s.length > 8 then .inr 4 else .inl ⟨if isWord s then 3 else 1,s,0,pos⟩
  else if Ei c then
   let s:=(c::r).take (acb (c::r))
   if s.length > 1∧(c.toNat:Int)=48 then .inr 2 else
   match bg 0 s with
   |some n=> .inl ⟨2,s,n,pos⟩
   |none=> .inr 4
  else
   if W4 (c::r)=0 then .inr 2 else .inl ⟨4,(c::r).take (W4 (c::r)),0,pos⟩
def OB:Nat→Nat→aE→List pV→List pV×Int×Int
 | 0,_,_,_=>([],0,0)
 |_+1,pos,[],out=>(out++ [⟨0,[],0,pos⟩],0,0)
 | n+1,pos,c::r,out=>
  if isB c then OB n (pos+1) r out
  else if(c.toNat:Int)==35 then OB n (pos+OA (c::r)) ((c::r).drop (OA (c::r))) out
  else match amr pos (c::r)with
   | .inr e=>([],e,pos)
   | .inl t=>if out.length=2000 then([],4,pos)else OB n (pos+t.text.length) ((c::r).drop t.text.length) (out++ [t])
def x8 (text:aE):List pV×Int×Int:=if text.length > 100000 then([],4,0)else OB (text.length+1) 0 text []
def BV:aE→Bool
 | []=>true
 |c::r=>if !(Ba c) && !(Ei c)then false else BV r
def isName:aE→Bool
 | []=>false
 |c::r=>if decide (((r.length+1:Nat):Int) > 8) || !(Ba c)then false else if BV r then !(isWord (c::r))else false
def oc (op:Int):Int:=if op==1 ||op==2 then 0 else if op==3 ||op==4 then 1 else if decide (op≥5) && decide (op≤17)then 2 else -1
mutual
def Ex.form:Ex→Bool
 |⟨op,n,name,kids⟩=>
  if oc op != (kids.length:Int) ||(op != 1 && n != 0) ||decide (n<0) || !((op==2) == !(name == [])) ||(!(name == []) && !(isName name))then false else Ex.sE kids
def Ex.sE:List Ex→Bool
 | []=>true
 |x::l=>if !(Ex.form x)then false else Ex.sE l
end
mutual
def Ex.texts:Ex→Prop
 |⟨_,_,name,kids⟩=>name.length<4611686018427387904∧Ex.vr kids
def Ex.vr:List Ex→Prop
 | []=>True
 |x::l=>x.texts∧Ex.vr l
end
theorem Ex.Ej {x:Ex} : ∀ {l:List Ex},Ex.vr l→x∈l→x.texts
 |y::l,h,m=>by
  rcases List.mem_cons.1 m with rfl|m
  ·exact h.1
  ·exact Ex.Ej h.2 m
theorem Ex.Q5 {op n:Int} {name:aE} {kids:List Ex} (h:Ex.texts ⟨op,n,name,kids⟩) {y:Ex} (m:y∈kids):y.texts:=Ex.Ej h.2 m
def Ex.may (x:Ex):Bool:=decide (((min x.depth 21:Nat):Int)≤20) && x.form
def Ex.none (x:Ex):Bool:=x.op==0 && x.n==0 && x.name == [] && (x.kids.length:Int)==0
def eY:List aE→Bool
 | []=>true
 |s::l=>if !(isName s)then false else eY l
def Ar.may (a:Ar):Bool:=if a.ref then isName a.name && a.x.none else a.name == [] && a.x.may
def Ar.fI:List Ar→Bool
 | []=>true
 |a::l=>if !(a.may)then false else Ar.fI l
def Sm.OC (s:Sm):Bool:=s.kind==1 ||s.kind==3 ||s.kind==5 ||s.kind==6 ||(s.kind==9 && s.has)
def Sm.hasName (s:Sm):Bool:=s.kind==1 ||s.kind==2 ||s.kind==10
def Sm.x9 (s:Sm):Bool:=s.kind==4
def Sm.one (s:Sm):Bool:=
 if decide (s.kind<1) ||decide (s.kind > 10) || !(eY s.labels) ||(s.OC && !(s.x.may)) ||(!(s.OC) && !(s.x.none)) ||(s.has && s.kind != 9)then false
 else if(s.hasName && !(isName s.name)) ||(!(s.hasName) && !(s.name == []) && !(s.x9 && isName s.name))then false
 else if !(s.x9 == !(s.proc == [])) ||(s.x9 && !(isName s.proc)) ||(!(s.x9) && decide ((s.args.length:Int) > 0))then false
 else if !(Ar.fI s.args)then false
 else((s.a7.length:Int)==0 ||s.kind==5 ||s.kind==6) && ((s.aX.length:Int)==0 ||s.kind==5)
structure It where
 s:Sm
 deep:Int
 dg:Int
 aX:Bool
mutual
def j9 (deep dg:Int) (aX:Bool) (out:List It):Sm→List It
 |⟨id,kind,labels,name,proc,x,has,args,a7,e⟩=>
  if decide (deep≤12)then fK (deep+1) id true (fK (deep+1) id false (out++ [⟨⟨id,kind,labels,name,proc,x,has,args,a7,e⟩,deep,dg,aX⟩]) a7) e
  else out++ [⟨⟨id,kind,labels,name,proc,x,has,args,a7,e⟩,deep,dg,aX⟩]
def fK (deep dg:Int) (aX:Bool) (out:List It):List Sm→List It
 | []=>out
 |s::l=>if decide ((out.length:Int)≤200)then fK deep dg aX (j9 deep dg aX out s) l else out
end
def Pc.flat (f:Pc):List It:=fK 1 0 false [] f.body
def allM (out:List It):List Pc→List It
 | []=>out
 |f::l=>if decide (((out++f.flat).length:Int) > 200)then out++f.flat else allM (out++f.flat) l
def Pg.all (p:Pg):List It:=allM [] p.procs
def Pm.fI:List Pm→Bool
 | []=>true
 |a::l=>if !(isName a.name)then false else Pm.fI l
def Pc.nR:List Pc→Bool
 | []=>true
 |f::l=>
  if !(isName f.name) ||decide ((f.params.length:Int) > 8) ||decide ((f.vars.length:Int) > 16) || !(eY f.vars) || !(eY f.fin)then false
  else if !(Pm.fI f.params)then false else Pc.nR l
def It.fI (n:Nat):List It→Bool
 | []=>true
 |i::l=>if i.s.id != ((n+1:Nat):Int) ||decide (i.deep > 12) || !(i.s.one)then false else It.fI (n+1) l
def Pg.may (p:Pg):Bool:=
 if decide ((p.globals.length:Int) > 16) ||decide ((p.procs.length:Int) > 16) || !(eY p.globals)then false
 else if !(Pc.nR p.procs)then false
 else if decide ((p.all.length:Int) > 200)then false else It.fI 0 p.all
open Go.Proofs
@[go_sem] def auz (r:Rd):List D:= [.slice .shared 4 (r.l.map jM), .int .i64 r.i, .int .i64 r.code, .int .i64 r.IZ, .int .i64 r.n]
set_option maxRecDepth 8000
open Go.Proofs
theorem se (c:UInt8) (s:St):aG Tryz.prog qZ [.int .u8 (c.toNat:Int)] s (.bool (Ba c)) s:=by
 refine aG.pure ?_ rfl rfl s
 generalize h:Ba c=b
 unfold Ba at h
 unfold S0
 refine aG.go Fu rfl fun B Q hB hQ=>?_
 have⟨hD,hY,hZ,gA⟩:=bX
 repeat' (first
 |simp only[go_sem,hD,hY,hZ,gA]
 |(with_reducible first|refine bt fun hc=>?_|refine bu fun hc=>?_|refine bx (fun hc=>?_) fun hc=>?_)<;>(try simp only[hc,bs,↓reduceIte]at h)<;>try simp only[hc]
 |(with_reducible refine aF hQ ?_;exact fX))
theorem Fx (c:UInt8) (s:St):aG Tryz.prog xc [.int .u8 (c.toNat:Int)] s (.bool (Ei c)) s:=by
 refine aG.pure ?_ rfl rfl s
 generalize h:Ei c=b
 unfold Ei at h
 unfold S0
 refine aG.go Hr rfl fun B Q hB hQ=>?_
 have⟨hD,hY,hZ,gA⟩:=bX
 repeat' (first
 |simp only[go_sem,hD,hY,hZ,gA]
 |(with_reducible first|refine bt fun hc=>?_|refine bu fun hc=>?_|refine bx (fun hc=>?_) fun hc=>?_)<;>(try simp only[hc,bs,↓reduceIte]at h)<;>try simp only[hc]
 |(with_reducible refine aF hQ ?_;exact fX))
theorem acd (t:aE) (s:St):aG Tryz.prog yO [.str t] s (.bool (isWord t)) s:=by
 refine aG.pure ?_ rfl rfl s
 generalize h:isWord t=b
 unfold isWord at h
 unfold S0
 refine aG.go Jf rfl fun B Q hB hQ=>?_
 have⟨hD,hY,hZ,gA⟩:=bX
 repeat' (first
 |simp only[go_sem,hD,hY,hZ,gA]
 |(with_reducible first|refine bt fun hc=>?_|refine bu fun hc=>?_|refine bx (fun hc=>?_) fun hc=>?_)<;>(try simp only[hc,bs,↓reduceIte]at h)<;>try simp only[hc]
 |(with_reducible refine aF hQ ?_;exact fX))
theorem agq {text:aE} {pos:Nat} (hl:text.length<4611686018427387904) (s:St):aG Tryz.prog A2 [.str text, .int .i64 (pos:Int)] s (.int .i64 ((pos+o6 (text.drop pos):Nat):Int)) s:=by
 refine aG.pure ?_ rfl rfl s
 unfold S0
 refine aG.go KV rfl fun B Q hB hQ=>?_
 have⟨hD,hY,hZ,gA⟩:=bX
 repeat' (first
 |simp only[go_sem,hD,hY,hZ,gA]
 |(with_reducible refine aF hQ ?_;exact bk))
 refine fm 0 0 (br.ind (ι:=aE×Nat) (fun i=>text.drop i.2=i.1∧i.2+o6 i.1=pos+o6 (text.drop pos)) (fun i=>i.1.length)
  (fun i=> [(0, .str text),(1, .int .i64 (i.2:Int))]) (fun i=>⟨[],[]⟩) ?_ (text.drop pos,pos) ⟨rfl,rfl⟩)
 rintro⟨rest,k⟩ ⟨h1,h2⟩ IH
 dsimp only at h1 h2
 cases rest with
 |nil=>
  have hD:=drop_nil h1
  simp only[o6,Nat.add_zero]at h2
  rw[← h2]at hQ
  repeat' (first
 |simp only[go_sem,hD,hY,hZ,gA]
 |(with_reducible refine aF hQ ?_;exact bk))
 | cons c rest=>
  obtain⟨hY,g2,hD,g4⟩:=drop_cons h1
  have hZ:k<4611686018427387904:=by omega
  cases hb:(Ba c ||Ei c)
  ·simp only [o6,hb,Bool.false_eq_true, ↓reduceIte,Nat.add_zero]at h2
   rw[← h2]at hQ
   simp only[Bool.or_eq_false_iff]at hb
   repeat' (first
 |simp only[go_sem,hD,hY,hZ,gA,hb.1,hb.2]
 |(with_reducible refine CU (se _ _) ?_)
 |(with_reducible refine CU (Fx _ _) ?_)
 | (with_reducible refine aF hQ ?_;exact bk))
  ·simp only [o6,hb, ↓reduceIte]at h2
   cases Ij:Ba c
   ·rw [Ij,Bool.false_or]at hb
    repeat' (first
 |simp only[go_sem,hD,hY,hZ,gA,hb,Ij]
 |(with_reducible refine CU (se _ _) ?_)
 |(with_reducible refine CU (Fx _ _) ?_)
 | (with_reducible refine aF hQ ?_;exact bk))
    refine fm 0 0 (IH (rest,k+1) ⟨g2,by dsimp only;omega⟩ (Nat.lt_succ_self _))
   ·repeat' (first
 |simp only[go_sem,hD,hY,hZ,gA,Ij]
 |(with_reducible refine CU (se _ _) ?_)
 |(with_reducible refine CU (Fx _ _) ?_)
 | (with_reducible refine aF hQ ?_;exact bk))
    refine fm 0 0 (IH (rest,k+1) ⟨g2,by dsimp only;omega⟩ (Nat.lt_succ_self _))
def as8 (s:aE):Int×Bool:=match bg 0 s with|some n=>(n,true)|none=>(0,false)
open Go.Proofs
def ams (f:Int×Int):List D:= [.int .i64 f.1, .int .i64 f.2]
def agr (text:aE) (out:List pV) (pos:Nat):Tm:= [(0, .str text),(3, .ptr 0 0),(4, .slice (.tok 0) 4 (out.map jM)),(5, .ptr 1 0),(6, .int .i64 (pos:Int))]
def ags (out:List pV):St:=⟨[[.int .i64 0, .int .i64 0],[.junk, .junk, .junk, .junk]],[some out.length]⟩
attribute [go_sem] agr ags ams
end Go.Abs
namespace Go.Abs
set_option maxRecDepth 8000
open Go.Proofs
def ani (s:aE):Bool:=
 [103,108,111,98,97,108] == s || [112,114,111,99] == s || [118,97,114] == s || [114,101,102] == s || [105,102] == s || [101,108,115,101] == s || [119,104,105,108,101] == s || [98,114,101,97,107] == s || [99,111,110,116,105,110,117,101] == s || [114,101,116,117,114,110] == s || [103,111,116,111] == s || [114,101,97,100] == s || [112,114,105,110,116] == s
def OpR (p:Int×Int):Prop:=0≤p.2∧p.2≤6
@[go_sem] def auA (z:D) (r:Rd):List D:= [.slice .shared 4 (r.l.map jM), .int .i64 r.i, .int .i64 r.code, .int .i64 r.IZ,z]
class Cell (z:D):Prop where
 ok:D.ok 0 0 z=true
 fg : ∀ n m,D.fg n m z=z
instance (n:Int):Cell (.int .i64 n):=⟨rfl,fun _ _=>rfl⟩
instance:Cell .junk:=⟨rfl,fun _ _=>rfl⟩
theorem YP (z:D) [h:Cell z] (n m:Nat):D.fg n m z=z:=h.fg n m
attribute [go_sem] YP
def Rd.isO (text:aE) (r:Rd):Option Bool:=if r.good then r.is text else some false
end Go.Abs
namespace Go.Abs
open Go.Proofs
def ace (s:aE):Int×Int:=
 if [42] == s then(6,5)else if [47] == s then(6,6)else if [37] == s then(6,7)else if [43] == s then(5,8)else if [45] == s then(5,9)
 else if [60] == s then(4,10)else if [60,61] == s then(4,11)else if [62] == s then(4,12)else if [62,61] == s then(4,13)
 else if [61,61] == s then(3,14)else if [33,61] == s then(3,15)else if [38,38] == s then(2,16)else if [124,124] == s then(1,17)else(0,0)
def BZ (p:Int×Int):Prop:=(p.2==0)=(p.1==0)
set_option maxRecDepth 8000
open Go.Proofs
structure Sm.tU (s:Sm):Prop where
 W5 : ∀ t∈s.labels,t.length<4611686018427387904
 amt:s.labels.length<4611686018427387904
 name:s.name.length<4611686018427387904
 proc:s.proc.length<4611686018427387904
 x:s.x.size<4611686018427387904
 xt:s.x.texts
 amu:s.args.length<4611686018427387904
 arg : ∀ a∈s.args,a.x.size<4611686018427387904∧a.x.texts∧a.name.length<4611686018427387904
section
variable {v:Sm} {B:fP} {Q:Exit→Tm→St→Prop} {p:Bool}
end
theorem aG.goS {P:Program} {f:FuncId} {nt:Nat} {res:List (Nat×Option (Bool×Nat))} {body:AC} {args:List D} {s:St} {d:D} {s':St} (h0:Has P f nt res body) (hl:Nat.ble args.length nt=true)
 (h : ∀ (B:fP) (Q:Exit→Tm→St→Prop),B.s=s→pL s.ah.length s.au.length res d s'=Q→Sem P B nt body Q (mI 0 args) s):aG P f args s d s':=by
 obtain⟨fn,hf,hc⟩:=h0
 exact aG.intro ⟨fn,hf,hc⟩ (Nat.le_of_ble_eq_true hl) fun B hB=>h B _ hB rfl
end Go.Abs
namespace Go.Abs
set_option maxRecDepth 8000
open Go.Proofs
def dq (i:Im):List D:= [.int .i64 i.s.id, .int .i64 i.s.kind, .slice .shared 1 (i.s.labels.map encStr), .str i.s.name, .str i.s.proc,
 .int .i64 i.s.x.op, .int .i64 i.s.x.n, .str i.s.x.name, .slice .shared 4 (i.s.x.kids.map bY), .bool i.s.has, .slice .shared 6 (i.s.args.map ek), .slice .shared 13 (i.s.a7.map bm), .slice .shared 13 (i.s.aX.map bm), .int .i64 i.proc, .int .i64 i.up, .int .i64 i.next, .int .i64 i.loop]
def cq (n:Int):List D:= [.int .i64 n]
theorem OD (i:Im):D.bL 0 0 (dq i)=true:=by simp[dq,D.bL,D.ok,Tag.ok,eU,Wb,HE,qU]
theorem HG (l:List Im):D.gU 0 0 (l.map dq)=true:=gW OD l
theorem W6 (n m:Nat) (l:List Im):D.kn n m (l.map dq)=l.map dq:=lO OD n m l
theorem agt (n m:Nat) (i:Im):D.gh n m (dq i)=dq i:=gQ n m _ (OD i)
theorem agu (x:Im):(dq x).length=17:=nd rfl
theorem YQ (x:Im):List.take 17 (dq x)=dq x:=nd rfl
theorem acf (x:Im):List.drop 17 (dq x) = []:=nd rfl
theorem acg (x:Im):List.take 13 (dq x)=bm x.s:=by simp only[dq,eR];rfl
theorem Uu (x:Im):(dq x)[0]? = some (.int .i64 x.s.id):=nd rfl
theorem Uv (x:Im):(dq x)[1]? = some (.int .i64 x.s.kind):=nd rfl
theorem Uw (x:Im):(dq x)[4]? = some (.str x.s.proc):=nd rfl
theorem Q6 (x:Im):(dq x)[13]? = some (.int .i64 x.proc):=nd rfl
theorem Q7 (x:Im):(dq x)[14]? = some (.int .i64 x.up):=nd rfl
theorem Q8 (x:Im):(dq x)[15]? = some (.int .i64 x.next):=nd rfl
theorem Q9 (x:Im):(dq x)[16]? = some (.int .i64 x.loop):=nd rfl
theorem OE (s:Sm) (a b c d:Int):dq ⟨s,a,b,c,d⟩ = [.int .i64 s.id, .int .i64 s.kind, .slice .shared 1 (s.labels.map encStr), .str s.name, .str s.proc,
 .int .i64 s.x.op, .int .i64 s.x.n, .str s.x.name, .slice .shared 4 (s.x.kids.map bY), .bool s.has, .slice .shared 6 (s.args.map ek), .slice .shared 13 (s.a7.map bm), .slice .shared 13 (s.aX.map bm), .int .i64 a, .int .i64 b, .int .i64 c, .int .i64 d]:=nd rfl
theorem W7 (n:Int):D.bL 0 0 (cq n)=true:=rfl
theorem jt (l:List Int):D.gU 0 0 (l.map cq)=true:=gW W7 l
theorem Ra (n m:Nat) (l:List Int):D.kn n m (l.map cq)=l.map cq:=lO W7 n m l
attribute [go_sem] W6 agt agu YQ acf acg Uu Uv Uw Q6 Q7 Q8 Q9 Ra cq
theorem ach : ∀ n,n<1000000000→∀ v:Sm,v.size≤n→aG Tryz.prog mn [.agg (bm v)] S0 (.int .i64 (v.jn:Int)) S0:=by
 intro n
 induction n with
 |zero=>intro _ v h;obtain⟨_,_,_,_,_,_,_,_,_,_⟩:=v;simp only[Sm.size]at h;omega
 |succ n ih=>
 intro hn v hv
 have dL:Sm.bc v.a7≤n∧Sm.bc v.aX≤n∧v.jn=1+Sm.iU v.a7+Sm.iU v.aX:=by
  obtain⟨_,_,_,_,_,_,_,_,_,_⟩:=v
  simp only[Sm.size]at hv;exact⟨by dsimp only;omega,by dsimp only;omega,rfl⟩
 obtain⟨h1,h2,h3⟩:=dL
 have c1:=nE v.a7
 have c2:=nE v.aX
 have l1:=Sm.eW v.a7
 have l2:=Sm.eW v.aX
 have hk : ∀ y,y∈v.a7∨y∈v.aX→∀ s,aG Tryz.prog mn [.agg (bm y)] s (.int .i64 (y.jn:Int)) s:=fun y hy s=>
  (ih (by omega) y (by rcases hy with hy|hy<;>(have:=Sm.dr hy;omega))).pure (by simp only[D.bL,D.ok,qT];rfl) rfl s
 rw[h3]
 unfold S0
 refine aG.go Ho rfl fun B Q hB hQ=>?_
 have⟨hD,hY,hZ,gA⟩:=bX
 repeat' (first
 |simp only[go_sem,hD,hY,hZ,gA]
 |(with_reducible refine aF hQ ?_;exact bk))
 refine fm 1 0 (br.ind (ι:=List Sm×Nat×Nat) (fun i=>v.a7.drop i.2.1=i.1∧i.2.2+Sm.iU i.1=1+Sm.iU v.a7) (fun i=>i.1.length)
  (fun i=> [(1, .ptr 0 0),(3, .int .i64 (i.2.2:Int)),(9, .slice .shared 13 (v.a7.map bm)),(10, .int .i64 (v.a7.length:Int)),(11, .int .i64 (i.2.1:Int))]) (fun i=>⟨[bm v],[]⟩) ?_ (v.a7,0,1) ⟨rfl,rfl⟩)
 rintro⟨rest,k,c⟩ ⟨g1,g2⟩ IH
 dsimp only at g1 g2
 cases rest with
 |cons y rest=>
  obtain⟨hY,g3,hD,g4⟩:=drop_cons g1
  have hy:=hk y (.inl (List.mem_of_getElem? hY))
  simp only[Sm.iU]at g2
  have hcy:=Da y
  have F4:=Sm.dr (List.mem_of_getElem? hY)
  have w1:IntKind.wrap .i64 ((k:Int)+1)=((k+1:Nat):Int):=by rw[dV]<;>omega
  have w2:IntKind.wrap .i64 ((c:Int)+(y.jn:Int))=((c+y.jn:Nat):Int):=by rw[dV]<;>omega
  repeat' (first
 |simp only[go_sem,hD,hY,hZ,gA,w1,w2]
 |(with_reducible refine CU (hy _) ?_)
 |(with_reducible refine aF hQ ?_;exact bk))
  refine fm 1 0 (IH (rest,k+1,c+y.jn) ⟨g3,by dsimp only;omega⟩ (Nat.lt_succ_self _))
 |nil=>
  have hD:=drop_nil g1
  simp only[Sm.iU,Nat.add_zero]at g2
  subst g2
  repeat' (first
 |simp only[go_sem,hD,hY,hZ,gA]
 | (with_reducible refine aF hQ ?_;exact bk))
  refine fm 1 0 (br.ind (ι:=List Sm×Nat×Nat) (fun i=>v.aX.drop i.2.1=i.1∧i.2.2+Sm.iU i.1=1+Sm.iU v.a7+Sm.iU v.aX) (fun i=>i.1.length)
   (fun i=> [(1, .ptr 0 0),(3, .int .i64 (i.2.2:Int)),(21, .slice .shared 13 (v.aX.map bm)),(22, .int .i64 (v.aX.length:Int)),(23, .int .i64 (i.2.1:Int))]) (fun i=>⟨[bm v],[]⟩) ?_ (v.aX,0,1+Sm.iU v.a7) ⟨rfl,rfl⟩)
  rintro⟨rest,k,c⟩ ⟨g1,g2⟩ IH
  dsimp only at g1 g2
  cases rest with
  |cons y rest=>
   obtain⟨hY,g3,hD,g4⟩:=drop_cons g1
   have hy:=hk y (.inr (List.mem_of_getElem? hY))
   simp only[Sm.iU]at g2
   have hcy:=Da y
   have F4:=Sm.dr (List.mem_of_getElem? hY)
   have w1:IntKind.wrap .i64 ((k:Int)+1)=((k+1:Nat):Int):=by rw[dV]<;>omega
   have w2:IntKind.wrap .i64 ((c:Int)+(y.jn:Int))=((c+y.jn:Nat):Int):=by rw[dV]<;>omega
   repeat' (first
 |simp only[go_sem,hD,hY,hZ,gA,w1,w2]
 |(with_reducible refine CU (hy _) ?_)
 | (with_reducible refine aF hQ ?_;exact bk))
   refine fm 1 0 (IH (rest,k+1,c+y.jn) ⟨g3,by dsimp only;omega⟩ (Nat.lt_succ_self _))
  |nil=>
   have hD:=drop_nil g1
   simp only[Sm.iU,Nat.add_zero]at g2
   subst g2
   repeat' (first
 |simp only[go_sem,hD,hY,hZ,gA]
 |(with_reducible refine aF hQ ?_;exact bk))
theorem aci {v:Sm} (h:v.size<1000000000) (s:St):aG Tryz.prog mn [.agg (bm v)] s (.int .i64 (v.jn:Int)) s:=
 (ach v.size h v (Nat.le_refl _)).pure (by simp only[D.bL,D.ok,qT];rfl) rfl s
end Go.Abs
namespace Go.Abs
set_option maxRecDepth 8000
open Go.Proofs
abbrev iL (g ps:D) (L:List Im) (lo hi:List Int):List D:= [g,ps, .slice (.tok 0) 17 (L.map dq), .slice (.tok 1) 1 (lo.map cq), .slice (.tok 2) 1 (hi.map cq)]
abbrev Ux (proc up next loop:Int):List D:= [.int .i64 0, .int .i64 0, .slice .full 0 [], .str [], .str [], .int .i64 0, .int .i64 0, .str [], .slice .full 0 [], .bool false, .slice .full 0 [], .slice .full 0 [], .slice .full 0 [], .int .i64 proc, .int .i64 up, .int .i64 next, .int .i64 loop]
theorem aG.agv {P:Program} {f:Nat} {args:List D} {g ps:D} {L L':List Im} {lo hi F9 gN:List Int} {a b c a' b' c':Option Nat}
 (h:aG P f (.ptr 0 0::args) ⟨[iL g ps L lo hi],[a,b,c]⟩ (.tuple []) ⟨[iL g ps L' F9 gN],[a',b',c']⟩)
 (ha:D.bL 0 0 args=true) (hg:D.ok 0 0 g=true) (hp:D.ok 0 0 ps=true)
 {s:St} {o:Nat} (ho:s.ah[o]? = some (iL g ps L lo hi)) (ht:s.au = [a,b,c]):aG P f (.ptr o 0::args) s (.tuple []) ⟨s.ah.set o (iL g ps L' F9 gN),[a',b',c']⟩:=by
 have hr : ∀ (L:List Im) (lo hi:List Int),D.eQ [o] [0,1,2] (iL g ps L lo hi)=iL g ps L lo hi:=fun L lo hi=>by
  simp[D.eQ,D.cJ,Tag.cJ,qm _ _ _ hg,qm _ _ _ hp,jc _ _ _ (HG L),jc _ _ _ (jt lo),jc _ _ _ (jt hi)]
 have hk : ∀ (L:List Im) (lo hi:List Int),D.bL 1 3 (iL g ps L lo hi)=true:=fun L lo hi=>by
  simp[D.bL,D.ok,Tag.ok,Fc (Nat.zero_le 1) (Nat.zero_le 3) _ hg,Fc (Nat.zero_le 1) (Nat.zero_le 3) _ hp,mh (Nat.zero_le 1) (Nat.zero_le 3) _ (HG L),mh (Nat.zero_le 1) (Nat.zero_le 3) _ (jt lo),mh (Nat.zero_le 1) (Nat.zero_le 3) _ (jt hi)]
 refine bG.frame [o] [0,1,2] h (by simp) (by decide) (by simpa using (List.getElem?_eq_some_iff.1 ho).1) (by rw[ht];simp) rfl (fun i o' ds e1 e2=>?_) rfl (fun i t' e1=>?_)
  (by simp[D.eQ,D.cJ,fv _ _ _ ha])
  (by simp[D.bL,D.ok,ij (Nat.zero_le 1) (Nat.zero_le 3) _ ha]) ?_
 ·cases i with
  |zero=>simp only[List.getElem?_cons_zero,Option.some.injEq]at e1 e2;subst e1;subst e2;exact⟨by rw[hr];exact ho,hk L lo hi⟩
  |succ i=>simp at e1
 ·rw [ht]
  match i,e1 with
  | 0,e1=>simp at e1;subst e1;rfl
  | 1,e1=>simp at e1;subst e1;rfl
  | 2,e1=>simp at e1;subst e1;rfl
  |i+3,e1=>simp at e1
 ·rintro _ _ ⟨rfl,rfl⟩
  refine⟨by simp[D.back,D.cJ,D.eQ], ?_⟩
  have:=hr L' F9 gN
  simp[St.back,kv,kp,this,ht]
abbrev W8 (N:Nat):Prop:=∀ (l:List Sm) (proc up next loop:Int) (out:List Im) (g ps:D) (lo hi:List Int) (b c:Option Nat),Sm.bc l<N→out.length+Sm.iU l<1000000000→D.ok 0 0 g=true→D.ok 0 0 ps=true→
 ∀ {s:St} {o:Nat},s.ah[o]? = some (iL g ps out lo hi)→s.au = [some out.length,b,c]→
 aG Tryz.prog jT [.ptr o 0, .slice .shared 13 (l.map bm), .agg (Ux proc up next loop)] s (.tuple []) ⟨s.ah.set o (iL g ps (Im.rows proc up next loop out l) lo hi),[some (Im.rows proc up next loop out l).length,b,c]⟩
theorem agw {N:Nat} (ih:W8 N) {l:List Sm} {proc up next loop:Int} {out:List Im} {g ps:D} {lo hi:List Int} {b c:Option Nat} (hs:Sm.bc l<N+1) (hc:out.length+Sm.iU l<1000000000) (hg:D.ok 0 0 g=true) (hp:D.ok 0 0 ps=true) (hN:N<1000000000) :
 aG Tryz.prog jT [.ptr 0 0, .slice .shared 13 (l.map bm), .agg (Ux proc up next loop)] ⟨[iL g ps out lo hi],[some out.length,b,c]⟩ (.tuple []) ⟨[iL g ps (Im.rows proc up next loop out l) lo hi],[some (Im.rows proc up next loop out l).length,b,c]⟩:=by
 obtain⟨R,hR⟩ : ∃ R,R=Im.rows proc up next loop out l:=⟨_,rfl⟩
 have hlR:R.length=out.length+Sm.iU l:=by rw[hR,gu]
 rw[← hR]
 have k1 : ∀ n m,D.fg n m g=g:=fun n m=>Og n m _ hg
 have k2 : ∀ n m,D.fg n m ps=ps:=fun n m=>Og n m _ hp
 refine aG.go A9 rfl fun B Q hB hQ=>?_
 have⟨hD,hY,hZ,gA⟩:=bX
 repeat' (first
 |simp only[go_sem,hD,hY,hZ,gA,k1,k2]
 |(with_reducible first|refine bt fun hc=>?_|refine bu fun hc=>?_|refine bx (fun hc=>?_) fun hc=>?_)<;>(try simp only[hc,bs,↓reduceIte]at h)<;>try simp only[hc]
 |(with_reducible refine aF hQ ?_;simp only[aV,aY,bH,bI,go_sem,hD,hY,hZ,gA,k1,k2];try exact cr))
 refine fp 2 3 ?_ ?_ (br.ind (ι:=List Sm×Nat×List Im) (fun i=>l.drop i.2.1=i.1∧Im.rows proc up next loop i.2.2 i.1=R∧i.2.2.length+Sm.iU i.1=out.length+Sm.iU l) (fun i=>i.1.length)
  (fun i=> [(0, .ptr 0 0),(1, .slice .shared 13 (l.map bm)),(5, .ptr 1 0),(11, .slice .shared 13 (l.map bm)),(12, .int .i64 (l.length:Int)),(13, .int .i64 (i.2.1:Int))]) (fun i=>⟨[iL g ps i.2.2 lo hi,Ux proc up next loop],[some i.2.2.length,b,c]⟩) ?_ (l,0,out) ⟨rfl,hR.symm,rfl⟩)
 ·(simp only[go_sem,hD,hY,hZ,gA,k1,k2];try exact cz)
 ·(simp only[go_sem,hD,hY,hZ,gA,k1,k2];try exact cz)
 rintro⟨rest,k,ct⟩ ⟨h1,h2,h3⟩ IH
 dsimp only at h1 h2 h3
 have hlen:l.length<1000000000:=by have:=Sm.eW l;omega
 cases rest with
 |nil=>
  have hD:=drop_nil h1
  simp only[Im.rows]at h2
  subst h2
  repeat' (first
 |simp only[go_sem,hD,hY,hZ,gA,k1,k2]
 |(with_reducible first|refine bt fun hc=>?_|refine bu fun hc=>?_|refine bx (fun hc=>?_) fun hc=>?_)<;>(try simp only[hc,bs,↓reduceIte]at h)<;>try simp only[hc]
 |(with_reducible refine aF hQ ?_;simp only[aV,aY,bH,bI,go_sem,hD,hY,hZ,gA,k1,k2];try exact cr))
 | cons v rest=>
  obtain⟨hY,g2,hD,g4⟩:=drop_cons h1
  have cj:k<4611686018427387904:=by omega
  have hv:=Sm.dr (List.mem_of_getElem? hY)
  have sS:Sm.bc v.a7<N∧Sm.bc v.aX<N∧v.jn=1+Sm.iU v.a7+Sm.iU v.aX:=by
   obtain⟨_,_,_,_,_,_,_,_,_,_⟩:=v
   simp only[Sm.size]at hv
   exact⟨by dsimp only;omega,by dsimp only;omega,rfl⟩
  obtain⟨xI,Ih,hv3⟩:=sS
  simp only[Sm.iU]at h3
  simp only[Im.rows,Im.abF]at h2
  have hZ:(ct.length+1)*241≤bJ:=by unfold bJ;omega
  have Lv:IntKind.wrap .i64 ((ct.length:Int)+1)=(ct.length:Int)+1:=dV (by omega) (by omega)
  have s9:IntKind.wrap .i64 ((k:Int)+1)=((k+1:Nat):Int):=by rw[dV]<;>omega
  have W9:IntKind.wrap .i64 ((ct.length:Int)+1+(v.jn:Int))=(ct.length:Int)+1+(v.jn:Int):=dV (by omega) (by omega)
  have dL:=fun s=>aci (v:=v) (by omega) s
  simp only[eR]at dL
  have AE:rest.length=l.length - (k+1):=by rw[← g2,List.length_drop]
  by_cases auB:k+1<l.length
  ·have d1:decide (((k+1:Nat):Int)<(l.length:Int))=true:=by simp;omega
   have e1:(rest.length=0)=False:=by simp;intro h;rw[h]at AE;simp at AE;omega
   by_cases Rb:v.kind=6
   ·have d2:(v.kind==6)=true:=by simp [Rb]
    simp only[e1,d2,↓reduceIte,Bool.false_eq_true]at h2
    have f1:=fun {s:St} {o:Nat}=>@ih v.a7 proc ((ct.length:Int)+1) ((ct.length:Int)+1) ((ct.length:Int)+1) (ct++ [⟨v,proc,up,((ct.length:Int)+1+(v.jn:Int)),loop⟩]) g ps lo hi b c xI (by simp;omega) hg hp s o
    have f2:=fun {s:St} {o:Nat}=>@ih v.aX proc ((ct.length:Int)+1) ((ct.length:Int)+1) ((ct.length:Int)+1) _ g ps lo hi b c Ih (by rw[gu proc ((ct.length:Int)+1) ((ct.length:Int)+1) ((ct.length:Int)+1) (ct++ [⟨v,proc,up,((ct.length:Int)+1+(v.jn:Int)),loop⟩]) v.a7];simp;omega) hg hp s o
    have hl:(Im.rows proc ((ct.length:Int)+1) ((ct.length:Int)+1) ((ct.length:Int)+1) (Im.rows proc ((ct.length:Int)+1) ((ct.length:Int)+1) ((ct.length:Int)+1) (ct++ [⟨v,proc,up,((ct.length:Int)+1+(v.jn:Int)),loop⟩]) v.a7) v.aX).length=ct.length+v.jn:=by rw[gu,gu];simp;omega
    simp only[iL,List.map_append,List.map_cons,List.map_nil,OE,List.length_append,List.length_cons,List.length_nil]at f1
    repeat' (first
 |simp only[go_sem,hD,hY,hZ,gA,k1,k2,Lv,s9,W9,d1,d2,eR]
 |(with_reducible refine CU (dL _) ?_)
 |(with_reducible refine CU (f1 (by with_unfolding_all rfl) (by with_unfolding_all rfl)) ?_)
 |(with_reducible refine CU (f2 (by with_unfolding_all rfl) (by with_unfolding_all rfl)) ?_)
 | (with_reducible refine aF hQ ?_;exact bk))
    refine fp 2 3 ?_ ?_ (IH (rest,k+1,_) ⟨g2,h2,by dsimp only;rw[hl];omega⟩ (Nat.lt_succ_self _))
    ·(simp only[go_sem,hD,hY,hZ,gA,s9,k1,k2];try exact cz)
    ·(simp only[go_sem,hD,hY,hZ,gA,s9,k1,k2];try exact cz)
   ·have d2:(v.kind==6)=false:=by simp [Rb]
    simp only[e1,d2,↓reduceIte,Bool.false_eq_true]at h2
    have f1:=fun {s:St} {o:Nat}=>@ih v.a7 proc ((ct.length:Int)+1) ((ct.length:Int)+1+(v.jn:Int)) loop (ct++ [⟨v,proc,up,((ct.length:Int)+1+(v.jn:Int)),loop⟩]) g ps lo hi b c xI (by simp;omega) hg hp s o
    have f2:=fun {s:St} {o:Nat}=>@ih v.aX proc ((ct.length:Int)+1) ((ct.length:Int)+1+(v.jn:Int)) loop _ g ps lo hi b c Ih (by rw[gu proc ((ct.length:Int)+1) ((ct.length:Int)+1+(v.jn:Int)) loop (ct++ [⟨v,proc,up,((ct.length:Int)+1+(v.jn:Int)),loop⟩]) v.a7];simp;omega) hg hp s o
    have hl:(Im.rows proc ((ct.length:Int)+1) ((ct.length:Int)+1+(v.jn:Int)) loop (Im.rows proc ((ct.length:Int)+1) ((ct.length:Int)+1+(v.jn:Int)) loop (ct++ [⟨v,proc,up,((ct.length:Int)+1+(v.jn:Int)),loop⟩]) v.a7) v.aX).length=ct.length+v.jn:=by rw[gu,gu];simp;omega
    simp only[iL,List.map_append,List.map_cons,List.map_nil,OE,List.length_append,List.length_cons,List.length_nil]at f1
    repeat' (first
 |simp only[go_sem,hD,hY,hZ,gA,k1,k2,Lv,s9,W9,d1,d2,eR]
 |(with_reducible refine CU (dL _) ?_)
 |(with_reducible refine CU (f1 (by with_unfolding_all rfl) (by with_unfolding_all rfl)) ?_)
 |(with_reducible refine CU (f2 (by with_unfolding_all rfl) (by with_unfolding_all rfl)) ?_)
 | (with_reducible refine aF hQ ?_;exact bk))
    refine fp 2 3 ?_ ?_ (IH (rest,k+1,_) ⟨g2,h2,by dsimp only;rw[hl];omega⟩ (Nat.lt_succ_self _))
    ·(simp only[go_sem,hD,hY,hZ,gA,s9,k1,k2];try exact cz)
    ·(simp only[go_sem,hD,hY,hZ,gA,s9,k1,k2];try exact cz)
  ·have d1:decide (((k+1:Nat):Int)<(l.length:Int))=false:=by simp;omega
   have e1:(rest.length=0)=True:=by simp only[eq_iff_iff,iff_true];omega
   by_cases Rb:v.kind=6
   ·have d2:(v.kind==6)=true:=by simp [Rb]
    simp only[e1,d2,↓reduceIte,Bool.false_eq_true]at h2
    have f1:=fun {s:St} {o:Nat}=>@ih v.a7 proc ((ct.length:Int)+1) ((ct.length:Int)+1) ((ct.length:Int)+1) (ct++ [⟨v,proc,up,next,loop⟩]) g ps lo hi b c xI (by simp;omega) hg hp s o
    have f2:=fun {s:St} {o:Nat}=>@ih v.aX proc ((ct.length:Int)+1) ((ct.length:Int)+1) ((ct.length:Int)+1) _ g ps lo hi b c Ih (by rw[gu proc ((ct.length:Int)+1) ((ct.length:Int)+1) ((ct.length:Int)+1) (ct++ [⟨v,proc,up,next,loop⟩]) v.a7];simp;omega) hg hp s o
    have hl:(Im.rows proc ((ct.length:Int)+1) ((ct.length:Int)+1) ((ct.length:Int)+1) (Im.rows proc ((ct.length:Int)+1) ((ct.length:Int)+1) ((ct.length:Int)+1) (ct++ [⟨v,proc,up,next,loop⟩]) v.a7) v.aX).length=ct.length+v.jn:=by rw[gu,gu];simp;omega
    simp only[iL,List.map_append,List.map_cons,List.map_nil,OE,List.length_append,List.length_cons,List.length_nil]at f1
    repeat' (first
 |simp only[go_sem,hD,hY,hZ,gA,k1,k2,Lv,s9,W9,d1,d2,eR]
 |(with_reducible refine CU (dL _) ?_)
 |(with_reducible refine CU (f1 (by with_unfolding_all rfl) (by with_unfolding_all rfl)) ?_)
 |(with_reducible refine CU (f2 (by with_unfolding_all rfl) (by with_unfolding_all rfl)) ?_)
 | (with_reducible refine aF hQ ?_;exact bk))
    refine fp 2 3 ?_ ?_ (IH (rest,k+1,_) ⟨g2,h2,by dsimp only;rw[hl];omega⟩ (Nat.lt_succ_self _))
    ·(simp only[go_sem,hD,hY,hZ,gA,s9,k1,k2];try exact cz)
    ·(simp only[go_sem,hD,hY,hZ,gA,s9,k1,k2];try exact cz)
   ·have d2:(v.kind==6)=false:=by simp [Rb]
    simp only[e1,d2,↓reduceIte,Bool.false_eq_true]at h2
    have f1:=fun {s:St} {o:Nat}=>@ih v.a7 proc ((ct.length:Int)+1) next loop (ct++ [⟨v,proc,up,next,loop⟩]) g ps lo hi b c xI (by simp;omega) hg hp s o
    have f2:=fun {s:St} {o:Nat}=>@ih v.aX proc ((ct.length:Int)+1) next loop _ g ps lo hi b c Ih (by rw[gu proc ((ct.length:Int)+1) next loop (ct++ [⟨v,proc,up,next,loop⟩]) v.a7];simp;omega) hg hp s o
    have hl:(Im.rows proc ((ct.length:Int)+1) next loop (Im.rows proc ((ct.length:Int)+1) next loop (ct++ [⟨v,proc,up,next,loop⟩]) v.a7) v.aX).length=ct.length+v.jn:=by rw[gu,gu];simp;omega
    simp only[iL,List.map_append,List.map_cons,List.map_nil,OE,List.length_append,List.length_cons,List.length_nil]at f1
    repeat' (first
 |simp only[go_sem,hD,hY,hZ,gA,k1,k2,Lv,s9,W9,d1,d2,eR]
 |(with_reducible refine CU (dL _) ?_)
 |(with_reducible refine CU (f1 (by with_unfolding_all rfl) (by with_unfolding_all rfl)) ?_)
 |(with_reducible refine CU (f2 (by with_unfolding_all rfl) (by with_unfolding_all rfl)) ?_)
 | (with_reducible refine aF hQ ?_;exact bk))
    refine fp 2 3 ?_ ?_ (IH (rest,k+1,_) ⟨g2,h2,by dsimp only;rw[hl];omega⟩ (Nat.lt_succ_self _))
    ·(simp only[go_sem,hD,hY,hZ,gA,s9,k1,k2];try exact cz)
    ·(simp only[go_sem,hD,hY,hZ,gA,s9,k1,k2];try exact cz)
theorem YS : ∀ N,N<1000000000→W8 N:=by
 intro N
 induction N with
 |zero=>exact fun _ l proc up next loop out g ps lo hi b c h=>absurd h (Nat.not_lt_zero _)
 |succ N ih=>
  intro h l proc up next loop out g ps lo hi b c hs hc hg hp s o ho ht
  exact(agw (ih (by omega)) hs hc hg hp (by omega)).agv (by simp[D.bL,D.ok,Tag.ok,qU,D.gU]) hg hp ho ht
def fq (p:Pg):List D:= [.slice .shared 1 (p.globals.map encStr), .slice .shared 5 (p.procs.map cf), .slice .shared 17 (p.aT.L.map dq), .slice .shared 1 (p.aT.lo.map cq), .slice .shared 1 (p.aT.hi.map cq)]
theorem nS (p:Pg):fq p = [.slice .shared 1 (p.globals.map encStr), .slice .shared 5 (p.procs.map cf), .slice .shared 17 (p.aT.L.map dq), .slice .shared 1 (p.aT.lo.map cq), .slice .shared 1 (p.aT.hi.map cq)]:=nd rfl
theorem tV (p:Pg):D.bL 0 0 (fq p)=true:=by simp[fq,D.bL,D.ok,Tag.ok,eU,wg,HG,jt]
theorem Ek (p:Pg):cB p = [.slice .shared 1 (p.globals.map encStr), .slice .shared 5 (p.procs.map cf)]:=nd rfl
theorem agx {p:Pg} (hs:Pc.bc p.procs<1000000000):aG Tryz.prog kI [.agg (cB p)] S0 (.ptr 1 0) ⟨[cB p,iL (.slice .shared 1 (p.globals.map encStr)) (.slice .shared 5 (p.procs.map cf)) p.aT.L p.aT.lo p.aT.hi],[some p.aT.L.length,some p.aT.lo.length,some p.aT.hi.length]⟩:=by
 have hlen:p.procs.length<1000000000:=by have:=Pc.eW p.procs;omega
 obtain⟨R,hR⟩ : ∃ R,R=p.aT:=⟨_,rfl⟩
 have hR':=hR
 unfold Pg.aT at hR'
 unfold S0
 rw[Ek, ← hR]
 refine aG.goK 2 3 (Nat.zero_le _) (Nat.zero_le _) I9 rfl fun B Q hB hQ=>?_
 have⟨hD,hY,hZ,gA⟩:=bX
 repeat' (first
 |simp only[go_sem,hD,hY,hZ,gA,Ek]
 |(with_reducible refine aF hQ ?_;exact bk))
 refine br.C8 1 2 17 rfl rfl ?_
 simp only[go_sem,hD,hY,hZ,gA]
 refine br.C8 1 3 1 rfl rfl ?_
 simp only[go_sem,hD,hY,hZ,gA]
 refine br.C8 1 4 1 rfl rfl ?_
 simp only[go_sem,hD,hY,hZ,gA]
 refine fp 2 3 ?_ ?_ (br.ind (ι:=List Pc×Nat×Sh×Nat×Nat) (fun i=>p.procs.drop i.2.1=i.1∧Sh.go i.2.1 i.2.2.1 i.1=R∧i.2.2.1.L.length+Pc.bc i.1≤Pc.bc p.procs∧i.2.2.1.lo.length=i.2.1∧i.2.2.1.hi.length=i.2.1∧i.2.2.2.1=i.2.2.1.lo.length∧i.2.2.2.2=i.2.2.1.hi.length) (fun i=>i.1.length)
  (fun i=> [(1, .ptr 0 0),(3, .ptr 1 0),(10, .slice .shared 5 (p.procs.map cf)),(11, .int .i64 (p.procs.length:Int)),(12, .int .i64 (i.2.1:Int))]) (fun i=>⟨[[.slice .shared 1 (p.globals.map encStr), .slice .shared 5 (p.procs.map cf)],iL (.slice .shared 1 (p.globals.map encStr)) (.slice .shared 5 (p.procs.map cf)) i.2.2.1.L i.2.2.1.lo i.2.2.1.hi],[some i.2.2.1.L.length,some i.2.2.2.1,some i.2.2.2.2]⟩) ?_ (p.procs,0,⟨[],[],[]⟩,0,0) ⟨rfl,hR'.symm,by simp,rfl,rfl,rfl,rfl⟩)
 ·(simp only[go_sem,hD,hY,hZ,gA,iL];try exact cz)
 ·(simp only[go_sem,hD,hY,hZ,gA,iL];try exact cz)
 rintro⟨rest,k,h,n1,n2⟩ ⟨h1,h2,h3,h4,h5,h6,h7⟩ IH
 dsimp only at h1 h2 h3 h4 h5 h6 h7
 subst h6 h7
 cases rest with
 |nil=>
  have hD:=drop_nil h1
  simp only[Sh.go]at h2
  rw[← h2]at hQ
  repeat' (first
 |simp only[go_sem,hD,hY,hZ,gA,iL]
 |(with_reducible refine aF hQ ?_;exact bk))
 |cons f rest=>
  obtain⟨hY,g2,hD,g4⟩:=drop_cons h1
  have cj:k<4611686018427387904:=by omega
  simp only[Pc.bc,Pc.size]at h3
  simp only[Sh.go]at h2
  have c1:=nE f.body
  have hZ:(h.lo.length+1)*9≤bJ:=by unfold bJ;omega
  have amw:(h.hi.length+1)*9≤bJ:=by unfold bJ;omega
  have Lv:IntKind.wrap .i64 ((h.L.length:Int)+1)=(h.L.length:Int)+1:=dV (by omega) (by omega)
  have hl:(Im.rows (k:Int) 0 (-1) 0 h.L f.body).length=h.L.length+Sm.iU f.body:=gu ..
  have s9:IntKind.wrap .i64 (((Im.rows (k:Int) 0 (-1) 0 h.L f.body).length:Int)+1)=((Im.rows (k:Int) 0 (-1) 0 h.L f.body).length:Int)+1:=dV (by omega) (by omega)
  have hr:=fun {s:St} {o:Nat}=>@YS (Sm.bc f.body+1) (by omega) f.body (k:Int) 0 (-1) 0 h.L (.slice .shared 1 (p.globals.map encStr)) (.slice .shared 5 (p.procs.map cf)) (h.lo++ [(h.L.length:Int)+1]) h.hi (some (h.lo.length+1)) (some h.hi.length) (Nat.lt_succ_self _) (by omega) (by simp[D.ok,Tag.ok,eU]) (by simp[D.ok,Tag.ok,wg]) s o
  simp only[iL,List.map_append,List.map_cons,List.map_nil,cq]at hr
  repeat' (first
 |simp only[go_sem,hD,hY,hZ,gA,Lv,s9,amw,iL]
 |(with_reducible refine CU (hr (by with_unfolding_all rfl) (by with_unfolding_all rfl)) ?_)
 |(with_reducible refine aF hQ ?_;exact bk))
  refine fp 2 3 ?_ ?_ (IH (rest,k+1,⟨Im.rows (k:Int) 0 (-1) 0 h.L f.body,h.lo++ [(h.L.length:Int)+1],h.hi++ [((Im.rows (k:Int) 0 (-1) 0 h.L f.body).length:Int)+1]⟩,_,_) ⟨g2,h2,by dsimp only;rw[hl];omega,by simp[h4],by simp[h5],by simp,by simp⟩ (Nat.lt_succ_self _))
  ·(simp only[go_sem,hD,hY,hZ,gA,iL,aM cj,List.map_append,List.map_cons,List.map_nil,cq];try exact cz)
  ·(simp only[go_sem,hD,hY,hZ,gA,iL,aM cj,List.map_append,List.map_cons,List.map_nil,cq];try exact cz)
theorem BW {p:Pg} (hs:Pc.bc p.procs<1000000000) (s:St):aG Tryz.prog kI [.agg (cB p)] s (.dt (fq p) 0) s:=by
 refine aG.pure ?_ (by simp only[D.bL,D.ok,ki];rfl) (by simp only[D.ok,tV]) s
 have h:=(agx hs).Ak (n:=0) (m:=0) rfl (Nat.le_refl _) (Nat.zero_le _) (Nat.le_refl _)
 simpa[D.gh,D.fg,Tag.fg,QW,Wc,W6,Ra,St.cut,fq,S0]using h
def iW (x:aE) (k:Int):List aE→Int
 | []=> -1
 |s::l=>if x==s then k else iW x (k+1) l
def fj (l:List aE) (x:aE):Bool:=decide (iW x 0 l≥0)
def kO {α:Type} (b:α→Bool) (k:Int):List α→Int
 | []=> -1
 |s::l=>if b s then k else kO b (k+1) l
theorem Lw (x:aE) : ∀ (l:List aE) (k:Int),0≤k→(iW x k l≥0↔x∈l)
 | [],k,h=>by simp[iW]
 | s::l,k,h=>by
  by_cases e:x=s
  ·simp[iW,e];omega
  ·have e':(x==s)=false:=by simp [e]
   simp only[iW,e',Bool.false_eq_true,if_false,List.mem_cons,e,false_or]
   exact Lw x l (k+1) (by omega)
theorem iX (l:List aE) (x:aE):fj l x=true↔x∈l:=by
 simp only[fj,decide_eq_true_eq];exact Lw x l 0 (Int.le_refl 0)
theorem Fy {α:Type} (b:α→Bool) : ∀ (l:List α) (k:Int),0≤k→(kO b k l≥0↔l.any b=true)
 | [],k,h=>by simp[kO]
 | s::l,k,h=>by
  by_cases e:b s=true
  ·simp[kO,e];omega
  ·have e':b s=false:=by simpa using e
   simp only[kO,e',Bool.false_eq_true,if_false,List.any_cons,Bool.or_eq_true,false_or]
   exact Fy b l (k+1) (by omega)
theorem BX {l:List aE} (hl:l.length<4611686018427387904) (x:aE) (s:St):aG Tryz.prog fR [.slice .shared 1 (l.map encStr), .str x] s (.int .i64 (iW x 0 l)) s:=by
 refine aG.pure ?_ (by simp[D.bL,D.ok,Tag.ok,eU]) rfl s
 generalize h:iW x 0 l=p
 unfold S0
 refine aG.go vO rfl fun B Q hB hQ=>?_
 have⟨hD,hY,hZ,gA⟩:=bX
 repeat' (first
 |simp only[go_sem,hD,hY,hZ,gA]
 |(with_reducible first|refine bt fun hc=>?_|refine bu fun hc=>?_|refine bx (fun hc=>?_) fun hc=>?_)<;>(try simp only[hc,bs,↓reduceIte]at h)<;>try simp only[hc]
 |(with_reducible refine aF hQ ?_;exact fX))
 refine fm 0 0 (br.ind (ι:=List aE×Nat) (fun i=>l.drop i.2=i.1∧iW x (i.2:Int) i.1=p) (fun i=>i.1.length)
  (fun i=> [(0, .slice .shared 1 (l.map encStr)),(1, .str x),(7, .int .i64 (l.length:Int)),(8, .int .i64 (i.2:Int))]) (fun i=>⟨[],[]⟩) ?_ (l,0) ⟨rfl,h⟩)
 rintro⟨rest,k⟩ ⟨h1,h⟩ IH
 dsimp only at h1 h
 cases rest with
 |nil=>
  have hD:=drop_nil h1
  simp only[iW]at h
  repeat' (first
 |simp only[go_sem,hD,hY,hZ,gA]
 |(with_reducible first|refine bt fun hc=>?_|refine bu fun hc=>?_|refine bx (fun hc=>?_) fun hc=>?_)<;>(try simp only[hc,bs,↓reduceIte]at h)<;>try simp only[hc]
 |(with_reducible refine aF hQ ?_;exact fX))
 |cons a rest=>
  obtain⟨hY,g2,hD,g4⟩:=drop_cons h1
  have cj:k<4611686018427387904:=by omega
  simp only[iW]at h
  repeat' (first
 |simp only[go_sem,hD,hY,hZ,gA]
 |(with_reducible first|refine bt fun hc=>?_|refine bu fun hc=>?_|refine bx (fun hc=>?_) fun hc=>?_)<;>(try simp only[hc,bs,↓reduceIte]at h)<;>try simp only[hc]
 |(with_reducible refine aF hQ ?_;exact fX))
  refine fp 0 0 ?_ ?_ (IH (rest,k+1) ⟨g2,h⟩ (Nat.lt_succ_self _))
  ·(simp only[go_sem,hD,hY,hZ,gA,aM cj];try exact cz)
  ·(simp only[go_sem,hD,hY,hZ,gA,aM cj];try exact cz)
theorem rl {l:List aE} (hl:l.length<4611686018427387904) (x:aE) (s:St):aG Tryz.prog bZ [.slice .shared 1 (l.map encStr), .str x] s (.bool (fj l x)) s:=by
 refine aG.pure ?_ (by simp[D.bL,D.ok,Tag.ok,eU]) rfl s
 have hi:=fun s=>BX hl x s
 unfold S0
 refine aG.go tT rfl fun B Q hB hQ=>?_
 have⟨hD,hY,hZ,gA⟩:=bX
 repeat' (first
 |simp only[go_sem,hD,hY,hZ,gA,fj]
 |(with_reducible refine CU (hi _) ?_)
 |(with_reducible first|refine bt fun hc=>?_|refine bu fun hc=>?_|refine bx (fun hc=>?_) fun hc=>?_)<;>(try simp only[hc,bs,↓reduceIte]at h)<;>try simp only[hc]
 |(with_reducible refine aF hQ ?_;simp only[aV,aY,bH,bI,go_sem,hD,hY,hZ,gA,fj];try exact cr))
theorem aG.Xa {P:Program} {f:Nat} {d d':D} {r:List D} {s s':St} {x:D} (h:aG P f (d'::r) s x s') (hw:Wk d d'):aG P f (d::r) s x s':=bG.pK (.cons hw (ji.refl r)) h
theorem ju {l:List aE} (hl:l.length<4611686018427387904) (x:aE) (g:Tag) (s:St):aG Tryz.prog bZ [.slice g 1 (l.map encStr), .str x] s (.bool (fj l x)) s:=
 (rl hl x s).Xa (Wk.shared _ _ _)
theorem Jg (x:aE) (z:Nat) (g:Tag) (s:St):aG Tryz.prog bZ [.slice g z [], .str x] s (.bool false) s:=
 (rl (l:= []) (by simp) x s).Xa (Wk.nil _ _ _)
theorem Bb {l:List aE} (hl:l.length<4611686018427387904) {f:Nat} {row:List D} {b:aE→Bool} (uu:D.bL 0 0 row=true) (he:enters Tryz.prog f=true)
 (hb : ∀ x∈l,aG Tryz.prog f ([.str x]++ [.ptr 0 0]) ⟨[row],[]⟩ (.bool (b x)) ⟨[row],[]⟩) :
 aG Tryz.prog kJ [.slice .shared 1 (l.map encStr), .fV f [.ptr 0 0]] ⟨[row],[]⟩ (.int .i64 (kO b 0 l)) ⟨[row],[]⟩:=by
 generalize h:kO b 0 l=p
 have k1 : ∀ n m,D.gh n m row=row:=fun n m=>gQ n m _ uu
 refine aG.go s8 rfl fun B Q hB hQ=>?_
 have⟨hD,hY,hZ,gA⟩:=bX
 repeat' (first
 |simp only[go_sem,hD,hY,hZ,gA,k1]
 |(with_reducible first|refine bt fun hc=>?_|refine bu fun hc=>?_|refine bx (fun hc=>?_) fun hc=>?_)<;>(try simp only[hc,bs,↓reduceIte]at h)<;>try simp only[hc]
 |(with_reducible refine aF hQ ?_;(try cases h);simp only[aV,aY,bH,bI,go_sem,hD,hY,hZ,gA,k1];try exact cr))
 refine fp 1 0 ?_ ?_ (br.ind (ι:=List aE×Nat) (fun i=>l.drop i.2=i.1∧kO b (i.2:Int) i.1=p) (fun i=>i.1.length)
  (fun i=> [(0, .slice .shared 1 (l.map encStr)),(1, .fV f [.ptr 0 0]),(7, .int .i64 (l.length:Int)),(8, .int .i64 (i.2:Int))]) (fun i=>⟨[row],[]⟩) ?_ (l,0) ⟨rfl,h⟩)
 ·(simp only[go_sem,hD,hY,hZ,gA,k1];try exact cz)
 ·(simp only[go_sem,hD,hY,hZ,gA,k1];try exact cz)
 rintro⟨rest,k⟩ ⟨h1,h⟩ IH
 dsimp only at h1 h
 cases rest with
 |nil=>
  have hD:=drop_nil h1
  simp only[kO]at h
  repeat' (first
 |simp only[go_sem,hD,hY,hZ,gA,k1]
 |(with_reducible first|refine bt fun hc=>?_|refine bu fun hc=>?_|refine bx (fun hc=>?_) fun hc=>?_)<;>(try simp only[hc,bs,↓reduceIte]at h)<;>try simp only[hc]
 |(with_reducible refine aF hQ ?_;(try cases h);simp only[aV,aY,bH,bI,go_sem,hD,hY,hZ,gA,k1];try exact cr))
 |cons a rest=>
  obtain⟨hY,g2,hD,g4⟩:=drop_cons h1
  have cj:k<4611686018427387904:=by omega
  have hba:=hb a (List.mem_of_getElem? hY)
  simp only[kO]at h
  repeat' (first
 |simp only[go_sem,hD,hY,hZ,gA,k1]
 |(with_reducible refine CV.use (he) (hba) ?_)
 |(with_reducible first|refine bt fun hc=>?_|refine bu fun hc=>?_|refine bx (fun hc=>?_) fun hc=>?_)<;>(try simp only[hc,bs,↓reduceIte]at h)<;>try simp only[hc]
 |(with_reducible refine aF hQ ?_;(try cases h);simp only[aV,aY,bH,bI,go_sem,hD,hY,hZ,gA,k1];try exact cr))
  refine fp 1 0 ?_ ?_ (IH (rest,k+1) ⟨g2,h⟩ (Nat.lt_succ_self _))
  ·(simp only[go_sem,hD,hY,hZ,gA,k1,aM cj];try exact cz)
  ·(simp only[go_sem,hD,hY,hZ,gA,k1,aM cj];try exact cz)
theorem Bc {P:Program} {g f:Nat} {row:List D} {rows:List (List D)} {z:Nat} {d:D} (h:aG P g [.slice .shared z rows, .fV f [.ptr 0 0]] ⟨[row],[]⟩ d ⟨[row],[]⟩) (uu:D.bL 0 0 row=true) (hw:D.gU 0 0 rows=true) (hd:D.ok 0 0 d=true) {s:St} {o:Nat} (ho:s.ah[o]? = some row) :
 aG P g [.slice .shared z rows, .fV f [.ptr o 0]] s d s:=by
 refine bG.frame [o] [] h (by simp) List.nodup_nil (by simpa using (List.getElem?_eq_some_iff.1 ho).1) (by simp) rfl (fun i o' ds e1 e2=>?_) rfl (by simp) (by simp[D.eQ,D.cJ,Tag.cJ,jc _ _ _ hw])
  (by simp[D.bL,D.ok,Tag.ok,mh (Nat.zero_le 1) (Nat.le_refl 0) _ hw]) ?_
 ·cases i with
  |zero=>simp at e1 e2;subst e1;subst e2;exact⟨by rw[fv _ _ _ uu];exact ho,ij (Nat.zero_le 1) (Nat.le_refl 0) _ uu⟩
  |succ i=>simp at e1
 ·rintro _ _ ⟨rfl,rfl⟩
  refine⟨qm _ _ _ hd, ?_⟩
  have:s.ah.set o row=s.ah:=by
   apply List.ext_getElem?
   intro i
   rw[List.getElem?_set]
   split
   ·rename_i e;subst e;rw [ho];split
    ·rfl
    ·rename_i hh;exact absurd (List.getElem?_eq_some_iff.1 ho).1 hh
   ·rfl
  simp[St.back,kv,fv _ _ _ uu,this]
theorem ya {l:List aE} (hl:l.length<4611686018427387904) {f:Nat} {row:List D} {b:aE→Bool} (uu:D.bL 0 0 row=true) (he:enters Tryz.prog f=true)
 (hb : ∀ x∈l,aG Tryz.prog f ([.str x]++ [.ptr 0 0]) ⟨[row],[]⟩ (.bool (b x)) ⟨[row],[]⟩) :
 aG Tryz.prog fS [.slice .shared 1 (l.map encStr), .fV f [.ptr 0 0]] ⟨[row],[]⟩ (.bool (l.any b)) ⟨[row],[]⟩:=by
 have k1 : ∀ n m,D.gh n m row=row:=fun n m=>gQ n m _ uu
 have hi:=Bb hl uu he hb
 have e:decide (kO b 0 l≥0)=l.any b:=by
  have:=Fy b l 0 (Int.le_refl 0)
  cases hh:l.any b<;>simp_all
 refine aG.go rk rfl fun B Q hB hQ=>?_
 have⟨hD,hY,hZ,gA⟩:=bX
 repeat' (first
 |simp only[go_sem,hD,hY,hZ,gA,k1,e]
 |(with_reducible refine CU (hi) ?_)
 |(with_reducible first|refine bt fun hc=>?_|refine bu fun hc=>?_|refine bx (fun hc=>?_) fun hc=>?_)<;>(try simp only[hc,bs,↓reduceIte]at h)<;>try simp only[hc]
 |(with_reducible refine aF hQ ?_;simp only[aV,aY,bH,bI,go_sem,hD,hY,hZ,gA,k1,e];try exact cr))
theorem yc {l:List aE} (hl:l.length<4611686018427387904) {f:Nat} {row:List D} {b:aE→Bool} (uu:D.bL 0 0 row=true) (he:enters Tryz.prog f=true)
 (hb : ∀ x∈l,aG Tryz.prog f ([.str x]++ [.ptr 0 0]) ⟨[row],[]⟩ (.bool (b x)) ⟨[row],[]⟩) {s:St} {o:Nat} (ho:s.ah[o]? = some row) :
 aG Tryz.prog fS [.slice .shared 1 (l.map encStr), .fV f [.ptr o 0]] s (.bool (l.any b)) s:=
 Bc (ya hl uu he hb) uu (eU l) rfl ho
theorem vt {l:List Pc} (hl:l.length<4611686018427387904) {f:Nat} {row:List D} {b:Pc→Bool} (uu:D.bL 0 0 row=true) (he:enters Tryz.prog f=true)
 (hb : ∀ x∈l,aG Tryz.prog f ([.agg (cf x)]++ [.ptr 0 0]) ⟨[row],[]⟩ (.bool (b x)) ⟨[row],[]⟩) :
 aG Tryz.prog fY [.slice .shared 5 (l.map cf), .fV f [.ptr 0 0]] ⟨[row],[]⟩ (.int .i64 (kO b 0 l)) ⟨[row],[]⟩:=by
 generalize h:kO b 0 l=p
 have k1 : ∀ n m,D.gh n m row=row:=fun n m=>gQ n m _ uu
 refine aG.go rG rfl fun B Q hB hQ=>?_
 have⟨hD,hY,hZ,gA⟩:=bX
 repeat' (first
 |simp only[go_sem,hD,hY,hZ,gA,k1]
 |(with_reducible first|refine bt fun hc=>?_|refine bu fun hc=>?_|refine bx (fun hc=>?_) fun hc=>?_)<;>(try simp only[hc,bs,↓reduceIte]at h)<;>try simp only[hc]
 |(with_reducible refine aF hQ ?_;(try cases h);simp only[aV,aY,bH,bI,go_sem,hD,hY,hZ,gA,k1];try exact cr))
 refine fp 1 0 ?_ ?_ (br.ind (ι:=List Pc×Nat) (fun i=>l.drop i.2=i.1∧kO b (i.2:Int) i.1=p) (fun i=>i.1.length)
  (fun i=> [(0, .slice .shared 5 (l.map cf)),(1, .fV f [.ptr 0 0]),(7, .int .i64 (l.length:Int)),(8, .int .i64 (i.2:Int))]) (fun i=>⟨[row],[]⟩) ?_ (l,0) ⟨rfl,h⟩)
 ·(simp only[go_sem,hD,hY,hZ,gA,k1];try exact cz)
 ·(simp only[go_sem,hD,hY,hZ,gA,k1];try exact cz)
 rintro⟨rest,k⟩ ⟨h1,h⟩ IH
 dsimp only at h1 h
 cases rest with
 |nil=>
  have hD:=drop_nil h1
  simp only[kO]at h
  repeat' (first
 |simp only[go_sem,hD,hY,hZ,gA,k1]
 |(with_reducible first|refine bt fun hc=>?_|refine bu fun hc=>?_|refine bx (fun hc=>?_) fun hc=>?_)<;>(try simp only[hc,bs,↓reduceIte]at h)<;>try simp only[hc]
 |(with_reducible refine aF hQ ?_;(try cases h);simp only[aV,aY,bH,bI,go_sem,hD,hY,hZ,gA,k1];try exact cr))
 |cons a rest=>
  obtain⟨hY,g2,hD,g4⟩:=drop_cons h1
  have cj:k<4611686018427387904:=by omega
  have hba:=hb a (List.mem_of_getElem? hY)
  simp only[kO]at h
  repeat' (first
 |simp only[go_sem,hD,hY,hZ,gA,k1]
 |(with_reducible refine CV.use (he) (hba) ?_)
 |(with_reducible first|refine bt fun hc=>?_|refine bu fun hc=>?_|refine bx (fun hc=>?_) fun hc=>?_)<;>(try simp only[hc,bs,↓reduceIte]at h)<;>try simp only[hc]
 |(with_reducible refine aF hQ ?_;(try cases h);simp only[aV,aY,bH,bI,go_sem,hD,hY,hZ,gA,k1];try exact cr))
  refine fp 1 0 ?_ ?_ (IH (rest,k+1) ⟨g2,h⟩ (Nat.lt_succ_self _))
  ·(simp only[go_sem,hD,hY,hZ,gA,k1,aM cj];try exact cz)
  ·(simp only[go_sem,hD,hY,hZ,gA,k1,aM cj];try exact cz)
theorem Ae {l:List Pc} (hl:l.length<4611686018427387904) {f:Nat} {row:List D} {b:Pc→Bool} (uu:D.bL 0 0 row=true) (he:enters Tryz.prog f=true)
 (hb : ∀ x∈l,aG Tryz.prog f ([.agg (cf x)]++ [.ptr 0 0]) ⟨[row],[]⟩ (.bool (b x)) ⟨[row],[]⟩) :
 aG Tryz.prog gG [.slice .shared 5 (l.map cf), .fV f [.ptr 0 0]] ⟨[row],[]⟩ (.bool (l.any b)) ⟨[row],[]⟩:=by
 have k1 : ∀ n m,D.gh n m row=row:=fun n m=>gQ n m _ uu
 have hi:=vt hl uu he hb
 have e:decide (kO b 0 l≥0)=l.any b:=by
  have:=Fy b l 0 (Int.le_refl 0)
  cases hh:l.any b<;>simp_all
 refine aG.go qp rfl fun B Q hB hQ=>?_
 have⟨hD,hY,hZ,gA⟩:=bX
 repeat' (first
 |simp only[go_sem,hD,hY,hZ,gA,k1,e]
 |(with_reducible refine CU (hi) ?_)
 |(with_reducible first|refine bt fun hc=>?_|refine bu fun hc=>?_|refine bx (fun hc=>?_) fun hc=>?_)<;>(try simp only[hc,bs,↓reduceIte]at h)<;>try simp only[hc]
 |(with_reducible refine aF hQ ?_;simp only[aV,aY,bH,bI,go_sem,hD,hY,hZ,gA,k1,e];try exact cr))
mutual
def Sm.pre:Sm→List Sm
 |⟨id,kind,labels,name,pc,x,has,args,a7,aX⟩=>⟨id,kind,labels,name,pc,x,has,args,a7,aX⟩::(Sm.cU a7++Sm.cU aX)
def Sm.cU:List Sm→List Sm
 | []=> []
 |s::l=>s.pre++Sm.cU l
end
def Pg.pre (p:Pg):List Sm:=(p.procs.map fun f=>Sm.cU f.body).flatten
theorem Sm.p6 (s:Sm):s.pre=s::(Sm.cU s.a7++Sm.cU s.aX):=by cases s;simp only[Sm.pre]
mutual
theorem YT (proc up next loop:Int) (out:List Im) : ∀ s:Sm,∃ e:List Im,Im.one proc up next loop out s=out++e∧e.map Im.s=s.pre
 |⟨id,kind,labels,name,pc,x,has,args,a7,aX⟩=>by
  simp only[Im.one,Sm.pre]
  obtain⟨e1,h1,k1⟩:=yY proc ((out.length:Int)+1) (if kind==6 then(out.length:Int)+1 else next) (if kind==6 then(out.length:Int)+1 else loop) (out++ [⟨⟨id,kind,labels,name,pc,x,has,args,a7,aX⟩,proc,up,next,loop⟩]) a7
  obtain⟨e2,h2,k2⟩:=yY proc ((out.length:Int)+1) (if kind==6 then(out.length:Int)+1 else next) (if kind==6 then(out.length:Int)+1 else loop) (Im.rows proc ((out.length:Int)+1) (if kind==6 then(out.length:Int)+1 else next) (if kind==6 then(out.length:Int)+1 else loop) (out++ [⟨⟨id,kind,labels,name,pc,x,has,args,a7,aX⟩,proc,up,next,loop⟩]) a7) aX
  refine⟨⟨⟨id,kind,labels,name,pc,x,has,args,a7,aX⟩,proc,up,next,loop⟩::(e1++e2), ?_, ?_⟩
  ·rw[h2,h1];simp
  ·simp[k1,k2]
theorem yY (proc up next loop:Int) (out:List Im) : ∀ l:List Sm,∃ e:List Im,Im.rows proc up next loop out l=out++e∧e.map Im.s=Sm.cU l
 | []=>⟨[],by simp[Im.rows],rfl⟩
 |s::l=>by
  simp only[Im.rows,Sm.cU]
  obtain⟨e1,h1,k1⟩:=YT proc up (if l.length=0 then next else(out.length:Int)+1+(s.jn:Int)) loop out s
  obtain⟨e2,h2,k2⟩:=yY proc up next loop (Im.one proc up (if l.length=0 then next else(out.length:Int)+1+(s.jn:Int)) loop out s) l
  refine⟨e1++e2, ?_,by simp[k1,k2]⟩
  rw[h2,h1];simp
end
theorem Rc : ∀ (l:List Pc) (n:Nat) (h:Sh),h.lo.length=n→h.hi.length=n→
 ∃ e lo hi,Sh.go n h l = ⟨h.L++e,h.lo++lo,h.hi++hi⟩∧e.map Im.s=(l.map fun f=>Sm.cU f.body).flatten∧lo.length=l.length∧hi.length=l.length∧
  ∀ (i:Nat) (f:Pc),l[i]? = some f→∃ a b e' La:List Im,lo[i]? = some (((h.L++a).length:Int)+1)∧hi[i]? = some (((h.L++a++b).length:Int)+1)∧b.map Im.s=Sm.cU f.body∧e=a++b++e'
 | [],n,h,hl,hh=>⟨[],[],[],by simp[Sh.go],rfl,rfl,rfl,fun i f h=>by simp at h⟩
 | f::l,n,h,hl,hh=>by
  simp only[Sh.go]
  obtain⟨e1,h1,k1⟩:=yY (n:Int) 0 (-1) 0 h.L f.body
  obtain⟨e2,lo,hi,h2,k2,h3,h4,h5⟩:=Rc l (n+1) ⟨Im.rows (n:Int) 0 (-1) 0 h.L f.body,h.lo++ [(h.L.length:Int)+1],h.hi++ [((Im.rows (n:Int) 0 (-1) 0 h.L f.body).length:Int)+1]⟩ (by simp[hl]) (by simp[hh])
  refine⟨e1++e2,((h.L.length:Int)+1)::lo,(((Im.rows (n:Int) 0 (-1) 0 h.L f.body).length:Int)+1)::hi, ?_,by simp[k1,k2],by simp[h3],by simp[h4],fun i g gN=>?_⟩
  ·rw[h2,h1];simp
  ·cases i with
   |zero=>
    simp only[List.getElem?_cons_zero,Option.some.injEq]at gN
    subst gN
    exact⟨[],e1,e2,[],by simp,by rw[h1];simp,k1,by simp⟩
   |succ i=>
    simp only[List.getElem?_cons_succ]at gN
    obtain⟨a,b,e',La,g1,g2,g3,g4⟩:=h5 i g gN
    refine⟨e1++a,b,e',La, ?_, ?_,g3,by rw[g4];simp⟩
    ·rw[List.getElem?_cons_succ,g1,h1];simp
    ·rw[List.getElem?_cons_succ,g2,h1];simp
theorem kX (p:Pg):p.aT.L.map Im.s=p.pre∧∀ (i:Nat) (f:Pc),p.procs[i]? = some f→∃ a b e:List Im,p.aT.lo[i]? = some ((a.length:Int)+1)∧p.aT.hi[i]? = some (((a++b).length:Int)+1)∧b.map Im.s=Sm.cU f.body∧p.aT.L=a++b++e:=by
 obtain⟨e,lo,hi,h1,h2,h3,h4,h5⟩:=Rc p.procs 0 ⟨[],[],[]⟩ rfl rfl
 unfold Pg.aT
 rw[h1]
 refine⟨by simpa[Pg.pre]using h2,fun i f hf=>?_⟩
 obtain⟨a,b,e',_,g1,g2,g3,g4⟩:=h5 i f hf
 exact⟨a,b,e',by simpa using g1,by simpa using g2,g3,by simpa using g4⟩
def Pg.at (p:Pg) (name:aE):Int:=kO (fun f:Pc=>f.name==name) 0 p.procs
theorem YU (name:aE) (f:Pc):aG Tryz.prog lB ([.agg (cf f)]++ [.ptr 0 0]) ⟨[[.str name]],[]⟩ (.bool (f.name==name)) ⟨[[.str name]],[]⟩:=by
 show aG Tryz.prog lB [.agg (cf f), .ptr 0 0] _ _ _
 refine aG.go xS rfl fun B Q hB hQ=>?_
 have⟨hD,hY,hZ,gA⟩:=bX
 repeat' (first
 |simp only[go_sem,hD,hY,hZ,gA]
 |(with_reducible refine aF hQ ?_;exact bk))
theorem El {p:Pg} (hs:p.procs.length<4611686018427387904) (name:aE) (s:St):aG Tryz.prog ik [.dt (fq p) 0, .str name] s (.int .i64 (p.at name)) s:=by
 refine aG.pure ?_ (by simp[D.bL,D.ok,tV]) rfl s
 have hi:=fun {s:St} {o:Nat} (ho:s.ah[o]? = some [.str name])=>Bc (vt (l:=p.procs) (f:=lB) (row:= [.str name]) (b:=fun f:Pc=>f.name==name) hs rfl (by with_unfolding_all rfl) (fun x _=>YU name x)) rfl (wg _) rfl ho
 have gN:=fun {s:St} {o:Nat} (ho:s.ah[o]? = some [.str name])=>(show aG Tryz.prog fY [.slice .shared 5 (p.procs.map cf), .fV 76 [.ptr o 0]] s (.int .i64 (p.at name)) s from hi ho)
 unfold S0
 rw[nS]
 refine aG.go Ac rfl fun B Q hB hQ=>?_
 have⟨hD,hY,hZ,gA⟩:=bX
 repeat' (first
 |simp only[go_sem,hD,hY,hZ,gA]
 |(with_reducible refine CU (gN (by with_unfolding_all rfl)) ?_)
 |(with_reducible refine aF hQ ?_;exact bk))
theorem Re : ∀ (l:List Pc) (n:Nat) (h:Sh),(Sh.go n h l).L.length≤h.L.length+Pc.bc l
 | [],n,h=>by simp[Sh.go]
 |f::l,n,h=>by
  simp only[Sh.go]
  refine Nat.le_trans (Re l _ _) ?_
  have:=gu (n:Int) 0 (-1) 0 h.L f.body
  have:=nE f.body
  simp only[Pc.bc,Pc.size];omega
theorem o7 (p:Pg):p.aT.L.length≤Pc.bc p.procs:=by have:=Re p.procs 0 ⟨[],[],[]⟩;simpa[Pg.aT]using this
theorem ack {p:Pg} {i:Nat} (hs:Pc.bc p.procs<1000000000) {a b e:List Im} (h1:p.aT.lo[i]? = some ((a.length:Int)+1)) (h2:p.aT.hi[i]? = some (((a++b).length:Int)+1)) (h4:p.aT.L=a++b++e) (s:St) :
 aG Tryz.prog gF [.dt (fq p) 0, .int .i64 (i:Int)] s (.slice .shared 17 (b.map dq)) s:=by
 refine aG.pure ?_ (by simp[D.bL,D.ok,tV]) (by simp[D.ok,Tag.ok,HG]) s
 have hL:p.aT.L.length<1000000000:=Nat.lt_of_le_of_lt (o7 p) hs
 have l1:(i:Int)<(p.aT.lo.length:Int):=by have:=(List.getElem?_eq_some_iff.1 h1).1;omega
 have l2:(i:Int)<(p.aT.hi.length:Int):=by have:=(List.getElem?_eq_some_iff.1 h2).1;omega
 have Xb:a.length+b.length≤p.aT.L.length:=by rw[h4];simp
 have w1:IntKind.wrap .i64 ((a.length:Int)+1 - 1)=(a.length:Int):=by rw[show(a.length:Int)+1 - 1=(a.length:Int) by omega];exact dV (by omega) (by omega)
 have w2:IntKind.wrap .i64 (((a.length+b.length:Nat):Int)+1 - 1)=((a.length+b.length:Nat):Int):=by rw[show((a.length+b.length:Nat):Int)+1 - 1=((a.length+b.length:Nat):Int) by omega];exact dV (by omega) (by omega)
 have c1:((a.length:Int)≤((a.length+b.length:Nat):Int))=True:=by simp only[eq_iff_iff,iff_true];omega
 have c2:(((a.length+b.length:Nat):Int)≤(p.aT.L.length:Int))=True:=by simp only[eq_iff_iff,iff_true];omega
 have hb:List.drop a.length (List.take (a.length+b.length) (List.map dq p.aT.L))=List.map dq b:=by rw[h4];simp[List.map_append,List.take_append,List.drop_append]
 unfold S0
 rw[nS]
 refine aG.go Ck rfl fun B Q hB hQ=>?_
 have⟨hD,hY,hZ,gA⟩:=bX
 repeat' (first
 |simp only[go_sem,hD,hY,hZ,gA,h1,h2,List.length_append,w1,w2,c1,c2,or_true,true_and,and_self,ite_self,Int.toNat_natCast,hb]
 |(with_reducible first|refine bt fun hc=>?_|refine bu fun hc=>?_|refine bx (fun hc=>?_) fun hc=>?_)<;>(try simp only[hc,bs,↓reduceIte]at h)<;>try simp only[hc]
 |(with_reducible refine aF hQ ?_;(try cases h);simp only[aV,aY,bH,bI,go_sem,hD,hY,hZ,gA,h1,h2,List.length_append,w1,w2,c1,c2,or_true,true_and,and_self,ite_self,Int.toNat_natCast,hb];try exact cr)
 |(cases h;done))
theorem Uy {p:Pg} {i:Nat} {f:Pc} (hf:p.procs[i]? = some f) (hs:Pc.bc p.procs<1000000000) : ∃ it:List Im,it.map Im.s=Sm.cU f.body∧∀ s,aG Tryz.prog gF [.dt (fq p) 0, .int .i64 (i:Int)] s (.slice .shared 17 (it.map dq)) s:=by
 obtain⟨a,b,e,h1,h2,h3,h4⟩:=(kX p).2 i f hf
 exact⟨b,h3,ack hs h1 h2 h4⟩
theorem Gk {r:aE} : BV r=true↔o6 r=r.length:=by
 induction r with
 |nil=>simp[BV,o6]
 |cons c r ih=>
  simp only[BV,o6]
  cases h1:Ba c<;>cases h2:Ei c<;>simp[ih]
theorem Bd (t:aE) (hl:t.length<4611686018427387904) (s:St):aG Tryz.prog nP [.str t] s (.bool (isName t)) s:=by
 refine aG.pure ?_ rfl rfl s
 have hr:=fun s=>agq (pos:=0) hl s
 simp only[List.drop_zero,Nat.zero_add]at hr
 unfold S0
 cases t with
 |nil=>
  have z:decide (((0:Nat):Int)<1)=true:=rfl
  have z':decide ((0:Int)<1)=true:=rfl
  have e:isName [] = false:=rfl
  rw[e]
  refine aG.go mZ rfl fun B Q hB hQ=>?_
  have⟨hD,hY,hZ,gA⟩:=bX
  repeat' (first
 |simp only[go_sem,hD,hY,hZ,gA,z,z']
 |(with_reducible refine aF hQ ?_;exact bk))
 | cons c r=>
  have l1:decide (((r.length+1:Nat):Int)<1)=false:=by simp;omega
  generalize h:isName (c::r)=p
  simp only[isName]at h
  cases hL:Ba c
  ·simp only [hL,Bool.not_false,Bool.or_true, ↓reduceIte]at h
   subst h
   by_cases c8:decide (((r.length+1:Nat):Int) > 8)=true
   ·refine aG.go mZ rfl fun B Q hB hQ=> ?_
    have⟨hD,hY,hZ,gA⟩:=bX
    repeat' (first
 |simp only[go_sem,hD,hY,hZ,gA,l1,c8]
 | (with_reducible refine aF hQ ?_;exact bk))
   ·have c8:decide (((r.length+1:Nat):Int) > 8)=false:=by simpa using c8
    refine aG.go mZ rfl fun B Q hB hQ=>?_
    have⟨hD,hY,hZ,gA⟩:=bX
    repeat' (first
 |simp only[go_sem,hD,hY,hZ,gA,l1,c8,hL]
 |(with_reducible refine CU (se _ _) ?_)
 | (with_reducible refine aF hQ ?_;exact bk))
  ·simp only [hL,Bool.not_true,Bool.or_false]at h
   by_cases c8:decide (((r.length+1:Nat):Int) > 8)=true
   ·simp only [c8, ↓reduceIte]at h
    subst h
    refine aG.go mZ rfl fun B Q hB hQ=>?_
    have⟨hD,hY,hZ,gA⟩:=bX
    repeat' (first
 |simp only[go_sem,hD,hY,hZ,gA,l1,c8]
 | (with_reducible refine aF hQ ?_;exact bk))
   ·have c8:decide (((r.length+1:Nat):Int) > 8)=false:=by simpa using c8
    simp only[c8,Bool.false_eq_true,↓reduceIte]at h
    have dB:o6 (c::r)=o6 r+1:=by simp[o6,hL]
    cases hn:BV r
    ·simp only [hn,Bool.false_eq_true, ↓reduceIte]at h
     have:o6 r≠r.length:=fun e=>by rw[Gk.2 e]at hn;cases hn
     have e:(((o6 (c::r):Nat):Int)==((r.length+1:Nat):Int))=false:=by rw[dB];simp;omega
     subst h
     refine aG.go mZ rfl fun B Q hB hQ=>?_
     have⟨hD,hY,hZ,gA⟩:=bX
     repeat' (first
 |simp only[go_sem,hD,hY,hZ,gA,l1,c8,hL,e]
 |(with_reducible refine CU (se _ _) ?_)
 |(with_reducible refine CU (hr _) ?_)
 | (with_reducible refine aF hQ ?_;exact bk))
    ·simp only [hn, ↓reduceIte]at h
     have:=Gk.1 hn
     have e:(((o6 (c::r):Nat):Int)==((r.length+1:Nat):Int))=true:=by rw[dB];simp;omega
     subst h
     refine aG.go mZ rfl fun B Q hB hQ=>?_
     have⟨hD,hY,hZ,gA⟩:=bX
     repeat' (first
 |simp only[go_sem,hD,hY,hZ,gA,l1,c8,hL,e]
 |(with_reducible refine CU (se _ _) ?_)
 |(with_reducible refine CU (hr _) ?_)
 |(with_reducible refine CU (acd _ _) ?_)
 |(with_reducible refine aF hQ ?_;exact bk))
theorem Lx (op:Int) (s:St):aG Tryz.prog xb [.int .i64 op] s (.int .i64 (oc op)) s:=by
 refine aG.pure ?_ rfl rfl s
 unfold S0
 generalize h:oc op=p
 unfold oc at h
 refine aG.go Hk rfl fun B Q hB hQ=>?_
 have⟨hD,hY,hZ,gA⟩:=bX
 repeat' (first
 |simp only[go_sem,hD,hY,hZ,gA]
 |(with_reducible first|refine bt fun hc=>?_|refine bu fun hc=>?_|refine bx (fun hc=>?_) fun hc=>?_)<;>(try simp only[hc,bs,↓reduceIte]at h)<;>try simp only[hc]
 |(with_reducible refine aF hQ ?_;exact fX))
theorem yZ {l:List aE} (hl:l.length<4611686018427387904) (hs : ∀ t∈l,t.length<4611686018427387904) (s:St):aG Tryz.prog mW [.slice .shared 1 (l.map encStr)] s (.bool (eY l)) s:=by
 refine aG.pure ?_ (by simp[D.bL,D.ok,eU,Tag.ok]) rfl s
 unfold S0
 generalize h:eY l=p
 refine aG.go Fo rfl fun B Q hB hQ=>?_
 have⟨hD,hY,hZ,gA⟩:=bX
 repeat' (first
 |simp only[go_sem,hD,hY,hZ,gA]
 |(with_reducible first|refine bt fun hc=>?_|refine bu fun hc=>?_|refine bx (fun hc=>?_) fun hc=>?_)<;>(try simp only[hc,bs,↓reduceIte]at h)<;>try simp only[hc]
 |(with_reducible refine aF hQ ?_;exact fX))
 refine fm 0 0 (br.ind (ι:=List aE×Nat) (fun i=>l.drop i.2=i.1∧eY i.1=p) (fun i=>i.1.length)
  (fun i=> [(5, .slice .shared 1 (l.map encStr)),(6, .int .i64 (l.length:Int)),(7, .int .i64 (i.2:Int))]) (fun i=>⟨[],[]⟩) ?_ (l,0) ⟨rfl,h⟩)
 rintro⟨rest,k⟩ ⟨h1,h⟩ IH
 dsimp only at h1 h
 cases rest with
 |nil=>
  have hD:=drop_nil h1
  simp only[eY]at h
  repeat' (first
 |simp only[go_sem,hD,hY,hZ,gA]
 |(with_reducible first|refine bt fun hc=>?_|refine bu fun hc=>?_|refine bx (fun hc=>?_) fun hc=>?_)<;>(try simp only[hc,bs,↓reduceIte]at h)<;>try simp only[hc]
 |(with_reducible refine aF hQ ?_;exact fX))
 |cons t rest=>
  obtain⟨hY,g2,hD,g4⟩:=drop_cons h1
  have hZ:k<4611686018427387904:=by omega
  have hn:=Bd t (hs t (List.mem_of_getElem? hY))
  simp only[eY]at h
  repeat' (first
 |simp only[go_sem,hD,hY,hZ,gA]
 |(with_reducible refine CU (hn _) ?_)
 |(with_reducible first|refine bt fun hc=>?_|refine bu fun hc=>?_|refine bx (fun hc=>?_) fun hc=>?_)<;>(try simp only[hc,bs,↓reduceIte]at h)<;>try simp only[hc]
 |(with_reducible refine aF hQ ?_;exact fX))
  refine fm 0 0 (IH (rest,k+1) ⟨g2,h⟩ (Nat.lt_succ_self _))
mutual
def Ex.dp (left:Int):Ex→Bool
 |⟨op,n,name,kids⟩=>
  if decide (left<1) ||(kids.length:Int) != oc op then false
  else if op==1 then decide (n≥0) && name == []
  else if op==2 then n==0 && isName name
  else if n != 0 || !(name == [])then false
  else Ex.Be (left - 1) kids
def Ex.Be (left:Int):List Ex→Bool
 | []=>true
 |x::l=>if !(Ex.dp left x)then false else Ex.Be left l
end
theorem YV : ∀ (m:Nat) (x:Ex),x.size≤m→x.size<4611686018427387904→x.texts→∀ left:Int,0≤left→left≤100→∀ s:St,aG Tryz.prog pX [.agg (bY x), .int .i64 left] s (.bool (x.dp left)) s:=by
 intro m
 induction m with
 |zero=>rintro⟨op,v,name,kids⟩ h;simp only[Ex.size]at h;omega
 | succ m ih=>
  rintro⟨op,v,name,kids⟩ h hx ht left h0 Uz s
  refine aG.pure ?_ (by simp[D.bL,D.ok,lJ]) rfl s
  have hlen:kids.length<4611686018427387904:=by simp only[Ex.size]at hx;have:=Ex.eW kids;omega
  have hn:=Bd name ht.1
  generalize hp:Ex.dp left ⟨op,v,name,kids⟩=p
  simp only[Ex.dp]at hp
  unfold S0
  by_cases vu:left<1
  ·have d1:decide (left<1)=true:=by simpa using vu
   simp only[d1,Bool.true_or,↓reduceIte]at hp
   subst hp
   refine aG.go zX rfl fun B Q hB hQ=>?_
   have⟨hD,hY,hZ,gA⟩:=bX
   repeat' (first
 |simp only[go_sem,hD,hY,hZ,gA,d1]
 |(with_reducible refine CU (Lx _ _) ?_)
 |(with_reducible refine CU (hn _) ?_)
 | (with_reducible refine aF hQ ?_;exact bk))
  ·have d1:decide (left<1)=false:=by simpa using vu
   have w1:IntKind.wrap .i64 (left - 1)=left - 1:=dV (by omega) (by omega)
   have hk : ∀ y∈kids,∀ s,aG Tryz.prog pX [.agg (bY y), .int .i64 (left - 1)] s (.bool (y.dp (left - 1))) s:=fun y hy s=>
    ih y (by simp only[Ex.size]at h;have:=Ex.dr hy;omega) (by simp only[Ex.size]at hx;have:=Ex.dr hy;omega) (Ex.Q5 ht hy) (left - 1) (by omega) (by omega) s
   simp only[d1,Bool.false_or]at hp
   have h:=hp
   clear hp
   refine aG.go zX rfl fun B Q hB hQ=>?_
   have⟨hD,hY,hZ,gA⟩:=bX
   repeat' (first
 |simp only[go_sem,hD,hY,hZ,gA,d1]
 |(with_reducible refine CU (Lx _ _) ?_)
 |(with_reducible refine CU (hn _) ?_)
 |(with_reducible first|refine bt fun hc=>?_|refine bu fun hc=>?_|refine bx (fun hc=>?_) fun hc=>?_)<;>(try simp only[hc,bs,↓reduceIte]at h)<;>try simp only[hc]
 | (with_reducible refine aF hQ ?_;(try cases h);simp only [aV,aY,bH,bI,go_sem,hD,hY,hZ,gA,d1];repeat' (first | exact Ok.out | with_reducible refine iQ ?_ ?_ | (simp;done))))
   all_goals
    refine fm 1 0 (br.ind (ι:=List Ex×Nat) (fun i=>kids.drop i.2=i.1∧Ex.Be (left - 1) i.1=p) (fun i=>i.1.length)
     (fun i=> [(1, .int .i64 left),(49, .slice .shared 4 (kids.map bY)),(50, .int .i64 (kids.length:Int)),(51, .int .i64 (i.2:Int))]) (fun i=>⟨[bY ⟨op,v,name,kids⟩],[]⟩) ?_ (kids,0) ⟨rfl,h⟩)
    rintro⟨rest,k⟩ ⟨h1,h⟩ IH
    dsimp only at h1 h
    cases rest with
    |nil=>
     have hD:=drop_nil h1
     simp only[Ex.Be]at h
     repeat' (first
 |simp only[go_sem,hD,hY,hZ,gA]
 |(with_reducible first|refine bt fun hc=>?_|refine bu fun hc=>?_|refine bx (fun hc=>?_) fun hc=>?_)<;>(try simp only[hc,bs,↓reduceIte]at h)<;>try simp only[hc]
 |(with_reducible refine aF hQ ?_;exact fX)
 | (cases h;done))
    |cons y rest=>
     obtain⟨hY,g2,hD,g4⟩:=drop_cons h1
     have hy:=hk y (List.mem_of_getElem? hY)
     have hZ:k<4611686018427387904:=by omega
     simp only[Ex.Be]at h
     repeat' (first
 |simp only[go_sem,hD,hY,hZ,gA,w1]
 |(with_reducible refine CU (hy _) ?_)
 |(with_reducible first|refine bt fun hc=>?_|refine bu fun hc=>?_|refine bx (fun hc=>?_) fun hc=>?_)<;>(try simp only[hc,bs,↓reduceIte]at h)<;>try simp only[hc]
 |(with_reducible refine aF hQ ?_;(try cases h);simp only[aV,aY,bH,bI,go_sem,hD,hY,hZ,gA,w1];try exact cr))
     refine fm 1 0 (IH (rest,k+1) ⟨g2,h⟩ (Nat.lt_succ_self _))
theorem za {x:Ex} (hx:x.size<4611686018427387904) (ht:x.texts) (s:St):aG Tryz.prog mV [.agg (bY x)] s (.bool (x.dp 20)) s:=by
 refine aG.pure ?_ (by simp[D.bL,D.ok,lJ]) rfl s
 have hd:=fun s=>YV _ x (Nat.le_refl _) hx ht 20 (by omega) (by omega) s
 unfold S0
 refine aG.go Dh rfl fun B Q hB hQ=>?_
 have⟨hD,hY,hZ,gA⟩:=bX
 repeat' (first
 |simp only[go_sem,hD,hY,hZ,gA]
 |(with_reducible refine CU (hd _) ?_)
 |(with_reducible refine aF hQ ?_;exact bk))
theorem YW (x:Ex) (s:St):aG Tryz.prog xe [.agg (bY x)] s (.bool x.none) s:=by
 refine aG.pure ?_ (by simp[D.bL,D.ok,lJ]) rfl s
 unfold S0
 generalize h:Ex.none x=p
 unfold Ex.none at h
 refine aG.go Hn rfl fun B Q hB hQ=>?_
 have⟨hD,hY,hZ,gA⟩:=bX
 repeat' (first
 |simp only[go_sem,hD,hY,hZ,gA]
 |(with_reducible first|refine bt fun hc=>?_|refine bu fun hc=>?_|refine bx (fun hc=>?_) fun hc=>?_)<;>(try simp only[hc,bs,↓reduceIte]at h)<;>try simp only[hc]
 |(with_reducible refine aF hQ ?_;exact fX))
def tc (t:aE) (is:Bool):Bool:=(is && isName t) ||(!is && t == [])
theorem Dk (t:aE) (is:Bool) (hl:t.length<4611686018427387904) (s:St):aG Tryz.prog oX [.str t, .bool is] s (.bool (tc t is)) s:=by
 refine aG.pure ?_ rfl rfl s
 have hn:=Bd t hl
 unfold S0
 generalize h:tc t is=p
 unfold tc at h
 refine aG.go Fv rfl fun B Q hB hQ=>?_
 have⟨hD,hY,hZ,gA⟩:=bX
 repeat' (first
 |simp only[go_sem,hD,hY,hZ,gA]
 |(with_reducible refine CU (hn _) ?_)
 |(with_reducible first|refine bt fun hc=>?_|refine bu fun hc=>?_|refine bx (fun hc=>?_) fun hc=>?_)<;>(try simp only[hc,bs,↓reduceIte]at h)<;>try simp only[hc]
 |(with_reducible refine aF hQ ?_;exact fX))
def vv (x:Ex) (is:Bool):Bool:=(is && x.dp 20) ||(!is && x.none)
theorem Ly {x:Ex} (is:Bool) (hx:x.size<4611686018427387904) (ht:x.texts) (s:St):aG Tryz.prog q7 [.agg (bY x), .bool is] s (.bool (vv x is)) s:=by
 refine aG.pure ?_ (by simp[D.bL,D.ok,lJ]) rfl s
 have hm:=za hx ht
 unfold S0
 generalize h:vv x is=p
 unfold vv at h
 refine aG.go Fw rfl fun B Q hB hQ=>?_
 have⟨hD,hY,hZ,gA⟩:=bX
 repeat' (first
 |simp only[go_sem,hD,hY,hZ,gA]
 |(with_reducible refine CU (hm _) ?_)
 |(with_reducible refine CU (YW _ _) ?_)
 |(with_reducible first|refine bt fun hc=>?_|refine bu fun hc=>?_|refine bx (fun hc=>?_) fun hc=>?_)<;>(try simp only[hc,bs,↓reduceIte]at h)<;>try simp only[hc]
 |(with_reducible refine aF hQ ?_;exact fX))
def py:List Ar→Bool
 | []=>true
 |a::l=>if !(tc a.name a.ref) || !(vv a.x !a.ref)then false else py l
theorem UA {l:List Ar} (hl:l.length<4611686018427387904) (hs : ∀ a∈l,a.x.size<4611686018427387904∧a.x.texts∧a.name.length<4611686018427387904) (s:St) :
 aG Tryz.prog tO [.slice .shared 6 (l.map ek)] s (.bool (py l)) s:=by
 refine aG.pure ?_ (by simp[D.bL,D.ok,HE,Tag.ok]) rfl s
 unfold S0
 generalize h:py l=p
 refine aG.go Eh rfl fun B Q hB hQ=>?_
 have⟨hD,hY,hZ,gA⟩:=bX
 repeat' (first
 |simp only[go_sem,hD,hY,hZ,gA]
 |(with_reducible first|refine bt fun hc=>?_|refine bu fun hc=>?_|refine bx (fun hc=>?_) fun hc=>?_)<;>(try simp only[hc,bs,↓reduceIte]at h)<;>try simp only[hc]
 |(with_reducible refine aF hQ ?_;exact fX))
 refine fm 0 0 (br.ind (ι:=List Ar×Nat) (fun i=>l.drop i.2=i.1∧py i.1=p) (fun i=>i.1.length)
  (fun i=> [(5, .slice .shared 6 (l.map ek)),(6, .int .i64 (l.length:Int)),(7, .int .i64 (i.2:Int))]) (fun i=>⟨[],[]⟩) ?_ (l,0) ⟨rfl,h⟩)
 rintro⟨rest,k⟩ ⟨h1,h⟩ IH
 dsimp only at h1 h
 cases rest with
 |nil=>
  have hD:=drop_nil h1
  simp only[py]at h
  repeat' (first
 |simp only[go_sem,hD,hY,hZ,gA]
 |(with_reducible first|refine bt fun hc=>?_|refine bu fun hc=>?_|refine bx (fun hc=>?_) fun hc=>?_)<;>(try simp only[hc,bs,↓reduceIte]at h)<;>try simp only[hc]
 |(with_reducible refine aF hQ ?_;exact fX))
 |cons a rest=>
  obtain⟨hY,g2,hD,g4⟩:=drop_cons h1
  have hZ:k<4611686018427387904:=by omega
  obtain⟨a1,a2,a3⟩:=hs a (List.mem_of_getElem? hY)
  have hn:=fun b s=>Dk a.name b a3 s
  have hw:=fun b s=>Ly b a1 a2 s
  simp only[py]at h
  repeat' (first
 |simp only[go_sem,hD,hY,hZ,gA]
 |(with_reducible refine CU (hn _ _) ?_)
 |(with_reducible refine CU (hw _ _) ?_)
 |(with_reducible first|refine bt fun hc=>?_|refine bu fun hc=>?_|refine bx (fun hc=>?_) fun hc=>?_)<;>(try simp only[hc,bs,↓reduceIte]at h)<;>try simp only[hc]
 |(with_reducible refine aF hQ ?_;exact fX))
  refine fm 0 0 (IH (rest,k+1) ⟨g2,h⟩ (Nat.lt_succ_self _))
def Sm.flags (s:Sm):Option (Bool×Bool×Bool×Bool×Bool×Bool):=
 if s.kind==1 then some (true,false,true,s.has,false,false)
 else if s.kind==2 ||s.kind==10 then some (true,false,false,s.has,false,false)
 else if s.kind==3 then some (false,false,true,s.has,false,false)
 else if s.kind==4 then some (!(s.name == []),true,false,s.has,false,false)
 else if s.kind==5 then some (false,false,true,s.has,true,true)
 else if s.kind==6 then some (false,false,true,s.has,true,false)
 else if s.kind==9 then some (false,false,s.has,false,false,false)
 else if s.kind==7 ||s.kind==8 then some (false,false,false,s.has,false,false)
 else none
def Sm.HH (s:Sm) (nm pr x:Bool):Bool:=if !(tc s.name nm) || !(tc s.proc pr) || !(vv s.x x)then false else py s.args
def Sm.HI (s:Sm) (f:Bool×Bool×Bool×Bool×Bool×Bool):Bool:=
 if f.2.2.2.1 ||(!f.2.2.2.2.1 && decide ((s.a7.length:Int) > 0)) ||(!f.2.2.2.2.2 && decide ((s.aX.length:Int) > 0)) ||(!(s.kind==4) && decide ((s.args.length:Int) > 0))then false
 else s.HH f.1 f.2.1 f.2.2.1
def Sm.fields (s:Sm):Bool:=match s.flags with
 |none=>false
 |some f=>s.HI f
section
variable {v:Sm} {B:fP} {Q:Exit→Tm→St→Prop} {p:Bool}
theorem UB {nm pr x:Bool} (hf:v.tU) (hB:B.s = ⟨[],[]⟩) (hQ:pL 0 0 [(2,none)] (.bool p) ⟨[],[]⟩=Q) (h:v.HH nm pr x=p) :
 Sem Tryz.prog B 93 QZF Q [(1, .ptr 0 0),(3, .bool nm),(4, .bool pr),(5, .bool x)] ⟨[bm v],[]⟩:=by
 have h1:=fun b s=>Dk v.name b hf.name s
 have h2:=fun b s=>Dk v.proc b hf.proc s
 have h3:=fun b s=>Ly b hf.x hf.xt s
 have h4:=fun s=>UA hf.amu hf.arg s
 unfold Sm.HH at h
 have⟨hD,hY,hZ,gA⟩:=bX
 refine iA ?_
 repeat' (first
 |simp only[go_sem,hD,hY,hZ,gA]
 |(with_reducible refine CU (h1 _ _) ?_)
 |(with_reducible refine CU (h2 _ _) ?_)
 |(with_reducible refine CU (h3 _ _) ?_)
 |(with_reducible refine CU (h4 _) ?_)
 |(with_reducible first|refine bt fun hc=>?_|refine bu fun hc=>?_|refine bx (fun hc=>?_) fun hc=>?_)<;>(try simp only[hc,bs,↓reduceIte]at h)<;>try simp only[hc]
 |(with_reducible refine aF hQ ?_;exact fX))
theorem UC {nm pr x has th ot ar:Bool} (hf:v.tU) (hB:B.s = ⟨[],[]⟩) (hQ:pL 0 0 [(2,none)] (.bool p) ⟨[],[]⟩=Q) (e:(v.kind==4)=ar) (h:v.HI (nm,pr,x,has,th,ot)=p) :
 Sem Tryz.prog B 93 QZG Q [(1, .ptr 0 0),(3, .bool nm),(4, .bool pr),(5, .bool x),(6, .bool has),(7, .bool th),(8, .bool ot),(9, .bool ar)] ⟨[bm v],[]⟩:=by
 simp only[Sm.HI,e]at h
 have⟨hD,hY,hZ,gA⟩:=bX
 refine Sem.mU ?_
 repeat' (first
 |simp only[go_sem,hD,hY,hZ,gA]
 |(with_reducible first|refine bt fun hc=>?_|refine bu fun hc=>?_|refine bx (fun hc=>?_) fun hc=>?_)<;>(try simp only[hc,bs,↓reduceIte]at h)<;>try simp only[hc]
 |(with_reducible refine aF hQ ?_;(try cases h);simp only[aV,aY,bH,bI,go_sem,hD,hY,hZ,gA];repeat' (first|exact Ok.out|with_reducible refine iQ ?_ ?_|(simp;done))))
 all_goals
  refine Sem.re _ _ 1 0 (by rw[hB];exact CD rfl) (by rw[hB];exact CD rfl) ?_ ?_ (UB hf hB hQ h)
  ·(simp only[go_sem,hD,hY,hZ,gA];repeat' (first|exact Ok.out|with_reducible refine iQ ?_ ?_))
  ·(simp only[go_sem,hD,hY,hZ,gA];repeat' (first|exact Ok.out|with_reducible refine iQ ?_ ?_))
theorem UD {ar:Bool} (hf:v.tU) (hB:B.s = ⟨[],[]⟩) (hQ:pL 0 0 [(2,none)] (.bool p) ⟨[],[]⟩=Q) (e:(v.kind==4)=ar) (h:v.fields=p) :
 Sem Tryz.prog B 93 QZH Q [(1, .ptr 0 0),(3, .bool false),(4, .bool false),(5, .bool false),(6, .bool v.has),(7, .bool false),(8, .bool false),(9, .bool ar)] ⟨[bm v],[]⟩:=by
 simp only[Sm.fields,Sm.flags]at h
 have⟨hD,hY,hZ,gA⟩:=bX
 refine Sem.mU ?_
 repeat' (first
 |simp only[go_sem,hD,hY,hZ,gA]
 |(with_reducible first|refine bt fun hc=>?_|refine bu fun hc=>?_|refine bx (fun hc=>?_) fun hc=>?_)<;>(try simp only[hc,bs,↓reduceIte]at h)<;>try simp only[hc]
 |(with_reducible refine aF hQ ?_;(try cases h);simp only[aV,aY,bH,bI,go_sem,hD,hY,hZ,gA];repeat' (first|exact Ok.out|with_reducible refine iQ ?_ ?_|(simp;done))))
 all_goals
  refine Sem.re _ _ 1 0 (by rw[hB];exact CD rfl) (by rw[hB];exact CD rfl) ?_ ?_ (UC hf hB hQ e h)
  ·(simp only[go_sem,hD,hY,hZ,gA];repeat' (first|exact Ok.out|with_reducible refine iQ ?_ ?_))
  ·(simp only[go_sem,hD,hY,hZ,gA];repeat' (first|exact Ok.out|with_reducible refine iQ ?_ ?_))
end
theorem UE {v:Sm} (hf:v.tU) (s:St):aG Tryz.prog tM [.agg (bm v)] s (.bool v.fields) s:=by
 refine aG.pure ?_ (by simp[D.bL,D.ok,qT]) rfl s
 unfold S0
 refine aG.goS Ee rfl fun B Q hB hQ=>?_
 have⟨hD,hY,hZ,gA⟩:=bX
 refine Sem.seq (b:=QZJ) (iA ?_)
 repeat' (first
 |simp only[go_sem,hD,hY,hZ,gA]
 |(with_reducible refine aF hQ ?_;exact bk))
 refine Sem.seq (b:=QZI) (iA ?_)
 repeat' (first
 |simp only[go_sem,hD,hY,hZ,gA]
 |(with_reducible refine aF hQ ?_;exact bk))
 refine Sem.seq (b:=QZH) (iA ?_)
 repeat' (first
 |simp only[go_sem,hD,hY,hZ,gA]
 |(with_reducible refine aF hQ ?_;exact bk))
 refine Sem.re _ _ 1 0 (by rw[hB];exact CD rfl) (by rw[hB];exact CD rfl) ?_ ?_ (UD hf hB hQ rfl rfl)
 ·(simp only[go_sem,hD,hY,hZ,gA];repeat' (first|exact Ok.out|with_reducible refine iQ ?_ ?_))
 ·(simp only[go_sem,hD,hY,hZ,gA];repeat' (first|exact Ok.out|with_reducible refine iQ ?_ ?_))
end Go.Abs
namespace Go.Abs
set_option maxRecDepth 8000
open Go.Proofs
def jK (i:It):List D:= [.int .i64 i.s.id, .int .i64 i.s.kind, .slice .shared 1 (i.s.labels.map encStr), .str i.s.name, .str i.s.proc,
 .int .i64 i.s.x.op, .int .i64 i.s.x.n, .str i.s.x.name, .slice .shared 4 (i.s.x.kids.map bY), .bool i.s.has, .slice .shared 6 (i.s.args.map ek), .slice .shared 13 (i.s.a7.map bm), .slice .shared 13 (i.s.aX.map bm), .int .i64 i.deep, .int .i64 i.dg, .bool i.aX]
theorem acn (i:It):D.bL 0 0 (jK i)=true:=by simp[jK,D.bL,D.ok,Tag.ok,eU,Wb,HE,qU]
theorem agy (n m:Nat) (l:List It):D.kn n m (l.map jK)=l.map jK:=lO acn n m l
theorem agz (n m:Nat) (i:It):D.gh n m (jK i)=jK i:=gQ n m _ (acn i)
theorem agA (x:It):(jK x).length=16:=nd rfl
theorem aco (x:It):List.take 13 (jK x)=bm x.s:=by simp only[jK,eR];rfl
theorem UF (x:It):(jK x)[0]? = some (.int .i64 x.s.id):=nd rfl
theorem Rf (x:It):(jK x)[13]? = some (.int .i64 x.deep):=nd rfl
attribute [go_sem] agy agz agA aco UF Rf
abbrev ate (N:Nat):Prop:=∀ (l:List Sm) (deep dg:Int) (aX:Bool) (out:List It),Sm.bc l<N→0≤deep→deep≤13→out.length≤201→∀ {s:St} {t:Nat},s.au[t]? = some (some out.length)→
 aG Tryz.prog KS [.slice .shared 13 (l.map bm), .int .i64 deep, .int .i64 dg, .bool aX, .slice (.tok t) 16 (out.map jK)] s (.slice (.tok t) 16 ((fK deep dg aX out l).map jK)) ⟨s.ah,s.au.set t (some (fK deep dg aX out l).length)⟩
end Go.Abs
namespace Go.Abs
set_option maxRecDepth 8000
open Go.Proofs
structure Pg.tU (p:Pg):Prop where
 sz:p.size<4611686018427387000
 tW : ∀ t∈p.globals,t.length<4611686018427387904
 nR : ∀ f∈p.procs,f.name.length<4611686018427387904∧(∀ t∈f.vars,t.length<4611686018427387904)∧(∀ t∈f.fin,t.length<4611686018427387904)∧∀ a∈f.params,a.name.length<4611686018427387904
 items : ∀ i∈p.all,i.s.tU
def gate (nest:Int) (len n:Nat) (r:Bool×Nat):Bool×Nat:=if decide (nest > 12) && decide ((len:Int) > 0)then(false,n)else r
mutual
def Sm.pN (nest:Int) (n:Nat):Sm→Bool×Nat
 |⟨id,kind,labels,name,proc,x,has,args,a7,aX⟩=>
  if decide (((n+1:Nat):Int) > 200) ||id != ((n+1:Nat):Int) || !(eY labels) || !(Sm.fields ⟨id,kind,labels,name,proc,x,has,args,a7,aX⟩)then(false,n+1)
  else if !(gate (nest+1) a7.length (n+1) (Sm.fb (nest+1) (n+1) a7)).1 then(false,(gate (nest+1) a7.length (n+1) (Sm.fb (nest+1) (n+1) a7)).2)
  else gate (nest+1) aX.length (gate (nest+1) a7.length (n+1) (Sm.fb (nest+1) (n+1) a7)).2 (Sm.fb (nest+1) (gate (nest+1) a7.length (n+1) (Sm.fb (nest+1) (n+1) a7)).2 aX)
def Sm.fb (nest:Int) (n:Nat):List Sm→Bool×Nat
 | []=>(true,n)
 |s::l=>if !(Sm.pN nest n s).1 then(false,(Sm.pN nest n s).2)else Sm.fb nest (Sm.pN nest n s).2 l
end
def Sm.gi (nest:Int) (n:Nat) (l:List Sm):Bool×Nat:=gate nest l.length n (Sm.fb nest n l)
theorem Fz (nest:Int) (n:Nat) (s:Sm):Sm.pN nest n s =
 if decide (((n+1:Nat):Int) > 200) ||s.id != ((n+1:Nat):Int) || !(eY s.labels) || !(s.fields)then(false,n+1)
 else if !(Sm.gi (nest+1) (n+1) s.a7).1 then(false,(Sm.gi (nest+1) (n+1) s.a7).2)
 else Sm.gi (nest+1) (Sm.gi (nest+1) (n+1) s.a7).2 s.aX:=by
 cases s;simp only[Sm.pN,Sm.gi];rfl
mutual
def Sm.wv:Sm→Prop
 |⟨id,kind,labels,name,proc,x,has,args,a7,aX⟩=>Sm.tU ⟨id,kind,labels,name,proc,x,has,args,a7,aX⟩∧Sm.km a7∧Sm.km aX
def Sm.km:List Sm→Prop
 | []=>True
 |s::l=>s.wv∧Sm.km l
end
theorem Dl (s:Sm):s.wv↔s.tU∧Sm.km s.a7∧Sm.km s.aX:=by cases s;simp only[Sm.wv]
theorem En {s:Sm} : ∀ {l:List Sm},Sm.km l→s∈l→s.wv
 |y::l,h,m=>by
  simp only[Sm.km]at h
  rcases List.mem_cons.1 m with rfl|m
  ·exact h.1
  ·exact En h.2 m
mutual
theorem YX (nest:Int) (n:Nat) : ∀ s:Sm,n≤201→(Sm.pN nest n s).2≤202∧((Sm.pN nest n s).1=true→(Sm.pN nest n s).2≤200)
 | ⟨id,kind,labels,name,proc,x,has,args,a7,aX⟩,hn=>by
  simp only[Sm.pN]
  split
  ·exact⟨by dsimp only;omega,fun h=>by cases h⟩
  rename_i hc
  simp only[Bool.or_eq_true,decide_eq_true_eq,not_or]at hc
  have zZ:n+1≤200:=by omega
  have g1 : ∀ (nest:Int) (l:List Sm) (m:Nat),m≤200→(Sm.fb nest m l).2≤202∧((Sm.fb nest m l).1=true→(Sm.fb nest m l).2≤200)→
   (gate nest l.length m (Sm.fb nest m l)).2≤202∧((gate nest l.length m (Sm.fb nest m l)).1=true→(gate nest l.length m (Sm.fb nest m l)).2≤200):=by
   intro nest l m hm h
   unfold gate
   split
   ·exact⟨by dsimp only;omega,fun h=>by cases h⟩
   ·exact h
  have h1:=g1 (nest+1) a7 (n+1) zZ (BY (nest+1) (n+1) a7 zZ)
  split
  ·exact⟨h1.1,fun h=>by cases h⟩
  rename_i H2
  have h2:=h1.2 (by simpa using H2)
  exact g1 (nest+1) aX _ h2 (BY (nest+1) _ aX h2)
theorem BY (nest:Int) (n:Nat) : ∀ l:List Sm,n≤200→(Sm.fb nest n l).2≤202∧((Sm.fb nest n l).1=true→(Sm.fb nest n l).2≤200)
 | [],hn=>by simp only[Sm.fb];exact⟨by omega,fun _=>hn⟩
 |s::l,hn=>by
  simp only[Sm.fb]
  have h1:=YX nest n s (by omega)
  split
  ·exact⟨h1.1,fun h=>by cases h⟩
  rename_i hc
  exact BY nest _ l (h1.2 (by simpa using hc))
end
theorem FA {nest:Int} {n:Nat} {l:List Sm} (hn:n≤200):(Sm.gi nest n l).2≤202∧((Sm.gi nest n l).1=true→(Sm.gi nest n l).2≤200):=by
 unfold Sm.gi gate
 split
 ·exact⟨by dsimp only;omega,fun h=>by cases h⟩
 ·exact BY nest n l hn
theorem YY : ∀ (m:Nat) (l:List Sm),Sm.bc l≤m→Sm.bc l<4611686018427387000→Sm.km l→∀ (nest:Int) (n:Nat),0≤nest→nest≤13→n≤200→
 aG Tryz.prog kj [.ptr 0 0, .slice .shared 13 (l.map bm), .int .i64 nest] ⟨[[.int .i64 n]],[]⟩ (.bool (Sm.gi nest n l).1) ⟨[[.int .i64 (Sm.gi nest n l).2]],[]⟩:=by
 intro m
 induction m with
 | zero=>
  intro l h hs hf nest n h0 h13 hn
  cases l with
  |nil=>
   have d1:decide ((0:Int) > 0)=false:=rfl
   have e:Sm.gi nest n [] = (true,n):=by simp[Sm.gi,gate,Sm.fb]
   have z:decide ((0:Int)<0)=false:=rfl
   rw[e]
   refine aG.go ri rfl fun B Q hB hQ=>?_
   have⟨hD,hY,hZ,gA⟩:=bX
   repeat' (first
 |simp only[go_sem,hD,hY,hZ,gA,d1,z]
 |(with_reducible refine br.kH ?_)
 |(with_reducible first|refine bt fun hc=>?_|refine bu fun hc=>?_|refine bx (fun hc=>?_) fun hc=>?_)<;>(try simp only[hc,bs,↓reduceIte]at h)<;>try simp only[hc]
 |(with_reducible refine aF hQ ?_;exact bk))
  |cons s l=>simp only[Sm.bc]at h;omega
 |succ m ih=>
  intro l h hs hf nest n h0 h13 hn
  generalize hR:Sm.gi nest n l=R
  have hlen:=Sm.eW l
  unfold Sm.gi gate at hR
  have h:=hR
  refine aG.go ri rfl fun B Q hB hQ=>?_
  have⟨hD,hY,hZ,gA⟩:=bX
  repeat' (first
 |simp only[go_sem,hD,hY,hZ,gA]
 |(with_reducible first|refine bt fun hc=>?_|refine bu fun hc=>?_|refine bx (fun hc=>?_) fun hc=>?_)<;>(try simp only[hc,bs,↓reduceIte]at h)<;>try simp only[hc]
 | (with_reducible refine aF hQ ?_;(try cases h);simp only [aV,aY,bH,bI,go_sem,hD,hY,hZ,gA];repeat' (first | exact Ok.out | with_reducible refine iQ ?_ ?_ | (simp;done))))
  all_goals
   have agB:l≠ []→nest≤12:=by
    intro eA
    have:l.length≠0:=by simpa using eA
    simp_all<;>omega
   refine fm 1 0 (br.ind (ι:=List Sm×Nat×Nat) (fun i=>l.drop i.2.1=i.1∧Sm.fb nest i.2.2 i.1=R∧i.2.2≤200) (fun i=>i.1.length)
    (fun i=> [(0, .ptr 0 0),(2, .int .i64 nest),(16, .slice .shared 13 (l.map bm)),(17, .int .i64 (l.length:Int)),(18, .int .i64 (i.2.1:Int))]) (fun i=>⟨[[.int .i64 (i.2.2:Int)]],[]⟩) ?_ (l,0,n) ⟨rfl,h,hn⟩)
   rintro⟨rest,k,j⟩ ⟨h1,h,hj⟩ IH
   dsimp only at h1 h hj
   cases rest with
   |nil=>
    have hD:=drop_nil h1
    simp only[Sm.fb]at h
    repeat' (first
 |simp only[go_sem,hD,hY,hZ,gA]
 |(with_reducible first|refine bt fun hc=>?_|refine bu fun hc=>?_|refine bx (fun hc=>?_) fun hc=>?_)<;>(try simp only[hc,bs,↓reduceIte]at h)<;>try simp only[hc]
 | (with_reducible refine aF hQ ?_;exact fX))
   | cons s rest=>
    obtain⟨hY,g2,hD,g4⟩:=drop_cons h1
    have hZ:k<4611686018427387904:=by omega
    have gp:=List.mem_of_getElem? hY
    have dL:=Sm.dr gp
    have auN:=agB (by rintro rfl;simp at gp)
    obtain⟨DV,hft,hfe⟩:=(Dl s).1 (En hf gp)
    have SU:Sm.bc s.a7<s.size∧Sm.bc s.aX<s.size:=by cases s;simp only[Sm.size];omega
    have w1:IntKind.wrap .i64 ((j:Int)+1)=((j+1:Nat):Int):=by rw[dV]<;>omega
    have w2:IntKind.wrap .i64 (nest+1)=nest+1:=dV (by omega) (by omega)
    have c1:=fun s=>yZ DV.amt DV.W5 s
    have c2:=fun s=>UE DV s
    simp only[Sm.fb,Fz]at h
    by_cases Rg:j+1≤200
    ·have r1:=FA (nest:=nest+1) (l:=s.a7) Rg
     have c3:=fun s' ho=>(ih s.a7 (by omega) (by omega) hft (nest+1) (j+1) (by omega) (by omega) Rg).S1 (s:=s') (o:=0) (by simp[D.bL,D.ok,qU,Tag.ok]) rfl rfl rfl ho
     by_cases wh:(Sm.gi (nest+1) (j+1) s.a7).1=true
     ·have c4:=fun s' ho=>(ih s.aX (by omega) (by omega) hfe (nest+1) _ (by omega) (by omega) (r1.2 wh)).S1 (s:=s') (o:=0) (by simp [D.bL,D.ok,qU,Tag.ok]) rfl rfl rfl ho
      have r2:=FA (nest:=nest+1) (l:=s.aX) (r1.2 wh)
      simp only[wh]at c3
      simp only[wh,Bool.not_true,Bool.false_eq_true,↓reduceIte]at h
      repeat' (first
 |simp only[go_sem,hD,hY,hZ,gA,w1,w2,wh]
 |(with_reducible refine CU (c1 _) ?_)
 |(with_reducible refine CU (c2 _) ?_)
 |(with_reducible refine CU (c3 _ rfl) ?_)
 |(with_reducible refine CU (c4 _ rfl) ?_)
 |(with_reducible first|refine bt fun hc=>?_|refine bu fun hc=>?_|refine bx (fun hc=>?_) fun hc=>?_)<;>(try simp only[hc,bs,↓reduceIte]at h)<;>try simp only[hc]
 |(with_reducible refine aF hQ ?_;(try cases h);simp only[aV,aY,bH,bI,go_sem,hD,hY,hZ,gA,w1,w2,wh];try exact cr))
      refine fm 1 0 (IH (rest,k+1,(Sm.gi (nest+1) (Sm.gi (nest+1) (j+1) s.a7).2 s.aX).2) ⟨g2,h,r2.2 (by assumption)⟩ (Nat.lt_succ_self _))
     ·have wh:(Sm.gi (nest+1) (j+1) s.a7).1=false:=by simpa using wh
      simp only[wh]at c3
      simp only[wh,Bool.not_false,↓reduceIte]at h
      repeat' (first
 |simp only[go_sem,hD,hY,hZ,gA,w1,w2,wh]
 |(with_reducible refine CU (c1 _) ?_)
 |(with_reducible refine CU (c2 _) ?_)
 |(with_reducible refine CU (c3 _ rfl) ?_)
 |(with_reducible first|refine bt fun hc=>?_|refine bu fun hc=>?_|refine bx (fun hc=>?_) fun hc=>?_)<;>(try simp only[hc,bs,↓reduceIte]at h)<;>try simp only[hc]
 | (with_reducible refine aF hQ ?_;(try cases h);simp only [aV,aY,bH,bI,go_sem,hD,hY,hZ,gA,w1,w2,wh];try exact cr))
    ·have d1:decide (((j+1:Nat):Int) > 200)=true:=by simp;omega
     simp only[d1,Bool.true_or,Bool.not_false,↓reduceIte]at h
     repeat' (first
 |simp only[go_sem,hD,hY,hZ,gA,w1,w2,d1]
 |(with_reducible refine CU (c1 _) ?_)
 |(with_reducible refine CU (c2 _) ?_)
 |(with_reducible first|refine bt fun hc=>?_|refine bu fun hc=>?_|refine bx (fun hc=>?_) fun hc=>?_)<;>(try simp only[hc,bs,↓reduceIte]at h)<;>try simp only[hc]
 |(with_reducible refine aF hQ ?_;(try cases h);simp only[aV,aY,bH,bI,go_sem,hD,hY,hZ,gA,w1,w2,d1];try exact cr))
def Pc.fb (n:Nat):List Pc→Bool
 | []=>true
 |f::l=>
  if decide ((f.params.length:Int) > 8) ||decide ((f.vars.length:Int) > 16) || !(isName f.name) || !(eY f.vars) || !(eY f.fin)then false
  else if !(Pm.fI f.params)then false
  else if !(Sm.gi 1 n f.body).1 then false
  else Pc.fb (Sm.gi 1 n f.body).2 l
def Pg.FB (p:Pg):Bool:=
 if decide ((p.globals.length:Int) > 16) ||decide ((p.procs.length:Int) > 16) || !(eY p.globals)then false
 else Pc.fb 0 p.procs
structure Pg.HJ (p:Pg):Prop where
 sz:p.size<4611686018427387000
 tW : ∀ t∈p.globals,t.length<4611686018427387904
 nR : ∀ f∈p.procs,f.name.length<4611686018427387904∧(∀ t∈f.vars,t.length<4611686018427387904)∧(∀ t∈f.fin,t.length<4611686018427387904)∧∀ a∈f.params,a.name.length<4611686018427387904
 body : ∀ f∈p.procs,Sm.km f.body
theorem Jh {p:Pg} (hf:p.HJ) (s:St):aG Tryz.prog qX [.agg (cB p)] s (.bool p.FB) s:=by
 refine aG.pure ?_ (by simp only[D.bL,D.ok,ki];rfl) rfl s
 obtain⟨dL,rm,acp,BO⟩:=hf
 have rn:Pc.bc p.procs<4611686018427387000:=by simp only[Pg.size]at dL;omega
 have agC:p.globals.length<4611686018427387904:=by simp only[Pg.size]at dL;omega
 have auC:p.procs.length<4611686018427387904:=by have:=Pc.eW p.procs;omega
 have hg:=fun s=>yZ agC rm s
 unfold S0
 generalize h:p.FB=R
 unfold Pg.FB at h
 refine aG.go I8 rfl fun B Q hB hQ=>?_
 have⟨hD,hY,hZ,gA⟩:=bX
 repeat' (first
 |simp only[go_sem,hD,hY,hZ,gA]
 |(with_reducible refine CU (hg _) ?_)
 |(with_reducible first|refine bt fun hc=>?_|refine bu fun hc=>?_|refine bx (fun hc=>?_) fun hc=>?_)<;>(try simp only[hc,bs,↓reduceIte]at h)<;>try simp only[hc]
 |(with_reducible refine aF hQ ?_;exact fX))
 refine fm 2 0 (br.ind (ι:=List Pc×Nat×Nat) (fun i=>p.procs.drop i.2.1=i.1∧Pc.fb i.2.2 i.1=R∧i.2.2≤200) (fun i=>i.1.length)
  (fun i=> [(1, .ptr 0 0),(3, .ptr 1 0),(27, .slice .shared 5 (p.procs.map cf)),(28, .int .i64 (p.procs.length:Int)),(29, .int .i64 (i.2.1:Int))]) (fun i=>⟨[cB p,[.int .i64 (i.2.2:Int)]],[]⟩) ?_ (p.procs,0,0) ⟨rfl,h,Nat.zero_le _⟩)
 rintro⟨rest,k,n⟩ ⟨h1,h,hn⟩ IH
 dsimp only at h1 h hn
 cases rest with
 |nil=>
  have hD:=drop_nil h1
  simp only[Pc.fb]at h
  repeat' (first
 |simp only[go_sem,hD,hY,hZ,gA]
 |(with_reducible first|refine bt fun hc=>?_|refine bu fun hc=>?_|refine bx (fun hc=>?_) fun hc=>?_)<;>(try simp only[hc,bs,↓reduceIte]at h)<;>try simp only[hc]
 |(with_reducible refine aF hQ ?_;exact fX))
 |cons f rest=>
  obtain⟨hY,g2,hD,g4⟩:=drop_cons h1
  have cj:k<4611686018427387904:=by omega
  have gp:=List.mem_of_getElem? hY
  have z6:=Pc.dr gp
  simp only[Pc.size]at z6
  obtain⟨z7,hfv,hff,hfp⟩:=acp f gp
  have hnm:=Bd f.name z7
  have hv:=fun s=>yZ (by omega) hfv s
  have he:=fun s=>yZ (by omega) hff s
  have hb:=fun s' o ho=>(YY _ f.body (Nat.le_refl _) (by omega) (BO f gp) 1 n (by omega) (by omega) hn).S1 (s:=s') (o:=o) (by simp[D.bL,D.ok,qU,Tag.ok]) rfl rfl rfl ho
  have hle:=FA (nest:=1) (l:=f.body) hn
  simp only[Pc.fb]at h
  repeat' (first
 |simp only[go_sem,hD,hY,hZ,gA]
 |(with_reducible refine CU (hnm _) ?_)
 |(with_reducible refine CU (hv _) ?_)
 |(with_reducible refine CU (he _) ?_)
 |(with_reducible first|refine bt fun hc=>?_|refine bu fun hc=>?_|refine bx (fun hc=>?_) fun hc=>?_)<;>(try simp only[hc,bs,↓reduceIte]at h)<;>try simp only[hc]
 |(with_reducible refine aF hQ ?_;exact fX)
 | (cases h;done))
  refine fm 3 0 (br.ind (ι:=List Pm×Nat) (fun i=>f.params.drop i.2=i.1∧(if !(Pm.fI i.1)then false else if !(Sm.gi 1 n f.body).1 then false else Pc.fb (Sm.gi 1 n f.body).2 rest)=R) (fun i=>i.1.length)
   (fun i=> [(1, .ptr 0 0),(3, .ptr 1 0),(5, .ptr 2 0),(27, .slice .shared 5 (p.procs.map cf)),(28, .int .i64 (p.procs.length:Int)),(29, .int .i64 (k:Int)),(62, .slice .shared 2 (f.params.map iB)),(63, .int .i64 (f.params.length:Int)),(64, .int .i64 (i.2:Int))]) (fun i=>⟨[cB p,[.int .i64 (n:Int)],cf f],[]⟩) ?_ (f.params,0) ⟨rfl,h⟩)
  rintro⟨OF,j⟩ ⟨j1,h⟩ Eo
  dsimp only at j1 h
  cases OF with
  |nil=>
   have hD:=drop_nil j1
   simp only[Pm.fI,Bool.not_true,Bool.false_eq_true,↓reduceIte]at h
   repeat' (first
 |simp only[go_sem,hD,hY,hZ,gA]
 |(with_reducible refine CU (hb _ _ rfl) ?_)
 |(with_reducible first|refine bt fun hc=>?_|refine bu fun hc=>?_|refine bx (fun hc=>?_) fun hc=>?_)<;>(try simp only[hc,bs,↓reduceIte]at h)<;>try simp only[hc]
 |(with_reducible refine aF hQ ?_;exact fX)
 | (cases h;done))
   refine fp 2 0 ?_ ?_ (IH (rest,k+1,(Sm.gi 1 n f.body).2) ⟨g2,h,hle.2 (by assumption)⟩ (Nat.lt_succ_self _))
   ·(simp only[go_sem,hD,hY,hZ,gA,aM cj];try exact cz)
   ·(simp only[go_sem,hD,hY,hZ,gA,aM cj];try exact cz)
  |cons a OF=>
   obtain⟨hY,b2,hD,b4⟩:=drop_cons j1
   have Rg:j<4611686018427387904:=by omega
   have ha:=Bd a.name (hfp a (List.mem_of_getElem? hY))
   simp only[Pm.fI]at h
   repeat' (first
 |simp only[go_sem,hD,hY,hZ,gA]
 |(with_reducible refine CU (ha _) ?_)
 |(with_reducible first|refine bt fun hc=>?_|refine bu fun hc=>?_|refine bx (fun hc=>?_) fun hc=>?_)<;>(try simp only[hc,bs,↓reduceIte]at h)<;>try simp only[hc]
 |(with_reducible refine aF hQ ?_;exact fX)
 | (cases h;done))
   refine fp 3 0 ?_ ?_ (Eo (OF,j+1) ⟨b2,h⟩ (Nat.lt_succ_self _))
   ·(simp only[go_sem,hD,hY,hZ,gA,aM Rg];try exact cz)
   ·(simp only[go_sem,hD,hY,hZ,gA,aM Rg];try exact cz)
theorem zb {s:aE} (h:isName s=true):s.length≤8:=by
 cases s with
 |nil=>simp
 | cons c r=>
  simp only[isName]at h
  split at h
  ·cases h
  ·rename_i hc
   simp only[Bool.or_eq_true,decide_eq_true_eq,not_or]at hc
   simp only[List.length_cons];omega
theorem o8 {t:aE} : ∀ {l:List aE},eY l=true→t∈l→isName t=true
 | s::l,h,m=>by
  simp only[eY]at h
  cases hs:isName s
  ·simp[hs]at h
  ·simp [hs]at h
   rcases List.mem_cons.1 m with rfl|m
   ·exact hs
   ·exact o8 h m
theorem Ji {a:Ar} : ∀ {l:List Ar},Ar.fI l=true→a∈l→a.may=true
 | s::l,h,m=>by
  simp only[Ar.fI]at h
  cases hs:s.may
  ·simp[hs]at h
  ·simp [hs]at h
   rcases List.mem_cons.1 m with rfl|m
   ·exact hs
   ·exact Ji h m
theorem Gl {a:Pm} : ∀ {l:List Pm},Pm.fI l=true→a∈l→isName a.name=true
 | s::l,h,m=>by
  simp only[Pm.fI]at h
  cases hs:isName s.name
  ·simp[hs]at h
  ·simp [hs]at h
   rcases List.mem_cons.1 m with rfl|m
   ·exact hs
   ·exact Gl h m
mutual
theorem Ep : ∀ x:Ex,x.form=true→x.texts
 | ⟨op,n,name,kids⟩,h=>by
  simp only[Ex.form]at h
  split at h
  ·cases h
  ·rename_i hc
   refine⟨?_,CH kids h⟩
   simp only[Bool.or_eq_true,Bool.and_eq_true,Bool.not_eq_true',not_or,not_and,Bool.not_eq_false]at hc
   cases hn:(name == [])
   ·have:=zb (hc.2 hn);omega
   ·simp at hn;subst hn;simp
theorem CH : ∀ l:List Ex,Ex.sE l=true→Ex.vr l
 | [],_=>trivial
 | x::l,h=>by
  simp only[Ex.sE]at h
  cases hx:x.form
  ·simp[hx]at h
  ·simp [hx]at h
   exact⟨Ep x hx,CH l h⟩
end
theorem Gm {x:Ex} (h:x.may=true):x.texts:=by
 unfold Ex.may at h
 simp only[Bool.and_eq_true]at h
 exact Ep x h.2
theorem Er {x:Ex} (h:x.none=true):x.texts:=by
 obtain⟨op,n,name,kids⟩:=x
 simp[Ex.none]at h
 obtain⟨⟨_,h1⟩,h2⟩:=h
 subst h1 h2
 exact⟨by simp,trivial⟩
mutual
theorem Rh {deep dg:Int} {aX:Bool} {out:List It} {i:It} : ∀ s:Sm,i∈j9 deep dg aX out s→i∈out∨i.s.size≤s.size
 | ⟨id,kind,labels,name,proc,x,has,args,a7,e⟩,h=>by
  simp only[j9]at h
  have key:i∈out++ [(⟨⟨id,kind,labels,name,proc,x,has,args,a7,e⟩,deep,dg,aX⟩:It)]→i∈out∨i.s.size≤(⟨id,kind,labels,name,proc,x,has,args,a7,e⟩:Sm).size:=by
   intro h
   rcases List.mem_append.1 h with h|h
   ·exact .inl h
   ·simp at h;subst h;exact .inr (Nat.le_refl _)
  split at h
  ·rcases wx e h with h | h
   ·rcases wx a7 h with h | h
    ·exact key h
    ·right;simp only[Sm.size];omega
   ·right;simp only[Sm.size];omega
  ·exact key h
theorem wx {deep dg:Int} {aX:Bool} {out:List It} {i:It} : ∀ l:List Sm,i∈fK deep dg aX out l→i∈out∨i.s.size<Sm.bc l
 | [],h=>by simp only[fK]at h;exact .inl h
 | s::l,h=>by
  simp only[fK]at h
  split at h
  ·rcases wx l h with h | h
   ·rcases Rh s h with h | h
    ·exact .inl h
    ·right;simp only[Sm.bc];omega
   ·right;simp only[Sm.bc];omega
  ·exact .inl h
end
theorem Jj {i:It} : ∀ (l:List Pc) (out:List It),i∈allM out l→i∈out∨i.s.size<Pc.bc l
 | [],out,h=>by simp only[allM]at h;exact .inl h
 | f::l,out,h=>by
  have key:i∈out++f.flat→i∈out∨i.s.size<Pc.bc (f::l):=by
   intro h
   rcases List.mem_append.1 h with h|h
   ·exact .inl h
   ·rcases wx _ h with h | h
    ·simp at h
    ·right;simp only[Pc.bc,Pc.size];omega
  simp only[allM]at h
  split at h
  ·exact key h
  ·rcases Jj l _ h with h | h
   ·exact key h
   ·right;simp only[Pc.bc];omega
theorem Es {i:It} : ∀ (l:List It) (n:Nat),It.fI n l=true→i∈l→i.s.one=true
 | s::l,n,h,m=>by
  simp only[It.fI]at h
  split at h
  ·cases h
  ·rename_i hc
   simp only[Bool.or_eq_true,Bool.not_eq_true',not_or,Bool.not_eq_false]at hc
   rcases List.mem_cons.1 m with rfl|m
   ·exact hc.2
   ·exact Es l (n+1) h m
theorem Jk {s:Sm} (h:s.one=true) (hs:s.size<4611686018427387000):s.tU:=by
 unfold Sm.one at h
 split at h
 ·cases h
 split at h
 ·cases h
 split at h
 ·cases h
 split at h
 ·cases h
 rename_i c1 c2 c3 c4
 simp only[Bool.or_eq_true,Bool.and_eq_true,Bool.not_eq_true',not_or,not_and,Bool.not_eq_false,decide_eq_true_eq]at c1 c2 c3 c4
 obtain⟨⟨⟨⟨⟨_,_⟩,amx⟩,cx⟩,cn⟩,_⟩:=c1
 obtain⟨c21,c22⟩:=c2
 obtain⟨⟨c31,c32⟩,c33⟩:=c3
 have nm : ∀ {t:aE},isName t=true→t.length<4611686018427387904:=fun h=>by have:=zb h;omega
 have dL:1+s.labels.length+s.x.size+Ar.bc s.args≤s.size:=by cases s;simp only[Sm.size];omega
 have AY:=Ar.eW s.args
 refine⟨fun t ht=>nm (o8 amx ht),by omega, ?_, ?_,by omega, ?_,by omega,fun a ha=>?_⟩
 ·cases hn:s.hasName
  ·cases he:(s.name == [])
   ·exact nm (c22 ⟨hn,he⟩).2
   ·simp at he;rw[he];simp
  ·exact nm (c21 hn)
 ·cases oE:s.x9
  ·rw [oE]at c31
   have:s.proc = []:=by simpa using c31
   rw[this];simp
  ·exact nm (c32 oE)
 ·cases hx:s.OC
  ·exact Er (cn hx)
  ·exact Gm (cx hx)
 ·have hm:=Ji c4 ha
  have Xc:=Ar.dr ha
  unfold Ar.may at hm
  split at hm
  ·simp only [Bool.and_eq_true]at hm
   exact⟨by omega,Er hm.2,nm hm.1⟩
  ·simp only [Bool.and_eq_true,beq_iff_eq]at hm
   exact⟨by omega,Gm hm.2,by rw[hm.1];simp⟩
theorem Gn {f:Pc} : ∀ {l:List Pc},Pc.nR l=true→f∈l→isName f.name=true∧eY f.vars=true∧eY f.fin=true∧Pm.fI f.params=true
 |s::l,h,m=>by
  simp only[Pc.nR]at h
  split at h
  ·cases h
  split at h
  ·cases h
  rename_i c1 c2
  simp only[Bool.or_eq_true,Bool.not_eq_true',not_or,Bool.not_eq_false]at c1 c2
  rcases List.mem_cons.1 m with rfl|m
  ·exact⟨c1.1.1.1.1,c1.1.2,c1.2,c2⟩
  ·exact Gn h m
theorem UG {p:Pg} (h:p.may=true) (hs:p.size<4611686018427387000):p.tU:=by
 unfold Pg.may at h
 split at h
 ·cases h
 split at h
 ·cases h
 split at h
 ·cases h
 rename_i c1 c2 c3
 simp only[Bool.or_eq_true,Bool.not_eq_true',not_or,Bool.not_eq_false]at c1 c2
 have nm : ∀ {t:aE},isName t=true→t.length<4611686018427387904:=fun h=>by have:=zb h;omega
 refine⟨hs,fun t ht=>nm (o8 c1.2 ht),fun f hf=>?_,fun i hi=>?_⟩
 ·obtain⟨a,b,c,d⟩:=Gn c2 hf
  exact⟨nm a,fun t ht=>nm (o8 b ht),fun t ht=>nm (o8 c ht),fun t ht=>nm (Gl d ht)⟩
 ·refine Jk (Es _ _ h hi) ?_
  rcases Jj _ _ hi with h1|h1
  ·simp at h1
  ·simp only[Pg.size]at hs;omega
theorem Ri {t:aE} (h:isName t=true):t≠ []:=by rintro rfl;cases h
theorem UH (op n:Int) (name:aE) (kids:List Ex):Ex.form ⟨op,n,name,kids⟩=true↔
 oc op=(kids.length:Int)∧(op=1∨n=0)∧0≤n∧(op=2↔name≠ [])∧(name = []∨isName name=true)∧Ex.sE kids=true:=by
 simp only[Ex.form]
 split
 ·rename_i h
  simp only[Bool.or_eq_true,Bool.and_eq_true,bne_iff_ne,ne_eq,decide_eq_true_eq,Bool.not_eq_true']at h
  refine⟨fun h=>(Bool.false_ne_true h).elim,fun⟨h1,h2,h3,h4,h5,_⟩=>?_⟩
  exfalso
  rcases h with (((h|h)|h)|h)|h
  ·exact h h1
  ·rcases h2 with h2 | h2
   ·exact h.1 h2
   ·exact h.2 h2
  ·omega
  ·by_cases h2:op=2<;>cases name<;>simp_all
  ·rcases h5 with h5 | h5
   ·subst h5;simp at h
   ·rw[h5]at h;simp at h
 ·rename_i h
  simp only[Bool.or_eq_true,Bool.and_eq_true,bne_iff_ne,ne_eq,decide_eq_true_eq,Bool.not_eq_true',not_or,not_and,Decidable.not_not,Bool.not_eq_false]at h
  obtain⟨⟨⟨⟨h1,h2⟩,h3⟩,h4⟩,h5⟩:=h
  refine⟨fun h=>⟨h1, ?_,by omega, ?_, ?_,h⟩,fun h=>h.2.2.2.2.2⟩
  ·by_cases h:op=1
   ·exact .inl h
   ·exact .inr (h2 h)
  ·by_cases h2:op=2<;>cases name<;>simp_all
  ·cases name with
   |nil=>exact .inl rfl
   |cons c r=>exact .inr (h5 rfl)
theorem Jl (op n:Int) (name:aE) (kids:List Ex) (k:Int):Ex.dp k ⟨op,n,name,kids⟩=true↔
 1≤k∧(kids.length:Int)=oc op∧(if op=1 then 0≤n∧name = []else if op=2 then n=0∧isName name=true else n=0∧name = []∧Ex.Be (k - 1) kids=true):=by
 simp only[Ex.dp]
 split
 ·rename_i h
  simp only[Bool.or_eq_true,decide_eq_true_eq,bne_iff_ne,ne_eq]at h
  refine⟨fun h=>(Bool.false_ne_true h).elim,fun⟨h1,h2,_⟩=>?_⟩
  rcases h with h|h
  ·omega
  ·exact(h h2).elim
 rename_i h
 simp only[Bool.or_eq_true,decide_eq_true_eq,bne_iff_ne,ne_eq,not_or,Decidable.not_not]at h
 have h1:1≤k:=by omega
 simp only[h1,h.2,true_and]
 by_cases o1:op=1
 ·subst o1
  cases name<;>simp
 ·have o1' : ¬ (op==1)=true:=by simpa using o1
  rw[if_neg o1',if_neg o1]
  by_cases o2:op=2
  ·subst o2;simp
  ·have o2' : ¬ (op==2)=true:=by simpa using o2
   rw[if_neg o2',if_neg o2]
   by_cases hn:n=0
   ·subst hn
    cases name<;>simp
   ·simp[hn]
mutual
theorem Xd : ∀ (x:Ex) (k:Int),0≤k→(x.dp k=true↔(x.depth:Int)≤k∧x.form=true)
 | ⟨op,n,name,kids⟩,k,hk=>by
  rw[Jl,UH]
  have hd:Ex.depth ⟨op,n,name,kids⟩=Ex.pW kids+1:=by simp only[Ex.depth]
  rw[hd]
  by_cases h1:1≤k
  ·have ih:=Rj kids (k - 1) (by omega)
   by_cases o1:op=1
   ·subst o1
    have ha:oc 1=0:=rfl
    rw[ha,if_pos rfl]
    constructor
    ·rintro⟨_,h2,h3,h4⟩
     have:kids = []:=List.eq_nil_of_length_eq_zero (by omega)
     subst this;subst h4
     simp[Ex.pW,Ex.sE,h3];omega
    ·rintro⟨h2,h3,_,h4,h5,_⟩
     refine⟨h1,h3.symm,h4, ?_⟩
     cases name
     ·rfl
     ·simp at h5
   ·rw [if_neg o1]
    by_cases o2:op=2
    ·subst o2
     have ha:oc 2=0:=rfl
     rw[ha,if_pos rfl]
     constructor
     ·rintro⟨_,h2,h3,h4⟩
      have:kids = []:=List.eq_nil_of_length_eq_zero (by omega)
      subst this;subst h3
      have:=Ri h4
      simp[Ex.pW,Ex.sE,h4,this];omega
     ·rintro⟨h2,h3,h4,_,h5,h6,_⟩
      refine⟨h1,h3.symm,h4.resolve_left o1, ?_⟩
      exact h6.resolve_left (h5.1 rfl)
    ·rw [if_neg o2,ih]
     constructor
     ·rintro⟨_,h2,h3,h4,h5,h6⟩
      subst h3;subst h4
      exact⟨by omega,h2.symm, .inr rfl,Int.le_refl _,by simp[o2], .inl rfl,h6⟩
     ·rintro⟨h2,h3,h4,_,h5,h6,h7⟩
      refine⟨h1,h3.symm,h4.resolve_left o1, ?_,by omega,h7⟩
      exact Decidable.byContradiction fun h=>o2 (h5.2 h)
  ·constructor
   ·rintro⟨h,_⟩;exact(h1 h).elim
   ·rintro⟨h,_⟩;omega
theorem Rj : ∀ (l:List Ex) (k:Int),0≤k→(Ex.Be k l=true↔(Ex.pW l:Int)≤k∧Ex.sE l=true)
 | [],k,hk=>by simp[Ex.Be,Ex.pW,Ex.sE,hk]
 | x::l,k,hk=>by
  have h1:=Xd x k hk
  have h2:=Rj l k hk
  have hd:Ex.pW (x::l)=max x.depth (Ex.pW l):=by simp only[Ex.pW]
  rw[hd]
  simp only[Ex.Be,Ex.sE]
  cases hx:Ex.dp k x
  ·simp only [Bool.not_false, ↓reduceIte,Bool.false_eq_true,false_iff,not_and]
   intro h3
   have : ¬ ((x.depth:Int)≤k∧x.form=true):=by rw[← h1,hx];simp
   have hf:x.form=false:=by
    cases hf:x.form
    ·rfl
    ·exact(this ⟨by omega,hf⟩).elim
   simp[hf]
  ·have:=h1.1 hx
   simp only[Bool.not_true,Bool.false_eq_true,↓reduceIte,this.2,h2]
   have h3:=this.1
   refine and_congr_left fun _=>?_
   omega
end
theorem Et (x:Ex):x.dp 20=x.may:=by
 rw[Bool.eq_iff_iff,Xd x 20 (by omega)]
 unfold Ex.may
 simp only[Bool.and_eq_true,decide_eq_true_eq]
 refine and_congr_left fun _=>?_
 omega
theorem Gp (x:Ex) (b:Bool):vv x b=if b then x.may else x.none:=by
 unfold vv
 rw[Et]
 cases b<;>simp
theorem Gq (t:aE) (b:Bool):tc t b=if b then isName t else t == []:=by
 unfold tc
 cases b<;>simp
theorem CI : ∀ l:List Ar,py l=Ar.fI l
 | []=>rfl
 |a::l=>by
  simp only[py,Ar.fI,Ar.may,Gp,Gq,CI l]
  grind
theorem MM {α:Type} (l:List α):((l.length:Int)==0) = !(decide ((l.length:Int) > 0)):=by
 cases l with
 |nil=>rfl
 |cons a l=>
  have h1:(((a::l).length:Int)==0)=false:=by simp only[List.length_cons,beq_eq_false_iff_ne];omega
  have h2:decide (((a::l).length:Int) > 0)=true:=by simp only[List.length_cons,decide_eq_true_eq];omega
  rw[h1,h2];rfl
theorem Eu (s:Sm):s.one=(eY s.labels && s.fields):=by
 have hk:s.kind=1∨s.kind=2∨s.kind=3∨s.kind=4∨s.kind=5∨s.kind=6∨s.kind=7∨s.kind=8∨s.kind=9∨s.kind=10∨s.kind<1∨s.kind > 10:=by omega
 unfold Sm.one Sm.fields Sm.flags Sm.OC Sm.hasName Sm.x9
 have p1:isName [] = false:=rfl
 rcases hk with h|h|h|h|h|h|h|h|h|h|h|h
 all_goals
  simp only[h,MM,CI,Gp,Gq,Sm.HI,Sm.HH]
  grind
mutual
def Ex.mw (out:List aE):Ex→List aE
 |⟨op,_,name,kids⟩=>Ex.lC (if op==2 && !(fj out name)then out++ [name]else out) kids
def Ex.lC (out:List aE):List Ex→List aE
 | []=>out
 |x::l=>Ex.lC (Ex.mw out x) l
end
def Ex.names (x:Ex):List aE:=if x.may then x.mw []else []
mutual
theorem sf (out:List aE) : ∀ x:Ex,(Ex.mw out x).length≤out.length+x.size
 |⟨op,n,name,kids⟩=>by
  simp only[Ex.mw,Ex.size]
  have h:=Gr (if op==2 && !(fj out name)then out++ [name]else out) kids
  refine Nat.le_trans h ?_
  split<;>simp<;>omega
theorem Gr (out:List aE) : ∀ l:List Ex,(Ex.lC out l).length≤out.length+Ex.bc l
 | []=>by simp[Ex.lC,Ex.bc]
 |x::l=>by
  simp only[Ex.lC,Ex.bc]
  have h1:=sf out x
  have h2:=Gr (Ex.mw out x) l
  omega
end
def B0 (out:List aE) (x:aE):List aE:=if fj out x then out else out++ [x]
def agD (x:aE):List aE→Bool
 | []=>false
 |s::l=>if s==x then true else agD x l
abbrev Rk (N:Nat):Prop:=∀ (x:Ex),x.size≤N→∀ out:List aE,out.length+x.size≤1000000000→∀ {s:St} {t:Nat},s.au[t]? = some (some out.length)→
 aG Tryz.prog iK [.agg (bY x), .slice (.tok t) 1 (out.map encStr)] s (.slice (.tok t) 1 ((x.mw out).map encStr)) ⟨s.ah,s.au.set t (some (x.mw out).length)⟩
theorem acs {N:Nat} (ih:Rk N) {op m:Int} {name:aE} {kids:List Ex} (h:Ex.size ⟨op,m,name,kids⟩≤N+1) {out:List aE} (ho:out.length+Ex.size ⟨op,m,name,kids⟩≤1000000000) :
 aG Tryz.prog iK [.agg (bY ⟨op,m,name,kids⟩), .slice (.tok 0) 1 (out.map encStr)] ⟨[],[some out.length]⟩ (.slice (.tok 0) 1 ((Ex.mw out ⟨op,m,name,kids⟩).map encStr)) ⟨[],[some (Ex.mw out ⟨op,m,name,kids⟩).length]⟩:=by
 obtain⟨R,hG⟩ : ∃ R,Ex.mw out ⟨op,m,name,kids⟩=R:=⟨_,rfl⟩
 rw[hG]
 simp only[Ex.mw]at hG
 simp only[Ex.size]at h ho
 have hlen:kids.length<1000000000:=by have:=Ex.eW kids;omega
 have hk : ∀ y∈kids,∀ out:List aE,out.length+y.size≤1000000000→∀ {s:St} {t:Nat},s.au[t]? = some (some out.length)→
  aG Tryz.prog iK [.agg (bY y), .slice (.tok t) 1 (out.map encStr)] s (.slice (.tok t) 1 ((y.mw out).map encStr)) ⟨s.ah,s.au.set t (some (y.mw out).length)⟩:=fun y hy out ho=>
  ih y (by have:=Ex.dr hy;omega) out ho
 refine aG.go rj rfl fun B Q hB hQ=>?_
 have⟨hD,hY,hZ,gA⟩:=bX
 have hZ:(out.length+1)*17≤bJ:=by unfold bJ;omega
 rcases Bool.eq_false_or_eq_true (op==2)with b1|b1
 ·rcases Bool.eq_false_or_eq_true (fj out name)with b2 | b2
  ·simp only [b1,b2,Bool.not_true,Bool.and_false,Bool.false_eq_true,if_false]at hG
   repeat' (first
 |simp only[go_sem,hD,hY,hZ,gA,b1,b2]
 |(with_reducible refine CU (ju (l:=out) (by omega) name _ _) ?_)
 | (with_reducible refine aF hQ ?_;exact bk))
   refine fm 1 1 (br.ind (ι:=List Ex×Nat×List aE×Nat) (fun i=>kids.drop i.2.1=i.1∧Ex.lC i.2.2.1 i.1=R∧i.2.2.1.length+Ex.bc i.1≤1000000000∧i.2.2.2=i.2.2.1.length) (fun i=>i.1.length)
    (fun i=> [(1, .slice (.tok 0) 1 (i.2.2.1.map encStr)),(2, .ptr 0 0),(23, .slice .shared 4 (kids.map bY)),(24, .int .i64 (kids.length:Int)),(25, .int .i64 (i.2.1:Int))]) (fun i=>⟨[bY ⟨op,m,name,kids⟩],[some i.2.2.2]⟩) ?_ (kids,0,out,out.length) ⟨rfl,hG,by simp;omega,by simp⟩)
   rintro⟨rest,k,ct,n'⟩ ⟨h1,h2,h3,h4⟩ IH
   dsimp only at h1 h2 h3 h4
   subst h4
   cases rest with
   |nil=>
    have hD:=drop_nil h1
    simp only[Ex.lC]at h2
    subst h2
    repeat' (first
 |simp only[go_sem,hD,hY,hZ,gA]
 | (with_reducible refine aF hQ ?_;exact bk))
   |cons y rest=>
    obtain⟨hY,g2,hD,g4⟩:=drop_cons h1
    have cj:k<4611686018427387904:=by omega
    simp only[Ex.lC]at h2
    simp only[Ex.bc]at h3
    have hy:=fun {s:St} {t:Nat} (ht:s.au[t]? = some (some ct.length))=>hk y (List.mem_of_getElem? hY) ct (by omega) ht
    have hl:=sf ct y
    repeat' (first
 |simp only[go_sem,hD,hY,hZ,gA]
 |(with_reducible refine CU (hy (by with_unfolding_all rfl)) ?_)
 | (with_reducible refine aF hQ ?_;exact bk))
    refine fp 1 1 ?_ ?_ (IH (rest,k+1,_,_) ⟨g2,h2,by dsimp only;omega,rfl⟩ (Nat.lt_succ_self _))
    ·(simp only[go_sem,hD,hY,hZ,gA,aM cj];try exact cz)
    ·(simp only[go_sem,hD,hY,hZ,gA,aM cj];try exact cz)
  ·simp only [b1,b2,Bool.not_false,Bool.and_true,if_true]at hG
   repeat' (first
 |simp only[go_sem,hD,hY,hZ,gA,b1,b2]
 |(with_reducible refine CU (ju (l:=out) (by omega) name _ _) ?_)
 | (with_reducible refine aF hQ ?_;exact bk))
   refine fp 1 1 ?_ ?_ (br.ind (ι:=List Ex×Nat×List aE×Nat) (fun i=>kids.drop i.2.1=i.1∧Ex.lC i.2.2.1 i.1=R∧i.2.2.1.length+Ex.bc i.1≤1000000000∧i.2.2.2=i.2.2.1.length) (fun i=>i.1.length)
    (fun i=> [(1, .slice (.tok 0) 1 (i.2.2.1.map encStr)),(2, .ptr 0 0),(23, .slice .shared 4 (kids.map bY)),(24, .int .i64 (kids.length:Int)),(25, .int .i64 (i.2.1:Int))]) (fun i=>⟨[bY ⟨op,m,name,kids⟩],[some i.2.2.2]⟩) ?_ (kids,0,(out++ [name]),(out.length+1)) ⟨rfl,hG,by simp;omega,by simp⟩)
   ·(simp only[go_sem,hD,hY,hZ,gA,List.map_append,List.map_cons,List.map_nil,List.length_append,List.length_cons,List.length_nil,encStr];try exact cz)
   ·(simp only[go_sem,hD,hY,hZ,gA,List.map_append,List.map_cons,List.map_nil,List.length_append,List.length_cons,List.length_nil,encStr];try exact cz)
   rintro⟨rest,k,ct,n'⟩ ⟨h1,h2,h3,h4⟩ IH
   dsimp only at h1 h2 h3 h4
   subst h4
   cases rest with
   |nil=>
    have hD:=drop_nil h1
    simp only[Ex.lC]at h2
    subst h2
    repeat' (first
 |simp only[go_sem,hD,hY,hZ,gA]
 | (with_reducible refine aF hQ ?_;exact bk))
   |cons y rest=>
    obtain⟨hY,g2,hD,g4⟩:=drop_cons h1
    have cj:k<4611686018427387904:=by omega
    simp only[Ex.lC]at h2
    simp only[Ex.bc]at h3
    have hy:=fun {s:St} {t:Nat} (ht:s.au[t]? = some (some ct.length))=>hk y (List.mem_of_getElem? hY) ct (by omega) ht
    have hl:=sf ct y
    repeat' (first
 |simp only[go_sem,hD,hY,hZ,gA]
 |(with_reducible refine CU (hy (by with_unfolding_all rfl)) ?_)
 | (with_reducible refine aF hQ ?_;exact bk))
    refine fp 1 1 ?_ ?_ (IH (rest,k+1,_,_) ⟨g2,h2,by dsimp only;omega,rfl⟩ (Nat.lt_succ_self _))
    ·(simp only[go_sem,hD,hY,hZ,gA,aM cj];try exact cz)
    ·(simp only[go_sem,hD,hY,hZ,gA,aM cj];try exact cz)
 ·simp only [b1,Bool.false_and,Bool.false_eq_true,if_false]at hG
  repeat' (first
 |simp only[go_sem,hD,hY,hZ,gA,b1]
 | (with_reducible refine aF hQ ?_;exact bk))
  refine fm 1 1 (br.ind (ι:=List Ex×Nat×List aE×Nat) (fun i=>kids.drop i.2.1=i.1∧Ex.lC i.2.2.1 i.1=R∧i.2.2.1.length+Ex.bc i.1≤1000000000∧i.2.2.2=i.2.2.1.length) (fun i=>i.1.length)
   (fun i=> [(1, .slice (.tok 0) 1 (i.2.2.1.map encStr)),(2, .ptr 0 0),(23, .slice .shared 4 (kids.map bY)),(24, .int .i64 (kids.length:Int)),(25, .int .i64 (i.2.1:Int))]) (fun i=>⟨[bY ⟨op,m,name,kids⟩],[some i.2.2.2]⟩) ?_ (kids,0,out,out.length) ⟨rfl,hG,by simp;omega,by simp⟩)
  rintro⟨rest,k,ct,n'⟩ ⟨h1,h2,h3,h4⟩ IH
  dsimp only at h1 h2 h3 h4
  subst h4
  cases rest with
  |nil=>
   have hD:=drop_nil h1
   simp only[Ex.lC]at h2
   subst h2
   repeat' (first
 |simp only[go_sem,hD,hY,hZ,gA]
 | (with_reducible refine aF hQ ?_;exact bk))
  |cons y rest=>
   obtain⟨hY,g2,hD,g4⟩:=drop_cons h1
   have cj:k<4611686018427387904:=by omega
   simp only[Ex.lC]at h2
   simp only[Ex.bc]at h3
   have hy:=fun {s:St} {t:Nat} (ht:s.au[t]? = some (some ct.length))=>hk y (List.mem_of_getElem? hY) ct (by omega) ht
   have hl:=sf ct y
   repeat' (first
 |simp only[go_sem,hD,hY,hZ,gA]
 |(with_reducible refine CU (hy (by with_unfolding_all rfl)) ?_)
 | (with_reducible refine aF hQ ?_;exact bk))
   refine fp 1 1 ?_ ?_ (IH (rest,k+1,_,_) ⟨g2,h2,by dsimp only;omega,rfl⟩ (Nat.lt_succ_self _))
   ·(simp only[go_sem,hD,hY,hZ,gA,aM cj];try exact cz)
   ·(simp only[go_sem,hD,hY,hZ,gA,aM cj];try exact cz)
theorem UI : ∀ N,Rk N:=by
 intro N
 induction N with
 |zero=>rintro⟨op,m,name,kids⟩ h;simp only[Ex.size]at h;omega
 |succ N ih=>
  rintro⟨op,m,name,kids⟩ h out ho s t ht
  exact(acs ih h ho).aiW (pre:= [_]) (post:= []) (by simp only[D.bL,D.ok,lJ];rfl) rfl (eU out) (eU _) ht
abbrev anj (N:Nat):Prop:=∀ (x:Ex),x.size≤N→∀ out:List aE,out.length+x.size≤1000000000→∀ {s:St} {t:Nat},s.au[t]? = some (some out.length)→
 aG Tryz.prog KT [.agg (bY x), .slice (.tok t) 1 (out.map encStr)] s (.slice (.tok t) 1 ((x.mw out).map encStr)) ⟨s.ah,s.au.set t (some (x.mw out).length)⟩
theorem Rm {op m:Int} {name:aE} {kids:List Ex} (h:Ex.form ⟨op,m,name,kids⟩=true) (h2:(op==2)=true):kids = []:=by
 have e:op=2:=by simpa using h2
 subst e
 simp only[Ex.form]at h
 split at h
 ·cases h
 ·rename_i hh
  simp only[Bool.or_eq_true,not_or,bne_iff_ne,ne_eq,Decidable.not_not]at hh
  have:=hh.1.1.1.1
  have e:oc 2=0:=rfl
  rw[e]at this
  exact List.length_eq_zero_iff.1 (by omega)
theorem UJ {op m:Int} {name:aE} {kids:List Ex} (hf:(op==2)=true→kids = []) (ho:Ex.size ⟨op,m,name,kids⟩≤1000000000) (s:St) :
 aG Tryz.prog iK [.agg (bY ⟨op,m,name,kids⟩), .slice .full 0 []] s (.slice .shared 1 ((Ex.mw [] ⟨op,m,name,kids⟩).map encStr)) s:=by
 refine aG.pure ?_ (by simp only[D.bL,D.ok,lJ];rfl) (by simp only[D.ok,Tag.ok,eU];rfl) s
 obtain⟨R,hG⟩ : ∃ R,Ex.mw [] ⟨op,m,name,kids⟩=R:=⟨_,rfl⟩
 rw[hG]
 simp only[Ex.mw]at hG
 simp only[Ex.size]at ho
 have hlen:kids.length<1000000000:=by have:=Ex.eW kids;omega
 have hk : ∀ y∈kids,∀ out:List aE,out.length+y.size≤1000000000→∀ {s:St} {t:Nat},s.au[t]? = some (some out.length)→
  aG Tryz.prog iK [.agg (bY y), .slice (.tok t) 1 (out.map encStr)] s (.slice (.tok t) 1 ((y.mw out).map encStr)) ⟨s.ah,s.au.set t (some (y.mw out).length)⟩:=fun y hy out ho=>
  UI y.size y (Nat.le_refl _) out ho
 unfold S0
 rcases Bool.eq_false_or_eq_true (op==2)with b1|b1
 ·have hk0:=hf b1
  subst hk0
  have e:fj [] name=false:=rfl
  simp only[b1,e,Bool.not_false,Bool.and_true,if_true,Ex.lC,List.nil_append]at hG
  subst hG
  refine aG.go rj rfl fun B Q hB hQ=>?_
  have⟨hD,hY,hZ,gA⟩:=bX
  have hZ:17≤bJ:=by unfold bJ;omega
  repeat' (first
 |simp only[go_sem,hD,hY,hZ,gA,b1,List.map_nil,List.map_cons,List.length_nil,encStr,Int.natCast_zero,Int.lt_irrefl,decide_false]
 |(with_reducible refine CU (Jg name _ _ _) ?_)
 |(with_reducible refine br.kH ?_)
 |(with_reducible refine aF hQ ?_;exact bk))
 ·simp only [b1,Bool.false_and,Bool.false_eq_true,if_false]at hG
  refine aG.go rj rfl fun B Q hB hQ=>?_
  have⟨hD,hY,hZ,gA⟩:=bX
  repeat' (first
 |simp only[go_sem,hD,hY,hZ,gA,b1]
 | (with_reducible refine aF hQ ?_;exact bk))
  refine br.w6 1 1 rfl ?_
  simp only[go_sem,hD,hY,hZ,gA]
  refine fm 1 1 (br.ind (ι:=List Ex×Nat×List aE×Nat) (fun i=>kids.drop i.2.1=i.1∧Ex.lC i.2.2.1 i.1=R∧i.2.2.1.length+Ex.bc i.1≤1000000000∧i.2.2.2=i.2.2.1.length) (fun i=>i.1.length)
   (fun i=> [(1, .slice (.tok 0) 1 (i.2.2.1.map encStr)),(2, .ptr 0 0),(23, .slice .shared 4 (kids.map bY)),(24, .int .i64 (kids.length:Int)),(25, .int .i64 (i.2.1:Int))]) (fun i=>⟨[bY ⟨op,m,name,kids⟩],[some i.2.2.2]⟩) ?_ (kids,0,[],0) ⟨rfl,hG,by simp;omega,by simp⟩)
  rintro⟨rest,k,ct,n'⟩ ⟨h1,h2,h3,h4⟩ IH
  dsimp only at h1 h2 h3 h4
  subst h4
  cases rest with
  |nil=>
   have hD:=drop_nil h1
   simp only[Ex.lC]at h2
   subst h2
   repeat' (first
 |simp only[go_sem,hD,hY,hZ,gA]
 | (with_reducible refine aF hQ ?_;exact bk))
  |cons y rest=>
   obtain⟨hY,g2,hD,g4⟩:=drop_cons h1
   have cj:k<4611686018427387904:=by omega
   simp only[Ex.lC]at h2
   simp only[Ex.bc]at h3
   have hy:=fun {s:St} {t:Nat} (ht:s.au[t]? = some (some ct.length))=>hk y (List.mem_of_getElem? hY) ct (by omega) ht
   have hl:=sf ct y
   repeat' (first
 |simp only[go_sem,hD,hY,hZ,gA]
 |(with_reducible refine CU (hy (by with_unfolding_all rfl)) ?_)
 | (with_reducible refine aF hQ ?_;exact bk))
   refine fp 1 1 ?_ ?_ (IH (rest,k+1,_,_) ⟨g2,h2,by dsimp only;omega,rfl⟩ (Nat.lt_succ_self _))
   ·(simp only[go_sem,hD,hY,hZ,gA,aM cj];try exact cz)
   ·(simp only[go_sem,hD,hY,hZ,gA,aM cj];try exact cz)
theorem ng {x:Ex} (hx:x.size≤1000000000) (ht:x.texts) (s:St):aG Tryz.prog rf [.agg (bY x)] s (.slice .shared 1 (x.names.map encStr)) s:=by
 refine aG.pure ?_ (by simp only[D.bL,D.ok,lJ];rfl) (by simp only[D.ok,Tag.ok,eU];rfl) s
 have hm:=fun s=>za (x:=x) (by omega) ht s
 simp only[Et]at hm
 unfold Ex.names
 unfold S0
 cases hb:x.may
 ·simp only [hb]at hm
  simp only[Bool.false_eq_true,if_false,List.map_nil]
  refine aG.go xY rfl fun B Q hB hQ=>?_
  have⟨hD,hY,hZ,gA⟩:=bX
  repeat' (first
 |simp only[go_sem,hD,hY,hZ,gA]
 |(with_reducible refine CU (hm _) ?_)
 |(with_reducible refine aF hQ ?_;exact bk))
 ·simp only [hb]at hm
  simp only[if_true]
  have hg : ∀ s,aG Tryz.prog iK [.agg (bY x), .slice .full 0 []] s (.slice .shared 1 ((x.mw []).map encStr)) s:=by
   intro s
   obtain⟨op,m,name,kids⟩:=x
   exact UJ (fun h2=>Rm (by simp only[Ex.may,Bool.and_eq_true]at hb;exact hb.2) h2) hx s
  refine aG.go xY rfl fun B Q hB hQ=>?_
  have⟨hD,hY,hZ,gA⟩:=bX
  repeat' (first
 |simp only[go_sem,hD,hY,hZ,gA]
 |(with_reducible refine CU (hm _) ?_)
 |(with_reducible refine CU (hg _) ?_)
 |(with_reducible refine aF hQ ?_;exact bk))
def Ar.said (out:List aE):List Ar→List aE
 | []=>out
 |a::l=>Ar.said ((if a.ref then out++ [a.name]else out)++a.x.names) l
def Sm.sF (v:Sm):List aE:=if v.kind != 10 && v.name != []then [v.name]else []
def Sm.said (v:Sm):List aE:=Ar.said (v.sF++v.x.names) v.args
theorem kY (x:Ex):x.names.length≤x.size:=by
 unfold Ex.names
 split
 ·simpa using sf [] x
 ·exact Nat.zero_le _
def Ar.vr:List Ar→Prop
 | []=>True
 |a::l=>a.x.texts∧Ar.vr l
def Sm.nh (v:Sm):Prop:=v.x.texts∧(∀ a∈v.args,a.x.texts)∧v.x.size+Ar.bc v.args<1000000
theorem kA {l nx:List aE} {n:Nat} (hn:n=l.length) (h:l.length+nx.length≤1000000000) {g:Tag} (o:List (List D)) :
 ig 1 16 (.slice (.tok 0) 1 (l.map encStr)) (.slice g 1 (nx.map encStr)) ⟨o,[some n]⟩=some (.slice (.tok 0) 1 ((l++nx).map encStr),⟨o,[some (l++nx).length]⟩):=by
 subst hn
 have:=oU (size:=1) (bytes:=16) (t:=0) (rows:=l.map encStr) (new:=nx.map encStr) (g:=g) (s:=⟨o,[some l.length]⟩) (by simp only[List.length_map];unfold bJ;omega) (by simp)
 rw[this]
 simp
theorem Bf {v:Sm} (hv:v.nh) (s:St):aG Tryz.prog q8 [.agg (bm v)] s (.slice .shared 1 (v.said.map encStr)) s:=by
 refine aG.pure ?_ (by simp only[D.bL,D.ok,qT];rfl) (by simp only[D.ok,Tag.ok,eU];rfl) s
 obtain⟨wy,td,dL⟩:=hv
 obtain⟨R,hG⟩ : ∃ R,v.said=R:=⟨_,rfl⟩
 rw[hG]
 simp only[Sm.said]at hG
 have hlen:v.args.length<1000000000:=by have:=Ar.eW v.args;omega
 have hx:=fun s=>ng (x:=v.x) (by omega) wy s
 have Lz:=kY v.x
 unfold S0
 refine aG.go Fq rfl fun B Q hB hQ=>?_
 have⟨hD,hY,hZ,gA⟩:=bX
 have hZ:17≤bJ:=by unfold bJ;omega
 by_cases hb:(v.kind != 10 && v.name != [])=true
 ·simp only [Sm.sF,hb,if_true]at hG
  rw[Bool.and_eq_true]at hb
  obtain⟨b1,b2⟩:=hb
  have eH:=kA (l:= [v.name]) (nx:=v.x.names) (n:=1) rfl (by simp;omega) (g:= .shared)
  simp only[List.map_append,List.map_cons,List.map_nil,encStr]at eH
  have b3:(v.name == [])=false:=by simpa using b2
  repeat' (first
 |simp only[go_sem,hD,hY,hZ,gA,b1,b2,b3,eH]
 |(with_reducible refine CU (hx _) ?_)
 | (with_reducible refine aF hQ ?_;exact bk))
  refine fp 1 1 ?_ ?_ (br.ind (ι:=List Ar×Nat×List aE×Nat) (fun i=>v.args.drop i.2.1=i.1∧Ar.said i.2.2.1 i.1=R∧i.2.2.1.length+Ar.bc i.1≤2000000∧i.2.2.2=i.2.2.1.length) (fun i=>i.1.length)
   (fun i=> [(3, .slice (.tok 0) 1 (i.2.2.1.map encStr)),(1, .ptr 0 0),(25, .slice .shared 6 (v.args.map ek)),(26, .int .i64 (v.args.length:Int)),(27, .int .i64 (i.2.1:Int))]) (fun i=>⟨[bm v],[some i.2.2.2]⟩) ?_ (v.args,0,([v.name]++v.x.names),(v.x.names.length+1)) ⟨rfl,hG,by simp at Lz ⊢;omega,by simp⟩)
  ·(simp only[go_sem,hD,hY,hZ,gA,List.map_append,List.map_cons,List.map_nil,encStr];try exact cz)
  ·(simp only[go_sem,hD,hY,hZ,gA,List.map_append,List.map_cons,List.map_nil,encStr];try exact cz)
  rintro⟨rest,k,out,n'⟩ ⟨h1,h2,h3,h4⟩ IH
  dsimp only at h1 h2 h3 h4
  subst h4
  cases rest with
  |nil=>
   have hD:=drop_nil h1
   simp only[Ar.said]at h2
   subst h2
   repeat' (first
 |simp only[go_sem,hD,hY,hZ,gA]
 | (with_reducible refine aF hQ ?_;exact bk))
  | cons a rest=>
   obtain⟨hY,g2,hD,g4⟩:=drop_cons h1
   have cj:k<4611686018427387904:=by omega
   simp only[Ar.said]at h2
   simp only[Ar.bc]at h3
   have wz:=fun s=>ng (x:=a.x) (by have:=Ar.dr (List.mem_of_getElem? hY);omega) (td a (List.mem_of_getElem? hY)) s
   have hl:=kY a.x
   have hZ:(out.length+1)*17≤bJ:=by unfold bJ;omega
   rcases Bool.eq_false_or_eq_true a.ref with b1|b1
   ·simp only [b1,if_true]at h2
    have eH:=kA (l:=out++ [a.name]) (nx:=a.x.names) (n:=out.length+1) (by simp) (by simp;omega) (g:= .shared)
    simp only[List.map_append,List.map_cons,List.map_nil,encStr]at eH
    repeat' (first
 |simp only[go_sem,hD,hY,hZ,gA,b1,eH]
 |(with_reducible refine CU (wz _) ?_)
 | (with_reducible refine aF hQ ?_;exact bk))
    refine fp 1 1 ?_ ?_ (IH (rest,k+1,out++ [a.name]++a.x.names,_) ⟨g2,h2,by simp;omega,by simp<;>omega⟩ (Nat.lt_succ_self _))
    ·(simp only[go_sem,hD,hY,hZ,gA,aM cj,List.map_append,List.map_cons,List.map_nil,encStr];try exact cz)
    ·(simp only[go_sem,hD,hY,hZ,gA,aM cj,List.map_append,List.map_cons,List.map_nil,encStr];try exact cz)
   ·simp only [b1,Bool.false_eq_true,if_false]at h2
    have eH:=kA (l:=out) (nx:=a.x.names) rfl (by omega) (g:= .shared)
    repeat' (first
 |simp only[go_sem,hD,hY,hZ,gA,b1,eH]
 |(with_reducible refine CU (wz _) ?_)
 | (with_reducible refine aF hQ ?_;exact bk))
    refine fp 1 1 ?_ ?_ (IH (rest,k+1,out++a.x.names,_) ⟨g2,h2,by simp;omega,by simp<;>omega⟩ (Nat.lt_succ_self _))
    ·(simp only[go_sem,hD,hY,hZ,gA,aM cj];try exact cz)
    ·(simp only[go_sem,hD,hY,hZ,gA,aM cj];try exact cz)
 ·simp only [Sm.sF,hb,Bool.false_eq_true,if_false,List.nil_append]at hG
  have rJ:(v.kind != 10 && v.name != [])=false:=by simpa using hb
  obtain⟨nx,hnx⟩ : ∃ nx,nx=v.x.names:=⟨_,rfl⟩
  rw[← hnx]at hG Lz
  simp only[← hnx]at hx
  by_cases Ig:nx = []
  ·subst Ig
   simp only[List.map_nil]at hx
   have eH : ∀ o:List (List D),ig 1 16 (.slice .full 0 []) (.slice .shared 1 []) ⟨o,[]⟩=some (.slice .full 0 [],⟨o,[]⟩):=fun o=>by simp[ig,bJ]
   have HB:(v.kind != 10)=false∨(v.kind != 10)=true∧(v.name != [])=false:=by
    cases h1:(v.kind != 10)
    ·exact .inl rfl
    ·rw[h1]at rJ;exact .inr ⟨rfl,by simpa using rJ⟩
   rcases HB with b1|⟨b1,b2⟩
   ·rcases Bool.eq_false_or_eq_true (v.name != [])with b2 | b2
    all_goals
     have b3:(v.name == []) = !(v.name != []):=by simp only[bne,Bool.not_not]
     rw[b2]at b3
     repeat' (first
 |simp only[go_sem,hD,hY,hZ,gA,b1,b2,b3,Bool.not_true,Bool.not_false,eH]
 |(with_reducible refine CU (hx _) ?_)
 | (with_reducible refine aF hQ ?_;simp only [aV,aY,bH,bI,go_sem,hD,hY,hZ,gA];repeat' (first | exact Ok.out | with_reducible refine iQ ?_ ?_ | (simp;done))))
    all_goals
     refine br.w6 3 1 rfl ?_
     simp only[go_sem,hD,hY,hZ,gA]
     refine fm 1 1 (br.ind (ι:=List Ar×Nat×List aE×Nat) (fun i=>v.args.drop i.2.1=i.1∧Ar.said i.2.2.1 i.1=R∧i.2.2.1.length+Ar.bc i.1≤2000000∧i.2.2.2=i.2.2.1.length) (fun i=>i.1.length)
      (fun i=> [(3, .slice (.tok 0) 1 (i.2.2.1.map encStr)),(1, .ptr 0 0),(25, .slice .shared 6 (v.args.map ek)),(26, .int .i64 (v.args.length:Int)),(27, .int .i64 (i.2.1:Int))]) (fun i=>⟨[bm v],[some i.2.2.2]⟩) ?_ (v.args,0,[],0) ⟨rfl,hG,by simp at Lz ⊢;omega,by simp⟩)
     rintro⟨rest,k,out,n'⟩ ⟨h1,h2,h3,h4⟩ IH
     dsimp only at h1 h2 h3 h4
     subst h4
     cases rest with
     |nil=>
      have hD:=drop_nil h1
      simp only[Ar.said]at h2
      subst h2
      repeat' (first
 |simp only[go_sem,hD,hY,hZ,gA]
 |(with_reducible refine aF hQ ?_;exact bk))
     | cons a rest=>
      obtain⟨hY,g2,hD,g4⟩:=drop_cons h1
      have cj:k<4611686018427387904:=by omega
      simp only[Ar.said]at h2
      simp only[Ar.bc]at h3
      have wz:=fun s=>ng (x:=a.x) (by have:=Ar.dr (List.mem_of_getElem? hY);omega) (td a (List.mem_of_getElem? hY)) s
      have hl:=kY a.x
      have hZ:(out.length+1)*17≤bJ:=by unfold bJ;omega
      rcases Bool.eq_false_or_eq_true a.ref with b1|b1
      ·simp only [b1,if_true]at h2
       have eH:=kA (l:=out++ [a.name]) (nx:=a.x.names) (n:=out.length+1) (by simp) (by simp;omega) (g:= .shared)
       simp only[List.map_append,List.map_cons,List.map_nil,encStr]at eH
       repeat' (first
 |simp only[go_sem,hD,hY,hZ,gA,b1,eH]
 |(with_reducible refine CU (wz _) ?_)
 |(with_reducible refine aF hQ ?_;exact bk))
       refine fp 1 1 ?_ ?_ (IH (rest,k+1,out++ [a.name]++a.x.names,_) ⟨g2,h2,by simp;omega,by simp<;>omega⟩ (Nat.lt_succ_self _))
       ·(simp only[go_sem,hD,hY,hZ,gA,aM cj,List.map_append,List.map_cons,List.map_nil,encStr];try exact cz)
       ·(simp only[go_sem,hD,hY,hZ,gA,aM cj,List.map_append,List.map_cons,List.map_nil,encStr];try exact cz)
      ·simp only [b1,Bool.false_eq_true,if_false]at h2
       have eH:=kA (l:=out) (nx:=a.x.names) rfl (by omega) (g:= .shared)
       repeat' (first
 |simp only[go_sem,hD,hY,hZ,gA,b1,eH]
 |(with_reducible refine CU (wz _) ?_)
 | (with_reducible refine aF hQ ?_;exact bk))
       refine fp 1 1 ?_ ?_ (IH (rest,k+1,out++a.x.names,_) ⟨g2,h2,by simp;omega,by simp<;>omega⟩ (Nat.lt_succ_self _))
       ·(simp only[go_sem,hD,hY,hZ,gA,aM cj];try exact cz)
       ·(simp only[go_sem,hD,hY,hZ,gA,aM cj];try exact cz)
   ·have b3:(v.name == [])=true:=by simpa using b2
    repeat' (first
 |simp only[go_sem,hD,hY,hZ,gA,b1,b2,b3,eH]
 |(with_reducible refine CU (hx _) ?_)
 | (with_reducible refine aF hQ ?_;exact bk))
    refine br.w6 3 1 rfl ?_
    simp only[go_sem,hD,hY,hZ,gA]
    refine fm 1 1 (br.ind (ι:=List Ar×Nat×List aE×Nat) (fun i=>v.args.drop i.2.1=i.1∧Ar.said i.2.2.1 i.1=R∧i.2.2.1.length+Ar.bc i.1≤2000000∧i.2.2.2=i.2.2.1.length) (fun i=>i.1.length)
     (fun i=> [(3, .slice (.tok 0) 1 (i.2.2.1.map encStr)),(1, .ptr 0 0),(25, .slice .shared 6 (v.args.map ek)),(26, .int .i64 (v.args.length:Int)),(27, .int .i64 (i.2.1:Int))]) (fun i=>⟨[bm v],[some i.2.2.2]⟩) ?_ (v.args,0,[],0) ⟨rfl,hG,by simp at Lz ⊢;omega,by simp⟩)
    rintro⟨rest,k,out,n'⟩ ⟨h1,h2,h3,h4⟩ IH
    dsimp only at h1 h2 h3 h4
    subst h4
    cases rest with
    |nil=>
     have hD:=drop_nil h1
     simp only[Ar.said]at h2
     subst h2
     repeat' (first
 |simp only[go_sem,hD,hY,hZ,gA]
 | (with_reducible refine aF hQ ?_;exact bk))
    | cons a rest=>
     obtain⟨hY,g2,hD,g4⟩:=drop_cons h1
     have cj:k<4611686018427387904:=by omega
     simp only[Ar.said]at h2
     simp only[Ar.bc]at h3
     have wz:=fun s=>ng (x:=a.x) (by have:=Ar.dr (List.mem_of_getElem? hY);omega) (td a (List.mem_of_getElem? hY)) s
     have hl:=kY a.x
     have hZ:(out.length+1)*17≤bJ:=by unfold bJ;omega
     rcases Bool.eq_false_or_eq_true a.ref with b1|b1
     ·simp only [b1,if_true]at h2
      have eH:=kA (l:=out++ [a.name]) (nx:=a.x.names) (n:=out.length+1) (by simp) (by simp;omega) (g:= .shared)
      simp only[List.map_append,List.map_cons,List.map_nil,encStr]at eH
      repeat' (first
 |simp only[go_sem,hD,hY,hZ,gA,b1,eH]
 |(with_reducible refine CU (wz _) ?_)
 |(with_reducible refine aF hQ ?_;exact bk))
      refine fp 1 1 ?_ ?_ (IH (rest,k+1,out++ [a.name]++a.x.names,_) ⟨g2,h2,by simp;omega,by simp<;>omega⟩ (Nat.lt_succ_self _))
      ·(simp only[go_sem,hD,hY,hZ,gA,aM cj,List.map_append,List.map_cons,List.map_nil,encStr];try exact cz)
      ·(simp only[go_sem,hD,hY,hZ,gA,aM cj,List.map_append,List.map_cons,List.map_nil,encStr];try exact cz)
     ·simp only [b1,Bool.false_eq_true,if_false]at h2
      have eH:=kA (l:=out) (nx:=a.x.names) rfl (by omega) (g:= .shared)
      repeat' (first
 |simp only[go_sem,hD,hY,hZ,gA,b1,eH]
 |(with_reducible refine CU (wz _) ?_)
 | (with_reducible refine aF hQ ?_;exact bk))
      refine fp 1 1 ?_ ?_ (IH (rest,k+1,out++a.x.names,_) ⟨g2,h2,by simp;omega,by simp<;>omega⟩ (Nat.lt_succ_self _))
      ·(simp only[go_sem,hD,hY,hZ,gA,aM cj];try exact cz)
      ·(simp only[go_sem,hD,hY,hZ,gA,aM cj];try exact cz)
  ·have eH : ∀ o:List (List D),ig 1 16 (.slice .full 0 []) (.slice .shared 1 (nx.map encStr)) ⟨o,[]⟩=some (.slice (.tok 0) 1 (nx.map encStr),⟨o,[some nx.length]⟩):=fun o=>by
    have:nx.length*17≤bJ:=by unfold bJ;omega
    cases nx with
    |nil=>exact absurd rfl Ig
    |cons a r=>simp only[List.length_cons]at this;simp[ig,this]
   have HB:(v.kind != 10)=false∨(v.kind != 10)=true∧(v.name != [])=false:=by
    cases h1:(v.kind != 10)
    ·exact .inl rfl
    ·rw[h1]at rJ;exact .inr ⟨rfl,by simpa using rJ⟩
   rcases HB with b1|⟨b1,b2⟩
   ·rcases Bool.eq_false_or_eq_true (v.name != [])with b2 | b2
    all_goals
     have b3:(v.name == []) = !(v.name != []):=by simp only[bne,Bool.not_not]
     rw[b2]at b3
     repeat' (first
 |simp only[go_sem,hD,hY,hZ,gA,b1,b2,b3,Bool.not_true,Bool.not_false,eH]
 |(with_reducible refine CU (hx _) ?_)
 | (with_reducible refine aF hQ ?_;simp only [aV,aY,bH,bI,go_sem,hD,hY,hZ,gA];repeat' (first | exact Ok.out | with_reducible refine iQ ?_ ?_ | (simp;done))))
    all_goals
     refine fm 1 1 (br.ind (ι:=List Ar×Nat×List aE×Nat) (fun i=>v.args.drop i.2.1=i.1∧Ar.said i.2.2.1 i.1=R∧i.2.2.1.length+Ar.bc i.1≤2000000∧i.2.2.2=i.2.2.1.length) (fun i=>i.1.length)
      (fun i=> [(3, .slice (.tok 0) 1 (i.2.2.1.map encStr)),(1, .ptr 0 0),(25, .slice .shared 6 (v.args.map ek)),(26, .int .i64 (v.args.length:Int)),(27, .int .i64 (i.2.1:Int))]) (fun i=>⟨[bm v],[some i.2.2.2]⟩) ?_ (v.args,0,nx,_) ⟨rfl,hG,by simp at Lz ⊢;omega,by simp⟩)
     rintro⟨rest,k,out,n'⟩ ⟨h1,h2,h3,h4⟩ IH
     dsimp only at h1 h2 h3 h4
     subst h4
     cases rest with
     |nil=>
      have hD:=drop_nil h1
      simp only[Ar.said]at h2
      subst h2
      repeat' (first
 |simp only[go_sem,hD,hY,hZ,gA]
 |(with_reducible refine aF hQ ?_;exact bk))
     | cons a rest=>
      obtain⟨hY,g2,hD,g4⟩:=drop_cons h1
      have cj:k<4611686018427387904:=by omega
      simp only[Ar.said]at h2
      simp only[Ar.bc]at h3
      have wz:=fun s=>ng (x:=a.x) (by have:=Ar.dr (List.mem_of_getElem? hY);omega) (td a (List.mem_of_getElem? hY)) s
      have hl:=kY a.x
      have hZ:(out.length+1)*17≤bJ:=by unfold bJ;omega
      rcases Bool.eq_false_or_eq_true a.ref with b1|b1
      ·simp only [b1,if_true]at h2
       have eH:=kA (l:=out++ [a.name]) (nx:=a.x.names) (n:=out.length+1) (by simp) (by simp;omega) (g:= .shared)
       simp only[List.map_append,List.map_cons,List.map_nil,encStr]at eH
       repeat' (first
 |simp only[go_sem,hD,hY,hZ,gA,b1,eH]
 |(with_reducible refine CU (wz _) ?_)
 |(with_reducible refine aF hQ ?_;exact bk))
       refine fp 1 1 ?_ ?_ (IH (rest,k+1,out++ [a.name]++a.x.names,_) ⟨g2,h2,by simp;omega,by simp<;>omega⟩ (Nat.lt_succ_self _))
       ·(simp only[go_sem,hD,hY,hZ,gA,aM cj,List.map_append,List.map_cons,List.map_nil,encStr];try exact cz)
       ·(simp only[go_sem,hD,hY,hZ,gA,aM cj,List.map_append,List.map_cons,List.map_nil,encStr];try exact cz)
      ·simp only [b1,Bool.false_eq_true,if_false]at h2
       have eH:=kA (l:=out) (nx:=a.x.names) rfl (by omega) (g:= .shared)
       repeat' (first
 |simp only[go_sem,hD,hY,hZ,gA,b1,eH]
 |(with_reducible refine CU (wz _) ?_)
 | (with_reducible refine aF hQ ?_;exact bk))
       refine fp 1 1 ?_ ?_ (IH (rest,k+1,out++a.x.names,_) ⟨g2,h2,by simp;omega,by simp<;>omega⟩ (Nat.lt_succ_self _))
       ·(simp only[go_sem,hD,hY,hZ,gA,aM cj];try exact cz)
       ·(simp only[go_sem,hD,hY,hZ,gA,aM cj];try exact cz)
   ·have b3:(v.name == [])=true:=by simpa using b2
    repeat' (first
 |simp only[go_sem,hD,hY,hZ,gA,b1,b2,b3,eH]
 |(with_reducible refine CU (hx _) ?_)
 | (with_reducible refine aF hQ ?_;exact bk))
    refine fm 1 1 (br.ind (ι:=List Ar×Nat×List aE×Nat) (fun i=>v.args.drop i.2.1=i.1∧Ar.said i.2.2.1 i.1=R∧i.2.2.1.length+Ar.bc i.1≤2000000∧i.2.2.2=i.2.2.1.length) (fun i=>i.1.length)
     (fun i=> [(3, .slice (.tok 0) 1 (i.2.2.1.map encStr)),(1, .ptr 0 0),(25, .slice .shared 6 (v.args.map ek)),(26, .int .i64 (v.args.length:Int)),(27, .int .i64 (i.2.1:Int))]) (fun i=>⟨[bm v],[some i.2.2.2]⟩) ?_ (v.args,0,nx,_) ⟨rfl,hG,by simp at Lz ⊢;omega,by simp⟩)
    rintro⟨rest,k,out,n'⟩ ⟨h1,h2,h3,h4⟩ IH
    dsimp only at h1 h2 h3 h4
    subst h4
    cases rest with
    |nil=>
     have hD:=drop_nil h1
     simp only[Ar.said]at h2
     subst h2
     repeat' (first
 |simp only[go_sem,hD,hY,hZ,gA]
 | (with_reducible refine aF hQ ?_;exact bk))
    | cons a rest=>
     obtain⟨hY,g2,hD,g4⟩:=drop_cons h1
     have cj:k<4611686018427387904:=by omega
     simp only[Ar.said]at h2
     simp only[Ar.bc]at h3
     have wz:=fun s=>ng (x:=a.x) (by have:=Ar.dr (List.mem_of_getElem? hY);omega) (td a (List.mem_of_getElem? hY)) s
     have hl:=kY a.x
     have hZ:(out.length+1)*17≤bJ:=by unfold bJ;omega
     rcases Bool.eq_false_or_eq_true a.ref with b1|b1
     ·simp only [b1,if_true]at h2
      have eH:=kA (l:=out++ [a.name]) (nx:=a.x.names) (n:=out.length+1) (by simp) (by simp;omega) (g:= .shared)
      simp only[List.map_append,List.map_cons,List.map_nil,encStr]at eH
      repeat' (first
 |simp only[go_sem,hD,hY,hZ,gA,b1,eH]
 |(with_reducible refine CU (wz _) ?_)
 |(with_reducible refine aF hQ ?_;exact bk))
      refine fp 1 1 ?_ ?_ (IH (rest,k+1,out++ [a.name]++a.x.names,_) ⟨g2,h2,by simp;omega,by simp<;>omega⟩ (Nat.lt_succ_self _))
      ·(simp only[go_sem,hD,hY,hZ,gA,aM cj,List.map_append,List.map_cons,List.map_nil,encStr];try exact cz)
      ·(simp only[go_sem,hD,hY,hZ,gA,aM cj,List.map_append,List.map_cons,List.map_nil,encStr];try exact cz)
     ·simp only [b1,Bool.false_eq_true,if_false]at h2
      have eH:=kA (l:=out) (nx:=a.x.names) rfl (by omega) (g:= .shared)
      repeat' (first
 |simp only[go_sem,hD,hY,hZ,gA,b1,eH]
 |(with_reducible refine CU (wz _) ?_)
 |(with_reducible refine aF hQ ?_;exact bk))
      refine fp 1 1 ?_ ?_ (IH (rest,k+1,out++a.x.names,_) ⟨g2,h2,by simp;omega,by simp<;>omega⟩ (Nat.lt_succ_self _))
      ·(simp only[go_sem,hD,hY,hZ,gA,aM cj];try exact cz)
      ·(simp only[go_sem,hD,hY,hZ,gA,aM cj];try exact cz)
theorem kP : ∀ (a b:List It) (n:Nat),It.fI n (a++b)=(It.fI n a && It.fI (n+a.length) b)
 | [],b,n=>by simp[It.fI]
 |i::a,b,n=>by
  simp only[List.cons_append,It.fI,kP a b (n+1),List.length_cons]
  have:n+1+a.length=n+(a.length+1):=by omega
  rw[this]
  split<;>simp
theorem Ev (n:Nat) (i:It):It.fI n [i] = true↔i.s.id=((n+1:Nat):Int)∧i.deep≤12∧i.s.one=true:=by
 simp only[It.fI]
 split
 ·rename_i h
  simp only[Bool.or_eq_true,bne_iff_ne,ne_eq,decide_eq_true_eq,Bool.not_eq_true']at h
  refine⟨fun h=>(Bool.false_ne_true h).elim,fun⟨h1,h2,h3⟩=>?_⟩
  rcases h with (h|h)|h
  ·exact(h h1).elim
  ·omega
  ·rw[h]at h3;cases h3
 ·rename_i h
  simp only[Bool.or_eq_true,bne_iff_ne,ne_eq,decide_eq_true_eq,Bool.not_eq_true',not_or,Decidable.not_not,Bool.not_eq_false]at h
  exact⟨fun _=>⟨h.1.1,by omega,h.2⟩,fun _=>rfl⟩
mutual
theorem Bg (deep dg:Int) (aX:Bool) : ∀ (s:Sm) (out:List It),∃ new,j9 deep dg aX out s=out++(⟨s,deep,dg,aX⟩::new)
 | ⟨id,kind,labels,name,proc,x,has,args,a7,e⟩,out=>by
  simp only[j9]
  split
  ·obtain⟨n1,h1⟩:=qA (deep+1) id false a7 (out++ [⟨⟨id,kind,labels,name,proc,x,has,args,a7,e⟩,deep,dg,aX⟩])
   obtain⟨n2,h2⟩:=qA (deep+1) id true e (fK (deep+1) id false (out++ [⟨⟨id,kind,labels,name,proc,x,has,args,a7,e⟩,deep,dg,aX⟩]) a7)
   rw[h2,h1]
   exact⟨n1++n2,by simp⟩
  ·exact⟨[],rfl⟩
theorem qA (deep dg:Int) (aX:Bool) : ∀ (l:List Sm) (out:List It),∃ new,fK deep dg aX out l=out++new
 | [],out=>⟨[],by simp[fK]⟩
 | s::l,out=>by
  simp only[fK]
  split
  ·obtain⟨n1,h1⟩:=Bg deep dg aX s out
   obtain⟨n2,h2⟩:=qA deep dg aX l (j9 deep dg aX out s)
   rw[h2,h1]
   exact⟨⟨s,deep,dg,aX⟩::n1++n2,by simp⟩
  ·exact⟨[],by simp⟩
end
theorem Gs {nest:Int} {n:Nat} {s:Sm} (h:(Sm.pN nest n s).1=true) :
 n+1≤200∧s.id=((n+1:Nat):Int)∧s.one=true∧(Sm.gi (nest+1) (n+1) s.a7).1=true∧(Sm.gi (nest+1) (Sm.gi (nest+1) (n+1) s.a7).2 s.aX).1=true∧
 (Sm.pN nest n s).2=(Sm.gi (nest+1) (Sm.gi (nest+1) (n+1) s.a7).2 s.aX).2:=by
 rw[Fz]at h ⊢
 split at h
 ·cases h
 rename_i h1
 simp only[Bool.or_eq_true,bne_iff_ne,ne_eq,decide_eq_true_eq,Bool.not_eq_true',not_or,Decidable.not_not,Bool.not_eq_false]at h1
 split at h
 ·cases h
 rename_i h2
 have uj:(Sm.gi (nest+1) (n+1) s.a7).1=true:=by simpa using h2
 refine⟨by omega,h1.1.1.2, ?_,uj,h, ?_⟩
 ·rw[Eu,h1.1.2,h1.2];rfl
 ·rw[if_neg (by simp only[Bool.or_eq_true,bne_iff_ne,ne_eq,decide_eq_true_eq,Bool.not_eq_true',not_or,Decidable.not_not,Bool.not_eq_false];exact h1),if_neg h2]
theorem tf {nest:Int} {n:Nat} {l:List Sm} (h:(Sm.gi nest n l).1=true):(l = []∨nest≤12)∧Sm.gi nest n l=Sm.fb nest n l:=by
 unfold Sm.gi gate at *
 split at h
 ·cases h
 ·rename_i hc
  rw[if_neg hc]
  refine⟨?_,rfl⟩
  simp only[Bool.and_eq_true,decide_eq_true_eq,not_and]at hc
  cases l with
  |nil=>exact .inl rfl
  |cons s l=>right;simp only[List.length_cons]at hc;omega
mutual
theorem Rn : ∀ (s:Sm) (nest dg:Int) (aX:Bool) (n:Nat) (out:List It),nest≤12→out.length≤n→n≤200→(Sm.pN nest n s).1=true→
 ∃ new,j9 nest dg aX out s=out++new∧It.fI n new=true∧n+new.length=(Sm.pN nest n s).2∧(Sm.pN nest n s).2≤200
 | ⟨id,kind,labels,name,proc,x,has,args,a7,e⟩,nest,dg,aX,n,out,Ro,ho,hn,h=>by
  obtain⟨h1,h2,h3,h4,h5,h6⟩:=Gs h
  dsimp only at h2 h4 h5 h6
  rw[h6]
  obtain⟨g1,e1⟩:=tf h4
  rw[e1]at h4 h5 ⊢
  obtain⟨g2,e2⟩:=tf h5
  rw[e2]at h5 ⊢
  have pG:It.fI n [(⟨⟨id,kind,labels,name,proc,x,has,args,a7,e⟩,nest,dg,aX⟩:It)] = true:=(Ev _ _).2 ⟨h2,Ro,h3⟩
  obtain⟨n1,k1,k2,k3,k4⟩:=wA a7 (nest+1) id false (n+1) (out++ [⟨⟨id,kind,labels,name,proc,x,has,args,a7,e⟩,nest,dg,aX⟩]) g1 (by simp;omega) h1 h4
  obtain⟨n2,j1,j2,j3,j4⟩:=wA e (nest+1) id true _ (out++ [⟨⟨id,kind,labels,name,proc,x,has,args,a7,e⟩,nest,dg,aX⟩]++n1) g2 (by simp;omega) k4 h5
  simp only[j9]
  rw[if_pos (by simpa using Ro),k1,j1]
  refine⟨⟨⟨id,kind,labels,name,proc,x,has,args,a7,e⟩,nest,dg,aX⟩::(n1++n2),by simp, ?_, ?_,j4⟩
  ·have:(⟨⟨id,kind,labels,name,proc,x,has,args,a7,e⟩,nest,dg,aX⟩:It)::(n1++n2) = [⟨⟨id,kind,labels,name,proc,x,has,args,a7,e⟩,nest,dg,aX⟩]++n1++n2:=by simp
   rw[this,kP,kP,pG,Bool.true_and]
   have e3:n+([(⟨⟨id,kind,labels,name,proc,x,has,args,a7,e⟩,nest,dg,aX⟩:It)]++n1).length=(Sm.fb (nest+1) (n+1) a7).2:=by simp;omega
   rw[e3,j2]
   have e4:n + [(⟨⟨id,kind,labels,name,proc,x,has,args,a7,e⟩,nest,dg,aX⟩:It)].length=n+1:=rfl
   rw[e4,k2];rfl
  ·simp only[List.length_cons,List.length_append];omega
theorem wA : ∀ (l:List Sm) (nest dg:Int) (aX:Bool) (n:Nat) (out:List It),(l = []∨nest≤12)→out.length≤n→n≤200→(Sm.fb nest n l).1=true→
 ∃ new,fK nest dg aX out l=out++new∧It.fI n new=true∧n+new.length=(Sm.fb nest n l).2∧(Sm.fb nest n l).2≤200
 | [],nest,dg,aX,n,out,Ro,ho,hn,h=>⟨[],by simp[fK],rfl,by simp[Sm.fb],by simpa[Sm.fb]using hn⟩
 |s::l,nest,dg,aX,n,out,Ro,ho,hn,h=>by
  have acv:nest≤12:=Ro.resolve_left (by simp)
  simp only[Sm.fb]at h ⊢
  split at h
  ·cases h
  rename_i hc
  rw[if_neg hc]
  obtain⟨n1,k1,k2,k3,k4⟩:=Rn s nest dg aX n out acv ho hn (by simpa using hc)
  obtain⟨n2,j1,j2,j3,j4⟩:=wA l nest dg aX _ (out++n1) (.inr acv) (by simp;omega) k4 h
  simp only[fK]
  rw[if_pos (by simp only[decide_eq_true_eq];omega),k1,j1]
  refine⟨n1++n2,by simp, ?_,by simp;omega,j4⟩
  rw[kP,k2,k3,j2];rfl
end
mutual
theorem Rp : ∀ (s:Sm) (nest dg:Int) (aX:Bool) (n:Nat) (out new:List It),j9 nest dg aX out s=out++new→It.fI n new=true→out.length≤n→n+new.length≤200→
 Sm.pN nest n s=(true,n+new.length)∧nest≤12
 | ⟨id,kind,labels,name,proc,x,has,args,a7,e⟩,nest,dg,aX,n,out,new,iz,hm,ho,hn=>by
  obtain⟨n0,h0⟩:=Bg nest dg aX ⟨id,kind,labels,name,proc,x,has,args,a7,e⟩ out
  have e0:new = ⟨⟨id,kind,labels,name,proc,x,has,args,a7,e⟩,nest,dg,aX⟩::n0:=List.append_cancel_left (iz.symm.trans h0)
  subst e0
  have agE:(⟨⟨id,kind,labels,name,proc,x,has,args,a7,e⟩,nest,dg,aX⟩:It)::n0 = [⟨⟨id,kind,labels,name,proc,x,has,args,a7,e⟩,nest,dg,aX⟩]++n0:=rfl
  rw[agE,kP,Bool.and_eq_true]at hm
  obtain⟨ni,jv⟩:=hm
  obtain⟨c1,c2,c3⟩:=(Ev _ _).1 ni
  dsimp only at c1 c2 c3
  simp only[List.length_cons]at hn ⊢
  have UK:fK (nest+1) id true (fK (nest+1) id false (out++ [⟨⟨id,kind,labels,name,proc,x,has,args,a7,e⟩,nest,dg,aX⟩]) a7) e=out++([⟨⟨id,kind,labels,name,proc,x,has,args,a7,e⟩,nest,dg,aX⟩]++n0):=by
   simp only[j9]at iz
   rw[if_pos (by simpa using c2)]at iz
   exact iz
  obtain⟨n1,g1⟩:=qA (nest+1) id false a7 (out++ [⟨⟨id,kind,labels,name,proc,x,has,args,a7,e⟩,nest,dg,aX⟩])
  obtain⟨n2,g2⟩:=qA (nest+1) id true e (fK (nest+1) id false (out++ [⟨⟨id,kind,labels,name,proc,x,has,args,a7,e⟩,nest,dg,aX⟩]) a7)
  have en:n0=n1++n2:=by
   rw[g2,g1]at UK
   simp only[List.append_assoc,List.append_cancel_left_eq]at UK
   exact UK.symm
  subst en
  have UL:It.fI (n+1) (n1++n2)=true:=jv
  rw[kP,Bool.and_eq_true]at UL
  simp only[List.length_append]at hn ⊢
  obtain⟨r1,r2⟩:=wB a7 (nest+1) id false (n+1) _ n1 g1 UL.1 (by simp;omega) (by omega)
  obtain⟨q1,q2⟩:=wB e (nest+1) id true (n+1+n1.length) _ n2 g2 UL.2 (by rw[g1];simp;omega) (by omega)
  refine⟨?_,c2⟩
  have gg : ∀ {l:List Sm} {m:Nat} {r:Bool×Nat},Sm.fb (nest+1) m l=r→(l = []∨nest+1≤12)→Sm.gi (nest+1) m l=r:=by
   intro l m r h1 h2
   unfold Sm.gi gate
   rw[if_neg]
   ·exact h1
   ·simp only [Bool.and_eq_true,decide_eq_true_eq,not_and]
    rcases h2 with h2|h2
    ·subst h2;simp
    ·omega
  have t1:=gg r1 r2
  have t2:=gg q1 q2
  rw[Fz]
  dsimp only
  rw[t1]
  dsimp only
  rw[t2]
  rw[Eu,Bool.and_eq_true]at c3
  rw[if_neg]
  ·simp;omega
  ·simp only [Bool.or_eq_true,bne_iff_ne,ne_eq,decide_eq_true_eq,Bool.not_eq_true',not_or,Decidable.not_not,Bool.not_eq_false]
   exact⟨⟨⟨by omega,c1⟩,c3.1⟩,c3.2⟩
theorem wB : ∀ (l:List Sm) (nest dg:Int) (aX:Bool) (n:Nat) (out new:List It),fK nest dg aX out l=out++new→It.fI n new=true→out.length≤n→n+new.length≤200→
 Sm.fb nest n l=(true,n+new.length)∧(l = []∨nest≤12)
 | [],nest,dg,aX,n,out,new,iz,hm,ho,hn=>by
  simp only[fK]at iz
  have:new = []:=by simpa using iz
  subst this
  exact⟨by simp[Sm.fb], .inl rfl⟩
 | s::l,nest,dg,aX,n,out,new,iz,hm,ho,hn=>by
  simp only[fK]at iz
  rw[if_pos (by simp only[decide_eq_true_eq];omega)]at iz
  obtain⟨n1,g1⟩:=Bg nest dg aX s out
  obtain⟨n2,g2⟩:=qA nest dg aX l (j9 nest dg aX out s)
  have en:new=(⟨s,nest,dg,aX⟩::n1)++n2:=by
   rw[g2,g1,List.append_assoc,List.append_cancel_left_eq]at iz
   exact iz.symm
  subst en
  rw[kP,Bool.and_eq_true]at hm
  rw[List.length_append]at hn ⊢
  obtain⟨r1,r2⟩:=Rp s nest dg aX n out _ g1 hm.1 ho (by omega)
  obtain⟨q1,q2⟩:=wB l nest dg aX (n+(⟨s,nest,dg,aX⟩::n1:List It).length) _ n2 g2 hm.2 (by rw[g1,List.length_append];omega) (by omega)
  refine⟨?_, .inr r2⟩
  simp only[Sm.fb,r1,Bool.not_true,Bool.false_eq_true,↓reduceIte,q1]
  congr 1;omega
end
theorem Bh : ∀ (l:List Pc) (out:List It),out.length≤200→(Pc.fb out.length l=true↔Pc.nR l=true∧∃ new,allM out l=out++new∧(out++new).length≤200∧It.fI out.length new=true)
 | [],out,ho=>by simp[Pc.fb,Pc.nR,allM,It.fI];exact ho
 | f::l,out,ho=>by
  have pO : ∀ (l:List Pc) (out:List It),∃ new,allM out l=out++new:=by
   intro l
   induction l with
   |nil=>intro out;exact⟨[],by simp[allM]⟩
   | cons f l ih=>
    intro out
    simp only[allM]
    split
    ·exact⟨_,rfl⟩
    ·obtain⟨n1,h1⟩:=ih (out++f.flat)
     exact⟨f.flat++n1,by rw[h1,List.append_assoc]⟩
  simp only[Pc.fb,Pc.nR]
  have agF:(decide ((f.params.length:Int) > 8) ||decide ((f.vars.length:Int) > 16) || !(isName f.name) || !(eY f.vars) || !(eY f.fin))=(!(isName f.name) ||decide ((f.params.length:Int) > 8) ||decide ((f.vars.length:Int) > 16) || !(eY f.vars) || !(eY f.fin)):=by
   cases isName f.name<;>simp
  rw[agF]
  split
  ·simp
  split
  ·simp
  have hg:Sm.gi 1 out.length f.body=Sm.fb 1 out.length f.body:=by unfold Sm.gi gate;rw[if_neg (by simp)]
  rw[hg]
  constructor
  ·intro h
   split at h
   ·cases h
   rename_i hc
   obtain⟨n1,k1,k2,k3,k4⟩:=wA f.body 1 0 false out.length [] (.inr (by omega)) (by simp) ho (by simpa using hc)
   have iz:f.flat=n1:=by unfold Pc.flat;rw[k1];rfl
   rw[← k3, ← List.length_append]at h
   obtain⟨hh,n2,j1,j2,j3⟩:=(Bh l (out++n1) (by rw[List.length_append];omega)).1 h
   refine⟨hh,n1++n2, ?_,by simpa using j2, ?_⟩
   ·simp only [allM,iz]
    rw[if_neg (by simp only[List.length_append,decide_eq_true_eq];omega),j1,List.append_assoc]
   ·rw[kP,k2, ← List.length_append,j3];rfl
  ·rintro⟨hh,new,j1,j2,j3⟩
   simp only[allM]at j1
   split at j1
   ·rename_i hc
    have:new=f.flat:=(List.append_cancel_left j1).symm
    subst this
    simp only[decide_eq_true_eq]at hc
    omega
   rename_i hc
   simp only[decide_eq_true_eq]at hc
   obtain⟨n2,g2⟩:=pO l (out++f.flat)
   have en:new=f.flat++n2:=by
    rw[g2,List.append_assoc]at j1
    exact(List.append_cancel_left j1).symm
   subst en
   rw[kP,Bool.and_eq_true]at j3
   rw[List.length_append,List.length_append]at j2
   obtain⟨r1,_⟩:=wB f.body 1 0 false out.length [] f.flat (by unfold Pc.flat;rfl) j3.1 (by simp) (by omega)
   rw[r1]
   simp only[Bool.not_true,Bool.false_eq_true,↓reduceIte]
   rw[← List.length_append]
   exact(Bh l (out++f.flat) (by rw[List.length_append];omega)).2 ⟨hh,n2,g2,by simp;omega,by rw[List.length_append];exact j3.2⟩
theorem B1 (p:Pg):p.FB=p.may:=by
 have h:=Bh p.procs [] (by simp)
 unfold Pg.FB Pg.may
 split
 ·rfl
 ·have e:Pc.fb 0 p.procs=(if !(Pc.nR p.procs)then false else if decide ((p.all.length:Int) > 200)then false else It.fI 0 p.all):=by
   rw[Bool.eq_iff_iff]
   have h':Pc.fb 0 p.procs=true↔_:=h
   rw[h']
   have ha:p.all=allM [] p.procs:=rfl
   constructor
   ·rintro⟨h1,new,h2,h3,h4⟩
    rw[ha,h2,h1]
    simp only[List.nil_append]at h3 ⊢
    simp only[Bool.not_true,Bool.false_eq_true,↓reduceIte]
    rw[if_neg (by simp only[decide_eq_true_eq];omega)]
    exact h4
   ·intro h1
    cases hh:Pc.nR p.procs
    ·rw[hh]at h1;simp at h1
    ·rw [hh]at h1
     simp only[Bool.not_true,Bool.false_eq_true,↓reduceIte]at h1
     split at h1
     ·cases h1
     ·rename_i hc
      simp only[decide_eq_true_eq]at hc
      exact⟨rfl,p.all,by rw[ha];rfl,by simp;omega,h1⟩
  exact e
def amz (x:aE):List aE→Bool
 | []=>false
 |s::l=>if x==s then true else amz x l
def p7 (pre:List aE):List aE→Bool
 | []=>false
 |s::l=>if fj pre s then true else p7 (pre++ [s]) l
def fz (l:List aE):Bool:=p7 [] l
theorem Rq {l:List aE} {k:Nat} {a:aE} (h:l[k]? = some a):l.take (k+1)=l.take k++ [a]:=by rw[List.take_add_one,h];rfl
theorem Dn {l:List aE} (hl:l.length<4611686018427387904) (g:Tag) (s:St):aG Tryz.prog n9 [.slice g 1 (l.map encStr)] s (.bool (fz l)) s:=by
 refine aG.Xa (d':= .slice .shared 1 (l.map encStr)) ?_ (Wk.shared _ _ _)
 refine aG.pure ?_ (by simp[D.bL,D.ok,Tag.ok,eU]) rfl s
 generalize h:fz l=p
 simp only[fz]at h
 unfold S0
 refine aG.go Ef rfl fun B Q hB hQ=>?_
 have⟨hD,hY,hZ,gA⟩:=bX
 repeat' (first
 |simp only[go_sem,hD,hY,hZ,gA]
 |(with_reducible first|refine bt fun hc=>?_|refine bu fun hc=>?_|refine bx (fun hc=>?_) fun hc=>?_)<;>(try simp only[hc,bs,↓reduceIte]at h)<;>try simp only[hc]
 |(with_reducible refine aF hQ ?_;exact fX))
 refine fm 0 0 (br.ind (ι:=List aE×Nat) (fun i=>l.drop i.2=i.1∧p7 (l.take i.2) i.1=p) (fun i=>i.1.length)
  (fun i=> [(0, .slice .shared 1 (l.map encStr)),(5, .slice .shared 1 (l.map encStr)),(6, .int .i64 (l.length:Int)),(7, .int .i64 (i.2:Int))]) (fun i=>⟨[],[]⟩) ?_ (l,0) ⟨rfl,h⟩)
 rintro⟨rest,k⟩ ⟨h1,h⟩ IH
 dsimp only at h1 h
 cases rest with
 |nil=>
  have hD:=drop_nil h1
  simp only[p7]at h
  repeat' (first
 |simp only[go_sem,hD,hY,hZ,gA]
 |(with_reducible first|refine bt fun hc=>?_|refine bu fun hc=>?_|refine bx (fun hc=>?_) fun hc=>?_)<;>(try simp only[hc,bs,↓reduceIte]at h)<;>try simp only[hc]
 |(with_reducible refine aF hQ ?_;exact fX))
 |cons a rest=>
  obtain⟨hY,g2,hD,g4⟩:=drop_cons h1
  have cj:k<4611686018427387904:=by omega
  simp only[p7]at h
  have hc:=ju (l:=l.take k) (by rw[List.length_take];omega) a
  have e1:List.drop 0 (List.take k (l.map encStr))=(l.take k).map encStr:=by simp[List.map_take]
  have c1:((0:Int)≤(k:Int))=True:=by simp
  have c2:((k:Int)≤(l.length:Int))=True:=by simp only[eq_iff_iff,iff_true];omega
  have e2:List.take k (l.map encStr)=(l.take k).map encStr:=by simp[List.map_take]
  repeat' (first
 |simp only[go_sem,hD,hY,hZ,gA,e1,e2,c1,c2,or_true,true_and,and_self,ite_self,Int.toNat_natCast,List.drop_zero]
 |(with_reducible refine CU (hc _ _) ?_)
 |(with_reducible first|refine bt fun hc=>?_|refine bu fun hc=>?_|refine bx (fun hc=>?_) fun hc=>?_)<;>(try simp only[hc,bs,↓reduceIte]at h)<;>try simp only[hc]
 |(with_reducible refine aF hQ ?_;(try cases h);simp only[aV,aY,bH,bI,go_sem,hD,hY,hZ,gA,e1,e2,c1,c2,or_true,true_and,and_self,ite_self,Int.toNat_natCast,List.drop_zero];try exact cr))
  refine fp 0 0 ?_ ?_ (IH (rest,k+1) ⟨g2,by dsimp only;rw[Rq (by assumption)];exact h⟩ (Nat.lt_succ_self _))
  ·(simp only[go_sem,hD,hY,hZ,gA,aM cj];try exact cz)
  ·(simp only[go_sem,hD,hY,hZ,gA,aM cj];try exact cz)
def wC (vars globals:List aE) (name:aE):List Pm→Int
 | []=>if fj vars name then 4 else if fj globals name then 1 else 0
 |a::l=>if a.name==name then(if a.ref then 3 else 2)else wC vars globals name l
def Pc.lk (p:Pg) (f:Pc) (name:aE):Int:=wC f.vars p.globals name f.params
theorem Jm {p:Pg} {f:Pc} (hp:f.params.length<1000000000) (hv:f.vars.length<1000000000) (hg:p.globals.length<1000000000) (name:aE) (s:St):aG Tryz.prog vk [.agg (cB p), .agg (cf f), .str name] s (.int .i64 (f.lk p name)) s:=by
 refine aG.pure ?_ (by simp[D.bL,D.ok,ki,yN]) rfl s
 have rL:=ju (l:=f.vars) (by omega) name
 have uj:=ju (l:=p.globals) (by omega) name
 generalize h:f.lk p name=q
 simp only[Pc.lk]at h
 unfold S0
 refine aG.go Fs rfl fun B Q hB hQ=>?_
 have⟨hD,hY,hZ,gA⟩:=bX
 repeat' (first
 |simp only[go_sem,hD,hY,hZ,gA]
 |(with_reducible refine aF hQ ?_;exact bk))
 refine fm 2 0 (br.ind (ι:=List Pm×Nat) (fun i=>f.params.drop i.2=i.1∧wC f.vars p.globals name i.1=q) (fun i=>i.1.length)
  (fun i=> [(2, .str name),(3, .ptr 0 0),(4, .ptr 1 0),(10, .slice .shared 2 (f.params.map iB)),(11, .int .i64 (f.params.length:Int)),(12, .int .i64 (i.2:Int))]) (fun i=>⟨[cB p,cf f],[]⟩) ?_ (f.params,0) ⟨rfl,h⟩)
 rintro⟨rest,k⟩ ⟨h1,h⟩ IH
 dsimp only at h1 h
 cases rest with
 | nil=>
  have hD:=drop_nil h1
  simp only[wC]at h
  rcases Bool.eq_false_or_eq_true (fj f.vars name)with b1|b1
  ·simp only [b1,if_true]at h
   subst h
   repeat' (first
 |simp only[go_sem,hD,hY,hZ,gA,b1]
 |(with_reducible refine CU (rL _ _) ?_)
 |(with_reducible refine CU (uj _ _) ?_)
 | (with_reducible refine aF hQ ?_;exact bk))
  ·simp only [b1,Bool.false_eq_true,if_false]at h
   rcases Bool.eq_false_or_eq_true (fj p.globals name)with b2|b2
   ·simp only [b2,if_true]at h
    subst h
    repeat' (first
 |simp only[go_sem,hD,hY,hZ,gA,b1,b2]
 |(with_reducible refine CU (rL _ _) ?_)
 |(with_reducible refine CU (uj _ _) ?_)
 | (with_reducible refine aF hQ ?_;exact bk))
   ·simp only [b2,Bool.false_eq_true,if_false]at h
    subst h
    repeat' (first
 |simp only[go_sem,hD,hY,hZ,gA,b1,b2]
 |(with_reducible refine CU (rL _ _) ?_)
 |(with_reducible refine CU (uj _ _) ?_)
 |(with_reducible refine aF hQ ?_;exact bk))
 | cons a rest=>
  obtain⟨hY,g2,hD,g4⟩:=drop_cons h1
  have cj:k<4611686018427387904:=by omega
  simp only[wC]at h
  rcases Bool.eq_false_or_eq_true (a.name==name)with b1|b1
  ·simp only [b1,if_true]at h
   rcases Bool.eq_false_or_eq_true a.ref with b2|b2
   ·simp only [b2,if_true]at h
    subst h
    repeat' (first
 |simp only[go_sem,hD,hY,hZ,gA,b1,b2]
 | (with_reducible refine aF hQ ?_;exact bk))
   ·simp only [b2,Bool.false_eq_true,if_false]at h
    subst h
    repeat' (first
 |simp only[go_sem,hD,hY,hZ,gA,b1,b2]
 | (with_reducible refine aF hQ ?_;exact bk))
  ·simp only [b1,Bool.false_eq_true,if_false]at h
   repeat' (first
 |simp only[go_sem,hD,hY,hZ,gA,b1]
 | (with_reducible refine aF hQ ?_;exact bk))
   refine fp 2 0 ?_ ?_ (IH (rest,k+1) ⟨g2,h⟩ (Nat.lt_succ_self _))
   ·(simp only[go_sem,hD,hY,hZ,gA,aM cj];try exact cz)
   ·(simp only[go_sem,hD,hY,hZ,gA,aM cj];try exact cz)
def iM (name:aE):List Pc→Option Pc
 | []=>none
 |f::l=>if f.name==name then some f else iM name l
def Pg.find (p:Pg) (name:aE):Option Pc:=iM name p.procs
def pc0:Pc:=⟨[],[],[],[],[]⟩
def ank (r:Option Pc):D:= .tuple [.agg (cf (r.getD pc0)), .bool r.isSome]
def Pc.ti (f:Pc):List aE:=f.params.map (·.name)
def Pc.own (f:Pc):List aE:=f.ti++f.vars
theorem Xe {f:Pc} (hp:f.params.length<1000000) (hv:f.vars.length<1000000) (s:St):aG Tryz.prog sD [.agg (cf f)] s (.slice .shared 1 (f.own.map encStr)) s:=by
 refine aG.pure ?_ (by simp[D.bL,D.ok,yN]) (by simp only[D.ok,Tag.ok,eU];rfl) s
 generalize hR:f.own=R
 simp only[Pc.own]at hR
 unfold S0
 refine aG.go Hp rfl fun B Q hB hQ=>?_
 have⟨hD,hY,hZ,gA⟩:=bX
 repeat' (first
 |simp only[go_sem,hD,hY,hZ,gA]
 |(with_reducible refine aF hQ ?_;exact bk))
 refine br.w6 3 1 rfl ?_
 simp only[go_sem,hD,hY,hZ,gA]
 refine fm 1 1 (br.ind (ι:=List Pm×Nat×List aE×Nat) (fun i=>f.params.drop i.2.1=i.1∧i.2.2.1++i.1.map (·.name)=f.ti∧i.2.2.2=i.2.2.1.length) (fun i=>i.1.length)
  (fun i=> [(1, .ptr 0 0),(3, .slice (.tok 0) 1 (i.2.2.1.map encStr)),(7, .slice .shared 2 (f.params.map iB)),(8, .int .i64 (f.params.length:Int)),(9, .int .i64 (i.2.1:Int))]) (fun i=>⟨[cf f],[some i.2.2.2]⟩) ?_ (f.params,0,[],0) ⟨rfl,rfl,rfl⟩)
 rintro⟨rest,k,out,n⟩ ⟨h1,h2,h3⟩ IH
 dsimp only at h1 h2 h3
 subst h3
 have hlo:out.length+rest.length<1000000:=by
  have:=congrArg List.length h2
  simp only[List.length_append,List.length_map,Pc.ti]at this
  omega
 cases rest with
 |nil=>
  have hD:=drop_nil h1
  simp only[List.map_nil,List.append_nil]at h2
  subst hR
  rw[← h2]at hQ
  have eH:=kA (l:=out) (nx:=f.vars) rfl (by omega) (g:= .shared)
  repeat' (first
 |simp only[go_sem,hD,hY,hZ,gA,eH]
 |(with_reducible refine aF hQ ?_;exact bk))
 |cons a rest=>
  obtain⟨hY,g2,hD,g4⟩:=drop_cons h1
  have cj:k<4611686018427387904:=by omega
  have hZ:(out.length+1)*17≤bJ:=by unfold bJ;omega
  repeat' (first
 |simp only[go_sem,hD,hY,hZ,gA]
 |(with_reducible refine aF hQ ?_;exact bk))
  refine fp 1 1 ?_ ?_ (IH (rest,k+1,out++ [a.name],out.length+1) ⟨g2,by rw[← h2];simp,by simp⟩ (Nat.lt_succ_self _))
  ·(simp only[go_sem,hD,hY,hZ,gA,aM cj,List.map_append,List.map_cons,List.map_nil,encStr];try exact cz)
  ·(simp only[go_sem,hD,hY,hZ,gA,aM cj,List.map_append,List.map_cons,List.map_nil,encStr];try exact cz)
def iC:aE:= [109,97,105,110]
def Sm.known (p:Pg) (f:Pc) (procs:List aE) (v:Sm):Bool:=
 !(v.said.any fun n=>f.lk p n==0) && (v.kind != 4 ||(v.proc != iC && fj procs v.proc))
structure Pc.Small (p:Pg) (f:Pc):Prop where
 par:f.params.length<1000000
 vars:f.vars.length<1000000
 tW:p.globals.length<1000000
def B2 (p:Pg) (f:Pc):List aE→Bool
 | []=>true
 |n::l=>if f.lk p n==0 then false else B2 p f l
theorem Gt (p:Pg) (f:Pc) : ∀ l,B2 p f l = !(l.any fun n=>f.lk p n==0)
 | []=>rfl
 |n::l=>by
  simp only[B2,List.any_cons,Gt p f l]
  cases (f.lk p n==0)<;>simp
theorem Jn (v:Sm) (h:v.nh):v.said.length<3000000:=by
 have : ∀ (l:List Ar) (out:List aE),(Ar.said out l).length≤out.length+2*Ar.bc l:=by
  intro l
  induction l with
  |nil=>intro out;simp[Ar.said]
  |cons a l ih=>
   intro out
   simp only[Ar.said,Ar.bc]
   refine Nat.le_trans (ih _) ?_
   have:=kY a.x
   have:1≤a.x.size:=by obtain⟨_,_,_,_⟩:=a.x;simp[Ex.size]
   simp only[List.length_append]
   split<;>simp<;>omega
 have h1:=this v.args (v.sF++v.x.names)
 have h2:=kY v.x
 have h3:=h.2.2
 have h4:v.sF.length≤1:=by unfold Sm.sF;split<;>simp
 simp only[List.length_append]at h1
 unfold Sm.said
 omega
theorem YZ {p:Pg} {f:Pc} {procs:List aE} {v:Sm} (hs:f.Small p) (yd:procs.length<1000000) (hv:v.nh) (s:St):aG Tryz.prog qe [.agg (cB p), .agg (cf f), .slice .shared 1 (procs.map encStr), .agg (bm v)] s (.bool (v.known p f procs)) s:=by
 refine aG.pure ?_ (by simp[D.bL,D.ok,ki,yN,qT,Tag.ok,eU]) rfl s
 have hn:=fun s=>Bf hv s
 have hk:=fun n s=>Jm (p:=p) (f:=f) (by have:=hs.par;omega) (by have:=hs.vars;omega) (by have:=hs.tW;omega) n s
 have acw:=ju (l:=procs) (by omega) v.proc
 have hl:=Jn v hv
 generalize h:v.known p f procs=q
 simp only[Sm.known, ← Gt]at h
 unfold S0
 refine aG.go Eg rfl fun B Q hB hQ=>?_
 have⟨hD,hY,hZ,gA⟩:=bX
 repeat' (first
 |simp only[go_sem,hD,hY,hZ,gA]
 |(with_reducible refine CU (hn _) ?_)
 |(with_reducible refine aF hQ ?_;exact bk))
 refine fm 3 0 (br.ind (ι:=List aE×Nat) (fun i=>v.said.drop i.2=i.1∧(B2 p f i.1 && (v.kind != 4 ||(v.proc != iC && fj procs v.proc)))=q) (fun i=>i.1.length)
  (fun i=> [(2, .slice .shared 1 (procs.map encStr)),(4, .ptr 0 0),(5, .ptr 1 0),(7, .ptr 2 0),(12, .slice .shared 1 (v.said.map encStr)),(13, .int .i64 (v.said.length:Int)),(14, .int .i64 (i.2:Int))]) (fun i=>⟨[cB p,cf f,bm v],[]⟩) ?_ (v.said,0) ⟨rfl,h⟩)
 rintro⟨rest,k⟩ ⟨h1,h⟩ IH
 dsimp only at h1 h
 cases rest with
 | nil=>
  have hD:=drop_nil h1
  simp only[B2,Bool.true_and]at h
  rcases Bool.eq_false_or_eq_true (v.kind != 4)with b1|b1
  ·simp only [b1,Bool.true_or]at h
   subst h
   repeat' (first
 |simp only[go_sem,hD,hY,hZ,gA,b1]
 | (with_reducible refine aF hQ ?_;exact bk))
  ·simp only [b1,Bool.false_or]at h
   rcases Bool.eq_false_or_eq_true (v.proc != iC)with b2|b2
   ·simp only [b2,Bool.true_and]at h
    unfold iC at b2
    have b3:(v.proc == [109,97,105,110]) = !(v.proc != [109,97,105,110]):=by simp only[bne,Bool.not_not]
    rw[b2]at b3
    simp only[Bool.not_true,Bool.not_false]at b3
    subst h
    repeat' (first
 |simp only[go_sem,hD,hY,hZ,gA,b1,b2,b3]
 |(with_reducible refine CU (acw _ _) ?_)
 | (with_reducible refine aF hQ ?_;exact bk))
   ·simp only [b2,Bool.false_and]at h
    unfold iC at b2
    have b3:(v.proc == [109,97,105,110]) = !(v.proc != [109,97,105,110]):=by simp only[bne,Bool.not_not]
    rw[b2]at b3
    simp only[Bool.not_true,Bool.not_false]at b3
    subst h
    repeat' (first
 |simp only[go_sem,hD,hY,hZ,gA,b1,b2,b3]
 |(with_reducible refine CU (acw _ _) ?_)
 |(with_reducible refine aF hQ ?_;exact bk))
 | cons a rest=>
  obtain⟨hY,g2,hD,g4⟩:=drop_cons h1
  have cj:k<4611686018427387904:=by omega
  simp only[B2]at h
  rcases Bool.eq_false_or_eq_true (f.lk p a==0)with b1|b1
  ·simp only [b1,if_true,Bool.false_and]at h
   subst h
   repeat' (first
 |simp only[go_sem,hD,hY,hZ,gA,b1]
 |(with_reducible refine CU (hk _ _) ?_)
 | (with_reducible refine aF hQ ?_;exact bk))
  ·simp only [b1,Bool.false_eq_true,if_false]at h
   repeat' (first
 |simp only[go_sem,hD,hY,hZ,gA,b1]
 |(with_reducible refine CU (hk _ _) ?_)
 | (with_reducible refine aF hQ ?_;exact bk))
   refine fp 3 0 ?_ ?_ (IH (rest,k+1) ⟨g2,h⟩ (Nat.lt_succ_self _))
   ·(simp only[go_sem,hD,hY,hZ,gA,aM cj];try exact cz)
   ·(simp only[go_sem,hD,hY,hZ,gA,aM cj];try exact cz)
theorem LA : ∀ (l pre:List aE),p7 pre l=true↔(∃ x∈l,x∈pre)∨¬ l.Nodup
 | [],pre=>by simp[p7]
 | s::l,pre=>by
  simp only[p7]
  by_cases h:fj pre s=true
  ·simp only [h,if_true,true_iff]
   exact .inl ⟨s,List.mem_cons_self,(iX _ _).1 h⟩
  ·have h':s∉pre:=fun m=>h ((iX _ _).2 m)
   simp only[h,if_false,Bool.false_eq_true]
   rw[LA l (pre++ [s])]
   simp only[List.mem_append,List.mem_singleton,List.mem_cons,List.nodup_cons,exists_eq_or_imp]
   constructor
   ·rintro(⟨x,m,h1 | h1⟩ | h1)
    ·exact .inl (.inr ⟨x,m,h1⟩)
    ·have h1:x=s:=by simpa using h1
     subst h1;exact .inr fun h=>h.1 m
    ·exact .inr fun h=>h1 h.2
   ·rintro((h1 | ⟨x,m,h1⟩) | h1)
    ·exact absurd h1 h'
    ·exact .inl ⟨x,m, .inl h1⟩
    ·by_cases m:s∈l
     ·exact .inl ⟨s,m, .inr (.inl rfl)⟩
     ·exact .inr fun h=>h1 ⟨m,h⟩
theorem Gu (l:List aE):fz l=true↔¬ l.Nodup:=by
 unfold fz;rw[LA];simp
theorem Rr (a b:List aE):fz (a++b)=(fz a ||(fz b ||b.any (fj a))):=by
 have h:fz (a++b)=true↔(fz a ||(fz b ||b.any (fj a)))=true:=by
  rw[Gu,List.nodup_append]
  simp only[Bool.or_eq_true,Gu,List.any_eq_true,iX]
  constructor
  ·intro h
   by_cases ha:a.Nodup
   ·by_cases hb:b.Nodup
    ·refine .inr (.inr (Classical.byContradiction fun hn=>h ⟨ha,hb,fun x hx y hy e=>hn ⟨y,hy,e ▸ hx⟩⟩))
    ·exact .inr (.inl hb)
   ·exact .inl ha
  ·rintro(h | h | ⟨x,h1,h2⟩) ⟨h3,h4,h5⟩
   ·exact h h3
   ·exact h h4
   ·exact h5 x h2 x h1 rfl
 cases h1:fz (a++b)<;>cases h2:(fz a ||(fz b ||b.any (fj a)))<;>simp_all
theorem Jo (name:aE) : ∀ (l:List Pc) (k:Nat),(iM name l=none∧iW name (k:Int) (l.map (·.name)) = -1)∨∃ f j,iM name l=some f∧l[j]? = some f∧iW name (k:Int) (l.map (·.name))=((k+j:Nat):Int)
 | [],k=> .inl ⟨rfl,rfl⟩
 | f::l,k=>by
  by_cases h:f.name=name
  ·subst h
   refine .inr ⟨f,0,by simp[iM],rfl,by simp[iW]⟩
  ·have h1:(f.name==name)=false:=by simp [h]
   have h2:(name==f.name)=false:=by simp[Ne.symm h]
   simp only[iM,h1,Bool.false_eq_true,if_false,List.map_cons,iW,h2]
   rcases Jo name l (k+1)with ⟨g1,g2⟩|⟨g,j,g1,g2,g3⟩
   ·exact .inl ⟨g1,by rw[← g2];rfl⟩
   ·refine .inr ⟨g,j+1,g1,by simpa using g2, ?_⟩
    rw[show((k:Int)+1)=((k+1:Nat):Int)from rfl,g3]
    congr 1;omega
theorem sg {name:aE} {f:Pc} : ∀ {l:List Pc},iM name l=some f→f∈l∧f.name=name
 |g::l,h=>by
  simp only[iM]at h
  split at h
  ·rename_i e;cases h;exact⟨List.mem_cons_self,by simpa using e⟩
  ·have:=sg h;exact⟨List.mem_cons_of_mem _ this.1,this.2⟩
mutual
theorem Rs (deep dg:Int) (aX:Bool) (out:List It) : ∀ s:Sm,∃ e,j9 deep dg aX out s=out++e
 | ⟨id,kind,labels,name,proc,x,has,args,a7,e⟩=>by
  simp only[j9]
  split
  ·obtain⟨e1,h1⟩:=tj (deep+1) id false (out++ [⟨⟨id,kind,labels,name,proc,x,has,args,a7,e⟩,deep,dg,aX⟩]) a7
   obtain⟨e2,h2⟩:=tj (deep+1) id true (fK (deep+1) id false (out++ [⟨⟨id,kind,labels,name,proc,x,has,args,a7,e⟩,deep,dg,aX⟩]) a7) e
   rw[h2,h1]
   exact⟨_,by rw[List.append_assoc,List.append_assoc]⟩
  ·exact⟨_,rfl⟩
theorem tj (deep dg:Int) (aX:Bool) (out:List It) : ∀ l:List Sm,∃ e,fK deep dg aX out l=out++e
 | []=>⟨[],by simp[fK]⟩
 | s::l=>by
  simp only[fK]
  split
  ·obtain⟨e1,h1⟩:=Rs deep dg aX out s
   obtain⟨e2,h2⟩:=tj deep dg aX (j9 deep dg aX out s) l
   rw[h2,h1]
   exact⟨_,by rw[List.append_assoc]⟩
  ·exact⟨[],by simp⟩
end
mutual
theorem Rt (deep dg:Int) (aX:Bool) (out:List It) : ∀ s:Sm,(j9 deep dg aX out s).length≤200→(∀ i∈j9 deep dg aX out s,i.deep≤12)→(j9 deep dg aX out s).map It.s=out.map It.s++s.pre
 | ⟨id,kind,labels,name,proc,x,has,args,a7,e⟩,h1,h2=>by
  simp only[j9,Sm.pre]at h1 h2 ⊢
  by_cases hd:deep≤12
  ·simp only [hd,decide_true,if_true]at h1 h2 ⊢
   obtain⟨e2,g2⟩:=tj (deep+1) id true (fK (deep+1) id false (out++ [⟨⟨id,kind,labels,name,proc,x,has,args,a7,e⟩,deep,dg,aX⟩]) a7) e
   have k1:(fK (deep+1) id false (out++ [⟨⟨id,kind,labels,name,proc,x,has,args,a7,e⟩,deep,dg,aX⟩]) a7).length≤200:=by
    rw[g2,List.length_append]at h1;omega
   have k2 : ∀ i∈fK (deep+1) id false (out++ [⟨⟨id,kind,labels,name,proc,x,has,args,a7,e⟩,deep,dg,aX⟩]) a7,i.deep≤12:=fun i m=>h2 i (by rw[g2];exact List.mem_append_left _ m)
   rw[wD (deep+1) id true _ e h1 h2,wD (deep+1) id false _ a7 k1 k2]
   simp
  ·simp only [hd,decide_false,Bool.false_eq_true,if_false]at h1 h2
   exact absurd (h2 _ (List.mem_append_right _ (List.mem_singleton.2 rfl))) (by simpa using hd)
theorem wD (deep dg:Int) (aX:Bool) (out:List It) : ∀ l:List Sm,(fK deep dg aX out l).length≤200→(∀ i∈fK deep dg aX out l,i.deep≤12)→(fK deep dg aX out l).map It.s=out.map It.s++Sm.cU l
 | [],h1,h2=>by simp[fK,Sm.cU]
 | s::l,h1,h2=>by
  simp only[fK,Sm.cU]at h1 h2 ⊢
  by_cases hc:(out.length:Int)≤200
  ·simp only [hc,decide_true,if_true]at h1 h2 ⊢
   obtain⟨e2,g2⟩:=tj deep dg aX (j9 deep dg aX out s) l
   have k1:(j9 deep dg aX out s).length≤200:=by rw[g2,List.length_append]at h1;omega
   have k2 : ∀ i∈j9 deep dg aX out s,i.deep≤12:=fun i m=>h2 i (by rw[g2];exact List.mem_append_left _ m)
   rw[wD deep dg aX _ l h1 h2,Rt deep dg aX out s k1 k2]
   simp
  ·simp only [hc,decide_false,Bool.false_eq_true,if_false]at h1
   omega
end
theorem Jp : ∀ (l:List Pc) (out:List It),(allM out l).length≤200→(∀ i∈allM out l,i.deep≤12)→(∀ f∈l,f.flat.map It.s=Sm.cU f.body)∧(allM out l).map It.s=out.map It.s++(l.map fun f=>Sm.cU f.body).flatten
 | [],out,h1,h2=>⟨fun f m=>(by cases m),by simp[allM]⟩
 | f::l,out,h1,h2=>by
  simp only[allM]at h1 h2 ⊢
  by_cases hc:(((out++f.flat).length:Nat):Int) > 200
  ·simp only[hc,decide_true,if_true]at h1;omega
  ·simp only [hc,decide_false,Bool.false_eq_true,if_false]at h1 h2 ⊢
   obtain⟨k1,k2⟩:=Jp l (out++f.flat) h1 h2
   have pO : ∀ (l:List Pc) (out:List It),∃ e,allM out l=out++e:=by
    intro l
    induction l with
    |nil=>intro out;exact⟨[],by simp[allM]⟩
    |cons g l ih=>
     intro out
     simp only[allM]
     split
     ·exact⟨_,rfl⟩
     ·obtain⟨e,h⟩:=ih (out++g.flat);exact⟨g.flat++e,by rw[h];simp⟩
   obtain⟨e,he⟩:=pO l (out++f.flat)
   have k3:f.flat.map It.s=Sm.cU f.body:=by
    have:=wD 1 0 false [] f.body (by
     have:f.flat.length≤200:=by simp only[List.length_append]at hc;omega
     exact this) (fun i m=>h2 i (by rw[he];exact List.mem_append_left _ (List.mem_append_right _ m)))
    simpa[Pc.flat]using this
   refine⟨fun g m=>?_, ?_⟩
   ·rcases List.mem_cons.1 m with rfl | m
    ·exact k3
    ·exact k1 g m
   ·rw[k2];simp[k3]
theorem Bi : ∀ (l:List It) (n:Nat),It.fI n l=true→(∀ i∈l,i.deep≤12)∧∀ (j:Nat) (i:It),l[j]? = some i→i.s.id=((n+j+1:Nat):Int)
 | [],n,h=>⟨fun i m=>(by cases m),fun j i h=>by simp at h⟩
 | a::l,n,h=>by
  simp only[It.fI]at h
  split at h
  ·cases h
  ·rename_i c
   simp only[Bool.or_eq_true,not_or,bne_iff_ne,ne_eq,Decidable.not_not,decide_eq_true_eq,Int.not_lt,gt_iff_lt]at c
   obtain⟨k1,k2⟩:=Bi l (n+1) h
   refine⟨fun i m=>?_,fun j i hj=>?_⟩
   ·rcases List.mem_cons.1 m with rfl | m
    ·exact c.1.2
    ·exact k1 i m
   ·cases j with
    |zero=>simp at hj;subst hj;rw[c.1.1]
    |succ j=>simp at hj;rw[k2 j i hj];congr 1;omega
theorem FC {p:Pg} (h:p.may=true):p.all.length≤200∧It.fI 0 p.all=true:=by
 unfold Pg.may at h
 split at h
 ·cases h
 ·split at h
  ·cases h
  ·split at h
   ·cases h
   ·rename_i c
    exact⟨by simp only[decide_eq_true_eq,Int.not_lt,gt_iff_lt]at c;omega,h⟩
theorem zc {p:Pg} (h:p.may=true):(∀ f∈p.procs,f.flat.map It.s=Sm.cU f.body)∧p.all.map It.s=p.pre:=by
 obtain⟨h1,h2⟩:=FC h
 have:=Jp p.procs [] h1 (Bi _ 0 h2).1
 simpa[Pg.pre,Pg.all]using this
theorem Bj {p:Pg} (h:p.may=true) {i:Nat} {v:Sm} (hv:p.pre[i]? = some v):v.id=((i+1:Nat):Int):=by
 rw[← (zc h).2,List.getElem?_map,Option.map_eq_some_iff]at hv
 obtain⟨it,h1,rfl⟩:=hv
 have:=(Bi _ 0 (FC h).2).2 i it h1
 rw[this];congr 1;omega
end Go.Abs
