/-
  What is proved here: part 2 of the road to the claim (Codes1, Have1, Codes2, Have2, Codes3, Codes4, Have4, Codes5, Have5, Have3, MirLex, MirMay, Prs, Lex1, Lex2, RefLex1, Prs2, Ref1, Ref2, RefMay2, Flat1, Flat2, Flat3, Sl1, MirFlat2, Sl2, TMay1, TMay2, RefMay3, RefMay4, TMay3, TMay4, MayFine, MayEq, Nm1, Nm2, Nm3).
  No conditions.
-/
import Derived.Test.YtpjadlleefgcpaaGreatRnJ1
import Derived.Test.YtpjadlleefgcpaaGreatProg
import Derived.KernelRfl

set_option linter.unusedSimpArgs false
set_option linter.unusedVariables false
namespace Go.Abs
abbrev Q8C:AC:= .par [.o 15 (.aw cq 1), .o 16 (.load dE false 1), .m 17 dH, .o 18 (.aw dC 1), .o 19 (.load dJ false 1), .m 20 dH, .o 21 (.cu ey eC 5), .o 22 (.aw eB 3), .o 23 (.load eD false 1), .m 24 bu, .c 25 lR [eO,fb], .o 26 (.cu dn dN 5), .o 27 (.aw fD 3), .op none none (.store fM ff 1)] [(3,0),(4,0),(5,0),(6,0),(7,0),(8,0),(9,0),(10,0),(0,0),(1,1),(2,0),(11,0),(12,0),(13,0)]
abbrev Q8H:AC:= .seq (.cond dk .skip (.exit 0)) (.seq (.block 1 (.seq (.run [.m 14 dd, .m 6 da]) Q8C)) (.run [.o 28 (.bin .add dd (.k (.int .i64 1))), .m 12 gp]))
abbrev Q8I:AC:= .seq (.run [.o 13 (.bin .lss dd cR)]) Q8H
abbrev Q8N:AC:= .seq (.run [.o 29 (.load cq true 2), .c 30 wh [gw], .op none none (.store fK gE 2)]) .ret
abbrev Q8O:AC:= .seq (.seq (.run [.o 9 (.aw cq 1), .o 10 (.load dr false 1), .o 11 (.len cj), .o 12 (.mv (.k (.int .i64 0)))]) (.block 0 (.loop Q8I))) Q8N
abbrev Q8Q:AC:= .seq (.run [.o 2 (.box bG), .o 4 (.alloc [(.slice .full 0 []),(.slice .full 0 [])])]) (.seq (.run [.o 7 (.load dC true 2), .c 8 rQ [c6], .o 5 (.alloc [(.slice .full 0 []),(.slice .full 0 [])]), .op none none (.store cq cW 2)]) Q8O)
abbrev Q8U:AC:= .seq (.run [.o 1 (.box bG),(.o 2 (.mv (.k (.val (.complex .f64 0 0)))))]) (.seq (.run [.o 3 (.aw bu 1), .o 4 (.load cL false 1), .o 5 (.sV (.ofInt .f64) fK fK), .o 6 (.aw bu 2), .o 7 (.load dH false 1), .o 8 (.sV (.ofInt .f64) c6 c6), .o 9 (.sV .LO cq cW), .m 2 dr]) .ret)
abbrev Q8W:AC:= .run [(.o 3 (.du [(.str [])] 1 1 [(0,(.k (.str [118])))])), .c 4 tr [(.k (.int .i64 2))],(.o 5 (.build [(.int .i64 0),(.int .i64 0),(.slice .full 0 []),(.str []),(.str []),(.int .i64 0),(.int .i64 0),(.str []),(.slice .full 0 []),(.bool false),(.slice .full 0 []),(.slice .full 0 []),(.slice .full 0 [])] [(0,(1,(.k (.int .i64 1)))),(1,(1,(.k (.int .i64 1)))),(3,(1,(.k (.str [118])))),(5,(4,fK))])), .c 6 tr [(.k (.int .i64 3))], .o 7 (.build [(.bool false),(.str []),(.int .i64 0),(.int .i64 0),(.str []),(.slice .full 0 [])] [(2,(4,dH))]),(.o 8 (.build [(.bool false),(.str []),(.int .i64 0),(.int .i64 0),(.str []),(.slice .full 0 [])] [(0,(1,(.k (.bool true)))),(1,(1,(.k (.str [118]))))])), .o 9 (.du [(.bool false),(.str []),(.int .i64 0),(.int .i64 0),(.str []),(.slice .full 0 [])] 6 2 [(0,c6),(1,cW)]),(.o 10 (.build [(.int .i64 0),(.int .i64 0),(.slice .full 0 []),(.str []),(.str []),(.int .i64 0),(.int .i64 0),(.str []),(.slice .full 0 []),(.bool false),(.slice .full 0 []),(.slice .full 0 []),(.slice .full 0 [])] [(0,(1,(.k (.int .i64 2)))),(1,(1,(.k (.int .i64 4)))),(3,(1,(.k (.str [103])))),(4,(1,(.k (.str [112])))),(10,(1,dr))])),(.c 11 mD [(.k (.str [118]))]),(.o 12 (.build [(.int .i64 0),(.int .i64 0),(.slice .full 0 []),(.str []),(.str []),(.int .i64 0),(.int .i64 0),(.str []),(.slice .full 0 []),(.bool false),(.slice .full 0 []),(.slice .full 0 []),(.slice .full 0 [])] [(0,(1,(.k (.int .i64 3)))),(1,(1,(.k (.int .i64 3)))),(5,(4,cR))])),(.c 13 mD [(.k (.str [103]))]),(.o 14 (.build [(.int .i64 0),(.int .i64 0),(.slice .full 0 []),(.str []),(.str []),(.int .i64 0),(.int .i64 0),(.str []),(.slice .full 0 []),(.bool false),(.slice .full 0 []),(.slice .full 0 []),(.slice .full 0 [])] [(0,(1,(.k (.int .i64 4)))),(1,(1,(.k (.int .i64 3)))),(5,(4,dk))])), .o 15 (.du [(.int .i64 0),(.int .i64 0),(.slice .full 0 []),(.str []),(.str []),(.int .i64 0),(.int .i64 0),(.str []),(.slice .full 0 []),(.bool false),(.slice .full 0 []),(.slice .full 0 []),(.slice .full 0 [])] 13 4 [(0,cq),(1,cj),(2,dd),(3,da)]),(.o 16 (.build [(.str []),(.slice .full 0 []),(.slice .full 0 []),(.slice .full 0 []),(.slice .full 0 [])] [(0,(1,(.k (.str [109,97,105,110])))),(2,(1,cL)),(3,(1,dE))])), .o 1 (.alloc [(.str []),(.slice .full 0 []),(.slice .full 0 []),(.slice .full 0 []),(.slice .full 0 [])]), .op none none (.store bu dn 5)]
abbrev Q8X:AC:= .run [(.o 17 (.build [(.str []),(.bool false)] [(0,(1,(.k (.str [120]))))])),(.o 18 (.build [(.str []),(.bool false)] [(0,(1,(.k (.str [121])))),(1,(1,(.k (.bool true))))])), .o 19 (.du [(.str []),(.bool false)] 2 2 [(0,dN),(1,dJ)]),(.o 20 (.du [(.str [])] 1 1 [(0,(.k (.str [101])))])),(.c 21 mD [(.k (.str [121]))]),(.c 22 mD [(.k (.str [120]))]), .c 23 wW [(.k (.int .i64 8)),eB,eD],(.o 24 (.build [(.int .i64 0),(.int .i64 0),(.slice .full 0 []),(.str []),(.str []),(.int .i64 0),(.int .i64 0),(.str []),(.slice .full 0 []),(.bool false),(.slice .full 0 []),(.slice .full 0 []),(.slice .full 0 [])] [(0,(1,(.k (.int .i64 5)))),(1,(1,(.k (.int .i64 1)))),(3,(1,(.k (.str [121])))),(5,(4,eO))])),(.c 25 mD [(.k (.str [121]))]), .c 26 tr [(.k (.int .i64 9))], .c 27 wW [(.k (.int .i64 12)),ff,fD],(.o 28 (.build [(.int .i64 0),(.int .i64 0),(.slice .full 0 []),(.str []),(.str []),(.int .i64 0),(.int .i64 0),(.str []),(.slice .full 0 []),(.bool false),(.slice .full 0 []),(.slice .full 0 []),(.slice .full 0 [])] [(0,(1,(.k (.int .i64 7)))),(1,(1,(.k (.int .i64 10)))),(3,(1,(.k (.str [101]))))])), .o 29 (.du [(.int .i64 0),(.int .i64 0),(.slice .full 0 []),(.str []),(.str []),(.int .i64 0),(.int .i64 0),(.str []),(.slice .full 0 []),(.bool false),(.slice .full 0 []),(.slice .full 0 []),(.slice .full 0 [])] 13 1 [(0,gp)]),(.o 30 (.build [(.int .i64 0),(.int .i64 0),(.slice .full 0 []),(.str []),(.str []),(.int .i64 0),(.int .i64 0),(.str []),(.slice .full 0 []),(.bool false),(.slice .full 0 []),(.slice .full 0 []),(.slice .full 0 [])] [(0,(1,(.k (.int .i64 6)))),(1,(1,(.k (.int .i64 5)))),(5,(4,fM)),(11,(1,gw))])),(.c 31 mD [(.k (.str [121]))]),(.o 32 (.build [(.int .i64 0),(.int .i64 0),(.slice .full 0 []),(.str []),(.str []),(.int .i64 0),(.int .i64 0),(.str []),(.slice .full 0 []),(.bool false),(.slice .full 0 []),(.slice .full 0 []),(.slice .full 0 [])] [(0,(1,(.k (.int .i64 8)))),(1,(1,(.k (.int .i64 9)))),(9,(1,(.k (.bool true)))),(5,(4,gK))])), .o 33 (.du [(.int .i64 0),(.int .i64 0),(.slice .full 0 []),(.str []),(.str []),(.int .i64 0),(.int .i64 0),(.str []),(.slice .full 0 []),(.bool false),(.slice .full 0 []),(.slice .full 0 []),(.slice .full 0 [])] 13 3 [(0,fb),(1,gE),(2,iu)]),(.o 34 (.build [(.str []),(.slice .full 0 []),(.slice .full 0 []),(.slice .full 0 []),(.slice .full 0 [])] [(0,(1,(.k (.str [112])))),(1,(1,ey)),(4,(1,eC)),(3,(1,ig))])), .o 2 (.alloc [(.str []),(.slice .full 0 []),(.slice .full 0 []),(.slice .full 0 []),(.slice .full 0 [])]), .op none none (.store dC iQ 5)]
abbrev Q8Z:AC:= .seq (.run [(.o 35 (.du [(.str [])] 1 1 [(0,(.k (.str [103])))])), .o 36 (.load bu true 5), .o 37 (.load dC true 5), .o 38 (.du [(.str []),(.slice .full 0 []),(.slice .full 0 []),(.slice .full 0 []),(.slice .full 0 [])] 5 2 [(0,iJ),(1,jk)]), .o 39 (.build [(.slice .full 0 []),(.slice .full 0 [])] [(0,(1,iw)),(1,(1,jL))]), .op none none (.store bG jy 2)]) .ret
abbrev Q92:AC:= .seq (.run [.o 0 (.alloc [(.slice .full 0 []),(.slice .full 0 [])])]) (.seq Q8W (.seq Q8X Q8Z))
abbrev Q9C:AC:= .seq (.seq (.run [.m 6 cq, .m 7 bG, .o 8 (.len c6), .o 9 (.bin .lss dH cW), .m 10 dr, .g 11 10 true (.mv bu), .g 12 10 true (.bin .leq cR (.k (.int .i64 20000))), .o 13 (.pick cj dd (.k (.bool false)))]) (.cond dk .skip (.exit 0))) (.seq (.block 1 (.run [.m 16 bG, .m 17 cq, .o 18 (.cu dn dN 1), .o 19 (.load dJ false 1), .m 20 bu, .c 21 iD [ey,eC], .m 1 eB])) (.run [.m 14 cq, .o 15 (.bin .add da (.k (.int .i64 1))), .m 5 dE]))
abbrev Q9I:AC:= .seq (.seq (.run [.o 5 (.mv (.k (.int .i64 0)))]) (.block 0 (.loop Q9C))) (.seq (.run [.m 22 bu, .m 4 eD]) .ret)
abbrev Q9J:AC:= .seq (.run [.o 4 (.mv (.k (.int .i64 0)))]) Q9I
abbrev Q9O:AC:= .cond dk (.seq (.run [.o 4 (.mv (.k (.int .i64 20001)))]) .ret) .skip
abbrev Q9S:AC:= .seq (.seq (.run [.m 5 bu, .o 6 (.bin .gtr cq (.k (.int .i64 20000))), .m 7 dH, .g 8 7 false (.mv bG), .g 9 7 false (.xg cW), .g 10 7 false (.mv bu), .g 11 7 false (.bin .sub (.k (.int .i64 20000)) cj), .g 12 7 false (.bin .geq dr cR), .o 13 (.pick c6 (.k (.bool true)) dd)]) Q9O) (.seq (.run [.m 14 bu, .o 15 (.bin .add da (.k (.int .i64 1))), .m 16 bG, .o 17 (.xg dn), .o 18 (.bin .add dE dN), .m 4 dJ]) .ret)
abbrev Q9T:AC:= .seq (.run [.o 4 (.mv (.k (.int .i64 0)))]) Q9S
abbrev QA0:AC:= .par [.o 22 (.aw dH 4), .o 23 (.load eD false 1), .o 24 (.aw dH 3), .o 25 (.load fb false 1), .o 26 (.aw dH 2), .o 27 (.load fD false 1), .o 28 (.aw dH 5), .o 29 (.load gp true 4), .m 30 bu, .c 31 lg [gw,gE], .c 32 kQ [fM,gK], .c 33 iD [ff,iu], .c 34 iD [eO,ig], .m 1 iQ] [(6,0),(7,0),(8,0),(9,0),(4,0),(5,1),(10,0),(2,0),(3,2),(11,0),(0,0),(1,3),(12,0),(13,0)]
abbrev QA5:AC:= .par [.o 46 (.aw dH 10), .o 47 (.load lT false 1), .m 48 c6, .o 49 (.cu na nc 6), .o 50 (.aw ng 1), .o 51 (.load nz false 1), .o 52 (.aw dH 10), .o 53 (.load mn false 1), .m 54 c6, .o 55 (.cu nh nA 6), .o 56 (.aw nB 2), .o 57 (.load pK true 4), .m 58 bu, .c 59 lg [qL,ql], .c 60 iD [ml,od], .m 1 rF] [(6,0),(7,0),(8,0),(9,0),(10,0),(11,0),(12,0),(13,0),(0,0),(1,1),(2,0),(3,0),(4,0),(5,1),(14,0),(15,0)]
abbrev QA9:AC:= .seq (.seq (.run [.m 35 c6, .o 36 (.aw dH 10), .o 37 (.load iJ false 1), .o 38 (.len jk), .o 39 (.bin .lss iw jL), .m 40 jy, .g 41 40 true (.mv bu), .g 42 40 true (.bin .leq jZ (.k (.int .i64 20000))), .o 43 (.pick kq kG (.k (.bool false)))]) (.cond kr .skip (.exit 2))) (.seq (.block 3 QA5) (.run [.m 44 c6, .o 45 (.bin .add kH (.k (.int .i64 1))), .m 7 lS]))
abbrev QAD:AC:= .par [.o 61 (.aw dH 12), .o 62 (.load tC false 1), .o 63 (.aw dH 11), .o 64 (.load tD false 1), .m 65 bu, .c 66 lW [tF,xK], .c 67 lW [sx,zW], .m 1 zX] [(2,0),(3,0),(4,0),(5,0),(0,0),(1,1),(6,0),(7,0)]
abbrev QAE:AC:= .seq (.seq (.run [.o 7 (.mv (.k (.int .i64 0)))]) (.block 2 (.loop QA9))) QAD
abbrev QAJ:AC:= .seq (.block 1 (.seq (.run [.m 18 bG, .m 19 cq, .o 20 (.cu dJ ey 13), .o 21 (.load eC true 13), .o 6 (.alloc [(.int .i64 0),(.int .i64 0),(.slice .full 0 []),(.str []),(.str []),(.int .i64 0),(.int .i64 0),(.str []),(.slice .full 0 []),(.bool false),(.slice .full 0 []),(.slice .full 0 []),(.slice .full 0 [])]), .op none none (.store dH eB 13)]) (.seq QA0 QAE))) (.run [.m 16 cq, .o 17 (.bin .add dn (.k (.int .i64 1))), .m 5 dN])
abbrev QAK:AC:= .seq (.seq (.run [.m 8 cq, .m 9 bG, .o 10 (.len dr), .o 11 (.bin .lss cW cj), .m 12 cR, .g 13 12 true (.mv bu), .g 14 12 true (.bin .leq dk (.k (.int .i64 20000))), .o 15 (.pick dd da (.k (.bool false)))]) (.cond dE .skip (.exit 0))) QAJ
abbrev QAQ:AC:= .seq (.seq (.run [.o 5 (.mv (.k (.int .i64 0)))]) (.block 0 (.loop QAK))) (.seq (.run [.m 68 bu, .m 4 xL]) .ret)
abbrev QAR:AC:= .seq (.run [.o 4 (.mv (.k (.int .i64 0)))]) QAQ
abbrev QAY:AC:= .par [.m 17 cL, .m 18 cL, .o 19 (.cz dJ), .o 20 (.aw ey 3), .o 21 (.load eC false 1), .m 22 cL, .o 23 (.cz eD), .o 24 (.aw eO 2), .o 25 (.load fb false 1), .o 26 (.len ff), .o 27 (.bin .add fD (.k (.int .i64 1))), .o 28 (.du [(.int .i64 0)] 1 1 [(0,fM)]), .o 29 (.app 1 8 eB gp), .o 30 (.cz dN), .o 31 (.aw gE 3), .op none none (.store gK gw 1)] [(1,0),(2,0),(3,0),(4,0),(5,0),(6,0),(7,0),(8,0),(9,0),(10,0),(11,0),(12,0),(0,0),(13,0),(14,0),(15,0)]
abbrev QB0:AC:= .par [.m 38 cL, .m 39 cL, .o 40 (.cz jy), .o 41 (.aw kq 4), .o 42 (.load jZ false 1), .m 43 cL, .o 44 (.cz kr), .o 45 (.aw kH 2), .o 46 (.load lS false 1), .o 47 (.len lT), .o 48 (.bin .add na (.k (.int .i64 1))), .o 49 (.du [(.int .i64 0)] 1 1 [(0,nc)]), .o 50 (.app 1 8 kG ng), .o 51 (.cz jL), .o 52 (.aw ml 4), .op none none (.store mn nz 1)] [(1,0),(2,0),(3,0),(4,0),(5,0),(6,0),(7,0),(8,0),(9,0),(10,0),(11,0),(12,0),(0,0),(13,0),(14,0),(15,0)]
abbrev QB1:AC:= .seq (.run [.m 32 cL, .o 33 (.aw cq 3), .o 34 (.load ig false 1), .m 35 fK,(.o 36 (.build [(.int .i64 0),(.int .i64 0),(.slice .full 0 []),(.str []),(.str []),(.int .i64 0),(.int .i64 0),(.str []),(.slice .full 0 []),(.bool false),(.slice .full 0 []),(.slice .full 0 []),(.slice .full 0 []),(.int .i64 0),(.int .i64 0),(.int .i64 0),(.int .i64 0)] [(13,(1,iw)),(15,(1,(.k (.int .i64 (-1)))))])), .c 37 lh [iu,iQ,iJ]]) QB0
abbrev QB6:AC:= .seq (.block 1 (.seq (.run [.m 14 dd, .o 15 (.cu cj dd 5), .o 16 (.load dE true 5), .o 5 (.alloc [(.str []),(.slice .full 0 []),(.slice .full 0 []),(.slice .full 0 []),(.slice .full 0 [])]), .m 4 da, .op none none (.store cq dn 5)]) (.seq QAY QB1))) (.run [.o 53 (.bin .add dd (.k (.int .i64 1))), .m 12 nh])
abbrev QBA:AC:= .block 0 (.loop (.seq (.run [.o 13 (.bin .lss dd cR)]) (.seq (.cond dk .skip (.exit 0)) QB6)))
abbrev QBE:AC:= .seq (.seq (.run [.o 9 (.aw bu 1), .o 10 (.load dr false 1), .o 11 (.len cj), .o 12 (.mv (.k (.int .i64 0)))]) QBA) (.seq (.run [.m 54 cL, .m 2 nA]) .ret)
abbrev QBG:AC:= .seq (.run [.o 1 (.box bG), .o 2 (.mv (.k .eY))]) (.seq (.run [.o 6 (.load bu true 2), .o 7 (.build [(.slice .full 0 []),(.slice .full 0 []),(.slice .full 0 []),(.slice .full 0 []),(.slice .full 0 [])] [(0,(2,dH))]), .o 8 (.box c6), .m 3 cW]) QBE)
abbrev QBJ:AC:= .par [.m 22 bu, .m 23 bG, .o 24 (.cz eO), .o 25 (.aw fb 0), .o 26 (.load ff false 1), .o 27 (.cz fD), .o 28 (.aw fM 0), .o 29 (.load gp true 2), .o 30 (.aw dr 0), .o 31 (.load gE false 1), .c 32 xE [gw,gK], .m 33 cL, .o 34 (.build [(.int .i64 0),(.slice .full 0 []),(.slice .full 0 []),(.int .i64 0)] [(0,(1,eD)),(1,(1,iu)),(3,(1,ig))]), .o 35 (.box iQ), .m 10 iw] [(1,0),(2,0),(3,0),(4,0),(5,0),(6,0),(7,0),(8,0),(9,0),(10,0),(0,0),(11,0),(12,0),(13,0),(14,0)]
abbrev QBK:AC:= .par [.m 36 cj, .m 37 cj, .o 38 (.cz jk), .o 39 (.aw jL 2), .o 40 (.load jy false 1), .m 41 bG, .o 42 (.cz jZ), .o 43 (.aw kG 1), .o 44 (.load kr false 1), .o 45 (.app 1 8 kq kH), .m 46 dC, .o 47 (.app 1 8 lS lT), .o 48 (.cz iJ), .o 49 (.aw nc 2), .op none none (.store ng na 1)] [(1,0),(2,0),(3,0),(4,0),(5,0),(6,0),(7,0),(8,0),(9,0),(10,0),(11,0),(0,0),(12,0),(13,0),(14,0)]
abbrev QBS:AC:= .seq (.cond nA .skip (.exit 0)) (.seq (.block 1 (.run [.m 55 cj, .m 56 cj, .o 57 (.cz pK), .o 58 (.aw qL 2), .o 59 (.load ql false 1), .o 60 (.alloc [(.int .i64 0)]), .o 61 (.du [.eY] 1 1 [(0,rF)]), .o 62 (.app 1 8 od tC), .o 63 (.cz nB), .o 64 (.aw tD 2), .op none none (.store tF sx 1)])) (.run [.o 65 (.bin .add nh (.k (.int .i64 1))), .m 53 xK]))
abbrev QBT:AC:= .seq (.run [.o 54 (.bin .lss nh mn)]) QBS
abbrev QC0:AC:= .seq (.run [.m 66 bG, .m 67 bG, .o 68 (.cz zX), .o 69 (.aw xL 4), .o 70 (.load BG false 1), .m 71 cj, .o 72 (.du [.eY] 1 1 [(0,F6)]), .o 73 (.app 1 8 BH DL), .o 74 (.cz zW), .o 75 (.aw F7 4), .op none none (.store F8 DM 1)]) (.seq (.run [.m 76 bG, .o 77 (.cz DN), .o 78 (.aw F9 0), .o 79 (.load BI false 1), .m 80 bu, .c 81 qI [Jf,Jg], .m 8 Jh]) .ret)
abbrev QC1:AC:= .seq (.seq (.run [.o 50 (.aw dr 2), .o 51 (.load nz false 1), .o 52 (.len ml), .o 53 (.mv (.k (.int .i64 0)))]) (.block 0 (.loop QBT))) QC0
abbrev QC5:AC:= .seq (.run [.o 8 (.mv (.k (.int .i64 0)))]) (.seq (.run [.m 11 bG, .o 12 (.cz cR), .o 13 (.aw dd 0), .o 14 (.load dk false 1), .o 15 (.cz da), .o 16 (.aw dE 0), .o 17 (.aw dn 1), .o 18 (.load dN false 1), .m 19 bu, .o 20 (.cu dJ ey 5), .o 21 (.load eC true 5), .o 9 (.alloc [(.str []),(.slice .full 0 []),(.slice .full 0 []),(.slice .full 0 []),(.slice .full 0 [])]), .op none none (.store dr eB 5)]) (.seq QBJ (.seq QBK QC1)))
abbrev QC9:AC:= .seq (.run [.o 3 (.box bu), .o 4 (.mv (.k (.int .i64 0)))]) (.seq (.run [.m 5 bG, .o 6 (.cz cq), .o 7 (.aw dH 0), .o 8 (.aw c6 1), .o 9 (.load cW false 1), .o 10 (.wQ 76 [cL]), .c 11 iz [dr,cj], .m 4 cR]) .ret)
abbrev QCK:AC:= .seq (.run [.o 18 (.aw c6 0), .o 19 (.load dJ false 1)]) (.cond ey (.seq (.run [.m 20 cq, .m 21 bG, .o 22 (.aw c6 1), .o 23 (.load eD false 1), .c 24 jG [eB,eO], .o 25 (.du [.eY] 1 1 [(0,fb)]), .o 26 (.app 1 8 eC ff), .m 5 fD]) (.exit 1)) .skip)
abbrev QCO:AC:= .seq (.run [(.o 4 (.mv (.k (.int .i64 (-1)))))]) .ret
abbrev QCV:AC:= .seq (.run [.m 28 bG, .o 29 (.aw c6 2), .o 30 (.load gw true 4), .c 31 la [gp,gE], .m 27 gK, .o 32 (.ext fM 0), .o 33 (.ext fM 1), .m 8 iu, .m 9 ig]) (.seq (.seq (.run [.m 34 dr, .o 35 (.un .not iQ)]) (.cond iw QCO .skip)) (.seq (.run [.m 36 cW, .o 10 (.alloc [(.int .i64 0)]), .op none none (.store cj iJ 1)]) (.run [.m 37 cq, .o 38 (.du [.eY] 1 1 [(0,cj)]), .o 39 (.app 1 8 jk jL), .m 5 jy])))
abbrev QD0:AC:= .seq (.block 1 (.seq (.run [.o 16 (.cu dd da 6), .o 17 (.load dn true 6), .o 7 (.alloc [(.bool false),(.str []),(.int .i64 0),(.int .i64 0),(.str []),(.slice .full 0 [])]), .op none none (.store c6 dN 6)]) (.seq QCK QCV))) (.run [.o 40 (.bin .add da (.k (.int .i64 1))), .m 14 kq])
abbrev QD2:AC:= .seq (.run [.o 15 (.bin .lss da dk)]) (.seq (.cond dE .skip (.exit 0)) QD0)
abbrev QD9:AC:= .seq (.run [(.o 4 (.mv (.k (.int .i64 (-1)))))]) .ret
abbrev QDB:AC:= .cond lT (.seq (.run [.m 47 bG, .o 48 (.cz na), .o 49 (.aw nc 6), .o 50 (.aw ng 0), .op none none (.store nz (.k (.int .i64 5)) 1)]) QD9) .skip
abbrev QDE:AC:= .par [.m 55 bG, .m 56 bG, .o 57 (.cz pK), .o 58 (.aw qL 0), .o 59 (.load ql false 1), .o 60 (.aw cL 4), .o 61 (.load rF false 1), .c 62 jx [od,tC], .m 63 cq, .o 64 (.aw cL 0), .o 65 (.load tF false 1), .c 66 kg [nB,sx,tD,xK], .m 4 zW] [(1,0),(2,0),(3,0),(4,0),(5,0),(6,0),(7,0),(0,0),(8,0),(9,0),(10,1),(11,0),(12,0)]
abbrev QDH:AC:= .seq (.seq (.run [.m 41 bG, .o 42 (.cz jZ), .o 43 (.aw kG 4), .o 44 (.load kr false 1), .o 45 (.len kH), .o 46 (.bin .gtr lS (.k (.int .i64 100)))]) QDB) (.seq (.run [.m 51 bG, .o 52 (.aw cL 0), .o 53 (.load mn false 1),(.c 54 fy [ml,nh,(.k (.slice .full 0 []))])]) (.seq QDE .ret))
abbrev QDI:AC:= .seq (.seq (.run [.o 11 (.aw cL 10), .o 12 (.load cR false 1), .o 13 (.len dd), .o 14 (.mv (.k (.int .i64 0)))]) (.block 0 (.loop QD2))) QDH
abbrev QDK:AC:= .seq (.run [.o 3 (.box bu), .o 4 (.mv (.k (.int .i64 0)))]) (.seq (.run [.o 5 (.mv (.k (.slice .full 0 [])))]) QDI)
abbrev QDQ:AC:= .seq (.run [.m 10 bG, .o 11 (.aw cL 0), .o 12 (.load cR false 1),(.c 13 fy [cj,dd,(.k (.slice .full 0 []))])]) (.seq (.run [.o 4 (.mv (.k (.int .i64 0)))]) .ret)
abbrev QE0:AC:= .seq (.seq (.run [.m 21 dH]) (.cond eB (.run [.m 22 bG, .o 23 (.aw cL 0), .o 24 (.load eO false 1), .m 25 cq, .o 26 (.du [(.int .i64 0)] 1 1 [(0,ff)]), .c 27 fy [eD,fb,fD]]) .skip)) (.seq (.run [.m 28 cq, .m 4 gp]) .ret)
abbrev QE3:AC:= .seq (.run [.o 3 (.box bu), .o 4 (.mv (.k (.int .i64 0)))]) (.seq (.seq (.run [.o 7 (.aw cL 9), .o 8 (.load c6 false 1), .o 9 (.un .not cW)]) (.cond dr QDQ .skip)) (.seq (.run [.m 15 bG, .o 16 (.aw cL 5), .o 17 (.load dn true 4), .c 18 la [dE,dN], .m 14 dJ, .o 19 (.ext da 0), .o 20 (.ext da 1), .m 5 ey, .m 6 eC]) QE0))
abbrev QE9:AC:= .par [.m 21 bG, .o 22 (.cz eB), .o 23 (.aw eD 0), .o 24 (.load eO false 1), .o 25 (.cz fb), .o 26 (.aw ff 2), .o 27 (.load fD false 1), .o 28 (.aw cL 16), .o 29 (.load gp false 1), .o 30 (.bin .sub gw (.k (.int .i64 1))), .o 31 (.cu fM gE 17), .o 32 (.aw gK 15), .o 33 (.load iu false 1), .m 4 ig] [(0,0),(1,0),(2,0),(3,0),(4,0),(5,0),(6,0),(7,0),(8,0),(9,0),(10,0),(11,0),(12,0),(13,0)]
abbrev QEJ:AC:= .par [.m 49 bG, .o 50 (.cz ng), .o 51 (.aw nz 0), .o 52 (.load ml false 1), .o 53 (.aw cL 13), .o 54 (.load nh false 1), .o 55 (.aw cq 3), .o 56 (.load nB false 1), .c 57 qs [mn,nA,pK], .m 48 qL, .o 58 (.ext nc 0), .o 59 (.ext nc 1), .m 6 ql, .m 7 od] [(0,0),(1,0),(2,0),(3,0),(4,0),(5,0),(6,0),(7,0),(8,0),(9,0),(10,0),(11,0),(12,0),(13,0)]
abbrev QEP:AC:= .par [.m 63 bG, .o 64 (.cz tD), .o 65 (.aw tF 6), .o 66 (.aw xK 2), .o 67 (.load zW false 1), .m 68 bG, .o 69 (.cz xL), .o 70 (.aw BG 2), .o 71 (.load BH false 1), .o 72 (.len F6), .o 73 (.bin .geq zX DL)] [(0,0),(1,0),(2,0),(3,0),(4,0),(5,0),(6,0),(7,0),(8,0),(9,0),(10,0)]
abbrev QES:AC:= .seq (.run [(.o 4 (.mv (.k (.int .i64 (-1)))))]) .ret
abbrev QEU:AC:= .cond DM (.seq (.run [.m 74 bG, .o 75 (.cz F7), .o 76 (.aw F8 6), .o 77 (.aw DN 0), .op none none (.store F9 (.k (.int .i64 3)) 1)]) QES) .skip
abbrev QEW:AC:= .par [.m 78 bG, .o 79 (.cz BI), .o 80 (.aw Jf 2), .o 81 (.load Jg false 1), .m 82 bG, .o 83 (.cz MV), .o 84 (.aw MW 6), .o 85 (.aw MX 2), .o 86 (.load MY false 1), .o 87 (.cu Jh MZ 1), .o 88 (.load M3 false 1), .m 8 M4] [(0,0),(1,0),(2,0),(3,0),(4,0),(5,0),(6,0),(7,0),(8,0),(9,0),(10,0),(11,0)]
abbrev QF4:AC:= .seq (.run [.m 89 bG, .o 90 (.cz Ga), .o 91 (.aw Ji 6), .o 92 (.aw M5 2), .o 93 (.load Tc false 1), .o 94 (.bin .add Zp (.k (.int .i64 1))), .o 95 (.cz Ga), .o 96 (.aw Zr 6), .o 97 (.aw ahp 2), .op none none (.store ahq Zq 1)]) (.seq (.run [.m 98 bG, .o 99 (.aw cq 3), .o 100 (.load ahs false 1), .c 101 jG [ahr,abS], .m 102 cW, .o 103 (.cz abT), .op none none (.store abV abU 1)]) (.seq (.run [.m 104 bG, .o 105 (.aw cq 0), .o 106 (.load abX false 1), .m 107 cW, .o 108 (.du [(.int .i64 0)] 1 1 [(0,abZ)]), .c 109 fy [abW,abY,ab0]]) (.seq (.run [.o 110 (.aw cL 15), .o 111 (.load ab1 false 1), .m 4 ab2]) .ret)))
abbrev QF9:AC:= .cond kG (.seq (.run [.m 44 bG, .o 45 (.aw cq 0), .o 46 (.load lS false 1),(.c 47 fy [kH,lT,(.k (.slice .full 0 []))])]) (.seq QEJ (.seq (.run [.m 60 dH, .m 4 rF]) .ret))) (.seq (.run [.o 62 (.bin .eql da (.k (.int .i64 2))), .m 61 sx]) (.cond tC (.seq (.seq QEP QEU) (.seq QEW QF4)) .skip))
abbrev QFB:AC:= .cond iQ (.seq (.run [.m 36 bG, .o 37 (.aw cq 0), .o 38 (.load jk false 1),(.c 39 fy [iJ,jL,(.k (.slice .full 0 []))])]) (.seq (.run [.o 40 (.aw cL 16), .o 41 (.load kq false 1), .m 4 jZ]) .ret)) (.seq (.run [.o 43 (.bin .eql da (.k (.int .i64 10))), .m 42 kr]) QF9)
abbrev QFD:AC:= .cond dE (.seq (.run [.m 17 bG, .o 18 (.aw cq 0), .o 19 (.load dJ false 1),(.c 20 fy [dN,ey,(.k (.slice .full 0 []))])]) (.seq QE9 .ret)) (.seq (.run [.o 35 (.bin .eql da (.k (.int .i64 8))), .m 34 iw]) QFB)
abbrev QFF:AC:= .block 0 (.seq (.run [.o 16 (.bin .eql da (.k (.int .i64 7))), .m 15 dn]) QFD)
abbrev QFK:AC:= .seq (.run [(.o 4 (.mv (.k (.int .i64 (-1)))))]) .ret
abbrev QG1:AC:= .seq (.seq (.run [.m 153 dr, .o 154 (.bin .neq alC (.k (.int .i64 0)))]) (.cond alD (.seq (.run [.o 155 (.aw cq 11), .o 156 (.load alE false 1), .o 157 (.aw cL 15), .o 158 (.load alH false 1), .c 159 rR [alG,alI], .m 4 alJ]) .ret) .skip)) (.seq (.run [.o 160 (.aw cq 12), .o 161 (.load alK false 1), .o 162 (.aw cL 15), .o 163 (.load alM false 1), .c 164 rR [alL,alN], .m 4 alO]) .ret)
abbrev QG8:AC:= .cond alP (.seq (.run [.m 167 dr, .o 168 (.bin .neq alR (.k (.int .i64 0)))]) (.cond alS (.seq (.run [.o 169 (.aw cq 11), .o 170 (.load alT false 1), .o 171 (.aw cq 0), .o 172 (.load alV false 1), .c 173 rR [alU,alW], .m 4 alX]) .ret) .skip)) .skip
abbrev QGA:AC:= .cond alA QG1 (.seq (.run [.o 166 (.bin .eql Hv (.k (.int .i64 6))), .m 165 alQ]) QG8)
abbrev QGC:AC:= .cond alk (.run [.m 139 bG, .m 140 bG, .o 141 (.cz alo), .o 142 (.aw alp 6), .o 143 (.aw alq 3), .o 144 (.load alr false 1), .m 145 dr, .o 146 (.du [(.int .i64 0)] 1 1 [(0,alu)]), .o 147 (.app 1 8 als alv), .o 148 (.cz aln), .o 149 (.aw alx 6), .o 150 (.aw aly 3), .op none none (.store alz alw 1)]) (.seq (.run [.o 152 (.bin .eql Hv (.k (.int .i64 5))), .m 151 alB]) QGA)
abbrev QGE:AC:= .cond acj (.run [.m 131 bG, .o 132 (.aw cq 3), .o 133 (.load alf false 1), .c 134 jG [ale,alg], .m 135 dr, .o 136 (.cz alh), .op none none (.store alj ali 1)]) (.seq (.run [.o 138 (.bin .eql Hv (.k (.int .i64 3))), .m 137 alm]) QGC)
abbrev QGG:AC:= .block 1 (.seq (.run [.o 130 (.bin .eql Hv (.k (.int .i64 1))), .m 129 ack]) QGE)
abbrev QGM:AC:= .seq (.seq (.run [.m 119 cj, .o 120 (.un .not ab9)]) (.cond aca QFK .skip)) (.seq (.run [.m 121 bG, .o 122 (.aw cq 0), .o 123 (.load ace false 1), .m 124 dr, .o 125 (.du [(.int .i64 0)] 1 1 [(0,acg)]), .c 126 fy [acb,acf,ach]]) (.seq (.seq (.run [.o 127 (.aw cq 1), .o 128 (.load aci false 1)]) QGG) (.seq (.run [.o 174 (.aw cL 15), .o 175 (.load alY false 1), .m 4 alZ]) .ret)))
abbrev QGQ:AC:= .seq (.run [.o 3 (.box bu), .o 4 (.mv (.k (.int .i64 0)))]) (.seq (.run [.o 11 (.aw cL 0), .o 12 (.load cR true 13), .o 5 (.alloc [(.int .i64 0),(.int .i64 0),(.slice .full 0 []),(.str []),(.str []),(.int .i64 0),(.int .i64 0),(.str []),(.slice .full 0 []),(.bool false),(.slice .full 0 []),(.slice .full 0 []),(.slice .full 0 [])]), .op none none (.store cq dd 13)]) (.seq (.seq (.run [.o 13 (.aw cq 1), .o 14 (.load dk false 1)]) QFF) (.seq (.run [.m 113 bG, .o 114 (.aw cq 5), .o 115 (.load ab4 true 4), .c 116 la [ab3,ab5], .m 112 ab6, .o 117 (.ext Td 0), .o 118 (.ext Td 1), .m 9 ab7, .m 10 ab8]) QGM)))
abbrev QGT:AC:= .par [.m 12 bG, .m 13 bG, .o 14 (.cz dk), .o 15 (.aw da 4), .o 16 (.load dE false 1), .m 17 bG, .o 18 (.cz dN), .o 19 (.aw dJ 4), .o 20 (.load ey false 1), .o 21 (.len eC), .o 22 (.bin .sub eB (.k (.int .i64 1))), .o 23 (.GR 1 dn none (some eD)), .o 24 (.cz dd), .o 25 (.aw fb 4), .op none none (.store ff eO 1)] [(0,0),(1,0),(2,0),(3,0),(4,0),(5,0),(6,0),(7,0),(8,0),(9,0),(10,0),(11,0),(12,0),(13,0),(14,0)]
abbrev QGX:AC:= .seq (.run [(.o 4 (.mv (.k (.int .i64 (-1)))))]) .ret
abbrev QGZ:AC:= .cond fM (.seq (.run [.m 28 bG, .o 29 (.cz gp), .o 30 (.aw gw 6), .o 31 (.aw gE 0), .op none none (.store gK (.k (.int .i64 1)) 1)]) QGX) .skip
abbrev QH8:AC:= .seq (.seq (.run [.o 43 (.aw dH 0), .o 44 (.aw kr 3), .o 45 (.load kH false 1), .o 46 (.bin .neq lS (.k (.str [])))]) (.cond lT (.run [.m 47 bG, .o 48 (.aw dH 0), .o 49 (.aw nc 3), .o 50 (.load ng false 1), .c 51 jG [na,nz], .m 52 bu, .o 53 (.cz ml), .op none none (.store nh mn 1)]) .skip)) (.seq (.run [.o 54 (.aw dH 15), .o 55 (.load nA false 1), .m 4 nB]) .ret)
abbrev QHA:AC:= .seq (.seq (.run [.m 26 cq, .o 27 (.bin .eql fD (.k (.int .i64 0)))]) QGZ) (.seq (.run [.m 32 bG, .o 33 (.cz iu), .o 34 (.aw ig 0), .o 35 (.load iQ false 1), .o 36 (.cz iw), .o 37 (.aw iJ 2), .o 38 (.load jk false 1), .m 39 cq, .o 40 (.bin .sub jy (.k (.int .i64 1))), .o 41 (.cu jL kq 17), .o 42 (.load jZ true 17), .o 6 (.alloc [(.int .i64 0),(.int .i64 0),(.slice .full 0 []),(.str []),(.str []),(.int .i64 0),(.int .i64 0),(.str []),(.slice .full 0 []),(.bool false),(.slice .full 0 []),(.slice .full 0 []),(.slice .full 0 []),(.int .i64 0),(.int .i64 0),(.int .i64 0),(.int .i64 0)]), .op none none (.store dH kG 17)]) QH8)
abbrev QHD:AC:= .seq (.run [.o 4 (.mv (.k (.int .i64 0)))]) (.seq (.run [.m 7 bG, .c 8 lX [c6], .o 9 (.cz cW), .o 10 (.aw dr 3), .o 11 (.load cj false 1), .m 5 cR]) (.seq QGT QHA))
abbrev QHH:AC:= .seq (.run [(.o 7 (.build [(.int .i64 0),(.int .i64 0)] [(0,(1,(.k (.int .i64 1))))])), .op none none (.store dC c6 2)]) .ret
abbrev QHZ:AC:= .seq (.seq (.run [.o 20 (.aw cL 0), .o 21 (.load eC false 1), .o 22 (.bin .eql eB (.k (.int .i64 0)))]) (.cond eD (.run [.o 23 (.load bu true 2), .c 24 wi [eO], .op none none (.store cL fb 2)]) .skip)) (.seq (.run [.o 25 (.load cL true 2), .op none none (.store dC ff 2)]) .ret)
abbrev QI0:AC:= .seq (.seq (.run [.o 15 (.aw cL 0), .o 16 (.load dE false 1), .o 17 (.bin .eql dn (.k (.int .i64 0)))]) (.cond dN (.run [.o 18 (.load bu true 2), .c 19 xF [dJ], .op none none (.store cL ey 2)]) .skip)) QHZ
abbrev QI1:AC:= .seq (.seq (.run [.o 10 (.aw cL 0), .o 11 (.load cj false 1), .o 12 (.bin .eql cR (.k (.int .i64 0)))]) (.cond dd (.run [.o 13 (.load bu true 2), .c 14 se [dk], .op none none (.store cL da 2)]) .skip)) QI0
abbrev QI4:AC:= .seq (.run [.o 1 (.box bG), .o 2 (.alloc [(.int .i64 0),(.int .i64 0)])]) (.seq (.seq (.run [.o 4 (.load bu true 2), .c 5 q6 [fK], .o 6 (.un .not cq)]) (.cond dH QHH .skip)) (.seq (.run [.o 8 (.load bu true 2), .c 9 nH [cW], .o 3 (.alloc [(.int .i64 0),(.int .i64 0)]), .op none none (.store cL dr 2)]) QI1))
abbrev QI6:AC:= .par [.m 7 bu, .o 8 (.bin .lss c6 (.k (.int .i64 1))), .m 9 cW, .g 10 9 false (.aw dC 3), .g 11 9 false (.load cj false 1), .g 12 9 false (.len cR), .g 13 9 false (.aw dC 0), .g 14 9 false (.load dk false 1), .d 15 9 false zS [da], .g 16 9 false (.bin .neq dd dE), .o 17 (.pick dr (.k (.bool true)) dn)] [(0,0),(1,0),(2,0),(6,0),(7,0),(8,0),(3,0),(4,1),(5,0),(9,0),(10,0)]
abbrev QI9:AC:= .cond dN (.seq (.run [.o 4 (.mv (.k (.bool false)))]) .ret) .skip
abbrev QII:AC:= .cond gE (.seq (.run [.o 32 (.aw dC 1), .o 33 (.load iu false 1), .o 34 (.bin .eql ig (.k (.int .i64 0))), .m 35 iQ, .g 36 35 true (.aw dC 2), .g 37 35 true (.load iJ false 1), .d 38 35 true pI [jk], .o 39 (.pick iw jL (.k (.bool false))), .m 4 jy]) .ret) .skip
abbrev QIK:AC:= .cond eC (.seq (.run [.o 22 (.aw dC 1), .o 23 (.load eD false 1), .o 24 (.bin .geq eO (.k (.int .i64 0))), .m 25 fb, .g 26 25 true (.aw dC 2), .g 27 25 true (.load fD false 1), .g 28 25 true (.bin .eql fM (.k (.str []))), .o 29 (.pick ff gp (.k (.bool false))), .m 4 gw]) .ret) (.seq (.run [.o 31 (.bin .eql ey (.k (.int .i64 2))), .m 30 gK]) QII)
abbrev QIM:AC:= .block 0 (.seq (.run [.o 21 (.bin .eql ey (.k (.int .i64 1))), .m 20 eB]) QIK)
abbrev QIR:AC:= .cond na (.seq (.run [.o 4 (.mv (.k (.bool false)))]) .ret) .skip
abbrev QJ0:AC:= .cond od (.seq (.run [.o 4 (.mv (.k (.bool false)))]) .ret) .skip
abbrev QJ2:AC:= .seq (.run [.o 53 (.cu ng ml 4), .o 54 (.load nh true 4), .o 6 (.alloc [(.int .i64 0),(.int .i64 0),(.str []),(.slice .full 0 [])]), .op none none (.store dH nA 4)]) (.seq (.run [.o 55 (.load dH true 4), .m 56 bu, .o 57 (.bin .sub pK (.k (.int .i64 1))), .c 58 rP [nB,qL], .o 59 (.un .not ql)]) QJ0)
abbrev QJ6:AC:= .seq (.cond mn .skip (.exit 1)) (.seq (.block 2 QJ2) (.run [.o 60 (.bin .add ml (.k (.int .i64 1))), .m 51 rF]))
abbrev QJA:AC:= .seq (.run [.o 48 (.aw dC 3), .o 49 (.load nc false 1), .o 50 (.len ng), .o 51 (.mv (.k (.int .i64 0)))]) (.block 1 (.loop (.seq (.run [.o 52 (.bin .lss ml nz)]) QJ6)))
abbrev QJD:AC:= .seq QJA (.seq (.run [.o 4 (.mv (.k (.bool true)))]) .ret)
abbrev QJE:AC:= .seq (.seq (.run [.o 40 (.aw dC 1), .o 41 (.load kq false 1), .o 42 (.bin .neq jZ (.k (.int .i64 0))), .m 43 kG, .g 44 43 false (.aw dC 2), .g 45 43 false (.load kH false 1), .g 46 43 false (.bin .neq lS (.k (.str []))), .o 47 (.pick kr (.k (.bool true)) lT)]) QIR) QJD
abbrev QJH:AC:= .seq (.run [.o 2 (.box bG), .o 4 (.mv (.k (.bool false)))]) (.seq (.seq QI6 QI9) (.seq (.seq (.run [.o 18 (.aw dC 0), .o 19 (.load dJ false 1)]) QIM) QJE))
abbrev QJK:AC:= .seq (.run [.o 3 (.load bu true 2),(.o 4 (.build [(.int .i64 0),(.int .i64 0),(.slice .full 0 []),(.str []),(.str []),(.int .i64 0),(.int .i64 0),(.str []),(.slice .full 0 []),(.bool false),(.slice .full 0 []),(.slice .full 0 []),(.slice .full 0 [])] [(0,(1,(.k (.int .i64 (-1)))))])), .c 5 tt [cL,fK], .op none none (.store dC cq 2)]) .ret
abbrev QJL:AC:= .seq (.run [.o 1 (.box bG), .o 2 (.alloc [(.slice .full 0 []),(.slice .full 0 [])])]) QJK
abbrev QJQ:AC:= .cond dH (.seq (.run [.o 4 (.mv (.k (.int .i64 0)))]) .ret) .skip
abbrev QK0:AC:= .seq (.seq (.run [.m 10 bG, .o 11 (.bin .lss cj (.k (.int .i64 0)))]) (.cond cR (.seq (.run [.m 12 bG, .m 13 bu, .o 14 (.bin .add dd dk), .m 4 da]) .ret) .skip)) (.seq (.run [.m 15 bG, .m 4 dE]) .ret)
abbrev QK2:AC:= .seq (.seq (.run [.m 5 bu, .o 6 (.bin .lss cq (.k (.int .i64 1)))]) QJQ) (.seq (.run [.m 7 bG, .m 8 bu, .o 9 (.bin .rem c6 cW), .m 0 dr]) QK0)
abbrev QK3:AC:= .seq (.run [.o 4 (.mv (.k (.int .i64 0)))]) QK2
abbrev QKB:AC:= .par [.o 15 (.aw cL 1), .o 16 (.load dE false 1), .m 17 cq, .o 18 (.aw bu 1), .o 19 (.load dJ false 1), .m 20 cq, .o 21 (.cu ey eC 5), .o 22 (.aw eB 3), .o 23 (.load eD false 1), .m 24 fK, .c 25 kC [eO,fb], .m 14 ff, .o 26 (.ext da 0), .o 27 (.ext da 1), .o 28 (.cu dn dN 5), .o 29 (.aw gp 3), .op none none (.store gw fD 1), .m 4 fM] [(3,0),(4,0),(5,0),(6,0),(7,0),(8,0),(9,0),(10,0),(0,0),(1,1),(2,0),(11,0),(12,0),(14,0),(15,0),(16,0),(13,0),(17,0)]
abbrev QKG:AC:= .seq (.cond dd .skip (.exit 0)) (.seq (.block 1 (.seq (.run [.m 13 cR, .m 5 dk]) QKB)) (.run [.o 30 (.bin .add cR (.k (.int .i64 1))), .m 11 gE]))
abbrev QKH:AC:= .seq (.run [.o 12 (.bin .lss cR cj)]) QKG
abbrev QKM:AC:= .seq (.run [.o 31 (.load cL true 2), .op none none (.store dC gK 2)]) .ret
abbrev QKN:AC:= .seq (.seq (.run [.o 8 (.aw cL 1), .o 9 (.load cW false 1), .o 10 (.len dr), .o 11 (.mv (.k (.int .i64 0)))]) (.block 0 (.loop QKH))) QKM
abbrev QKP:AC:= .seq (.run [.o 6 (.load bu true 2), .c 7 rQ [dH], .o 3 (.alloc [(.slice .full 0 []),(.slice .full 0 [])]), .op none none (.store cL c6 2)]) (.seq (.run [.o 4 (.mv (.k (.int .i64 0)))]) QKN)
abbrev QKQ:AC:= .seq (.run [.o 1 (.box bG), .o 2 (.alloc [(.slice .full 0 []),(.slice .full 0 [])])]) QKP
abbrev QL3:AC:= .seq (.run [.m 13 cL, .o 14 (.load cq true 5), .c 15 zR [da], .o 16 (.app 16 232 dk dE), .m 3 dn]) (.seq (.run [.m 17 cL, .o 18 (.len dN), .o 19 (.bin .gtr dJ (.k (.int .i64 200)))]) (.cond ey (.seq (.run [.m 20 cL, .m 2 eC]) .ret) .skip))
abbrev QL7:AC:= .seq (.block 1 (.seq (.run [.o 11 (.cu c6 dr 5), .o 12 (.load cR true 5), .o 5 (.alloc [(.str []),(.slice .full 0 []),(.slice .full 0 []),(.slice .full 0 []),(.slice .full 0 [])]), .op none none (.store cq dd 5)]) QL3)) (.run [.o 21 (.bin .add dr (.k (.int .i64 1))), .m 9 eB])
abbrev QLB:AC:= .block 0 (.loop (.seq (.run [.o 10 (.bin .lss dr cW)]) (.seq (.cond cj .skip (.exit 0)) QL7)))
abbrev QLF:AC:= .seq (.seq (.run [.o 6 (.aw bu 1), .o 7 (.load dH false 1), .o 8 (.len c6), .o 9 (.mv (.k (.int .i64 0)))]) QLB) (.seq (.run [.m 22 cL, .m 2 eD]) .ret)
abbrev QLH:AC:= .seq (.run [.o 1 (.box bG), .o 2 (.mv (.k (.slice .full 0 [])))]) (.seq (.run [.o 3 (.mv (.k (.slice .full 0 [])))]) QLF)
open Go.Proofs
theorem Hz:Has Tryz.prog wg 31 [(4,(some (true,2)))] Q8Q:=⟨Tryz.f37,by kernel_rfl,by kernel_rfl⟩
theorem Ld:Has Tryz.prog zO 10 [(2,none)] Q8U:=⟨Tryz.f38,by kernel_rfl,by kernel_rfl⟩
theorem Lf:Has Tryz.prog zP 40 [(0,(some (true,2)))] Q92:=⟨Tryz.f39,by kernel_rfl,by kernel_rfl⟩
theorem CY:Has Tryz.prog kQ 23 [(4,none)] Q9J:=⟨Tryz.f40,by kernel_rfl,by kernel_rfl⟩
theorem qM:Has Tryz.prog iD 19 [(4,none)] Q9T:=⟨Tryz.f41,by kernel_rfl,by kernel_rfl⟩
theorem ux:Has Tryz.prog lW 69 [(4,none)] QAR:=⟨Tryz.f42,by kernel_rfl,by kernel_rfl⟩
theorem M8:Has Tryz.prog l9 55 [(2,none)] QBG:=⟨Tryz.f43,by kernel_rfl,by kernel_rfl⟩
theorem BJ:Has Tryz.prog kg 82 [(8,none)] QC5:=⟨Tryz.f44,by kernel_rfl,by kernel_rfl⟩
theorem CZ:Has Tryz.prog jx 12 [(4,none)] QC9:=⟨Tryz.f45,by kernel_rfl,by kernel_rfl⟩
theorem BK:Has Tryz.prog qH 67 [(4,none)] QDK:=⟨Tryz.f46,by kernel_rfl,by kernel_rfl⟩
theorem AP:Has Tryz.prog qj 29 [(4,none)] QE3:=⟨Tryz.f47,by kernel_rfl,by kernel_rfl⟩
theorem jl:Has Tryz.prog sw 176 [(4,none)] QGQ:=⟨Tryz.f48,by kernel_rfl,by kernel_rfl⟩
theorem sP:Has Tryz.prog qk 56 [(4,none)] QHD:=⟨Tryz.f49,by kernel_rfl,by kernel_rfl⟩
theorem pZ:Has Tryz.prog zQ 26 [(2,(some (true,2)))] QI4:=⟨Tryz.f53,by kernel_rfl,by kernel_rfl⟩
theorem CI:Has Tryz.prog rP 61 [(4,none)] QJH:=⟨Tryz.f55,by kernel_rfl,by kernel_rfl⟩
theorem Lg:Has Tryz.prog rQ 6 [(2,(some (true,2)))] QJL:=⟨Tryz.f59,by kernel_rfl,by kernel_rfl⟩
theorem DO:Has Tryz.prog BA 16 [(4,none)] QK3:=⟨Tryz.f60,by kernel_rfl,by kernel_rfl⟩
theorem HA:Has Tryz.prog wh 32 [(2,(some (true,2)))] QKQ:=⟨Tryz.f61,by kernel_rfl,by kernel_rfl⟩
theorem M9:Has Tryz.prog BB 23 [(2,none)] QLH:=⟨Tryz.f62,by kernel_rfl,by kernel_rfl⟩
abbrev QLQ:AC:= .cond dk (.seq (.run [.o 2 (.mv (.k (.bool false)))]) .ret) .skip
abbrev QLV:AC:= .seq (.block 1 (.seq (.run [.o 9 (.cu cq c6 1), .o 10 (.load dr false 1), .m 4 cj]) (.seq (.run [.m 11 fK, .c 12 pI [cR], .o 13 (.un .not dd)]) QLQ))) (.run [.o 14 (.bin .add c6 (.k (.int .i64 1))), .m 7 da])
abbrev QLZ:AC:= .block 0 (.loop (.seq (.run [.o 8 (.bin .lss c6 dH)]) (.seq (.cond cW .skip (.exit 0)) QLV)))
abbrev QM3:AC:= .seq (.seq (.run [.m 5 bG, .o 6 (.len cq), .o 7 (.mv (.k (.int .i64 0)))]) QLZ) (.seq (.run [.o 2 (.mv (.k (.bool true)))]) .ret)
abbrev QM4:AC:= .seq (.run [.o 2 (.mv (.k (.bool false)))]) QM3
abbrev QM9:AC:= .cond dn (.seq (.run [.o 2 (.mv (.k (.bool false)))]) .ret) .skip
abbrev QMD:AC:= .seq (.seq (.run [.m 3 bG, .o 4 (.xg cL), .o 5 (.bin .lss fK (.k (.int .i64 1))), .m 6 cq, .g 7 6 false (.mv bG), .g 8 6 false (.xg c6), .g 9 6 false (.bin .gtr cW (.k (.int .i64 8))), .o 10 (.pick dH (.k (.bool true)) dr), .m 11 cj, .g 12 11 false (.mv bG), .g 13 11 false (.C9 dd (.k (.int .i64 0))), .d 14 11 false tu [dk], .g 15 11 false (.un .not da), .o 16 (.pick cR (.k (.bool true)) dE)]) QM9) (.seq (.run [.m 17 bG, .c 18 DI [dN,(.k (.int .i64 0))], .m 19 bG, .o 20 (.xg ey), .o 21 (.bin .eql dJ eC), .m 22 eB, .g 23 22 true (.mv bG), .d 24 22 true BD [eO], .g 25 22 true (.un .not fb), .o 26 (.pick eD ff (.k (.bool false))), .m 2 fD]) .ret)
abbrev QME:AC:= .seq (.run [.o 2 (.mv (.k (.bool false)))]) QMD
abbrev QMJ:AC:= .cond dE (.seq (.run [.o 6 (.mv (.k (.bool false)))]) .ret) .skip
abbrev QMQ:AC:= .par [.m 29 bG, .o 30 (.cz gw), .o 31 (.aw gE 0), .o 32 (.load gK false 1), .o 33 (.bin .gtr iu (.k (.int .i64 200))), .m 34 ig, .g 35 34 false (.aw cW 0), .g 36 34 false (.load iw false 1), .g 37 34 false (.mv bG), .g 38 34 false (.cz jk), .g 39 34 false (.aw jL 0), .g 40 34 false (.load jy false 1), .g 41 34 false (.bin .neq iJ kq), .o 42 (.pick iQ (.k (.bool true)) jZ), .m 43 kG, .g 44 43 false (.aw cW 2), .g 45 43 false (.load kH false 1), .d 46 43 false oO [lS], .g 47 43 false (.un .not lT), .o 48 (.pick kr (.k (.bool true)) na), .m 49 nc, .g 50 49 false (.load cW true 13), .d 51 49 false wj [nz], .g 52 49 false (.un .not ml), .o 53 (.pick ng (.k (.bool true)) mn)] [(0,0),(1,0),(2,0),(3,0),(4,0),(5,0),(6,0),(7,0),(8,0),(9,0),(10,0),(11,0),(12,0),(13,0),(14,0),(15,0),(16,0),(17,0),(18,0),(19,0),(20,0),(21,0),(22,0),(23,0),(24,0)]
abbrev QMT:AC:= .cond nh (.seq (.run [.o 6 (.mv (.k (.bool false)))]) .ret) .skip
abbrev QMY:AC:= .cond BG (.seq (.run [.o 6 (.mv (.k (.bool false)))]) .ret) .skip
abbrev QN0:AC:= .seq (.seq QMQ QMT) (.seq (.run [.m 54 bG, .o 55 (.aw cW 11), .o 56 (.load nB false 1), .m 57 dC, .o 58 (.bin .add qL (.k (.int .i64 1))), .c 59 lF [nA,pK,ql], .o 60 (.un .not od), .m 61 rF, .g 62 61 false (.mv bG), .g 63 61 false (.aw cW 12), .g 64 61 false (.load tD false 1), .g 65 61 false (.mv dC), .g 66 61 false (.bin .add xK (.k (.int .i64 1))), .d 67 61 false lF [sx,tF,zW], .g 68 61 false (.un .not zX), .o 69 (.pick tC (.k (.bool true)) xL)]) QMY)
abbrev QN2:AC:= .seq (.run [.o 20 (.cu dn dJ 13), .o 21 (.load eC true 13), .o 8 (.alloc [(.int .i64 0),(.int .i64 0),(.slice .full 0 []),(.str []),(.str []),(.int .i64 0),(.int .i64 0),(.str []),(.slice .full 0 []),(.bool false),(.slice .full 0 []),(.slice .full 0 []),(.slice .full 0 [])]), .op none none (.store cW eB 13)]) (.seq (.run [.m 22 bG, .o 23 (.cz eD), .o 24 (.aw eO 0), .o 25 (.load fb false 1), .o 26 (.bin .add ff (.k (.int .i64 1))), .o 27 (.cz eD), .o 28 (.aw fM 0), .op none none (.store gp fD 1)]) QN0)
abbrev QN6:AC:= .seq (.cond ey .skip (.exit 0)) (.seq (.block 1 QN2) (.run [.o 70 (.bin .add dJ (.k (.int .i64 1))), .m 18 BH]))
abbrev QNA:AC:= .seq (.run [.m 16 bu, .o 17 (.len dn), .o 18 (.mv (.k (.int .i64 0)))]) (.block 0 (.loop (.seq (.run [.o 19 (.bin .lss dJ dN)]) QN6)))
abbrev QND:AC:= .seq QNA (.seq (.run [.o 6 (.mv (.k (.bool true)))]) .ret)
abbrev QNE:AC:= .seq (.seq (.run [.m 9 dC, .o 10 (.bin .gtr dr (.k (.int .i64 12))), .m 11 cj, .g 12 11 true (.mv bu), .g 13 11 true (.len dd), .g 14 11 true (.bin .gtr dk (.k (.int .i64 0))), .o 15 (.pick cR da (.k (.bool false)))]) QMJ) QND
abbrev QNF:AC:= .seq (.run [.o 6 (.mv (.k (.bool false)))]) QNE
abbrev QNN:AC:= .par [.o 17 (.aw c6 11), .o 18 (.load dN false 1), .m 19 bu, .c 20 lR [dJ,ey], .o 21 (.aw c6 12), .o 22 (.load eB false 1), .m 23 bu, .c 24 lR [eD,eO], .o 25 (.aw cW 11), .op none none (.store ff eC 1), .o 26 (.aw cW 12), .op none none (.store fD fb 1)] [(0,0),(1,0),(2,0),(3,0),(4,0),(5,1),(6,0),(7,0),(8,0),(9,0),(10,0),(11,0)]
abbrev QNR:AC:= .seq (.run [.o 31 (.aw cW 5), .o 32 (.load gK true 4), .o 33 (.du [(.int .i64 0),(.int .i64 0),(.str []),(.slice .full 0 [])] 4 1 [(0,iu)]),(.o 34 (.build [(.int .i64 0),(.int .i64 0),(.str []),(.slice .full 0 [])] [(0,(1,(.k (.int .i64 4)))),(3,(1,ig))])), .o 35 (.aw cW 5), .op none none (.store iw iQ 4)]) (.run [.o 36 (.aw cW 12), .o 37 (.load iJ false 1), .o 38 (.aw cW 11), .o 39 (.load jL false 1), .o 40 (.aw cW 11), .op none none (.store kq jk 1), .o 41 (.aw cW 12), .op none none (.store jZ jy 1)])
abbrev QNX:AC:= .seq (.run [.o 15 (.load c6 true 13), .c 16 mP [dE], .o 8 (.alloc [(.int .i64 0),(.int .i64 0),(.slice .full 0 []),(.str []),(.str []),(.int .i64 0),(.int .i64 0),(.str []),(.slice .full 0 []),(.bool false),(.slice .full 0 []),(.slice .full 0 []),(.slice .full 0 [])]), .op none none (.store cW dn 13)]) (.seq QNN (.seq (.seq (.run [.o 27 (.aw c6 0), .o 28 (.load fM false 1), .m 29 bu, .o 30 (.bin .eql gp gw)]) (.cond gE QNR .skip)) (.run [.m 42 cq, .o 43 (.load cW true 13), .o 44 (.du [(.int .i64 0),(.int .i64 0),(.slice .full 0 []),(.str []),(.str []),(.int .i64 0),(.int .i64 0),(.str []),(.slice .full 0 []),(.bool false),(.slice .full 0 []),(.slice .full 0 []),(.slice .full 0 [])] 13 1 [(0,kr)]), .o 45 (.app 13 208 kG kH), .m 5 lS])))
abbrev QO1:AC:= .seq (.block 1 (.seq (.run [.o 13 (.cu dr cR 13), .o 14 (.load dk true 13), .o 7 (.alloc [(.int .i64 0),(.int .i64 0),(.slice .full 0 []),(.str []),(.str []),(.int .i64 0),(.int .i64 0),(.str []),(.slice .full 0 []),(.bool false),(.slice .full 0 []),(.slice .full 0 []),(.slice .full 0 [])]), .op none none (.store c6 da 13)]) QNX)) (.run [.o 46 (.bin .add cR (.k (.int .i64 1))), .m 11 lT])
abbrev QO5:AC:= .block 0 (.loop (.seq (.run [.o 12 (.bin .lss cR cj)]) (.seq (.cond dd .skip (.exit 0)) QO1)))
abbrev QO9:AC:= .seq (.seq (.run [.m 9 bG, .o 10 (.len dr), .o 11 (.mv (.k (.int .i64 0)))]) QO5) (.seq (.run [.m 47 cq, .m 4 na]) .ret)
abbrev QOB:AC:= .seq (.run [.o 4 (.mv (.k (.slice .full 0 [])))]) (.seq (.run [.o 5 (.mv (.k (.slice .full 0 [])))]) QO9)
abbrev QOE:AC:= .seq (.run [.m 3 bG,(.o 4 (.build [(.int .i64 0),(.int .i64 0),(.str []),(.slice .full 0 [])] [(0,(1,(.k (.int .i64 1)))),(1,(1,cL))])), .op none none (.store dC fK 4)]) .ret
abbrev QOF:AC:= .seq (.run [.o 2 (.alloc [(.int .i64 0),(.int .i64 0),(.str []),(.slice .full 0 [])])]) QOE
abbrev QOI:AC:= .seq (.run [.m 3 bG,(.o 4 (.build [(.int .i64 0),(.int .i64 0),(.str []),(.slice .full 0 [])] [(0,(1,(.k (.int .i64 2)))),(2,(1,cL))])), .op none none (.store dC fK 4)]) .ret
abbrev QOJ:AC:= .seq (.run [.o 2 (.alloc [(.int .i64 0),(.int .i64 0),(.str []),(.slice .full 0 [])])]) QOI
abbrev QON:AC:= .seq (.run [.o 4 (.box bu), .o 5 (.box dC), .o 6 (.alloc [(.int .i64 0),(.int .i64 0),(.str []),(.slice .full 0 [])])]) (.seq (.run [.m 7 bG, .o 8 (.load fK true 4), .o 9 (.load cq true 4), .o 10 (.du [(.int .i64 0),(.int .i64 0),(.str []),(.slice .full 0 [])] 4 2 [(0,cW),(1,dr)]), .o 11 (.build [(.int .i64 0),(.int .i64 0),(.str []),(.slice .full 0 [])] [(0,(1,c6)),(3,(1,cj))]), .op none none (.store dH cR 4)]) .ret)
abbrev QOY:AC:= .seq (.seq (.run [.m 10 cq, .o 11 (.aw dC 3), .o 12 (.load cR false 1), .o 13 (.len dd), .o 14 (.bin .lss cj dk), .m 15 da, .g 16 15 true (.mv bu), .g 17 15 true (.bin .leq dn (.k (.int .i64 20000))), .o 18 (.pick dE dN (.k (.bool false)))]) (.cond dJ .skip (.exit 0))) (.seq (.block 1 (.run [.o 21 (.aw dC 3), .o 22 (.load eB false 1), .m 23 cq, .o 24 (.cu eD eO 4), .o 25 (.load fb true 4), .m 26 bu, .c 27 lg [ff,fD], .m 1 fM])) (.run [.m 19 cq, .o 20 (.bin .add ey (.k (.int .i64 1))), .m 5 eC]))
abbrev QP4:AC:= .seq (.seq (.run [.o 5 (.mv (.k (.int .i64 0)))]) (.block 0 (.loop QOY))) (.seq (.run [.m 28 bu, .m 4 gp]) .ret)
abbrev QP6:AC:= .seq (.run [.o 2 (.box bG), .o 4 (.mv (.k (.int .i64 0)))]) (.seq (.run [.o 6 (.aw dC 2), .o 7 (.load dH false 1), .m 8 bu, .c 9 iD [c6,cW], .m 1 dr]) QP4)
abbrev QPJ:AC:= .par [.m 37 bG, .m 38 bG, .o 39 (.cz jL), .o 40 (.aw jy 2), .o 41 (.load kq false 1), .o 42 (.load dr true 17), .o 43 (.du [(.int .i64 0),(.int .i64 0),(.slice .full 0 []),(.str []),(.str []),(.int .i64 0),(.int .i64 0),(.str []),(.slice .full 0 []),(.bool false),(.slice .full 0 []),(.slice .full 0 []),(.slice .full 0 []),(.int .i64 0),(.int .i64 0),(.int .i64 0),(.int .i64 0)] 17 1 [(0,kG)]), .o 44 (.app 17 240 jZ kr), .o 45 (.cz jk), .o 46 (.aw lS 2), .op none none (.store lT kH 1)] [(1,0),(2,0),(3,0),(4,0),(5,0),(6,0),(7,0),(0,0),(8,0),(9,0),(10,0)]
abbrev QPK:AC:= .run [.o 47 (.aw cq 13), .o 48 (.load na false 1), .m 49 cW, .o 50 (.aw dr 15), .o 51 (.load nz false 1), .o 52 (.aw cq 16), .o 53 (.load mn false 1), .o 54 (.build [(.int .i64 0),(.int .i64 0),(.slice .full 0 []),(.str []),(.str []),(.int .i64 0),(.int .i64 0),(.str []),(.slice .full 0 []),(.bool false),(.slice .full 0 []),(.slice .full 0 []),(.slice .full 0 []),(.int .i64 0),(.int .i64 0),(.int .i64 0),(.int .i64 0)] [(13,(1,nc)),(14,(1,ng)),(15,(1,ml)),(16,(1,nh))]), .o 10 (.alloc [(.int .i64 0),(.int .i64 0),(.slice .full 0 []),(.str []),(.str []),(.int .i64 0),(.int .i64 0),(.str []),(.slice .full 0 []),(.bool false),(.slice .full 0 []),(.slice .full 0 []),(.slice .full 0 []),(.int .i64 0),(.int .i64 0),(.int .i64 0),(.int .i64 0)]), .op none none (.store cj nA 17)]
abbrev QPS:AC:= .seq (.seq (.run [.o 55 (.aw c6 1), .o 56 (.load nB false 1), .o 57 (.bin .eql pK (.k (.int .i64 6)))]) (.cond qL (.run [.m 58 cW, .m 59 cW, .o 60 (.aw cj 15), .op none none (.store rF ql 1), .o 61 (.aw cj 16), .op none none (.store tC od 1)]) .skip)) (.seq (.run [.m 62 bG, .o 63 (.aw c6 11), .o 64 (.load tD false 1), .o 65 (.load cj true 17), .c 66 lh [sx,tF,xK]]) (.run [.m 67 bG, .o 68 (.aw c6 12), .o 69 (.load xL false 1), .o 70 (.load cj true 17), .c 71 lh [zX,BG,BH]]))
abbrev QPV:AC:= .seq (.seq (.run [.m 27 dH, .o 28 (.bin .add fM (.k (.int .i64 1))), .m 29 bu, .o 30 (.len gw), .o 31 (.bin .lss gp gE)]) (.cond gK (.run [.m 32 cW, .o 33 (.load c6 true 13), .c 34 oa [ig], .o 35 (.bin .add iu iQ), .o 36 (.aw dr 15), .op none none (.store iJ iw 1)]) .skip)) (.seq QPJ (.seq QPK QPS))
abbrev QPZ:AC:= .seq (.run [.m 15 dk, .o 16 (.cu cR dk 13), .o 17 (.load dn true 13), .o 7 (.alloc [(.int .i64 0),(.int .i64 0),(.slice .full 0 []),(.str []),(.str []),(.int .i64 0),(.int .i64 0),(.str []),(.slice .full 0 []),(.bool false),(.slice .full 0 []),(.slice .full 0 []),(.slice .full 0 [])]), .m 6 dE, .op none none (.store c6 dN 13)]) (.seq (.run [.m 18 bG, .o 19 (.cz dJ), .o 20 (.aw ey 2), .o 21 (.load eC false 1), .o 22 (.len eB), .o 23 (.bin .add eD (.k (.int .i64 1))), .m 8 eO]) (.seq (.run [.o 24 (.load cq true 17), .o 9 (.alloc [(.int .i64 0),(.int .i64 0),(.slice .full 0 []),(.str []),(.str []),(.int .i64 0),(.int .i64 0),(.str []),(.slice .full 0 []),(.bool false),(.slice .full 0 []),(.slice .full 0 []),(.slice .full 0 []),(.int .i64 0),(.int .i64 0),(.int .i64 0),(.int .i64 0)]), .op none none (.store dr fb 17)]) (.seq (.run [.o 25 (.load c6 true 13), .o 26 (.aw dr 0), .op none none (.store fD ff 13)]) QPV)))
abbrev QQ3:AC:= .seq (.cond da .skip (.exit 0)) (.seq (.block 1 QPZ) (.run [.o 72 (.bin .add dk (.k (.int .i64 1))), .m 13 DL]))
abbrev QQ7:AC:= .seq (.run [.m 11 bu, .o 12 (.len cR), .o 13 (.mv (.k (.int .i64 0)))]) (.block 0 (.loop (.seq (.run [.o 14 (.bin .lss dk dd)]) QQ3)))
abbrev QQ8:AC:= .seq (.run [.o 5 (.box dC)]) QQ7
abbrev QQD:AC:= .cond dr (.seq (.run [.o 4 (.mv (.k (.slice .full 0 [])))]) .ret) .skip
abbrev QQK:AC:= .par [.o 21 (.aw dC 0), .o 22 (.load eB false 1), .c 23 lM [eD], .o 24 (.load dH true 5), .c 25 vj [fb], .o 26 (.app 1 16 eO ff), .m 4 fD] [(0,0),(1,0),(2,0),(3,1),(4,0),(5,0),(6,0)]
abbrev QQR:AC:= .seq (.block 1 (.seq (.run [.o 15 (.cu cR dk 5), .o 16 (.load dE true 5), .o 6 (.alloc [(.str []),(.slice .full 0 []),(.slice .full 0 []),(.slice .full 0 []),(.slice .full 0 [])]), .op none none (.store dH dn 5)]) (.seq (.run [.o 17 (.aw dH 0), .o 18 (.load dN false 1), .m 19 bu, .o 20 (.bin .eql dJ ey)]) (.cond eC (.seq QQK .ret) .skip)))) (.run [.o 27 (.bin .add dk (.k (.int .i64 1))), .m 13 fM])
abbrev QQV:AC:= .block 0 (.loop (.seq (.run [.o 14 (.bin .lss dk dd)]) (.seq (.cond da .skip (.exit 0)) QQR)))
abbrev QQZ:AC:= .seq (.seq (.run [.o 10 (.aw dC 1), .o 11 (.load cj false 1), .o 12 (.len cR), .o 13 (.mv (.k (.int .i64 0)))]) QQV) (.seq (.run [.o 4 (.mv (.k (.slice .full 0 [])))]) .ret)
abbrev QR1:AC:= .seq (.run [.o 2 (.box bG), .o 4 (.mv (.k (.slice .full 0 [])))]) (.seq (.seq (.run [.o 7 (.load dC true 2), .c 8 q6 [c6], .o 9 (.un .not cW)]) QQD) QQZ)
abbrev QR3:AC:= .par [.m 5 bG, .o 6 (.cz cq), .o 7 (.aw dH 3), .o 8 (.load c6 false 1), .m 9 bu, .o 10 (.cu cW dr 1), .o 11 (.load cj false 1), .m 12 bG, .o 13 (.cz dd), .o 14 (.aw dk 4), .o 15 (.load da false 1), .m 16 bu, .o 17 (.cu dE dn 1), .o 18 (.load dN false 1), .o 19 (.bin .lss cR dJ)] [(0,0),(1,0),(2,0),(3,0),(4,0),(5,0),(6,0),(7,0),(8,0),(9,0),(10,0),(11,0),(12,0),(13,0),(14,0)]
abbrev QR9:AC:= .seq (.run [(.o 4 (.mv (.k (.int .i64 (-1)))))]) .ret
abbrev QRA:AC:= .seq (.seq QR3 (.cond ey (.seq (.run [.m 20 bG, .o 21 (.cz eC), .o 22 (.aw eB 3), .o 23 (.load eD false 1), .m 24 bu, .o 25 (.cu eO fb 1), .o 26 (.load ff false 1), .m 4 fD]) .ret) .skip)) QR9
abbrev QRB:AC:= .seq (.run [.o 4 (.mv (.k (.int .i64 0)))]) QRA
abbrev QRN:AC:= .block 1 (.seq (.run [.m 10 cW, .m 5 cj]) (.seq (.run [.m 11 bu, .m 12 bG, .m 13 cq, .o 14 (.cu dd dk 5), .o 15 (.load da true 5),(.kx (some 16) none 11 [dE])]) (.cond dn (.seq (.run [.m 17 cq, .m 4 dN]) .ret) .skip)))
abbrev QRQ:AC:= .seq (.cond dr .skip (.exit 0)) (.seq QRN (.run [.o 18 (.bin .add cW (.k (.int .i64 1))), .m 8 dJ]))
abbrev QRU:AC:= .seq (.run [.m 6 bG, .o 7 (.len dH), .o 8 (.mv (.k (.int .i64 0)))]) (.block 0 (.loop (.seq (.run [.o 9 (.bin .lss cW c6)]) QRQ)))
abbrev QRW:AC:= .seq (.run [(.o 4 (.mv (.k (.int .i64 (-1)))))]) .ret
abbrev QRY:AC:= .seq (.run [.o 4 (.mv (.k (.int .i64 0)))]) (.seq QRU QRW)
abbrev QS2:AC:= .seq (.run [.o 2 (.box bG), .o 3 (.mv (.k (.bool false)))]) (.seq (.run [.o 4 (.aw dC 0), .o 5 (.load fK false 1), .o 6 (.load bu false 1), .o 7 (.bin .eql cq dH), .m 3 c6]) .ret)
abbrev QS5:AC:= .par [.m 8 cq, .o 9 (.cz cW), .o 10 (.aw dr 2), .o 11 (.load cj false 1), .m 12 cq, .o 13 (.cz dd), .o 14 (.aw dk 1), .o 15 (.load da false 1), .m 16 bu, .c 17 ic [dE,dn], .o 18 (.cu cR dN 1), .o 19 (.load dJ false 1), .m 4 ey] [(4,0),(5,0),(6,0),(7,0),(8,0),(9,0),(0,0),(1,0),(2,0),(3,1),(10,0),(11,0),(12,0)]
abbrev QS8:AC:= .seq (.run [.o 4 (.mv (.k .eY))]) (.seq (.run [.m 6 bG, .c 7 lX [dH], .m 5 c6]) (.seq QS5 .ret))
abbrev QSG:AC:= .par [.m 30 bG, .m 31 bG, .o 32 (.cz gK), .o 33 (.aw iu 5), .o 34 (.load ig false 1), .m 35 cW, .o 36 (.cz iw), .o 37 (.load iJ false 1), .o 38 (.du [(.int .i64 0)] 1 1 [(0,jk)]), .o 39 (.app 1 8 iQ jL), .o 40 (.cz gE), .o 41 (.aw kq 5), .op none none (.store jZ jy 1)] [(1,0),(2,0),(3,0),(4,0),(5,0),(6,0),(7,0),(8,0),(9,0),(0,0),(10,0),(11,0),(12,0)]
abbrev QSL:AC:= .seq (.cond fM .skip (.exit 0)) (.seq (.block 1 (.seq (.run [.o 28 (.cu fb fD 1), .o 29 (.load gp false 1), .m 8 gw]) QSG)) (.run [.o 42 (.bin .add fD (.k (.int .i64 1))), .m 26 kG]))
abbrev QSM:AC:= .seq (.run [.o 27 (.bin .lss fD ff)]) QSL
abbrev QSQ:AC:= .par [.o 44 (.load cL true 4), .m 45 dH, .o 46 (.cz lS), .o 47 (.aw lT 1), .o 48 (.load na false 1), .m 49 bG, .o 50 (.cz ng), .o 51 (.aw nz 5), .o 52 (.load ml false 1), .c 53 yM [kH,nc,mn], .m 43 nh, .o 54 (.ext kr 0), .o 55 (.ext kr 1), .m 9 nA, .m 10 nB] [(0,0),(1,0),(2,0),(3,0),(4,0),(5,0),(6,0),(7,0),(8,0),(9,0),(10,0),(11,0),(12,0),(13,0),(14,0)]
abbrev QSU:AC:= .seq (.run [.m 56 cj, .o 57 (.un .not pK)]) (.cond qL (.run [.m 58 bG, .o 59 (.cz ql), .o 60 (.aw od 6), .o 61 (.aw rF 0), .op none none (.store tC (.k (.int .i64 4)) 1)]) .skip)
abbrev QSY:AC:= .seq QSQ (.seq QSU (.seq (.run [.m 62 dr, .m 63 cj, .m 4 sx, .m 5 tD]) .ret))
abbrev QSZ:AC:= .seq (.seq (.run [.m 21 dH, .o 22 (.cz eB), .o 23 (.aw eD 2), .o 24 (.load eO false 1), .o 25 (.len fb), .o 26 (.mv (.k (.int .i64 0)))]) (.block 0 (.loop QSM))) QSY
abbrev QT0:AC:= .seq (.run [.m 13 bG, .m 14 bG, .o 15 (.cz da), .o 16 (.aw dE 5), .o 17 (.load dn false 1),(.o 18 (.GR 1 dN none (some (.k (.int .i64 0))))), .o 19 (.cz dk), .o 20 (.aw ey 5), .op none none (.store eC dJ 1)]) QSZ
abbrev QT2:AC:= .seq (.run [.o 3 (.box bu), .o 4 (.mv (.k (.int .i64 0))), .o 5 (.mv (.k (.bool false)))]) (.seq (.run [.m 11 bG, .c 12 lX [cR], .m 6 dd]) QT0)
abbrev QT6:AC:= .seq (.run [.m 6 bG, .o 7 (.cz dH), .o 8 (.aw c6 3), .o 9 (.load cW false 1), .m 10 bu, .c 11 oP [dr,cj]]) (.cond cR (.run [.m 12 bG, .m 13 bG, .o 14 (.cz dk), .o 15 (.aw da 6), .o 16 (.aw dE 4), .o 17 (.load dn false 1), .m 18 bu, .m 19 dC, .o 20 (.build [(.int .i64 0),(.slice .full 0 [])] [(0,(1,dJ)),(1,(1,ey))]), .o 21 (.du [(.int .i64 0),(.slice .full 0 [])] 2 1 [(0,eC)]), .o 22 (.app 2 32 dN eB), .o 23 (.cz dd), .o 24 (.aw eO 6), .o 25 (.aw fb 4), .op none none (.store ff eD 1)]) .skip)
abbrev QTF:AC:= .cond eD (.seq (.run [.o 23 (.aw dr 0), .o 24 (.aw eO 0), .o 25 (.load fb false 1), .m 6 ff, .o 7 (.mv (.k (.bool true)))]) .ret) .skip
abbrev QTK:AC:= .seq (.block 1 (.seq (.run [.o 16 (.cu dd da 17), .o 17 (.load dn true 17), .o 9 (.alloc [(.int .i64 0),(.int .i64 0),(.slice .full 0 []),(.str []),(.str []),(.int .i64 0),(.int .i64 0),(.str []),(.slice .full 0 []),(.bool false),(.slice .full 0 []),(.slice .full 0 []),(.slice .full 0 []),(.int .i64 0),(.int .i64 0),(.int .i64 0),(.int .i64 0)]), .op none none (.store dr dN 17)]) (.seq (.run [.o 18 (.aw dr 0), .o 19 (.aw dJ 2), .o 20 (.load ey false 1), .m 21 dC, .c 22 cY [eC,eB]]) QTF))) (.run [.o 26 (.bin .add da (.k (.int .i64 1))), .m 14 fD])
abbrev QTO:AC:= .block 0 (.loop (.seq (.run [.o 15 (.bin .lss da dk)]) (.seq (.cond dE .skip (.exit 0)) QTK)))
abbrev QTS:AC:= .seq (.run [(.o 6 (.mv (.k (.int .i64 (-1))))), .o 7 (.mv (.k (.bool true)))]) .ret
abbrev QTX:AC:= .seq (.seq (.run [.m 27 bG, .o 28 (.cz fM), .o 29 (.aw gp 0), .o 30 (.aw gw 1), .o 31 (.load gE false 1), .m 32 bu, .o 33 (.cu gK iu 5), .o 34 (.aw ig 4), .o 35 (.load iQ false 1), .m 36 dC, .c 37 cY [iw,iJ]]) (.cond jk QTS .skip)) (.seq (.run [.o 6 (.mv (.k (.int .i64 0))), .o 7 (.mv (.k (.bool false)))]) .ret)
abbrev QTY:AC:= .seq (.seq (.run [.m 10 bG, .m 11 bu, .c 12 iY [cj,cR], .o 13 (.len dd), .o 14 (.mv (.k (.int .i64 0)))]) QTO) QTX
abbrev QTZ:AC:= .seq (.run [.o 6 (.mv (.k (.int .i64 0))), .o 7 (.mv (.k (.bool false)))]) QTY
abbrev QU4:AC:= .cond c6 (.seq (.run [.m 8 bG, .o 9 (.cu cW (.k (.int .i64 0)) 13), .o 10 (.aw dr 0), .o 11 (.load cj false 1), .m 4 cR]) .ret) .skip
abbrev QU8:AC:= .seq (.seq (.run [.m 5 bG, .o 6 (.len cq), .o 7 (.bin .gtr dH (.k (.int .i64 0)))]) QU4) (.seq (.run [.m 12 bu, .m 4 dd]) .ret)
abbrev QU9:AC:= .seq (.run [.o 4 (.mv (.k (.int .i64 0)))]) QU8
abbrev QUB:AC:= .par [.m 3 bG, .o 4 (.cz cL), .o 5 (.aw fK 4), .o 6 (.load cq false 1), .m 7 bG, .o 8 (.cz c6), .o 9 (.aw cW 4), .o 10 (.load dr false 1), .o 11 (.len cj), .o 12 (.bin .sub cR (.k (.int .i64 1))), .o 13 (.cu dH dd 1), .o 14 (.load dk false 1), .m 2 da] [(0,0),(1,0),(2,0),(3,0),(4,0),(5,0),(6,0),(7,0),(8,0),(9,0),(10,0),(11,0),(12,0)]
abbrev QUD:AC:= .seq (.run [.o 2 (.mv (.k .eY))]) (.seq QUB .ret)
abbrev QUH:AC:= .seq (.run [.o 1 (.box bG), .o 2 (.mv (.k (.slice .full 0 [])))]) (.seq (.run [.o 3 (.aw bu 3), .o 4 (.load cL false 1),(.c 5 oc [fK,(.k (.int .i64 1)),(.k (.int .i64 0)),(.k (.bool false)),(.k (.slice .full 0 []))]), .m 2 cq]) .ret)
abbrev QUL:AC:= .seq (.run [(.o 16 (.build [(.int .i64 0),(.int .i64 0)] [(0,(1,(.k (.int .i64 1))))])), .op none none (.store dC dn 2)]) .ret
abbrev QUX:AC:= .seq (.block 1 (.seq (.run [.o 22 (.cu dJ eC 5), .o 23 (.load eD true 5), .o 5 (.alloc [(.str []),(.slice .full 0 []),(.slice .full 0 []),(.slice .full 0 []),(.slice .full 0 [])]), .op none none (.store cq eO 5)]) (.run [.m 24 cL, .o 25 (.aw cq 0), .o 26 (.load ff false 1), .o 27 (.du [(.str [])] 1 1 [(0,fD)]), .o 28 (.app 1 16 fb fM), .m 3 gp]))) (.run [.o 29 (.bin .add eC (.k (.int .i64 1))), .m 20 gw])
abbrev QV1:AC:= .block 0 (.loop (.seq (.run [.o 21 (.bin .lss eC ey)]) (.seq (.cond eB .skip (.exit 0)) QUX)))
abbrev QV6:AC:= .seq (.run [(.o 53 (.build [(.int .i64 0),(.int .i64 0)] [(0,(1,(.k (.int .i64 5))))])), .op none none (.store dC nh 2)]) .ret
abbrev QVH:AC:= .seq (.run [(.o 73 (.build [(.int .i64 0),(.int .i64 0)] [(0,(1,(.k (.int .i64 5))))])), .op none none (.store dC DM 2)]) .ret
abbrev QVQ:AC:= .seq (.run [.o 89 (.aw dd 0), .o 90 (.aw Ga 0), .o 91 (.load Ji false 1),(.o 92 (.build [(.int .i64 0),(.int .i64 0)] [(0,(1,(.k (.int .i64 5)))),(1,(1,M5))])), .op none none (.store dC Tc 2)]) .ret
abbrev QVW:AC:= .seq (.block 5 (.seq (.run [.o 80 (.cu DN BI 17), .o 81 (.load Jg true 17), .o 12 (.alloc [(.int .i64 0),(.int .i64 0),(.slice .full 0 []),(.str []),(.str []),(.int .i64 0),(.int .i64 0),(.str []),(.slice .full 0 []),(.bool false),(.slice .full 0 []),(.slice .full 0 []),(.slice .full 0 []),(.int .i64 0),(.int .i64 0),(.int .i64 0),(.int .i64 0)]), .op none none (.store dd Jh 17)]) (.seq (.run [.o 82 (.load bu true 2), .o 83 (.load dr true 5), .m 84 cL, .o 85 (.aw dd 0), .o 86 (.load MY true 13), .c 87 sf [MV,MW,MX,MZ], .o 88 (.un .not M3)]) (.cond M4 QVQ .skip)))) (.run [.o 93 (.bin .add BI (.k (.int .i64 1))), .m 78 Zp])
abbrev QW0:AC:= .block 4 (.loop (.seq (.run [.o 79 (.bin .lss BI F9)]) (.seq (.cond Jf .skip (.exit 4)) QVW)))
abbrev QW2:AC:= .seq (.seq (.run [.m 66 cj, .c 67 pY [zW], .m 68 zX, .g 69 68 false (.mv cj), .g 70 68 false (.wQ 130 [bu]), .d 71 68 false ie [BG,BH], .o 72 (.pick xL (.k (.bool true)) F6)]) (.cond DL QVH .skip)) (.seq (.run [.m 74 c6, .m 75 cW, .c 76 iY [F7,F8], .o 77 (.len DN), .o 78 (.mv (.k (.int .i64 0)))]) QW0)
abbrev QW7:AC:= .seq (.block 3 (.seq (.run [.m 61 od, .o 62 (.cu qL od 5), .o 63 (.load sx true 5), .o 9 (.alloc [(.str []),(.slice .full 0 []),(.slice .full 0 []),(.slice .full 0 []),(.slice .full 0 [])]), .m 8 tC, .op none none (.store dr tD 5)]) (.seq (.run [.o 64 (.load dr true 5), .c 65 vj [tF], .m 10 xK]) QW2))) (.run [.o 94 (.bin .add od (.k (.int .i64 1))), .m 59 Zq])
abbrev QWB:AC:= .block 2 (.loop (.seq (.run [.o 60 (.bin .lss od ql)]) (.seq (.cond rF .skip (.exit 2)) QW7)))
abbrev QWF:AC:= .seq (.seq (.run [.o 56 (.aw bu 1), .o 57 (.load pK false 1), .o 58 (.len qL), .o 59 (.mv (.k (.int .i64 0)))]) QWB) (.seq (.run [.o 95 (.build [(.int .i64 0),(.int .i64 0)] []), .op none none (.store dC Zr 2)]) .ret)
abbrev QWH:AC:= .seq (.seq (.run [.o 32 (.aw bu 0), .o 33 (.load iu false 1), .c 34 pY [ig], .m 35 iQ, .g 36 35 false (.mv cL), .d 37 35 false pY [iJ], .o 38 (.pick iw (.k (.bool true)) jk), .m 39 jL, .g 40 39 false (.mv dH), .g 41 39 false (.bin .lss kq (.k (.int .i64 0))), .o 42 (.pick jy (.k (.bool true)) jZ), .m 43 kG, .g 44 43 false (.aw bu 1), .g 45 43 false (.load kH false 1), .g 46 43 false (.mv dH), .g 47 43 false (.cu lS lT 5), .g 48 43 false (.aw na 1), .g 49 43 false (.load nc false 1), .g 50 43 false (.len ng), .g 51 43 false (.bin .gtr nz (.k (.int .i64 0))), .o 52 (.pick kr (.k (.bool true)) ml)]) (.cond mn QV6 .skip)) (.seq (.run [.o 54 (.load bu true 2), .c 55 l9 [nA], .m 7 nB]) QWF)
abbrev QWJ:AC:= .seq (.seq (.run [.o 17 (.aw bu 1), .o 18 (.load dN false 1), .o 19 (.len dJ), .o 20 (.mv (.k (.int .i64 0)))]) QV1) (.seq (.run [.m 30 cL,(.c 31 ic [gE,(.k (.str [109,97,105,110]))]), .m 6 gK]) QWH)
abbrev QWL:AC:= .seq (.seq (.run [.o 13 (.load bu true 2), .c 14 q6 [dk], .o 15 (.un .not da)]) (.cond dE QUL .skip)) (.seq (.run [.o 3 (.mv (.k (.slice .full 0 [])))]) QWJ)
abbrev QWM:AC:= .seq (.run [.o 1 (.box bG), .o 2 (.alloc [(.int .i64 0),(.int .i64 0)])]) QWL
abbrev QWQ:AC:= .seq (.run [(.o 9 (.build [(.int .i64 0),(.int .i64 0)] [(0,(1,(.k (.int .i64 1))))])), .op none none (.store dC dr 2)]) .ret
abbrev QWZ:AC:= .seq (.run [.o 31 (.aw fK 0), .o 32 (.aw gK 0), .o 33 (.load iu false 1),(.o 34 (.build [(.int .i64 0),(.int .i64 0)] [(0,(1,(.k (.int .i64 6)))),(1,(1,ig))])), .op none none (.store dC iQ 2)]) .ret
abbrev QX2:AC:= .seq (.run [.o 18 (.cu da dn 17), .o 19 (.load dJ true 17), .o 4 (.alloc [(.int .i64 0),(.int .i64 0),(.slice .full 0 []),(.str []),(.str []),(.int .i64 0),(.int .i64 0),(.str []),(.slice .full 0 []),(.bool false),(.slice .full 0 []),(.slice .full 0 []),(.slice .full 0 []),(.int .i64 0),(.int .i64 0),(.int .i64 0),(.int .i64 0)]), .op none none (.store fK ey 17)]) (.seq (.run [.o 20 (.aw fK 0), .o 21 (.aw eC 1), .o 22 (.load eB false 1), .o 23 (.bin .eql eD (.k (.int .i64 4))), .m 24 eO, .g 25 24 true (.load bu true 2), .g 26 24 true (.aw fK 0), .g 27 24 true (.load fD true 13), .d 28 24 true xG [ff,fM], .g 29 24 true (.un .not gp), .o 30 (.pick fb gw (.k (.bool false)))]) (.cond gE QWZ .skip))
abbrev QX6:AC:= .seq (.cond dN .skip (.exit 0)) (.seq (.block 1 QX2) (.run [.o 35 (.bin .add dn (.k (.int .i64 1))), .m 16 iw]))
abbrev QXA:AC:= .seq (.run [.o 10 (.load bu true 2), .c 11 l9 [cj], .o 12 (.cz cR), .o 13 (.aw dd 2), .o 14 (.load dk false 1), .o 15 (.len da), .o 16 (.mv (.k (.int .i64 0)))]) (.block 0 (.loop (.seq (.run [.o 17 (.bin .lss dn dE)]) QX6)))
abbrev QXE:AC:= .seq (.seq (.run [.o 5 (.load bu true 2), .c 6 nH [cq], .o 7 (.Fl dH 0 false 1), .o 8 (.bin .neq c6 (.k (.int .i64 0)))]) (.cond cW QWQ .skip)) (.seq QXA (.seq (.run [.o 36 (.build [(.int .i64 0),(.int .i64 0)] []), .op none none (.store dC iJ 2)]) .ret))
abbrev QXF:AC:= .seq (.run [.o 1 (.box bG), .o 2 (.alloc [(.int .i64 0),(.int .i64 0)])]) QXE
abbrev QXK:AC:= .seq (.run [(.o 14 (.build [(.int .i64 0),(.int .i64 0)] [(0,(1,(.k (.int .i64 1))))])), .op none none (.store dC da 2)]) .ret
abbrev QY0:AC:= .seq (.run [.o 47 (.aw dr 0), .o 48 (.aw na 0), .o 49 (.load nc false 1),(.o 50 (.build [(.int .i64 0),(.int .i64 0)] [(0,(1,(.k (.int .i64 7)))),(1,(1,ng))])), .op none none (.store dC nz 2)]) .ret
abbrev QY3:AC:= .seq (.run [.m 32 dH, .o 33 (.aw dr 0), .o 34 (.aw ig 2), .o 35 (.load iQ false 1), .c 36 rS [iu,iw], .m 31 iJ, .o 37 (.ext gK 0), .o 38 (.ext gK 1), .m 6 jk, .m 7 jL]) (.seq (.run [.m 39 c6, .o 40 (.un .not jy), .m 41 kq, .g 42 41 false (.mv cL), .g 43 41 false (.load dr true 17), .d 44 41 false xH [kG,kr], .g 45 41 false (.un .not kH), .o 46 (.pick jZ (.k (.bool true)) lS)]) (.cond lT QY0 .skip))
abbrev QY7:AC:= .seq (.block 3 (.seq (.run [.o 29 (.cu ff fM 17), .o 30 (.load gw true 17), .o 9 (.alloc [(.int .i64 0),(.int .i64 0),(.slice .full 0 []),(.str []),(.str []),(.int .i64 0),(.int .i64 0),(.str []),(.slice .full 0 []),(.bool false),(.slice .full 0 []),(.slice .full 0 []),(.slice .full 0 []),(.int .i64 0),(.int .i64 0),(.int .i64 0),(.int .i64 0)]), .op none none (.store dr gE 17)]) QY3)) (.run [.o 51 (.bin .add fM (.k (.int .i64 1))), .m 27 ml])
abbrev QYB:AC:= .block 2 (.loop (.seq (.run [.o 28 (.bin .lss fM fD)]) (.seq (.cond gp .skip (.exit 2)) QY7)))
abbrev QYG:AC:= .seq (.run [(.o 61 (.build [(.int .i64 0),(.int .i64 0)] [(0,(1,(.k (.int .i64 7))))])), .op none none (.store dC tC 2)]) .ret
abbrev QYK:AC:= .seq (.seq (.run [.m 23 cL, .m 24 fK, .c 25 iY [eO,fb], .o 26 (.len ff), .o 27 (.mv (.k (.int .i64 0)))]) QYB) (.seq (.run [.m 53 dH, .o 54 (.aw cq 4), .o 55 (.load nA false 1), .c 56 rS [nh,nB], .m 52 pK, .o 57 (.ext mn 0), .o 58 (.ext mn 1), .m 7 ql]) (.seq (.run [.m 59 c6, .o 60 (.un .not od)]) (.cond rF QYG .skip)))
abbrev QYM:AC:= .seq (.run [.o 6 (.mv (.k (.slice .full 0 [])))]) (.seq (.run [.o 7 (.mv (.k (.bool true)))]) QYK)
abbrev QYQ:AC:= .seq (.block 1 (.seq (.run [.m 20 dJ, .o 21 (.cu dn dJ 5), .o 22 (.load eB true 5), .o 5 (.alloc [(.str []),(.slice .full 0 []),(.slice .full 0 []),(.slice .full 0 []),(.slice .full 0 [])]), .m 4 eC, .op none none (.store cq eD 5)]) QYM)) (.run [.o 62 (.bin .add dJ (.k (.int .i64 1))), .m 18 sx])
abbrev QYU:AC:= .block 0 (.loop (.seq (.run [.o 19 (.bin .lss dJ dN)]) (.seq (.cond ey .skip (.exit 0)) QYQ)))
abbrev QYY:AC:= .seq (.seq (.run [.o 15 (.aw bu 1), .o 16 (.load dE false 1), .o 17 (.len dn), .o 18 (.mv (.k (.int .i64 0)))]) QYU) (.seq (.run [.o 63 (.build [(.int .i64 0),(.int .i64 0)] []), .op none none (.store dC tD 2)]) .ret)
abbrev QZ0:AC:= .seq (.run [.o 10 (.load bu true 2), .c 11 tv [cj], .m 3 cR]) (.seq (.seq (.run [.m 12 cL, .o 13 (.JS false dd (.k .eY))]) (.cond dk QXK .skip)) QYY)
abbrev QZ1:AC:= .seq (.run [.o 1 (.box bG), .o 2 (.alloc [(.int .i64 0),(.int .i64 0)])]) QZ0
abbrev QZ5:AC:= .seq (.run [(.o 12 (.build [(.int .i64 0),(.int .i64 0)] [(0,(1,(.k (.int .i64 1))))])), .op none none (.store dC dd 2)]) .ret
abbrev QZD:AC:= .par [.m 21 cL, .o 22 (.aw cq 0), .o 23 (.load eD false 1), .o 24 (.load bu true 2), .o 25 (.aw cq 0), .o 26 (.load ff false 1), .c 27 tw [fb,fD], .op none none (.Bg eB eO fM)] [(3,0),(4,0),(5,0),(6,0),(0,0),(1,0),(2,1),(7,0)]
abbrev QZH:AC:= .seq (.block 1 (.seq (.run [.o 19 (.cu dE dN 5), .o 20 (.load ey true 5), .o 5 (.alloc [(.str []),(.slice .full 0 []),(.slice .full 0 []),(.slice .full 0 []),(.slice .full 0 [])]), .op none none (.store cq eC 5)]) QZD)) (.run [.o 28 (.bin .add dN (.k (.int .i64 1))), .m 17 gp])
abbrev QZL:AC:= .block 0 (.loop (.seq (.run [.o 18 (.bin .lss dN dn)]) (.seq (.cond dJ .skip (.exit 0)) QZH)))
abbrev QZT:AC:= .seq (.run [.o 54 (.aw c6 0), .o 55 (.aw nA 0), .o 56 (.load nB false 1),(.o 57 (.build [(.int .i64 0),(.int .i64 0)] [(0,(1,(.k (.int .i64 8)))),(1,(1,pK))])), .op none none (.store dC qL 2)]) .ret
abbrev QZW:AC:= .seq (.run [.o 37 (.cu ig iw 17), .o 38 (.load jk true 17), .o 7 (.alloc [(.int .i64 0),(.int .i64 0),(.slice .full 0 []),(.str []),(.str []),(.int .i64 0),(.int .i64 0),(.str []),(.slice .full 0 []),(.bool false),(.slice .full 0 []),(.slice .full 0 []),(.slice .full 0 []),(.int .i64 0),(.int .i64 0),(.int .i64 0),(.int .i64 0)]), .op none none (.store c6 jL 17)]) (.seq (.run [.o 39 (.aw c6 0), .o 40 (.aw jy 1), .o 41 (.load kq false 1), .o 42 (.bin .eql jZ (.k (.int .i64 4))), .m 43 kG, .g 44 43 true (.aw c6 0), .g 45 43 true (.load kH true 13), .g 46 43 true (.mv cL), .g 47 43 true (.aw c6 0), .g 48 43 true (.aw na 4), .g 49 43 true (.load nc false 1), .g 50 43 true (.yu lT ng (.slice .full 0 [])), .d 51 43 true uL [lS,nz], .g 52 43 true (.un .not ml), .o 53 (.pick kr mn (.k (.bool false)))]) (.cond nh QZT .skip))
abbrev apa:AC:= .seq (.cond iJ .skip (.exit 2)) (.seq (.block 3 QZW) (.run [.o 58 (.bin .add iw (.k (.int .i64 1))), .m 35 ql]))
abbrev apb:AC:= .seq (.run [.o 29 (.load bu true 2), .c 30 l9 [gw], .o 31 (.cz gE), .o 32 (.aw gK 2), .o 33 (.load iu false 1), .o 34 (.len ig), .o 35 (.mv (.k (.int .i64 0)))]) (.block 2 (.loop (.seq (.run [.o 36 (.bin .lss iw iQ)]) apa)))
abbrev apc:AC:= .seq (.seq (.run [.o 14 (.aw bu 1), .o 15 (.load da false 1), .o 16 (.len dE), .o 17 (.mv (.k (.int .i64 0)))]) QZL) (.seq apb (.seq (.run [.o 59 (.build [(.int .i64 0),(.int .i64 0)] []), .op none none (.store dC od 2)]) .ret))
abbrev apd:AC:= .seq (.seq (.run [.o 8 (.load bu true 2), .c 9 se [cW], .o 10 (.Fl dr 0 false 1), .o 11 (.bin .neq cj (.k (.int .i64 0)))]) (.cond cR QZ5 .skip)) (.seq (.run [.op (some 13) none .wR, .m 3 dk]) apc)
abbrev ape:AC:= .seq (.run [.o 1 (.box bG), .o 2 (.alloc [(.int .i64 0),(.int .i64 0)])]) apd
abbrev apf:AC:= .cond dN (.seq (.run [.o 2 (.mv (.k (.int .i64 2)))]) .ret) .skip
abbrev apg:AC:= .cond cj (.seq (.run [.o 2 (.mv (.k (.int .i64 1)))]) .ret) (.seq (.run [.m 18 bG, .o 19 (.bin .geq dJ (.k (.int .i64 5))), .m 20 ey, .g 21 20 true (.mv bG), .g 22 20 true (.bin .leq eB (.k (.int .i64 17))), .o 23 (.pick eC eD (.k (.bool false))), .m 17 eO]) apf)
abbrev aph:AC:= .cond cL (.seq (.run [.o 2 (.mv (.k (.int .i64 0)))]) .ret) (.seq (.run [.m 11 bG, .o 12 (.bin .eql cR (.k (.int .i64 3))), .m 13 dd, .g 14 13 false (.mv bG), .g 15 13 false (.bin .eql da (.k (.int .i64 4))), .o 16 (.pick dk (.k (.bool true)) dE), .m 10 dn]) apg)
abbrev api:AC:= .block 0 (.seq (.run [.m 4 bG, .o 5 (.bin .eql fK (.k (.int .i64 1))), .m 6 cq, .g 7 6 false (.mv bG), .g 8 6 false (.bin .eql c6 (.k (.int .i64 2))), .o 9 (.pick dH (.k (.bool true)) cW), .m 3 dr]) aph)
abbrev apj:AC:= .seq (.run [(.o 2 (.mv (.k (.int .i64 (-1)))))]) .ret
abbrev apk:AC:= .seq (.run [.o 2 (.mv (.k (.int .i64 0)))]) (.seq api apj)
abbrev apl:AC:= .par [.o 20 (.aw c6 0), .o 21 (.load eC false 1), .o 22 (.aw c6 2), .o 23 (.load eD false 1), .c 24 oQ [eO], .o 25 (.aw c6 4), .o 26 (.load ff false 1), .c 27 oQ [fD], .o 28 (.aw c6 3), .o 29 (.load gp false 1), .o 30 (.load cL true 13), .c 31 pJ [gw,gE], .o 32 (.build [(.str []),(.slice .full 0 []),(.slice .full 0 []),(.slice .full 0 []),(.slice .full 0 [])] [(0,(1,eB)),(2,(1,fb)),(4,(1,fM)),(3,(1,gK))]), .o 8 (.alloc [(.str []),(.slice .full 0 []),(.slice .full 0 []),(.slice .full 0 []),(.slice .full 0 [])]), .op none none (.store cW iu 5)] [(2,0),(3,0),(4,0),(5,0),(6,1),(7,0),(8,0),(9,2),(10,2),(11,0),(13,0),(0,0),(1,4),(12,0),(14,0)]
abbrev apm:AC:= .seq (.run [.o 18 (.cu da dn 5), .o 19 (.load dJ true 5), .o 7 (.alloc [(.str []),(.slice .full 0 []),(.slice .full 0 []),(.slice .full 0 []),(.slice .full 0 [])]), .op none none (.store c6 ey 5)]) (.seq apl (.seq (.run [.o 33 (.aw cW 1), .o 34 (.load ig false 1), .o 35 (.aw c6 1), .o 36 (.load iw false 1), .o 37 (.app 2 24 iQ iJ), .o 38 (.aw cW 1), .op none none (.store jL jk 1)]) (.run [.o 39 (.aw cq 1), .o 40 (.load jy false 1), .o 41 (.load cW true 5), .o 42 (.du [(.str []),(.slice .full 0 []),(.slice .full 0 []),(.slice .full 0 []),(.slice .full 0 [])] 5 1 [(0,jZ)]), .o 43 (.app 5 112 kq kG), .o 44 (.aw cq 1), .op none none (.store kH kr 1)])))
abbrev apn:AC:= .seq (.cond dN .skip (.exit 0)) (.seq (.block 1 apm) (.run [.o 45 (.bin .add dn (.k (.int .i64 1))), .m 16 lS]))
abbrev Zs:AC:= .seq (.run [.o 17 (.bin .lss dn dE)]) apn
abbrev Zt:AC:= .seq (.run [.o 46 (.load cq true 2), .op none none (.store fK lT 2)]) .ret
abbrev apo:AC:= .seq (.seq (.run [.o 13 (.aw dC 1), .o 14 (.load dk false 1), .o 15 (.len da), .o 16 (.mv (.k (.int .i64 0)))]) (.block 0 (.loop Zs))) Zt
abbrev apq:AC:= .seq (.run [.o 2 (.box bG), .o 3 (.box bu), .o 4 (.alloc [(.slice .full 0 []),(.slice .full 0 [])])]) (.seq (.run [.o 9 (.aw dC 0), .o 10 (.load dr false 1), .c 11 oQ [cj], .o 12 (.build [(.slice .full 0 []),(.slice .full 0 [])] [(0,(1,cR))]), .o 5 (.alloc [(.slice .full 0 []),(.slice .full 0 [])]), .op none none (.store cq dd 2)]) apo)
open Go.Proofs
theorem Jj:Has Tryz.prog oO 15 [(2,none)] QM4:=⟨Tryz.f64,by kernel_rfl,by kernel_rfl⟩
theorem oR:Has Tryz.prog pI 27 [(2,none)] QME:=⟨Tryz.f65,by kernel_rfl,by kernel_rfl⟩
theorem tG:Has Tryz.prog lF 71 [(6,none)] QNF:=⟨Tryz.f66,by kernel_rfl,by kernel_rfl⟩
theorem HC:Has Tryz.prog lR 48 [(4,none)] QOB:=⟨Tryz.f67,by kernel_rfl,by kernel_rfl⟩
theorem Na:Has Tryz.prog tr 5 [(2,(some (true,4)))] QOF:=⟨Tryz.f68,by kernel_rfl,by kernel_rfl⟩
theorem Lh:Has Tryz.prog mD 5 [(2,(some (true,4)))] QOJ:=⟨Tryz.f69,by kernel_rfl,by kernel_rfl⟩
theorem Nb:Has Tryz.prog wW 12 [(6,(some (true,4)))] QON:=⟨Tryz.f70,by kernel_rfl,by kernel_rfl⟩
theorem DP:Has Tryz.prog lg 29 [(4,none)] QP6:=⟨Tryz.f71,by kernel_rfl,by kernel_rfl⟩
theorem DQ:Has Tryz.prog lh 73 [] QQ8:=⟨Tryz.f72,by kernel_rfl,by kernel_rfl⟩
theorem Jk:Has Tryz.prog xE 28 [(4,none)] QR1:=⟨Tryz.f73,by kernel_rfl,by kernel_rfl⟩
theorem BL:Has Tryz.prog qI 27 [(4,none)] QRB:=⟨Tryz.f74,by kernel_rfl,by kernel_rfl⟩
theorem ui:Has Tryz.prog iz 19 [(4,none)] QRY:=⟨Tryz.f75,by kernel_rfl,by kernel_rfl⟩
theorem AQ:Has Tryz.prog nn 8 [(3,none)] QS2:=⟨Tryz.f76,by kernel_rfl,by kernel_rfl⟩
theorem AR:Has Tryz.prog jG 20 [(4,none)] QS8:=⟨Tryz.f77,by kernel_rfl,by kernel_rfl⟩
theorem AS:Has Tryz.prog la 64 [(4,none),(5,none)] QT2:=⟨Tryz.f78,by kernel_rfl,by kernel_rfl⟩
theorem AT:Has Tryz.prog fy 26 [] QT6:=⟨Tryz.f79,by kernel_rfl,by kernel_rfl⟩
theorem Fb:Has Tryz.prog qs 38 [(6,none),(7,none)] QTZ:=⟨Tryz.f80,by kernel_rfl,by kernel_rfl⟩
theorem CJ:Has Tryz.prog rR 13 [(4,none)] QU9:=⟨Tryz.f81,by kernel_rfl,by kernel_rfl⟩
theorem C0:Has Tryz.prog lX 15 [(2,none)] QUD:=⟨Tryz.f82,by kernel_rfl,by kernel_rfl⟩
theorem Li:Has Tryz.prog zR 6 [(2,none)] QUH:=⟨Tryz.f85,by kernel_rfl,by kernel_rfl⟩
theorem yN:Has Tryz.prog nH 96 [(2,(some (true,2)))] QWM:=⟨Tryz.f95,by kernel_rfl,by kernel_rfl⟩
theorem yO:Has Tryz.prog se 37 [(2,(some (true,2)))] QXF:=⟨Tryz.f96,by kernel_rfl,by kernel_rfl⟩
theorem AU:Has Tryz.prog xF 64 [(2,(some (true,2)))] QZ1:=⟨Tryz.f97,by kernel_rfl,by kernel_rfl⟩
theorem yP:Has Tryz.prog wi 60 [(2,(some (true,2)))] ape:=⟨Tryz.f98,by kernel_rfl,by kernel_rfl⟩
theorem Lj:Has Tryz.prog zS 24 [(2,none)] apk:=⟨Tryz.f99,by kernel_rfl,by kernel_rfl⟩
theorem Nc:Has Tryz.prog tt 47 [(4,(some (true,2)))] apq:=⟨Tryz.f101,by kernel_rfl,by kernel_rfl⟩
abbrev apr:AC:= .seq (.run [.m 20 bu, .o 21 (.aw dr 0), .op none none (.store eB eC 1)]) (.seq (.run [.o 23 (.aw cW 11), .o 24 (.load eO false 1), .m 25 bu, .c 26 kC [fb,ff], .m 22 fD, .o 27 (.ext eD 0), .o 28 (.ext eD 1), .o 29 (.aw dr 11), .op none none (.store gw fM 1), .m 1 gp]) (.seq (.run [.o 31 (.aw cW 12), .o 32 (.load gK false 1), .m 33 bu, .c 34 kC [iu,ig], .m 30 iQ, .o 35 (.ext gE 0), .o 36 (.ext gE 1), .o 37 (.aw dr 12), .op none none (.store jk iw 1), .m 1 iJ]) (.run [.m 38 dH, .o 39 (.load dr true 13), .o 40 (.du [(.int .i64 0),(.int .i64 0),(.slice .full 0 []),(.str []),(.str []),(.int .i64 0),(.int .i64 0),(.str []),(.slice .full 0 []),(.bool false),(.slice .full 0 []),(.slice .full 0 []),(.slice .full 0 [])] 13 1 [(0,jy)]), .o 41 (.app 13 208 jL kq), .m 6 jZ])))
abbrev aps:AC:= .seq (.run [.o 14 (.cu cj dd 13), .o 15 (.load da true 13), .o 8 (.alloc [(.int .i64 0),(.int .i64 0),(.slice .full 0 []),(.str []),(.str []),(.int .i64 0),(.int .i64 0),(.str []),(.slice .full 0 []),(.bool false),(.slice .full 0 []),(.slice .full 0 []),(.slice .full 0 [])]), .op none none (.store cW dE 13)]) (.seq (.run [.m 16 bu, .o 17 (.bin .add dn (.k (.int .i64 1))), .m 1 dN]) (.seq (.run [.o 18 (.load cW true 13), .c 19 mP [dJ], .o 9 (.alloc [(.int .i64 0),(.int .i64 0),(.slice .full 0 []),(.str []),(.str []),(.int .i64 0),(.int .i64 0),(.str []),(.slice .full 0 []),(.bool false),(.slice .full 0 []),(.slice .full 0 []),(.slice .full 0 [])]), .op none none (.store dr ey 13)]) apr))
abbrev apt:AC:= .seq (.cond dk .skip (.exit 0)) (.seq (.block 1 aps) (.run [.o 42 (.bin .add dd (.k (.int .i64 1))), .m 12 kG]))
abbrev apu:AC:= .seq (.run [.m 10 bG, .o 11 (.len cj), .o 12 (.mv (.k (.int .i64 0)))]) (.block 0 (.loop (.seq (.run [.o 13 (.bin .lss dd cR)]) apt)))
abbrev apv:AC:= .seq (.run [.o 4 (.mv (.k (.slice .full 0 []))), .o 5 (.mv (.k (.int .i64 0)))]) (.seq (.run [.o 6 (.mv (.k (.slice .full 0 [])))]) (.seq apu (.seq (.run [.m 43 dH, .m 44 bu, .m 4 kr, .m 5 kH]) .ret)))
abbrev apw:AC:= .par [.o 6 (.aw bu 0), .o 7 (.load dH false 1), .o 8 (.aw bu 1), .o 9 (.load cW false 1), .o 10 (.aw bu 2), .o 11 (.load cj false 1), .c 12 oQ [cR], .o 13 (.aw bu 3), .o 14 (.load dk false 1), .o 15 (.aw bu 4), .o 16 (.load dE false 1), .o 17 (.aw bu 5), .o 18 (.load dN true 4), .c 19 kD [dJ], .o 20 (.aw bu 9), .o 21 (.load eC false 1), .o 22 (.build [(.int .i64 0),(.int .i64 0),(.slice .full 0 []),(.str []),(.str []),(.int .i64 0),(.int .i64 0),(.str []),(.slice .full 0 []),(.bool false),(.slice .full 0 []),(.slice .full 0 []),(.slice .full 0 [])] [(0,(1,c6)),(1,(1,dr)),(2,(1,dd)),(3,(1,da)),(4,(1,dn)),(5,(4,ey)),(9,(1,eB))]), .o 3 (.alloc [(.int .i64 0),(.int .i64 0),(.slice .full 0 []),(.str []),(.str []),(.int .i64 0),(.int .i64 0),(.str []),(.slice .full 0 []),(.bool false),(.slice .full 0 []),(.slice .full 0 []),(.slice .full 0 [])]), .op none none (.store cL eD 13)] [(4,0),(5,0),(6,0),(11,0),(12,1),(13,0),(17,0),(0,0),(1,3),(2,0),(3,3),(7,0),(8,3),(9,0),(10,3),(14,0),(15,3),(16,0),(18,0)]
abbrev apx:AC:= .par [.o 30 (.aw cL 10), .o 31 (.load gE false 1), .o 32 (.aw cq 0), .o 33 (.load iu false 1), .o 34 (.aw cq 1), .o 35 (.load iQ false 1), .o 36 (.aw cq 2), .o 37 (.load iJ true 4), .c 38 kD [jk], .o 39 (.build [(.bool false),(.str []),(.int .i64 0),(.int .i64 0),(.str []),(.slice .full 0 [])] [(0,(1,ig)),(1,(1,iw)),(2,(4,jL))]), .o 40 (.du [(.bool false),(.str []),(.int .i64 0),(.int .i64 0),(.str []),(.slice .full 0 [])] 6 1 [(0,jy)]), .o 41 (.app 6 80 gK kq), .o 42 (.aw cL 10), .op none none (.store kG jZ 1)] [(6,0),(7,0),(8,0),(0,0),(1,1),(2,0),(3,1),(4,0),(5,1),(9,0),(10,0),(11,0),(12,0),(13,0)]
abbrev apy:AC:= .seq (.block 1 (.seq (.run [.o 28 (.cu fb fD 6), .o 29 (.load gp true 6), .o 5 (.alloc [(.bool false),(.str []),(.int .i64 0),(.int .i64 0),(.str []),(.slice .full 0 [])]), .op none none (.store cq gw 6)]) apx)) (.run [.o 43 (.bin .add fD (.k (.int .i64 1))), .m 26 kr])
abbrev apz:AC:= .block 0 (.loop (.seq (.run [.o 27 (.bin .lss fD ff)]) (.seq (.cond fM .skip (.exit 0)) apy)))
abbrev apA:AC:= .seq (.seq (.run [.o 23 (.aw bu 10), .o 24 (.load eO false 1), .o 25 (.len fb), .o 26 (.mv (.k (.int .i64 0)))]) apz) (.seq (.run [.o 44 (.load cL true 13), .op none none (.store dC kH 13)]) .ret)
abbrev apB:AC:= .seq (.run [.o 1 (.box bG), .o 2 (.alloc [(.int .i64 0),(.int .i64 0),(.slice .full 0 []),(.str []),(.str []),(.int .i64 0),(.int .i64 0),(.str []),(.slice .full 0 []),(.bool false),(.slice .full 0 []),(.slice .full 0 []),(.slice .full 0 [])])]) (.seq apw apA)
abbrev apC:AC:= .seq (.run [.o 2 (.mv (.k (.bool false)))]) (.seq (.run [.m 3 bG, .o 4 (.bin .geq cL (.k (.int .u8 97))), .m 5 fK, .g 6 5 true (.mv bG), .g 7 5 true (.bin .leq dH (.k (.int .u8 122))), .o 8 (.pick cq c6 (.k (.bool false))), .m 2 cW]) .ret)
abbrev apD:AC:= .seq (.seq (.run [.m 5 bu, .m 6 bG, .o 7 (.xg dH), .o 8 (.bin .lss cq c6), .m 9 cW, .g 10 9 true (.mv bG), .g 11 9 true (.mv bu), .g 12 9 true (.C9 cj cR), .d 13 9 true tu [dd], .g 14 9 true (.mv dk), .g 15 14 false (.mv bG), .g 16 14 false (.mv bu), .g 17 14 false (.C9 dE dn), .d 18 14 false zT [dN], .g 19 9 true (.pick da (.k (.bool true)) dJ), .o 20 (.pick dr ey (.k (.bool false)))]) (.cond eC .skip (.exit 0))) (.block 1 (.run [.m 21 bu, .o 22 (.bin .add eB (.k (.int .i64 1))), .m 1 eD]))
abbrev apE:AC:= .seq (.run [.o 4 (.mv (.k (.int .i64 0)))]) (.seq (.block 0 (.loop apD)) (.seq (.run [.m 23 bu, .m 4 eO]) .ret))
abbrev apG:AC:= .seq (.run [.o 16 (.bin .eql cL (.k (.str [114,101,97,100]))), .m 4 dn]) (.cond fK .skip (.run [.o 17 (.bin .eql cL (.k (.str [112,114,105,110,116]))), .m 4 dN]))
abbrev apH:AC:= .cond fK .skip (.seq (.run [.o 15 (.bin .eql cL (.k (.str [103,111,116,111]))), .m 4 dE]) (.cond fK .skip apG))
abbrev apI:AC:= .cond fK .skip (.seq (.run [.o 14 (.bin .eql cL (.k (.str [114,101,116,117,114,110]))), .m 4 da]) apH)
abbrev apJ:AC:= .cond fK .skip (.seq (.run [.o 13 (.bin .eql cL (.k (.str [99,111,110,116,105,110,117,101]))), .m 4 dk]) apI)
abbrev apK:AC:= .cond fK .skip (.seq (.run [.o 12 (.bin .eql cL (.k (.str [98,114,101,97,107]))), .m 4 dd]) apJ)
abbrev apL:AC:= .cond fK .skip (.seq (.run [.o 11 (.bin .eql cL (.k (.str [119,104,105,108,101]))), .m 4 cR]) apK)
abbrev apN:AC:= .cond fK .skip (.seq (.run [.o 10 (.bin .eql cL (.k (.str [101,108,115,101]))), .m 4 cj]) apL)
abbrev apO:AC:= .cond fK .skip (.seq (.run [.o 9 (.bin .eql cL (.k (.str [105,102]))), .m 4 dr]) apN)
abbrev apP:AC:= .cond fK .skip (.seq (.run [.o 8 (.bin .eql cL (.k (.str [114,101,102]))), .m 4 cW]) apO)
abbrev apQ:AC:= .cond fK .skip (.seq (.run [.o 7 (.bin .eql cL (.k (.str [118,97,114]))), .m 4 c6]) apP)
abbrev apR:AC:= .cond fK .skip (.seq (.run [.o 6 (.bin .eql cL (.k (.str [112,114,111,99]))), .m 4 dH]) apQ)
abbrev apS:AC:= .cond fK (.seq (.run [.o 2 (.mv (.k (.bool true)))]) .ret) .skip
abbrev apT:AC:= .seq (.seq (.run [.o 5 (.bin .eql cL (.k (.str [103,108,111,98,97,108]))), .m 4 cq]) apR) apS
abbrev apU:AC:= .seq (.seq (.run [.m 3 bG]) (.block 0 apT)) (.seq (.run [.o 2 (.mv (.k (.bool false)))]) .ret)
abbrev apV:AC:= .seq (.run [.o 2 (.mv (.k (.bool false)))]) apU
abbrev apW:AC:= .par [.o 10 (.aw bu 9), .o 11 (.load cj false 1), .o 3 (.mv (.k (.bool false))), .o 4 (.mv (.k (.bool false))), .o 5 (.mv (.k (.bool false))), .m 6 cR, .o 7 (.mv (.k (.bool false))), .o 8 (.mv (.k (.bool false)))] [(0,0),(1,0),(2,0),(3,0),(4,0),(5,0),(6,0),(7,0)]
abbrev apX:AC:= .seq (.run [.o 20 (.bin .eql dn (.k (.int .i64 2))), .m 19 eC]) (.cond ey .skip (.run [.o 21 (.bin .eql dn (.k (.int .i64 10))), .m 19 eB]))
abbrev apY:AC:= .seq (.run [.o 38 (.bin .eql dn (.k (.int .i64 7))), .m 37 jL]) (.cond jk .skip (.run [.o 39 (.bin .eql dn (.k (.int .i64 8))), .m 37 jy]))
abbrev apZ:AC:= .cond jk .skip (.seq (.run [.o 2 (.mv (.k (.bool false)))]) .ret)
abbrev ap0:AC:= .seq (.run [.o 34 (.bin .eql dn (.k (.int .i64 9))), .m 33 iQ]) (.cond ig (.run [.o 35 (.aw bu 9), .o 36 (.load iw false 1), .m 5 iJ, .o 6 (.mv (.k (.bool false)))]) (.seq apY apZ))
abbrev ap1:AC:= .seq (.run [.o 32 (.bin .eql dn (.k (.int .i64 6))), .m 31 iu]) (.cond gK (.run [.o 5 (.mv (.k (.bool true))), .o 7 (.mv (.k (.bool true)))]) ap0)
abbrev ap2:AC:= .seq (.run [.o 30 (.bin .eql dn (.k (.int .i64 5))), .m 29 gE]) (.cond gw (.run [.o 5 (.mv (.k (.bool true))), .o 7 (.mv (.k (.bool true))), .o 8 (.mv (.k (.bool true)))]) ap1)
abbrev ap3:AC:= .seq (.run [.o 25 (.bin .eql dn (.k (.int .i64 4))), .m 24 ff]) (.cond fb (.run [.o 26 (.aw bu 3), .o 27 (.load fD false 1), .o 28 (.bin .neq fM (.k (.str []))), .m 3 gp, .o 4 (.mv (.k (.bool true)))]) ap2)
abbrev ap4:AC:= .seq (.run [.o 23 (.bin .eql dn (.k (.int .i64 3))), .m 22 eO]) (.cond eD (.run [.o 5 (.mv (.k (.bool true)))]) ap3)
abbrev ap5:AC:= .seq apX (.cond ey (.run [.o 3 (.mv (.k (.bool true)))]) ap4)
abbrev ap6:AC:= .seq (.run [.o 18 (.bin .eql dn (.k (.int .i64 1))), .m 17 dJ]) (.cond dN (.run [.o 3 (.mv (.k (.bool true))), .o 5 (.mv (.k (.bool true)))]) ap5)
abbrev ap7:AC:= .run [.m 40 dH, .m 41 kq, .g 42 41 false (.mv c6), .g 43 41 false (.un .not kG), .g 44 41 false (.mv kr), .g 45 44 true (.aw bu 11), .g 46 44 true (.load lS false 1), .g 47 44 true (.len lT), .g 48 44 true (.bin .gtr na (.k (.int .i64 0))), .g 49 41 false (.pick kH nc (.k (.bool false))), .o 50 (.pick jZ (.k (.bool true)) ng), .m 51 nz, .g 52 51 false (.mv cW), .g 53 51 false (.un .not mn), .g 54 51 false (.mv nh), .g 55 54 true (.aw bu 12), .g 56 54 true (.load nB false 1), .g 57 54 true (.len pK), .g 58 54 true (.bin .gtr qL (.k (.int .i64 0))), .g 59 51 false (.pick nA ql (.k (.bool false))), .o 60 (.pick ml (.k (.bool true)) od), .m 61 rF, .g 62 61 false (.mv dr), .g 63 61 false (.un .not sx), .g 64 61 false (.mv tD), .g 65 64 true (.aw bu 10), .g 66 64 true (.load xK false 1), .g 67 64 true (.len zW), .g 68 64 true (.bin .gtr zX (.k (.int .i64 0))), .g 69 61 false (.pick tF xL (.k (.bool false))), .o 70 (.pick tC (.k (.bool true)) BG)]
abbrev ap8:AC:= .cond BH (.seq (.run [.o 2 (.mv (.k (.bool false)))]) .ret) .skip
abbrev ap9:AC:= .cond Ga (.seq (.run [.o 2 (.mv (.k (.bool false)))]) .ret) .skip
abbrev ahz:AC:= .seq (.seq (.run [.o 71 (.aw bu 3), .o 72 (.load F6 false 1), .m 73 cL, .c 74 qJ [DL,DM], .o 75 (.un .not F7), .m 76 F8, .g 77 76 false (.aw bu 4), .g 78 76 false (.load F9 false 1), .g 79 76 false (.mv fK), .d 80 76 false qJ [BI,Jf], .g 81 76 false (.un .not Jg), .o 82 (.pick DN (.k (.bool true)) Jh), .m 83 MV, .g 84 83 false (.aw bu 5), .g 85 83 false (.load MX true 4), .g 86 83 false (.mv cq), .d 87 83 false tx [MY,MZ], .g 88 83 false (.un .not M3), .o 89 (.pick MW (.k (.bool true)) M4)]) ap9) (.seq (.run [.o 90 (.aw bu 10), .o 91 (.load Ji false 1), .c 92 wk [M5], .m 2 Tc]) .ret)
abbrev ahA:AC:= .seq (.seq ap7 ap8) ahz
abbrev Zu:AC:= .seq (.seq (.run [.o 15 (.aw bu 1), .o 16 (.load dE false 1)]) (.block 0 ap6)) ahA
abbrev ahB:AC:= .seq (.run [.o 12 (.aw bu 1), .o 13 (.load dd false 1), .o 14 (.bin .eql dk (.k (.int .i64 4))), .m 9 da]) Zu
abbrev ahC:AC:= .seq apW ahB
abbrev aqa:AC:= .seq (.run [.o 1 (.box bG), .o 2 (.mv (.k (.bool false)))]) ahC
abbrev aqb:AC:= .seq (.block 1 (.seq (.run [.o 13 (.cu dr cR 13), .o 14 (.load dk true 13), .o 5 (.alloc [(.int .i64 0),(.int .i64 0),(.slice .full 0 []),(.str []),(.str []),(.int .i64 0),(.int .i64 0),(.str []),(.slice .full 0 []),(.bool false),(.slice .full 0 []),(.slice .full 0 []),(.slice .full 0 [])]), .op none none (.store cq da 13)]) (.run [.m 15 cL, .o 16 (.load cq true 13), .c 17 oa [dn], .o 18 (.bin .add dE dN), .m 3 dJ]))) (.run [.o 19 (.bin .add cR (.k (.int .i64 1))), .m 11 ey])
abbrev aqc:AC:= .block 0 (.loop (.seq (.run [.o 12 (.bin .lss cR cj)]) (.seq (.cond dd .skip (.exit 0)) aqb)))
abbrev aqd:AC:= .seq (.block 3 (.seq (.run [.o 25 (.cu eB eO 13), .o 26 (.load ff true 13), .o 7 (.alloc [(.int .i64 0),(.int .i64 0),(.slice .full 0 []),(.str []),(.str []),(.int .i64 0),(.int .i64 0),(.str []),(.slice .full 0 []),(.bool false),(.slice .full 0 []),(.slice .full 0 []),(.slice .full 0 [])]), .op none none (.store c6 fD 13)]) (.run [.m 27 cL, .o 28 (.load c6 true 13), .c 29 oa [gp], .o 30 (.bin .add fM gw), .m 3 gE]))) (.run [.o 31 (.bin .add eO (.k (.int .i64 1))), .m 23 gK])
abbrev aqe:AC:= .block 2 (.loop (.seq (.run [.o 24 (.bin .lss eO eD)]) (.seq (.cond fb .skip (.exit 2)) aqd)))
abbrev aqf:AC:= .seq (.seq (.run [.o 20 (.aw bu 12), .o 21 (.load eC false 1), .o 22 (.len eB), .o 23 (.mv (.k (.int .i64 0)))]) aqe) (.seq (.run [.m 32 cL, .m 2 iu]) .ret)
abbrev aqg:AC:= .seq (.seq (.run [.o 8 (.aw bu 11), .o 9 (.load cW false 1), .o 10 (.len dr), .o 11 (.mv (.k (.int .i64 0)))]) aqc) aqf
abbrev aqh:AC:= .seq (.run [.o 1 (.box bG), .o 2 (.mv (.k (.int .i64 0)))]) (.seq (.run [.o 3 (.mv (.k (.int .i64 1)))]) aqg)
abbrev aqi:AC:= .cond fK (.seq (.run [.o 2 (.mv (.k (.slice .full 0 [])))]) .ret) .skip
abbrev aqj:AC:= .seq (.run [.o 2 (.mv (.k (.slice .full 0 [])))]) (.seq (.seq (.run [.m 3 bG, .nil (some 4) none false cL]) aqi) (.seq (.run [.o 5 (.du [(.str [])] 1 0 []), .m 6 bG, .o 7 (.app 1 16 cq dH), .m 2 c6]) .ret))
abbrev aqk:AC:= .seq (.block 1 (.seq (.run [.o 11 (.cu c6 dr 2), .o 12 (.load cR true 2), .o 5 (.alloc [(.str []),(.bool false)]), .op none none (.store cq dd 2)]) (.run [.m 13 cL, .o 14 (.aw cq 0), .o 15 (.load da false 1), .o 16 (.du [(.str [])] 1 1 [(0,dE)]), .o 17 (.app 1 16 dk dn), .m 3 dN]))) (.run [.o 18 (.bin .add dr (.k (.int .i64 1))), .m 9 dJ])
abbrev aql:AC:= .block 0 (.loop (.seq (.run [.o 10 (.bin .lss dr cW)]) (.seq (.cond cj .skip (.exit 0)) aqk)))
abbrev aqm:AC:= .seq (.seq (.run [.o 6 (.aw bu 1), .o 7 (.load dH false 1), .o 8 (.len c6), .o 9 (.mv (.k (.int .i64 0)))]) aql) (.seq (.run [.m 19 cL, .o 20 (.aw bu 2), .o 21 (.load eC false 1), .o 22 (.app 1 16 ey eB), .m 2 eD]) .ret)
abbrev aqn:AC:= .seq (.run [.o 1 (.box bG), .o 2 (.mv (.k (.slice .full 0 [])))]) (.seq (.run [.o 3 (.mv (.k (.slice .full 0 [])))]) aqm)
abbrev aqo:AC:= .block 1 (.seq (.run [.m 10 cW, .m 5 cj]) (.seq (.run [.m 11 bu, .m 12 bG, .m 13 cq, .o 14 (.cu dd dk 1), .o 15 (.load da false 1), .o 16 (.bin .eql cR dE)]) (.cond dn (.seq (.run [.m 17 cq, .m 4 dN]) .ret) .skip)))
abbrev aqp:AC:= .seq (.cond dr .skip (.exit 0)) (.seq aqo (.run [.o 18 (.bin .add cW (.k (.int .i64 1))), .m 8 dJ]))
abbrev aqq:AC:= .seq (.run [.m 6 bG, .o 7 (.len dH), .o 8 (.mv (.k (.int .i64 0)))]) (.block 0 (.loop (.seq (.run [.o 9 (.bin .lss cW c6)]) aqp)))
abbrev aqr:AC:= .seq (.run [(.o 4 (.mv (.k (.int .i64 (-1)))))]) .ret
abbrev aqs:AC:= .seq (.run [.o 4 (.mv (.k (.int .i64 0)))]) (.seq aqq aqr)
abbrev aqt:AC:= .cond cj (.seq (.run [.o 6 (.mv (.k (.int .i64 0))), .o 7 (.mv (.k (.bool false)))]) .ret) .skip
abbrev aqu:AC:= .seq (.run [.o 3 (.box bG), .o 6 (.mv (.k (.int .i64 0))), .o 7 (.mv (.k (.bool false)))]) (.seq (.seq (.run [.o 8 (.load cL true 4), .c 9 oN [cW], .o 10 (.un .not dr)]) aqt) (.seq (.run [.o 11 (.load cL true 4), .m 12 bu, .m 13 dC, .c 14 mE [cR,dd,dk], .o 15 (.ext da 0), .o 16 (.ext da 1), .m 6 dE, .m 7 dn]) .ret))
abbrev aqv:AC:= .seq (.run [.o 4 (.mv (.k (.bool false)))]) (.seq (.run [.m 5 bG, .m 6 bu, .c 7 qK [cq,dH], .o 8 (.bin .geq c6 (.k (.int .i64 0))), .m 4 cW]) .ret)
abbrev aqw:AC:= .par [.m 5 bG, .o 6 (.cz cq), .o 7 (.aw dH 2), .o 8 (.load c6 false 1), .m 9 bG, .o 10 (.cz dr), .o 11 (.aw cj 3), .o 12 (.load cR false 1), .m 13 bu, .o 14 (.cu dd dk 1), .o 15 (.load da false 1), .o 16 (.bin .sub dE (.k (.int .i64 1))), .m 17 bG, .o 18 (.cz dN), .o 19 (.aw dJ 4), .o 20 (.load ey false 1), .m 21 bu, .o 22 (.cu eC eB 1), .o 23 (.load eD false 1), .o 24 (.bin .sub eO (.k (.int .i64 1))), .o 25 (.GR 17 cW (some dn) (some fb)), .m 4 ff] [(0,0),(1,0),(2,0),(3,0),(4,0),(5,0),(6,0),(7,0),(8,0),(9,0),(10,0),(11,0),(12,0),(13,0),(14,0),(15,0),(16,0),(17,0),(18,0),(19,0),(20,0),(21,0)]
abbrev aqx:AC:= .seq (.run [.o 4 (.mv (.k (.slice .full 0 [])))]) (.seq aqw .ret)
abbrev aqy:AC:= .seq (.run [.o 4 (.mv (.k (.bool false)))]) (.seq (.run [.m 5 bG, .m 6 bu, .c 7 ic [cq,dH], .o 8 (.bin .geq c6 (.k (.int .i64 0))), .m 4 cW]) .ret)
abbrev aqz:AC:= .run [.m 23 fK, .m 24 bG, .m 25 cR, .o 26 (.cu fb ff 13), .o 27 (.load fD true 13), .m 28 bu, .m 29 dC, .m 30 cL, .o 31 (.build [(.int .i64 0),(.int .i64 0),(.slice .full 0 []),(.str []),(.str []),(.int .i64 0),(.int .i64 0),(.str []),(.slice .full 0 []),(.bool false),(.slice .full 0 []),(.slice .full 0 []),(.slice .full 0 []),(.int .i64 0),(.int .i64 0),(.bool false)] [(0,(13,fM)),(13,(1,gp)),(14,(1,gw)),(15,(1,gE))]), .o 32 (.du [(.int .i64 0),(.int .i64 0),(.slice .full 0 []),(.str []),(.str []),(.int .i64 0),(.int .i64 0),(.str []),(.slice .full 0 []),(.bool false),(.slice .full 0 []),(.slice .full 0 []),(.slice .full 0 []),(.int .i64 0),(.int .i64 0),(.bool false)] 16 1 [(0,gK)]), .o 33 (.app 16 232 eO iu), .m 4 ig]
abbrev aqA:AC:= .par [.m 36 bG, .m 37 cR, .o 38 (.cu iJ jk 13), .o 39 (.aw jL 11), .o 40 (.load jy false 1), .m 41 bu, .o 42 (.bin .add jZ (.k (.int .i64 1))), .m 43 bG, .m 44 cR, .o 45 (.cu kr kH 13), .o 46 (.aw lS 0), .o 47 (.load lT false 1), .m 48 fK, .c 49 oc [kq,kG,na,(.k (.bool false)),nc], .m 4 ng] [(0,0),(1,0),(2,0),(3,0),(4,0),(5,0),(6,0),(7,0),(8,0),(9,0),(10,0),(11,0),(12,0),(13,0),(14,0)]
abbrev aqB:AC:= .par [.m 50 bG, .m 51 cR, .o 52 (.cu nz ml 13), .o 53 (.aw mn 12), .o 54 (.load nh false 1), .m 55 bu, .o 56 (.bin .add nB (.k (.int .i64 1))), .m 57 bG, .m 58 cR, .o 59 (.cu qL ql 13), .o 60 (.aw od 0), .o 61 (.load rF false 1), .m 62 fK, .c 63 oc [nA,pK,tC,(.k (.bool true)),sx], .m 4 tD] [(0,0),(1,0),(2,0),(3,0),(4,0),(5,0),(6,0),(7,0),(8,0),(9,0),(10,0),(11,0),(12,0),(13,0),(14,0)]
abbrev aqC:AC:= .seq aqz (.seq (.run [.m 34 bu, .o 35 (.bin .leq iQ (.k (.int .i64 12)))]) (.cond iw (.seq aqA aqB) .skip))
abbrev aqD:AC:= .seq (.seq (.run [.m 12 cR, .m 13 bG, .o 14 (.len dk), .o 15 (.bin .lss dd da), .m 16 dE, .g 17 16 true (.mv fK), .g 18 16 true (.len dN), .g 19 16 true (.bin .leq dJ (.k (.int .i64 200))), .o 20 (.pick dn ey (.k (.bool false)))]) (.cond eC .skip (.exit 0))) (.seq (.block 1 aqC) (.run [.m 21 cR, .o 22 (.bin .add eB (.k (.int .i64 1))), .m 11 eD]))
abbrev aqE:AC:= .seq (.seq (.run [.o 11 (.mv (.k (.int .i64 0)))]) (.block 0 (.loop aqD))) (.seq (.run [.m 64 fK, .m 10 tF]) .ret)
abbrev aqF:AC:= .seq (.run [.o 10 (.mv (.k (.slice .full 0 [])))]) aqE
abbrev aqG:AC:= .cond dn (.seq (.run [.o 2 (.mv (.k (.bool true)))]) .ret) .skip
abbrev aqH:AC:= .block 1 (.seq (.run [.m 9 c6, .o 10 (.cu cq c6 1), .o 11 (.load cj false 1), .m 3 dr, .m 4 cR]) (.seq (.run [.m 12 bG, .m 13 cL, .o 14 (.GR 1 dd none (some dk)), .m 15 fK, .c 16 cY [da,dE]]) aqG))
abbrev aqI:AC:= .seq (.cond cW .skip (.exit 0)) (.seq aqH (.run [.o 17 (.bin .add c6 (.k (.int .i64 1))), .m 7 dN]))
abbrev aqJ:AC:= .seq (.run [.m 5 bG, .o 6 (.len cq), .o 7 (.mv (.k (.int .i64 0)))]) (.block 0 (.loop (.seq (.run [.o 8 (.bin .lss c6 dH)]) aqI)))
abbrev aqK:AC:= .seq aqJ (.seq (.run [.o 2 (.mv (.k (.bool false)))]) .ret)
abbrev aqL:AC:= .seq (.run [.o 2 (.mv (.k (.bool false)))]) aqK
abbrev aqM:AC:= .seq (.run [.o 4 (.mv (.k (.bool false)))]) (.seq (.run [.m 5 bG, .m 6 bu, .c 7 mh [cq,dH], .o 8 (.bin .geq c6 (.k (.int .i64 0))), .m 4 cW]) .ret)
abbrev aqN:AC:= .seq (.run [.o 3 (.mv (.k (.bool false)))]) (.seq (.run [.o 4 (.aw bu 0), .o 5 (.load fK false 1), .m 6 bG, .c 7 cY [cq,dH], .m 3 c6]) .ret)
abbrev aqO:AC:= .cond eD (.seq (.run [.o 8 (.mv (.k (.bool false)))]) .ret) .skip
abbrev aqP:AC:= .seq (.run [.o 16 (.cu dd da 1), .o 17 (.load dn false 1), .m 10 dN]) (.seq (.run [.o 18 (.load fK true 2), .o 19 (.load cq true 5), .m 20 cj, .c 21 xI [dJ,ey,eC], .o 22 (.bin .eql eB (.k (.int .i64 0)))]) aqO)
abbrev aqQ:AC:= .seq (.cond dE .skip (.exit 0)) (.seq (.block 1 aqP) (.run [.o 23 (.bin .add da (.k (.int .i64 1))), .m 14 eO]))
abbrev aqR:AC:= .seq (.run [.o 11 (.load c6 true 13), .c 12 tz [cR], .o 13 (.len dd), .o 14 (.mv (.k (.int .i64 0)))]) (.block 0 (.loop (.seq (.run [.o 15 (.bin .lss da dk)]) aqQ)))
abbrev aqS:AC:= .seq aqR (.seq (.run [.o 24 (.aw c6 1), .o 25 (.load fb false 1), .o 26 (.bin .neq ff (.k (.int .i64 4))), .m 27 fD, .g 28 27 false (.aw c6 4), .g 29 27 false (.load gp false 1), .g 30 27 false (.bin .neq gw (.k (.str [109,97,105,110]))), .g 31 27 false (.mv gE), .g 32 31 true (.mv dC), .g 33 31 true (.aw c6 4), .g 34 31 true (.load ig false 1), .d 35 31 true cY [iu,iQ], .g 36 27 false (.pick gK iw (.k (.bool false))), .o 37 (.pick fM (.k (.bool true)) iJ), .m 8 jk]) .ret)
abbrev aqT:AC:= .seq (.run [.o 4 (.box bG), .o 5 (.box bu), .o 7 (.box cL), .o 8 (.mv (.k (.bool false)))]) aqS
abbrev aqU:AC:= .cond dr (.seq (.run [.o 4 (.mv (.k (.bool false)))]) .ret) .skip
abbrev aqV:AC:= .seq (.run [.o 15 (.cu cR dk 5), .o 16 (.load dE true 5), .o 6 (.alloc [(.str []),(.slice .full 0 []),(.slice .full 0 []),(.slice .full 0 []),(.slice .full 0 [])]), .op none none (.store dH dn 5)]) (.seq (.run [.o 17 (.aw dH 0), .o 18 (.load dN false 1), .o 19 (.aw cL 4), .o 20 (.load ey false 1), .o 21 (.bin .eql dJ eC)]) (.cond eB (.seq (.run [.o 22 (.aw dH 1), .o 23 (.load eD false 1), .o 24 (.aw cL 10), .o 25 (.load fb false 1), .c 26 xJ [eO,ff], .m 4 fD]) .ret) .skip))
abbrev aqW:AC:= .seq (.cond da .skip (.exit 0)) (.seq (.block 1 aqV) (.run [.o 27 (.bin .add dk (.k (.int .i64 1))), .m 13 fM]))
abbrev aqX:AC:= .seq (.run [.o 10 (.aw dC 1), .o 11 (.load cj false 1), .o 12 (.len cR), .o 13 (.mv (.k (.int .i64 0)))]) (.block 0 (.loop (.seq (.run [.o 14 (.bin .lss dk dd)]) aqW)))
abbrev aqY:AC:= .seq aqX (.seq (.run [.o 4 (.mv (.k (.bool false)))]) .ret)
abbrev aqZ:AC:= .seq (.seq (.run [.o 7 (.aw cL 1), .o 8 (.load c6 false 1), .o 9 (.bin .neq cW (.k (.int .i64 4)))]) aqU) aqY
abbrev aq0:AC:= .seq (.run [.o 2 (.box bG), .o 3 (.box bu), .o 4 (.mv (.k (.bool false)))]) aqZ
abbrev aq1:AC:= .seq (.run [.o 3 (.load bu true 2), .c 4 nH [cL], .o 5 (.Fl fK 0 false 1), .o 6 (.bin .neq cq (.k (.int .i64 0)))]) (.cond dH (.seq (.run [.o 2 (.mv (.k .eY))]) .ret) .skip)
abbrev aq2:AC:= .seq (.run [.o 1 (.box bG), .o 2 (.mv (.k .eY))]) (.seq aq1 (.seq (.run [.o 7 (.load bu true 2), .c 8 l9 [c6], .m 2 cW]) .ret))
abbrev aq3:AC:= .cond dn (.seq (.run [.m 17 bG, .m 4 dN, .o 5 (.mv (.k (.bool false)))]) .ret) .skip
abbrev aq4:AC:= .block 1 (.seq (.run [.o 12 (.cu cW cj 1), .o 13 (.load dd false 1), .m 7 dk]) (.seq (.seq (.run [.m 14 bG, .m 15 c6, .c 16 cY [da,dE]]) aq3) (.run [.m 18 bG, .m 19 c6, .o 20 (.du [(.str [])] 1 1 [(0,ey)]), .o 21 (.app 1 16 dJ eC), .m 0 eB])))
abbrev aq5:AC:= .seq (.cond cR .skip (.exit 0)) (.seq aq4 (.run [.o 22 (.bin .add cj (.k (.int .i64 1))), .m 10 eD]))
abbrev aq6:AC:= .seq (.run [.m 8 bu, .o 9 (.len cW), .o 10 (.mv (.k (.int .i64 0)))]) (.block 0 (.loop (.seq (.run [.o 11 (.bin .lss cj dr)]) aq5)))
abbrev aq7:AC:= .seq aq6 (.seq (.run [.m 23 bG, .m 4 eO, .o 5 (.mv (.k (.bool true)))]) .ret)
abbrev aq8:AC:= .seq (.run [.o 4 (.mv (.k (.slice .full 0 []))), .o 5 (.mv (.k (.bool false)))]) aq7
abbrev aq9:AC:= .seq (.run [.o 11 (.bin .eql dr (.k (.int .i64 7))), .m 10 cR]) (.cond cj .skip (.run [.o 12 (.bin .eql dr (.k (.int .i64 8))), .m 10 dd]))
abbrev ara:AC:= .cond cj (.seq (.run [.o 13 (.aw cL 16), .o 14 (.load dk false 1), .o 15 (.bin .neq da (.k (.int .i64 0))), .m 4 dE]) .ret) (.seq (.run [.o 17 (.bin .eql dr (.k (.int .i64 10))), .m 16 dN]) (.cond dn (.seq (.run [.m 19 bG, .o 20 (.aw cL 13), .o 21 (.load eC false 1), .o 22 (.aw cL 0), .o 23 (.aw eD 3), .o 24 (.load eO false 1), .c 25 qs [ey,eB,fb], .m 18 ff, .o 26 (.ext dJ 0), .o 27 (.ext dJ 1), .m 5 fD, .m 6 fM]) (.seq (.run [.m 28 dH, .m 4 gp]) .ret)) .skip))
abbrev arb:AC:= .seq (.seq (.run [.o 7 (.aw cL 0), .o 8 (.aw c6 1), .o 9 (.load cW false 1)]) (.block 0 (.seq aq9 ara))) (.seq (.run [.o 4 (.mv (.k (.bool true)))]) .ret)
abbrev arc:AC:= .seq (.run [.o 3 (.box bu), .o 4 (.mv (.k (.bool false)))]) arb
abbrev ard:AC:= .cond dn (.seq (.run [.o 4 (.mv (.k (.slice .full 0 [])))]) .ret) .skip
abbrev arf:AC:= .seq (.run [.o 43 (.cu jy jZ 1), .o 44 (.load kr false 1), .m 12 kH]) (.seq (.run [.o 45 (.aw dC 0), .o 46 (.load lS false 1), .m 47 dd, .c 48 cY [lT,na]]) (.cond nc (.run [.m 49 dH, .m 50 dd, .o 51 (.du [(.str [])] 1 1 [(0,nz)]), .o 52 (.app 1 16 ng ml), .m 6 mn]) .skip))
abbrev arh:AC:= .seq (.cond kG .skip (.exit 4)) (.seq (.block 5 arf) (.run [.o 53 (.bin .add jZ (.k (.int .i64 1))), .m 41 nh]))
abbrev ari:AC:= .seq (.run [.o 37 (.aw cj 0), .o 38 (.load jk true 13), .c 39 tz [jL], .o 40 (.len jy), .o 41 (.mv (.k (.int .i64 0)))]) (.block 4 (.loop (.seq (.run [.o 42 (.bin .lss jZ kq)]) arh)))
abbrev arj:AC:= .seq (.block 3 (.seq (.run [.o 35 (.cu gK ig 17), .o 36 (.load iw true 17), .o 10 (.alloc [(.int .i64 0),(.int .i64 0),(.slice .full 0 []),(.str []),(.str []),(.int .i64 0),(.int .i64 0),(.str []),(.slice .full 0 []),(.bool false),(.slice .full 0 []),(.slice .full 0 []),(.slice .full 0 []),(.int .i64 0),(.int .i64 0),(.int .i64 0),(.int .i64 0)]), .op none none (.store cj iJ 17)]) ari)) (.run [.o 54 (.bin .add ig (.k (.int .i64 1))), .m 33 nA])
abbrev ark:AC:= .block 2 (.loop (.seq (.run [.o 34 (.bin .lss ig iu)]) (.seq (.cond iQ .skip (.exit 2)) arj)))
abbrev arl:AC:= .seq (.run [.o 25 (.cu eB eO 1), .o 26 (.load ff false 1), .m 8 fD]) (.seq (.run [.m 27 cq, .m 28 cq, .m 29 cW, .c 30 jx [gp,gw], .c 31 iY [fM,gE], .o 32 (.len gK), .o 33 (.mv (.k (.int .i64 0)))]) ark)
abbrev arn:AC:= .seq (.cond fb .skip (.exit 0)) (.seq (.block 1 arl) (.run [.o 55 (.bin .add eO (.k (.int .i64 1))), .m 23 nB]))
abbrev aro:AC:= .seq (.run [.m 19 cq, .m 20 bu, .c 21 zU [ey,eC], .o 22 (.len eB), .o 23 (.mv (.k (.int .i64 0)))]) (.block 0 (.loop (.seq (.run [.o 24 (.bin .lss eO eD)]) arn)))
abbrev arp:AC:= .seq (.run [.o 17 (.load dC true 2), .c 18 l9 [dN], .m 5 dJ]) (.seq (.run [.o 6 (.mv (.k (.slice .full 0 [])))]) (.seq aro (.seq (.run [.m 56 dH, .c 57 kE [pK]]) (.seq (.run [.m 58 dH, .c 59 kX [ql], .m 4 od]) .ret))))
abbrev arq:AC:= .seq (.run [.o 2 (.box bG), .o 4 (.mv (.k (.slice .full 0 [])))]) (.seq (.seq (.run [.o 13 (.load dC true 2), .m 14 bu, .c 15 wo [dk,da], .o 16 (.un .not dE)]) ard) arp)
abbrev art:AC:= .cond iQ (.seq (.run [.o 4 (.mv (.k (.bool false)))]) .ret) .skip
abbrev aru:AC:= .seq (.seq (.run [.m 18 cq, .o 19 (.aw c6 1), .o 20 (.load ey false 1), .c 21 cY [dJ,eC], .m 22 eB, .g 23 22 false (.aw c6 1), .g 24 22 false (.load eO false 1), .g 25 22 false (.aw dC 3), .g 26 22 false (.load ff false 1), .g 27 22 false (.bin .eql fb fD), .o 28 (.pick eD (.k (.bool true)) fM), .m 29 gp, .g 30 29 false (.mv bu), .g 31 29 false (.aw c6 1), .g 32 29 false (.load gK false 1), .d 33 29 false cY [gE,iu], .o 34 (.pick gw (.k (.bool true)) ig)]) art) (.run [.m 35 cq, .o 36 (.aw c6 1), .o 37 (.load iJ false 1), .o 38 (.du [(.str [])] 1 1 [(0,jk)]), .o 39 (.app 1 16 iw jL), .m 5 jy])
abbrev arv:AC:= .block 1 (.seq (.run [.o 13 (.cu dr cR 6), .o 14 (.load dk true 6), .o 7 (.alloc [(.bool false),(.str []),(.int .i64 0),(.int .i64 0),(.str []),(.slice .full 0 [])]), .op none none (.store c6 da 6)]) (.seq (.seq (.run [.o 15 (.aw c6 0), .o 16 (.load dE false 1), .o 17 (.un .not dn)]) (.cond dN (.exit 1) .skip)) aru))
abbrev arw:AC:= .seq (.cond dd .skip (.exit 0)) (.seq arv (.run [.o 40 (.bin .add cR (.k (.int .i64 1))), .m 11 kq]))
abbrev arx:AC:= .seq (.run [.o 8 (.aw dC 10), .o 9 (.load cW false 1), .o 10 (.len dr), .o 11 (.mv (.k (.int .i64 0)))]) (.block 0 (.loop (.seq (.run [.o 12 (.bin .lss cR cj)]) arw)))
abbrev ary:AC:= .seq arx (.seq (.run [.o 4 (.mv (.k (.bool true)))]) .ret)
abbrev arz:AC:= .seq (.run [.o 2 (.box bG), .o 4 (.mv (.k (.bool false)))]) (.seq (.run [.o 5 (.mv (.k (.slice .full 0 [])))]) ary)
abbrev arA:AC:= .seq (.run [.o 2 (.mv (.k (.slice .full 0 [])))]) (.seq (.run [.o 3 (.mv (.k (.slice .full 0 [])))]) (.seq (.run [.m 4 cL, .m 5 bG, .o 6 (.app 1 16 fK cq), .m 2 dH]) .ret))
abbrev arB:AC:= .par [.o 24 (.aw c6 11), .o 25 (.load fb false 1), .o 26 (.load cL true 13), .c 27 pJ [ff,fD], .o 28 (.aw c6 12), .o 29 (.load gp false 1), .o 30 (.load cL true 13), .c 31 pJ [gw,gE], .o 32 (.aw cW 11), .op none none (.store iu fM 1), .o 33 (.aw cW 12), .op none none (.store ig gK 1)] [(0,0),(1,0),(2,0),(3,0),(4,0),(5,1),(6,1),(7,0),(8,0),(9,0),(10,0),(11,0)]
abbrev arC:AC:= .seq (.run [.o 15 (.load c6 true 13), .c 16 mP [dE], .o 8 (.alloc [(.int .i64 0),(.int .i64 0),(.slice .full 0 []),(.str []),(.str []),(.int .i64 0),(.int .i64 0),(.str []),(.slice .full 0 []),(.bool false),(.slice .full 0 []),(.slice .full 0 []),(.slice .full 0 [])]), .op none none (.store cW dn 13)]) (.seq (.seq (.run [.o 17 (.aw c6 0), .o 18 (.load dN false 1), .o 19 (.aw cL 0), .o 20 (.load ey false 1), .o 21 (.bin .eql dJ eC)]) (.cond eB (.run [.o 22 (.load cL true 13), .c 23 mP [eD], .op none none (.store cW eO 13)]) .skip)) (.seq arB (.run [.m 34 cq, .o 35 (.load cW true 13), .o 36 (.du [(.int .i64 0),(.int .i64 0),(.slice .full 0 []),(.str []),(.str []),(.int .i64 0),(.int .i64 0),(.str []),(.slice .full 0 []),(.bool false),(.slice .full 0 []),(.slice .full 0 []),(.slice .full 0 [])] 13 1 [(0,iw)]), .o 37 (.app 13 208 iQ iJ), .m 5 jk])))
abbrev arD:AC:= .seq (.block 1 (.seq (.run [.o 13 (.cu dr cR 13), .o 14 (.load dk true 13), .o 7 (.alloc [(.int .i64 0),(.int .i64 0),(.slice .full 0 []),(.str []),(.str []),(.int .i64 0),(.int .i64 0),(.str []),(.slice .full 0 []),(.bool false),(.slice .full 0 []),(.slice .full 0 []),(.slice .full 0 [])]), .op none none (.store c6 da 13)]) arC)) (.run [.o 38 (.bin .add cR (.k (.int .i64 1))), .m 11 jL])
abbrev arE:AC:= .block 0 (.loop (.seq (.run [.o 12 (.bin .lss cR cj)]) (.seq (.cond dd .skip (.exit 0)) arD)))
abbrev arG:AC:= .seq (.seq (.run [.m 9 bG, .o 10 (.len dr), .o 11 (.mv (.k (.int .i64 0)))]) arE) (.seq (.run [.m 39 cq, .m 4 jy]) .ret)
abbrev arH:AC:= .seq (.run [.o 3 (.box bu), .o 4 (.mv (.k (.slice .full 0 [])))]) (.seq (.run [.o 5 (.mv (.k (.slice .full 0 [])))]) arG)
abbrev arI:AC:= .par [.o 18 (.aw cL 3), .o 19 (.load dJ false 1), .o 20 (.aw bu 3), .o 21 (.load eC false 1), .m 22 fK, .o 23 (.cu eB eD 4), .o 24 (.load eO true 4), .c 25 kD [fb], .o 26 (.du [(.int .i64 0),(.int .i64 0),(.str []),(.slice .full 0 [])] 4 1 [(0,ff)]), .o 27 (.app 4 56 ey fD), .o 28 (.aw cL 3), .op none none (.store gp fM 1)] [(2,0),(3,0),(4,0),(5,0),(6,0),(7,0),(0,0),(1,1),(8,0),(9,0),(10,0),(11,0)]
abbrev arJ:AC:= .seq (.cond dn .skip (.exit 0)) (.seq (.block 1 (.seq (.run [.m 17 dE, .m 4 dN]) arI)) (.run [.o 29 (.bin .add dE (.k (.int .i64 1))), .m 15 gw]))
abbrev arK:AC:= .seq (.run [.o 12 (.aw bu 3), .o 13 (.load dd false 1), .o 14 (.len dk), .o 15 (.mv (.k (.int .i64 0)))]) (.block 0 (.loop (.seq (.run [.o 16 (.bin .lss dE da)]) arJ)))
abbrev arL:AC:= .seq (.run [.o 1 (.box bG), .o 2 (.alloc [(.int .i64 0),(.int .i64 0),(.str []),(.slice .full 0 [])])]) (.seq (.run [.o 5 (.aw bu 0), .o 6 (.load cq false 1), .o 7 (.aw bu 1), .o 8 (.load c6 false 1), .o 9 (.aw bu 2), .o 10 (.load dr false 1), .o 11 (.build [(.int .i64 0),(.int .i64 0),(.str []),(.slice .full 0 [])] [(0,(1,dH)),(1,(1,cW)),(2,(1,cj))]), .o 3 (.alloc [(.int .i64 0),(.int .i64 0),(.str []),(.slice .full 0 [])]), .op none none (.store cL cR 4)]) (.seq arK (.seq (.run [.o 30 (.load cL true 4), .op none none (.store dC gE 4)]) .ret)))
abbrev arM:AC:= .seq (.run [.o 2 (.mv (.k (.bool false)))]) (.seq (.run [.m 3 bG, .o 4 (.bin .geq cL (.k (.int .u8 48))), .m 5 fK, .g 6 5 true (.mv bG), .g 7 5 true (.bin .leq dH (.k (.int .u8 57))), .o 8 (.pick cq c6 (.k (.bool false))), .m 2 cW]) .ret)
abbrev arN:AC:= .seq (.run [.o 4 (.mv (.k (.bool false)))]) (.seq (.run [.m 5 bu, .m 6 cq, .g 7 6 true (.mv bG), .d 8 6 true pI [c6], .o 9 (.pick dH cW (.k (.bool false))), .m 10 dr, .g 11 10 false (.mv bu), .g 12 10 false (.un .not cR), .g 13 10 false (.mv dd), .g 14 13 true (.mv bG), .g 15 13 true (.bin .eql da (.k (.str []))), .g 16 10 false (.pick dk dE (.k (.bool false))), .o 17 (.pick cj (.k (.bool true)) dn), .m 4 dN]) .ret)
abbrev arO:AC:= .seq (.run [.o 2 (.box bG), .o 4 (.mv (.k (.bool false)))]) (.seq (.run [.m 5 bu, .m 6 cq, .g 7 6 true (.load dC true 4), .d 8 6 true oN [c6], .o 9 (.pick dH cW (.k (.bool false))), .m 10 dr, .g 11 10 false (.mv bu), .g 12 10 false (.un .not cR), .g 13 10 false (.mv dd), .g 14 13 true (.load dC true 4), .d 15 13 true zV [da], .g 16 10 false (.pick dk dE (.k (.bool false))), .o 17 (.pick cj (.k (.bool true)) dn), .m 4 dN]) .ret)
abbrev arP:AC:= .cond ff (.seq (.run [.o 2 (.mv (.k (.bool false)))]) .ret) .skip
abbrev arQ:AC:= .seq (.run [.o 9 (.cu cq c6 6), .o 10 (.load dr true 6), .o 4 (.alloc [(.bool false),(.str []),(.int .i64 0),(.int .i64 0),(.str []),(.slice .full 0 [])]), .op none none (.store fK cj 6)]) (.seq (.run [.o 11 (.aw fK 1), .o 12 (.load cR false 1), .o 13 (.aw fK 0), .o 14 (.load dk false 1), .c 15 qJ [dd,da], .o 16 (.un .not dE), .m 17 dn, .g 18 17 false (.aw fK 2), .g 19 17 false (.load dJ true 4), .g 20 17 false (.aw fK 0), .g 21 17 false (.load eC false 1), .g 22 17 false (.un .not eB), .d 23 17 false tx [ey,eD], .g 24 17 false (.un .not eO), .o 25 (.pick dN (.k (.bool true)) fb)]) arP)
abbrev arR:AC:= .seq (.cond cW .skip (.exit 0)) (.seq (.block 1 arQ) (.run [.o 26 (.bin .add c6 (.k (.int .i64 1))), .m 7 fD]))
abbrev arS:AC:= .seq (.run [.m 5 bG, .o 6 (.len cq), .o 7 (.mv (.k (.int .i64 0)))]) (.block 0 (.loop (.seq (.run [.o 8 (.bin .lss c6 dH)]) arR)))
abbrev arT:AC:= .seq arS (.seq (.run [.o 2 (.mv (.k (.bool true)))]) .ret)
abbrev arU:AC:= .seq (.run [.o 2 (.mv (.k (.bool false)))]) arT
abbrev arV:AC:= .cond gK (.seq (.run [.m 32 dC, .m 33 cW, .o 34 (.cu iu ig 1), .o 35 (.load iQ false 1), .m 6 iw, .o 7 (.mv (.k (.bool true)))]) .ret) .skip
abbrev arW:AC:= .seq (.run [.m 20 bu, .o 21 (.aw cL 2), .o 22 (.load eB false 1), .c 23 ic [eC,eD], .m 8 eO]) (.seq (.run [.m 24 cW, .o 25 (.bin .geq fb (.k (.int .i64 0))), .m 26 ff, .g 27 26 true (.mv cW), .g 28 26 true (.mv dC), .g 29 26 true (.len gp), .g 30 26 true (.bin .lss fM gw), .o 31 (.pick fD gE (.k (.bool false)))]) arV)
abbrev arX:AC:= .seq arW (.seq (.run [.o 6 (.mv (.k (.int .i64 0))), .o 7 (.mv (.k (.bool true)))]) .ret)
abbrev arY:AC:= .cond da (.seq (.run [.o 16 (.aw cL 1), .o 17 (.load dn false 1), .m 6 dN, .o 7 (.mv (.k (.bool true)))]) .ret) (.seq (.run [.o 19 (.bin .eql dk (.k (.int .i64 2))), .m 18 ey]) (.cond dJ arX .skip))
abbrev arZ:AC:= .block 0 (.seq (.run [.o 15 (.bin .eql dk (.k (.int .i64 1))), .m 14 dE]) arY)
abbrev ar1:AC:= .cond na (.seq (.run [.o 6 (.mv (.k (.int .i64 0))), .o 7 (.mv (.k (.bool false)))]) .ret) .skip
abbrev ar2:AC:= .cond xK (.seq (.run [.o 6 (.mv (.k (.int .i64 0))), .o 7 (.mv (.k (.bool true)))]) .ret) .skip
abbrev ar3:AC:= .cond DL (.seq (.run [.o 6 (.mv (.k (.int .i64 1))), .o 7 (.mv (.k (.bool true)))]) .ret) .skip
abbrev ar4:AC:= .cond MX (.seq (.run [.o 6 (.mv (.k (.int .i64 0))), .o 7 (.mv (.k (.bool false)))]) .ret) .skip
abbrev ar5:AC:= .seq (.seq (.run [.o 66 (.aw cL 0), .o 67 (.load zW false 1), .o 68 (.bin .eql zX (.k (.int .i64 17))), .m 69 xL, .g 70 69 true (.mv dr), .d 71 69 true tA [BH], .o 72 (.pick BG F6 (.k (.bool false)))]) ar3) (.seq (.run [.o 74 (.aw cL 3), .o 75 (.load F7 false 1), .o 76 (.cu F8 (.k (.int .i64 1)) 4), .o 77 (.load DN true 4), .m 78 bu, .m 79 dC, .c 80 mE [F9,BI,Jf], .m 73 Jg, .o 81 (.ext DM 0), .o 82 (.ext DM 1), .m 11 Jh, .m 10 MV]) (.seq (.seq (.run [.m 83 cj, .o 84 (.un .not MW)]) ar4) (.seq (.run [.o 85 (.aw cL 0), .o 86 (.load MY false 1), .m 87 dr, .m 88 cR, .c 89 BF [MZ,M3,M4], .o 90 (.ext Ga 0), .o 91 (.ext Ga 1), .m 6 Ji, .m 7 M5]) .ret)))
abbrev ar6:AC:= .seq (.seq (.run [.o 58 (.aw cL 0), .o 59 (.load ql false 1), .o 60 (.bin .eql od (.k (.int .i64 16))), .m 61 rF, .g 62 61 true (.mv dr), .d 63 61 true tA [sx], .g 64 61 true (.un .not tD), .o 65 (.pick tC tF (.k (.bool false)))]) ar2) ar5
abbrev ar7:AC:= .seq (.seq (.run [.o 48 (.aw cL 3), .o 49 (.load nc false 1), .o 50 (.len ng), .o 51 (.bin .eql nz (.k (.int .i64 1)))]) (.cond ml (.seq (.run [.o 52 (.aw cL 0), .o 53 (.load mn false 1), .m 54 dr, .c 55 BE [nh,nA], .o 56 (.ext nB 0), .o 57 (.ext nB 1), .m 6 pK, .m 7 qL]) .ret) .skip)) ar6
abbrev ar8:AC:= .seq (.seq (.run [.o 12 (.aw cL 0), .o 13 (.load dd false 1)]) arZ) (.seq (.run [.o 37 (.aw cL 3), .o 38 (.load jk false 1), .o 39 (.cu jL (.k (.int .i64 0)) 4), .o 40 (.load jy true 4), .m 41 bu, .m 42 dC, .c 43 mE [kq,jZ,kG], .m 36 kr, .o 44 (.ext iJ 0), .o 45 (.ext iJ 1), .m 9 kH, .m 10 lS]) (.seq (.seq (.run [.m 46 cj, .o 47 (.un .not lT)]) ar1) ar7))
abbrev ar9:AC:= .seq (.run [.o 3 (.box bG), .o 6 (.mv (.k (.int .i64 0))), .o 7 (.mv (.k (.bool false)))]) ar8
abbrev asa:AC:= .block 1 (.seq (.run [.m 10 cW, .m 5 cj]) (.seq (.run [.m 11 bu, .m 12 bG, .m 13 cq, .o 14 (.cu dd dk 1), .o 15 (.load da false 1), .o 16 (.bin .eql cR dE)]) (.cond dn (.seq (.run [.m 17 cq, .m 4 dN]) .ret) .skip)))
abbrev asb:AC:= .seq (.cond dr .skip (.exit 0)) (.seq asa (.run [.o 18 (.bin .add cW (.k (.int .i64 1))), .m 8 dJ]))
abbrev asc:AC:= .seq (.run [.m 6 bG, .o 7 (.len dH), .o 8 (.mv (.k (.int .i64 0)))]) (.block 0 (.loop (.seq (.run [.o 9 (.bin .lss cW c6)]) asb)))
abbrev asd:AC:= .seq (.run [(.o 4 (.mv (.k (.int .i64 (-1)))))]) .ret
abbrev ase:AC:= .seq (.run [.o 4 (.mv (.k (.int .i64 0)))]) (.seq asc asd)
abbrev asf:AC:= .block 1 (.seq (.run [.m 10 cW, .m 5 cj]) (.seq (.run [.m 11 bu, .m 12 bG, .m 13 cq, .o 14 (.cu dd dk 1), .o 15 (.load da false 1),(.kx (some 16) none 11 [dE])]) (.cond dn (.seq (.run [.m 17 cq, .m 4 dN]) .ret) .skip)))
abbrev asg:AC:= .seq (.cond dr .skip (.exit 0)) (.seq asf (.run [.o 18 (.bin .add cW (.k (.int .i64 1))), .m 8 dJ]))
abbrev ash:AC:= .seq (.run [.m 6 bG, .o 7 (.len dH), .o 8 (.mv (.k (.int .i64 0)))]) (.block 0 (.loop (.seq (.run [.o 9 (.bin .lss cW c6)]) asg)))
abbrev asi:AC:= .seq (.run [(.o 4 (.mv (.k (.int .i64 (-1)))))]) .ret
abbrev asj:AC:= .seq (.run [.o 4 (.mv (.k (.int .i64 0)))]) (.seq ash asi)
abbrev asm:AC:= .seq (.seq (.run [.o 31 (.aw cq 0), .o 32 (.load gK false 1)]) (.cond iu (.run [.m 33 cL, .o 34 (.aw cq 1), .o 35 (.load iQ false 1), .o 36 (.du [(.str [])] 1 1 [(0,iw)]), .o 37 (.app 1 16 ig iJ), .m 3 jk]) .skip)) (.run [.m 38 cL, .o 39 (.aw cq 2), .o 40 (.load jy true 4), .c 41 tB [kq], .o 42 (.app 1 16 jL jZ), .m 3 kG])
abbrev asn:AC:= .seq (.block 1 (.seq (.run [.o 29 (.cu ff fM 6), .o 30 (.load gw true 6), .o 5 (.alloc [(.bool false),(.str []),(.int .i64 0),(.int .i64 0),(.str []),(.slice .full 0 [])]), .op none none (.store cq gE 6)]) asm)) (.run [.o 43 (.bin .add fM (.k (.int .i64 1))), .m 27 kr])
abbrev aso:AC:= .block 0 (.loop (.seq (.run [.o 28 (.bin .lss fM fD)]) (.seq (.cond gp .skip (.exit 0)) asn)))
abbrev asp:AC:= .seq (.seq (.run [.o 24 (.aw bu 10), .o 25 (.load fb false 1), .o 26 (.len ff), .o 27 (.mv (.k (.int .i64 0)))]) aso) (.seq (.run [.m 44 cL, .m 2 kH]) .ret)
abbrev asq:AC:= .seq (.seq (.run [.o 6 (.aw bu 1), .o 7 (.load dH false 1), .o 8 (.bin .neq c6 (.k (.int .i64 10))), .m 9 cW, .g 10 9 true (.aw bu 3), .g 11 9 true (.load cj false 1), .g 12 9 true (.bin .neq cR (.k (.str []))), .o 13 (.pick dr dd (.k (.bool false)))]) (.cond dk (.run [.m 14 cL, .o 15 (.aw bu 3), .o 16 (.load dE false 1), .o 17 (.du [(.str [])] 1 1 [(0,dn)]), .o 18 (.app 1 16 da dN), .m 3 dJ]) .skip)) (.seq (.run [.m 19 cL, .o 20 (.aw bu 5), .o 21 (.load eC true 4), .c 22 tB [eB], .o 23 (.app 1 16 ey eD), .m 3 eO]) asp)
abbrev asr:AC:= .seq (.run [.o 1 (.box bG), .o 2 (.mv (.k (.slice .full 0 [])))]) (.seq (.run [.o 3 (.mv (.k (.slice .full 0 [])))]) asq)
abbrev ass:AC:= .cond eO (.seq (.run [.o 6 (.mv (.k (.int .i64 3)))]) .ret) .skip
abbrev ast:AC:= .cond fM (.seq (.run [.o 6 (.mv (.k (.int .i64 2)))]) .ret) .skip
abbrev asu:AC:= .seq (.seq (.run [.o 16 (.aw cW 0), .o 17 (.load dn false 1), .m 18 dC, .o 19 (.bin .eql dN dJ), .m 20 ey, .g 21 20 true (.aw cW 1), .g 22 20 true (.load eB false 1), .o 23 (.pick eC eD (.k (.bool false)))]) ass) (.seq (.run [.o 24 (.aw cW 0), .o 25 (.load fb false 1), .m 26 dC, .o 27 (.bin .eql ff fD)]) ast)
abbrev asv:AC:= .seq (.block 1 (.seq (.run [.o 14 (.cu cj dd 2), .o 15 (.load da true 2), .o 8 (.alloc [(.str []),(.bool false)]), .op none none (.store cW dE 2)]) asu)) (.run [.o 28 (.bin .add dd (.k (.int .i64 1))), .m 12 gp])
abbrev asw:AC:= .block 0 (.loop (.seq (.run [.o 13 (.bin .lss dd cR)]) (.seq (.cond dk .skip (.exit 0)) asv)))
abbrev asx:AC:= .cond iu (.seq (.run [.o 6 (.mv (.k (.int .i64 4)))]) .ret) .skip
abbrev asy:AC:= .cond iJ (.seq (.run [.o 6 (.mv (.k (.int .i64 1)))]) .ret) .skip
abbrev asz:AC:= .seq (.seq (.run [.o 33 (.aw cL 0), .o 34 (.load ig false 1), .m 35 dC, .c 36 cY [iQ,iw]]) asy) (.seq (.run [.o 6 (.mv (.k (.int .i64 0)))]) .ret)
abbrev asA:AC:= .seq (.seq (.run [.o 9 (.aw fK 1), .o 10 (.load dr false 1), .o 11 (.len cj), .o 12 (.mv (.k (.int .i64 0)))]) asw) (.seq (.seq (.run [.o 29 (.aw fK 2), .o 30 (.load gw false 1), .m 31 dC, .c 32 cY [gE,gK]]) asx) asz)
abbrev asB:AC:= .seq (.run [.o 3 (.box bG), .o 4 (.box bu), .o 6 (.mv (.k (.int .i64 0)))]) asA
abbrev asC:AC:= .cond cR (.seq (.run [.o 4 (.mv (.k (.bool false)))]) .ret) .skip
abbrev asD:AC:= .par [.o 19 (.aw dH 1), .o 20 (.load ey false 1), .m 21 bu, .m 22 cq, .o 23 (.cu eB eD 6), .o 24 (.aw eO 0), .o 25 (.load fb false 1), .o 26 (.JR true eC ff)] [(0,0),(1,0),(2,0),(3,0),(4,0),(5,0),(6,0),(7,0)]
abbrev asE:AC:= .cond fD (.seq (.run [.o 4 (.mv (.k (.bool false)))]) .ret) .skip
abbrev asF:AC:= .seq (.block 1 (.seq (.run [.m 16 da, .o 17 (.cu dd da 2), .o 18 (.load dN true 2), .o 6 (.alloc [(.str []),(.bool false)]), .m 5 dn, .op none none (.store dH dJ 2)]) (.seq asD asE))) (.run [.o 27 (.bin .add da (.k (.int .i64 1))), .m 14 fM])
abbrev asG:AC:= .block 0 (.loop (.seq (.run [.o 15 (.bin .lss da dk)]) (.seq (.cond dE .skip (.exit 0)) asF)))
abbrev asH:AC:= .seq (.seq (.run [.m 12 bG, .o 13 (.len dd), .o 14 (.mv (.k (.int .i64 0)))]) asG) (.seq (.run [.o 4 (.mv (.k (.bool true)))]) .ret)
abbrev asI:AC:= .seq (.run [.o 4 (.mv (.k (.bool false)))]) (.seq (.seq (.run [.m 7 bG, .o 8 (.len c6), .m 9 bu, .o 10 (.len dr), .o 11 (.bin .neq cW cj)]) asC) asH)
abbrev asJ:AC:= .seq (.run [.o 2 (.box bG), .o 3 (.box bu), .o 4 (.mv (.k (.bool false)))]) (.seq (.run [.o 5 (.load dC true 2), .c 6 nH [cq], .o 7 (.Fl dH 0 false 1), .o 8 (.bin .eql c6 (.k (.int .i64 0))), .m 9 cW, .g 10 9 true (.aw dC 1), .g 11 9 true (.load cj false 1), .g 12 9 true (.wQ 191 [cL]), .d 13 9 true iZ [cR,dd], .o 14 (.pick dr dk (.k (.bool false))), .m 4 da]) .ret)
abbrev asK:AC:= .seq (.run [.o 26 (.cu eD fb 1), .o 27 (.load fD false 1), .m 8 fM]) (.seq (.run [.m 28 cq, .m 29 cW, .c 30 cY [gp,gw], .o 31 (.un .not gE)]) (.cond gK (.run [.m 32 cq, .m 33 cW, .o 34 (.du [(.str [])] 1 1 [(0,ig)]), .o 35 (.app 1 16 iu iQ), .m 5 iw]) .skip))
abbrev asL:AC:= .seq (.cond ff .skip (.exit 2)) (.seq (.block 3 asK) (.run [.o 36 (.bin .add fb (.k (.int .i64 1))), .m 24 iJ]))
abbrev asM:AC:= .seq (.run [.m 17 bG, .m 18 cq, .m 19 dH, .o 20 (.cu dJ ey 1), .o 21 (.load eC false 1), .c 22 wq [dN,eB], .o 23 (.len eD), .o 24 (.mv (.k (.int .i64 0)))]) (.block 2 (.loop (.seq (.run [.o 25 (.bin .lss fb eO)]) asL)))
abbrev asN:AC:= .seq (.seq (.run [.m 11 dH, .m 12 cq, .o 13 (.len dd), .o 14 (.bin .lss cR dk)]) (.cond da .skip (.exit 0))) (.seq (.block 1 asM) (.run [.m 15 dH, .o 16 (.bin .add dE (.k (.int .i64 1))), .m 6 dn]))
abbrev ahD:AC:= .seq (.run [.m 39 cq, .m 4 jy]) .ret
abbrev asO:AC:= .seq (.seq (.run [.o 6 (.mv (.k (.int .i64 0)))]) (.block 0 (.loop asN))) (.seq (.run [.m 37 cq, .c 38 kE [jk]]) ahD)
abbrev asP:AC:= .seq (.run [.o 4 (.mv (.k (.slice .full 0 [])))]) (.seq (.run [.m 9 bu, .o 10 (.du [(.str [])] 1 1 [(0,dr)]), .m 5 cj]) asO)
abbrev asQ:AC:= .seq (.run [.o 1 (.box bG), .o 2 (.mv (.k (.bool false)))]) (.seq (.run [.o 3 (.aw bu 0), .o 4 (.load cL false 1), .o 5 (.bin .eql fK (.k (.int .i64 0))), .m 6 cq, .g 7 6 true (.aw bu 1), .g 8 6 true (.load c6 false 1), .g 9 6 true (.bin .eql cW (.k (.int .i64 0))), .o 10 (.pick dH dr (.k (.bool false))), .m 11 cj, .g 12 11 true (.aw bu 2), .g 13 11 true (.load dd false 1), .g 14 11 true (.bin .eql dk (.k (.str []))), .o 15 (.pick cR da (.k (.bool false))), .m 16 dE, .g 17 16 true (.aw bu 3), .g 18 16 true (.load dN false 1), .g 19 16 true (.len dJ), .g 20 16 true (.bin .eql ey (.k (.int .i64 0))), .o 21 (.pick dn eC (.k (.bool false))), .m 2 eB]) .ret)
abbrev asR:AC:= .cond cR (.seq (.run [.m 13 bu, .o 14 (.bin .eql dk (.k (.int .i64 0))), .c 15 kF [da], .m 4 dE, .o 5 (.mv (.k (.bool true)))]) .ret) .skip
abbrev asS:AC:= .cond c6 (.seq (.run [.m 9 bu, .o 10 (.bin .sub (.k (.int .i64 0)) dr), .m 4 cj, .o 5 (.mv (.k (.bool true)))]) .ret) (.seq (.run [.o 12 (.bin .eql dH (.k (.int .i64 4))), .m 11 dd]) asR)
abbrev asT:AC:= .block 0 (.seq (.run [.o 8 (.bin .eql dH (.k (.int .i64 3))), .m 7 cW]) asS)
abbrev asU:AC:= .seq (.seq (.run [.m 6 bG]) asT) (.seq (.run [.o 4 (.mv (.k (.int .i64 0))), .o 5 (.mv (.k (.bool false)))]) .ret)
abbrev asV:AC:= .seq (.run [.o 4 (.mv (.k (.int .i64 0))), .o 5 (.mv (.k (.bool false)))]) asU
abbrev asW:AC:= .seq (.run [.o 2 (.mv (.k (.bool false)))]) (.seq (.run [.m 3 bG, .o 4 (.bin .neq cL (.k (.int .i64 0))), .m 2 fK]) .ret)
abbrev asX:AC:= .seq (.run [.o 25 (.bin .eql cW (.k (.int .i64 6))), .m 24 ff]) (.cond fb .skip (.run [.o 26 (.bin .eql cW (.k (.int .i64 7))), .m 24 fD]))
abbrev asY:AC:= .cond kG (.seq (.run [.m 44 bu, .o 45 (.bin .neq kH (.k (.int .i64 0))), .m 46 lS, .g 47 46 false (.mv dC), .g 48 46 false (.bin .neq na (.k (.int .i64 0))), .o 49 (.pick lT (.k (.bool true)) nc), .c 50 kF [ng], .m 6 nz, .o 7 (.mv (.k (.bool true)))]) .ret) .skip
abbrev asZ:AC:= .cond ig (.seq (.run [.m 35 bu, .o 36 (.bin .neq iw (.k (.int .i64 0))), .m 37 iJ, .g 38 37 true (.mv dC), .g 39 37 true (.bin .neq jL (.k (.int .i64 0))), .o 40 (.pick jk jy (.k (.bool false))), .c 41 kF [kq], .m 6 jZ, .o 7 (.mv (.k (.bool true)))]) .ret) (.seq (.run [.o 43 (.bin .eql cW (.k (.int .i64 17))), .m 42 kr]) asY)
abbrev as0:AC:= .cond fb (.seq (.run [.m 27 bG, .m 28 bu, .m 29 dC, .c 30 wu [fM,gp,gw], .o 31 (.ext gE 0), .o 32 (.ext gE 1), .m 6 gK, .m 7 iu]) .ret) (.seq (.run [.o 34 (.bin .eql cW (.k (.int .i64 16))), .m 33 iQ]) asZ)
abbrev as1:AC:= .cond ey (.seq (.run [.m 21 bu, .m 22 dC, .o 23 (.bin .mul eB eD), .m 6 eO, .o 7 (.mv (.k (.bool true)))]) .ret) (.seq asX as0)
abbrev as2:AC:= .cond da (.seq (.run [.m 16 bu, .m 17 dC, .o 18 (.bin .sub dn dN), .m 6 dJ, .o 7 (.mv (.k (.bool true)))]) .ret) (.seq (.run [.o 20 (.bin .eql cW (.k (.int .i64 5))), .m 19 eC]) as1)
abbrev as3:AC:= .cond dr (.seq (.run [.m 11 bu, .m 12 dC, .o 13 (.bin .add cR dd), .m 6 dk, .o 7 (.mv (.k (.bool true)))]) .ret) (.seq (.run [.o 15 (.bin .eql cW (.k (.int .i64 9))), .m 14 dE]) as2)
abbrev as4:AC:= .block 0 (.seq (.run [.o 10 (.bin .eql cW (.k (.int .i64 8))), .m 9 cj]) as3)
abbrev as5:AC:= .seq (.run [.o 6 (.mv (.k (.int .i64 0))), .o 7 (.mv (.k (.bool false)))]) (.seq (.seq (.run [.m 8 bG]) as4) (.seq (.run [.m 51 bG, .m 52 bu, .m 53 dC, .c 54 uM [ml,mn,nh], .o 55 (.ext nA 0), .o 56 (.ext nA 1), .m 6 nB, .m 7 pK]) .ret))
abbrev as6:AC:= .cond cq (.seq (.run [.o 2 (.mv (.k (.slice .full 0 [])))]) .ret) .skip
abbrev as7:AC:= .seq (.seq (.run [.o 3 (.load bu true 4), .c 4 oN [cL], .o 5 (.un .not fK)]) as6) (.seq (.run [.o 6 (.load bu true 4),(.c 7 jQ [dH,(.k (.slice .full 0 []))]), .m 2 c6]) .ret)
abbrev as8:AC:= .seq (.run [.o 1 (.box bG), .o 2 (.mv (.k (.slice .full 0 [])))]) as7
abbrev as9:AC:= .seq (.run [.o 4 (.mv (.k (.bool false)))]) (.seq (.run [.m 5 bG, .m 6 bu, .c 7 iz [cq,dH], .o 8 (.bin .geq c6 (.k (.int .i64 0))), .m 4 cW]) .ret)
abbrev ata:AC:= .seq (.run [.o 2 (.box bG), .o 3 (.mv (.k (.bool false)))]) (.seq (.run [.o 4 (.aw dC 0), .o 5 (.load fK false 1), .o 6 (.load bu false 1), .o 7 (.bin .eql cq dH), .m 3 c6]) .ret)
abbrev atb:AC:= .seq (.run [.o 16 (.cu dd da 17), .o 17 (.load dn true 17), .o 7 (.alloc [(.int .i64 0),(.int .i64 0),(.slice .full 0 []),(.str []),(.str []),(.int .i64 0),(.int .i64 0),(.str []),(.slice .full 0 []),(.bool false),(.slice .full 0 []),(.slice .full 0 []),(.slice .full 0 []),(.int .i64 0),(.int .i64 0),(.int .i64 0),(.int .i64 0)]), .op none none (.store c6 dN 17)]) (.seq (.run [.o 18 (.aw c6 0), .o 19 (.aw dJ 1), .o 20 (.load ey false 1), .o 21 (.bin .eql eC (.k (.int .i64 4)))]) (.cond eB (.run [.m 22 cq, .o 23 (.aw c6 0), .o 24 (.aw eO 4), .o 25 (.load fb false 1), .o 26 (.du [(.str [])] 1 1 [(0,ff)]), .o 27 (.app 1 16 eD fD), .m 5 fM]) .skip))
abbrev atc:AC:= .seq (.cond dE .skip (.exit 0)) (.seq (.block 1 atb) (.run [.o 28 (.bin .add da (.k (.int .i64 1))), .m 14 gp]))
abbrev atd:AC:= .seq (.run [.m 8 bG, .m 9 bG, .m 10 bu, .c 11 jx [dr,cj], .c 12 iY [cW,cR], .o 13 (.len dd), .o 14 (.mv (.k (.int .i64 0)))]) (.block 0 (.loop (.seq (.run [.o 15 (.bin .lss da dk)]) atc)))
abbrev ate:AC:= .seq (.run [.o 4 (.mv (.k (.slice .full 0 [])))]) (.seq (.run [.o 5 (.mv (.k (.slice .full 0 [])))]) (.seq atd (.seq (.run [.m 29 cq, .c 30 kE [gw]]) (.seq (.run [.m 31 cq, .c 32 kX [gK], .m 4 iu]) .ret))))
open Go.Proofs
theorem BM:Has Tryz.prog qK 19 [(4,none)] ase:=⟨Tryz.f146,by kernel_rfl,by kernel_rfl⟩
theorem vN:Has Tryz.prog mh 19 [(4,none)] asj:=⟨Tryz.f167,by kernel_rfl,by kernel_rfl⟩
theorem Jl:Has Tryz.prog tz 45 [(2,none)] asr:=⟨Tryz.f168,by kernel_rfl,by kernel_rfl⟩
theorem Jm:Has Tryz.prog xI 37 [(6,none)] asB:=⟨Tryz.f169,by kernel_rfl,by kernel_rfl⟩
theorem AV:Has Tryz.prog xJ 28 [(4,none)] asI:=⟨Tryz.f170,by kernel_rfl,by kernel_rfl⟩
theorem yQ:Has Tryz.prog wo 15 [(4,none)] asJ:=⟨Tryz.f171,by kernel_rfl,by kernel_rfl⟩
theorem Ll:Has Tryz.prog zU 40 [(4,none)] asP:=⟨Tryz.f172,by kernel_rfl,by kernel_rfl⟩
theorem Lm:Has Tryz.prog zV 22 [(2,none)] asQ:=⟨Tryz.f175,by kernel_rfl,by kernel_rfl⟩
theorem Nd:Has Tryz.prog BE 16 [(4,none),(5,none)] asV:=⟨Tryz.f176,by kernel_rfl,by kernel_rfl⟩
theorem Jn:Has Tryz.prog tA 5 [(2,none)] asW:=⟨Tryz.f177,by kernel_rfl,by kernel_rfl⟩
theorem Nf:Has Tryz.prog BF 57 [(6,none),(7,none)] as5:=⟨Tryz.f178,by kernel_rfl,by kernel_rfl⟩
theorem AW:Has Tryz.prog tB 8 [(2,none)] as8:=⟨Tryz.f189,by kernel_rfl,by kernel_rfl⟩
theorem sy:Has Tryz.prog iZ 9 [(4,none)] as9:=⟨Tryz.f190,by kernel_rfl,by kernel_rfl⟩
theorem Fc:Has Tryz.prog qu 8 [(3,none)] ata:=⟨Tryz.f191,by kernel_rfl,by kernel_rfl⟩
theorem HD:Has Tryz.prog wq 33 [(4,none)] ate:=⟨Tryz.f192,by kernel_rfl,by kernel_rfl⟩
abbrev atf:AC:= .cond cL (.seq (.run [.o 2 (.mv (.k (.int .i64 1)))]) .ret) .skip
abbrev atg:AC:= .seq (.seq (.run [.m 3 bG]) atf) (.seq (.run [.o 2 (.mv (.k (.int .i64 0)))]) .ret)
abbrev ath:AC:= .seq (.run [.o 2 (.mv (.k (.int .i64 0)))]) atg
abbrev ati:AC:= .cond dr (.seq (.run [.o 6 (.mv (.k (.int .i64 0))), .o 7 (.mv (.k (.bool false)))]) .ret) .skip
abbrev atj:AC:= .cond dk (.seq (.run [.o 6 (.mv (.k (.int .i64 0))), .o 7 (.mv (.k (.bool true)))]) .ret) .skip
abbrev atk:AC:= .cond dE (.seq (.run [.m 16 bu, .m 6 dn, .o 7 (.mv (.k (.bool true)))]) .ret) .skip
abbrev atl:AC:= .seq (.run [.m 14 bu,(.o 15 (.bin .eql da (.k (.int .i64 (-9223372036854775808)))))]) atk
abbrev atm:AC:= .seq atl (.seq (.run [.m 17 bu, .o 18 (.bin .sub (.k (.int .i64 0)) dN), .m 6 dJ, .o 7 (.mv (.k (.bool true)))]) .ret)
abbrev atn:AC:= .seq (.seq (.run [.m 12 bG, .o 13 (.bin .eql dd (.k (.int .i64 7)))]) atj) atm
abbrev ato:AC:= .seq (.run [.m 10 dC,(.o 11 (.bin .eql cj (.k (.int .i64 (-1)))))]) (.cond cR atn .skip)
abbrev atp:AC:= .cond eC (.seq (.run [.m 21 bu, .m 22 dC, .o 23 (.bin .rem eB eD), .m 6 eO, .o 7 (.mv (.k (.bool true)))]) .ret) .skip
abbrev atq:AC:= .seq (.seq (.run [.m 19 bG, .o 20 (.bin .eql ey (.k (.int .i64 7)))]) atp) (.seq (.run [.m 24 bu, .m 25 dC, .o 26 (.bin .quo fb ff), .m 6 fD, .o 7 (.mv (.k (.bool true)))]) .ret)
abbrev atr:AC:= .seq (.seq (.run [.m 8 dC, .o 9 (.bin .eql cW (.k (.int .i64 0)))]) ati) (.seq ato atq)
abbrev att:AC:= .seq (.run [.o 6 (.mv (.k (.int .i64 0))), .o 7 (.mv (.k (.bool false)))]) atr
abbrev atu:AC:= .cond jy (.seq (.run [.m 41 bu, .m 42 dC, .o 43 (.bin .neq jZ kG), .c 44 kF [kr], .m 6 kH, .o 7 (.mv (.k (.bool true)))]) .ret) .skip
abbrev atv:AC:= .cond ig (.seq (.run [.m 35 bu, .m 36 dC, .o 37 (.bin .eql iw iJ), .c 38 kF [jk], .m 6 jL, .o 7 (.mv (.k (.bool true)))]) .ret) (.seq (.run [.o 40 (.bin .eql cW (.k (.int .i64 15))), .m 39 kq]) atu)
abbrev atw:AC:= .cond fM (.seq (.run [.m 29 bu, .m 30 dC, .o 31 (.bin .geq gw gE), .c 32 kF [gK], .m 6 iu, .o 7 (.mv (.k (.bool true)))]) .ret) (.seq (.run [.o 34 (.bin .eql cW (.k (.int .i64 14))), .m 33 iQ]) atv)
abbrev atx:AC:= .cond eB (.seq (.run [.m 23 bu, .m 24 dC, .o 25 (.bin .gtr eO fb), .c 26 kF [ff], .m 6 fD, .o 7 (.mv (.k (.bool true)))]) .ret) (.seq (.run [.o 28 (.bin .eql cW (.k (.int .i64 13))), .m 27 gp]) atw)
abbrev aty:AC:= .cond dE (.seq (.run [.m 17 bu, .m 18 dC, .o 19 (.bin .leq dN dJ), .c 20 kF [ey], .m 6 eC, .o 7 (.mv (.k (.bool true)))]) .ret) (.seq (.run [.o 22 (.bin .eql cW (.k (.int .i64 12))), .m 21 eD]) atx)
abbrev atz:AC:= .cond dr (.seq (.run [.m 11 bu, .m 12 dC, .o 13 (.bin .lss cR dd), .c 14 kF [dk], .m 6 da, .o 7 (.mv (.k (.bool true)))]) .ret) (.seq (.run [.o 16 (.bin .eql cW (.k (.int .i64 11))), .m 15 dn]) aty)
abbrev atA:AC:= .block 0 (.seq (.run [.o 10 (.bin .eql cW (.k (.int .i64 10))), .m 9 cj]) atz)
abbrev atB:AC:= .seq (.seq (.run [.m 8 bG]) atA) (.seq (.run [.o 6 (.mv (.k (.int .i64 0))), .o 7 (.mv (.k (.bool false)))]) .ret)
abbrev atC:AC:= .seq (.run [.o 6 (.mv (.k (.int .i64 0))), .o 7 (.mv (.k (.bool false)))]) atB
abbrev atD:AC:= .seq (.block 1 (.seq (.run [.o 27 (.cu eO ff 4), .o 28 (.load fM true 4), .o 6 (.alloc [(.int .i64 0),(.int .i64 0),(.str []),(.slice .full 0 [])]), .op none none (.store dH gp 4)]) (.run [.o 29 (.load dH true 4), .m 30 bu, .c 31 jQ [gw,gE], .m 1 gK]))) (.run [.o 32 (.bin .add ff (.k (.int .i64 1))), .m 25 iu])
abbrev atE:AC:= .block 0 (.loop (.seq (.run [.o 26 (.bin .lss ff fb)]) (.seq (.cond fD .skip (.exit 0)) atD)))
abbrev atF:AC:= .seq (.seq (.run [.o 22 (.aw dC 3), .o 23 (.load eD false 1), .o 24 (.len eO), .o 25 (.mv (.k (.int .i64 0)))]) atE) (.seq (.run [.m 33 bu, .m 4 ig]) .ret)
abbrev atG:AC:= .seq (.seq (.run [.o 7 (.aw dC 0), .o 8 (.load c6 false 1), .o 9 (.bin .eql cW (.k (.int .i64 2))), .m 10 dr, .g 11 10 true (.mv bu), .g 12 10 true (.aw dC 2), .g 13 10 true (.load dd false 1), .d 14 10 true cY [cR,dk], .g 15 10 true (.un .not da), .o 16 (.pick cj dE (.k (.bool false)))]) (.cond dn (.run [.m 17 bu, .o 18 (.aw dC 2), .o 19 (.load dJ false 1), .o 20 (.du [(.str [])] 1 1 [(0,ey)]), .o 21 (.app 1 16 dN eC), .m 1 eB]) .skip)) atF
abbrev atH:AC:= .seq (.run [.o 2 (.box bG), .o 4 (.mv (.k (.slice .full 0 [])))]) atG
open Go.Proofs
theorem Ng:Has Tryz.prog kF 4 [(2,none)] ath:=⟨Tryz.f195,by kernel_rfl,by kernel_rfl⟩
theorem yR:Has Tryz.prog wu 27 [(6,none),(7,none)] att:=⟨Tryz.f196,by kernel_rfl,by kernel_rfl⟩
theorem Gc:Has Tryz.prog uM 45 [(6,none),(7,none)] atC:=⟨Tryz.f197,by kernel_rfl,by kernel_rfl⟩
theorem tH:Has Tryz.prog jQ 34 [(4,none)] atH:=⟨Tryz.f207,by kernel_rfl,by kernel_rfl⟩
open Go.Proofs
theorem Fe:Has Tryz.prog kC 45 [(4,none),(5,none)] apv:=⟨Tryz.f102,by kernel_rfl,by kernel_rfl⟩
theorem Gd:Has Tryz.prog mP 45 [(2,(some (true,13)))] apB:=⟨Tryz.f103,by kernel_rfl,by kernel_rfl⟩
theorem Jo:Has Tryz.prog tu 9 [(2,none)] apC:=⟨Tryz.f104,by kernel_rfl,by kernel_rfl⟩
theorem Po:Has Tryz.prog DI 24 [(4,none)] apE:=⟨Tryz.f105,by kernel_rfl,by kernel_rfl⟩
theorem Nh:Has Tryz.prog BD 18 [(2,none)] apV:=⟨Tryz.f106,by kernel_rfl,by kernel_rfl⟩
theorem HE:Has Tryz.prog wj 93 [(2,none)] aqa:=⟨Tryz.f107,by kernel_rfl,by kernel_rfl⟩
theorem Ln:Has Tryz.prog oa 33 [(2,none)] aqh:=⟨Tryz.f108,by kernel_rfl,by kernel_rfl⟩
theorem rp:Has Tryz.prog lM 8 [(2,none)] aqj:=⟨Tryz.f109,by kernel_rfl,by kernel_rfl⟩
theorem Lo:Has Tryz.prog vj 23 [(2,none)] aqn:=⟨Tryz.f110,by kernel_rfl,by kernel_rfl⟩
theorem yo:Has Tryz.prog ic 19 [(4,none)] aqs:=⟨Tryz.f111,by kernel_rfl,by kernel_rfl⟩
theorem Fy:Has Tryz.prog yM 17 [(6,none),(7,none)] aqu:=⟨Tryz.f112,by kernel_rfl,by kernel_rfl⟩
theorem yp:Has Tryz.prog oP 9 [(4,none)] aqv:=⟨Tryz.f113,by kernel_rfl,by kernel_rfl⟩
theorem Ff:Has Tryz.prog iY 26 [(4,none)] aqx:=⟨Tryz.f114,by kernel_rfl,by kernel_rfl⟩
theorem wv:Has Tryz.prog cY 9 [(4,none)] aqy:=⟨Tryz.f115,by kernel_rfl,by kernel_rfl⟩
theorem CK:Has Tryz.prog oc 65 [(10,none)] aqF:=⟨Tryz.f120,by kernel_rfl,by kernel_rfl⟩
theorem HF:Has Tryz.prog pY 18 [(2,none)] aqL:=⟨Tryz.f128,by kernel_rfl,by kernel_rfl⟩
theorem tJ:Has Tryz.prog ie 9 [(4,none)] aqM:=⟨Tryz.f129,by kernel_rfl,by kernel_rfl⟩
theorem Fg:Has Tryz.prog qt 8 [(3,none)] aqN:=⟨Tryz.f130,by kernel_rfl,by kernel_rfl⟩
theorem HG:Has Tryz.prog sf 38 [(8,none)] aqT:=⟨Tryz.f131,by kernel_rfl,by kernel_rfl⟩
theorem AX:Has Tryz.prog xG 28 [(4,none)] aq0:=⟨Tryz.f132,by kernel_rfl,by kernel_rfl⟩
theorem AY:Has Tryz.prog tv 9 [(2,none)] aq2:=⟨Tryz.f133,by kernel_rfl,by kernel_rfl⟩
theorem Lp:Has Tryz.prog rS 24 [(4,none),(5,none)] aq8:=⟨Tryz.f134,by kernel_rfl,by kernel_rfl⟩
theorem q7:Has Tryz.prog xH 29 [(4,none)] arc:=⟨Tryz.f135,by kernel_rfl,by kernel_rfl⟩
theorem wL:Has Tryz.prog tw 60 [(4,none)] arq:=⟨Tryz.f136,by kernel_rfl,by kernel_rfl⟩
theorem Ge:Has Tryz.prog uL 41 [(4,none)] arz:=⟨Tryz.f137,by kernel_rfl,by kernel_rfl⟩
theorem AZ:Has Tryz.prog oQ 7 [(2,none)] arA:=⟨Tryz.f138,by kernel_rfl,by kernel_rfl⟩
theorem Ni:Has Tryz.prog pJ 40 [(4,none)] arH:=⟨Tryz.f139,by kernel_rfl,by kernel_rfl⟩
theorem Fh:Has Tryz.prog kD 31 [(2,(some (true,4)))] arL:=⟨Tryz.f140,by kernel_rfl,by kernel_rfl⟩
theorem Lq:Has Tryz.prog zT 9 [(2,none)] arM:=⟨Tryz.f141,by kernel_rfl,by kernel_rfl⟩
theorem Jp:Has Tryz.prog qJ 18 [(4,none)] arN:=⟨Tryz.f142,by kernel_rfl,by kernel_rfl⟩
theorem Jq:Has Tryz.prog tx 18 [(4,none)] arO:=⟨Tryz.f143,by kernel_rfl,by kernel_rfl⟩
theorem HH:Has Tryz.prog wk 27 [(2,none)] arU:=⟨Tryz.f144,by kernel_rfl,by kernel_rfl⟩
theorem qd:Has Tryz.prog mE 92 [(6,none),(7,none)] ar9:=⟨Tryz.f145,by kernel_rfl,by kernel_rfl⟩
def DR (c:UInt8):Bool:=decide ((c.toNat:Int)≥97) && decide ((c.toNat:Int)≤122)
def HI (c:UInt8):Bool:=decide ((c.toNat:Int)≥48) && decide ((c.toNat:Int)≤57)
def isB (c:UInt8):Bool:=(c.toNat:Int)==32 ||(c.toNat:Int)==9 ||(c.toNat:Int)==10 ||(c.toNat:Int)==13
def qN:aK→Nat
 | []=>0
 |c::r=>if DR c ||HI c then qN r+1 else 0
def ahE:aK→Nat
 | []=>0
 |c::r=>if HI c then ahE r+1 else 0
def Te:aK→Nat
 | []=>0
 |c::r=>if(c.toNat:Int) != 10 then Te r+1 else 0
def isWord (s:aK):Bool:=
 s == [103,108,111,98,97,108] ||s == [112,114,111,99] ||s == [118,97,114] ||s == [114,101,102] ||s == [105,102] ||s == [101,108,115,101] ||s == [119,104,105,108,101] ||s == [98,114,101,97,107] ||s == [99,111,110,116,105,110,117,101] ||s == [114,101,116,117,114,110] ||s == [103,111,116,111] ||s == [114,101,97,100] ||s == [112,114,105,110,116]
def al0 (s:aK):Bool:=s == [61,61] ||s == [33,61] ||s == [60,61] ||s == [62,61] ||s == [38,38] ||s == [124,124]
def acm (c:UInt8):Bool:=
 (c.toNat:Int)==40 ||(c.toNat:Int)==41 ||(c.toNat:Int)==123 ||(c.toNat:Int)==125 ||(c.toNat:Int)==44 ||(c.toNat:Int)==59 ||(c.toNat:Int)==58 ||(c.toNat:Int)==61 ||
 (c.toNat:Int)==33 ||(c.toNat:Int)==60 ||(c.toNat:Int)==62 ||(c.toNat:Int)==43 ||(c.toNat:Int)==45 ||(c.toNat:Int)==42 ||(c.toNat:Int)==47 ||(c.toNat:Int)==37
def aco:aK→Nat
 | []=>0
 | [c]=>if acm c then 1 else 0
 |c::d::_=>if al0 [c,d]then 2 else if acm c then 1 else 0
def bj:Int→aK→Option Int
 |n,[]=>some n
 |n,c::r=>if n > (9223372036854775807 - ((c.toNat:Int) - 48)) / 10 then none else bj (n*10+((c.toNat:Int) - 48)) r
def atI (pos:Nat):aK→rl ⊕ Int
 | []=> .inr 2
 | c::r=>
  if DR c then
   let s:=(c::r).take (qN (c::r))
   if s.length > 8 then .inr 4 else .inl ⟨if isWord s then 3 else 1,s,0,pos⟩
  else if HI c then
   let s:=(c::r).take (ahE (c::r))
   if s.length > 1∧(c.toNat:Int)=48 then .inr 2 else
   match bj 0 s with
   |some n=> .inl ⟨2,s,n,pos⟩
   |none=> .inr 4
  else
   if aco (c::r)=0 then .inr 2 else .inl ⟨4,(c::r).take (aco (c::r)),0,pos⟩
def Tf:Nat→Nat→aK→List rl→List rl×Int×Int
 | 0,_,_,_=>([],0,0)
 |_+1,pos,[],out=>(out++ [⟨0,[],0,pos⟩],0,0)
 | n+1,pos,c::r,out=>
  if isB c then Tf n (pos+1) r out
  else if(c.toNat:Int)==35 then Tf n (pos+Te (c::r)) ((c::r).drop (Te (c::r))) out
  else match atI pos (c::r)with
   | .inr e=>([],e,pos)
   | .inl t=>if out.length=2000 then([],4,pos)else Tf n (pos+t.text.length) ((c::r).drop t.text.length) (out++ [t])
def A0 (text:aK):List rl×Int×Int:=if text.length > 100000 then([],4,0)else Tf (text.length+1) 0 text []
def EK:aK→Bool
 | []=>true
 |c::r=>if !(DR c) && !(HI c)then false else EK r
def isName:aK→Bool
 | []=>false
 |c::r=>if decide (((r.length+1:Nat):Int) > 8) || !(DR c)then false else if EK r then !(isWord (c::r))else false
def p6 (op:Int):Int:=if op==1 ||op==2 then 0 else if op==3 ||op==4 then 1 else if decide (op≥5) && decide (op≤17)then 2 else -1
mutual
def Ex.form:Ex→Bool
 |⟨op,n,name,kids⟩=>
  if p6 op != (kids.length:Int) ||(op != 1 && n != 0) ||decide (n<0) || !((op==2) == !(name == [])) ||(!(name == []) && !(isName name))then false else Ex.vk kids
def Ex.vk:List Ex→Bool
 | []=>true
 |x::l=>if !(Ex.form x)then false else Ex.vk l
end
mutual
def Ex.texts:Ex→Prop
 |⟨_,_,name,kids⟩=>name.length<4611686018427387904∧Ex.xN kids
def Ex.xN:List Ex→Prop
 | []=>True
 |x::l=>x.texts∧Ex.xN l
end
theorem Ex.HJ {x:Ex} : ∀ {l:List Ex},Ex.xN l→x∈l→x.texts
 |y::l,h,m=>by
  rcases List.mem_cons.1 m with rfl|m
  ·exact h.1
  ·exact Ex.HJ h.2 m
theorem Ex.VU {op n:Int} {name:aK} {kids:List Ex} (h:Ex.texts ⟨op,n,name,kids⟩) {y:Ex} (m:y∈kids):y.texts:=Ex.HJ h.2 m
def Ex.may (x:Ex):Bool:=decide (((min x.depth 21:Nat):Int)≤20) && x.form
def Ex.none (x:Ex):Bool:=x.op==0 && x.n==0 && x.name == [] && (x.kids.length:Int)==0
def fh:List aK→Bool
 | []=>true
 |s::l=>if !(isName s)then false else fh l
def Ar.may (a:Ar):Bool:=if a.ref then isName a.name && a.x.none else a.name == [] && a.x.may
def Ar.gL:List Ar→Bool
 | []=>true
 |a::l=>if !(a.may)then false else Ar.gL l
def Sm.DS (s:Sm):Bool:=s.kind==1 ||s.kind==3 ||s.kind==5 ||s.kind==6 ||(s.kind==9 && s.has)
def Sm.hasName (s:Sm):Bool:=s.kind==1 ||s.kind==2 ||s.kind==10
def Sm.A1 (s:Sm):Bool:=s.kind==4
def Sm.one (s:Sm):Bool:=
 if decide (s.kind<1) ||decide (s.kind > 10) || !(fh s.labels) ||(s.DS && !(s.x.may)) ||(!(s.DS) && !(s.x.none)) ||(s.has && s.kind != 9)then false
 else if(s.hasName && !(isName s.name)) ||(!(s.hasName) && !(s.name == []) && !(s.A1 && isName s.name))then false
 else if !(s.A1 == !(s.proc == [])) ||(s.A1 && !(isName s.proc)) ||(!(s.A1) && decide ((s.args.length:Int) > 0))then false
 else if !(Ar.gL s.args)then false
 else((s.aQ.length:Int)==0 ||s.kind==5 ||s.kind==6) && ((s.aN.length:Int)==0 ||s.kind==5)
structure It where
 s:Sm
 deep:Int
 db:Int
 aN:Bool
mutual
def jR (deep db:Int) (aN:Bool) (out:List It):Sm→List It
 |⟨id,kind,labels,name,proc,x,has,args,aQ,e⟩=>
  if decide (deep≤12)then eW (deep+1) id true (eW (deep+1) id false (out++ [⟨⟨id,kind,labels,name,proc,x,has,args,aQ,e⟩,deep,db,aN⟩]) aQ) e
  else out++ [⟨⟨id,kind,labels,name,proc,x,has,args,aQ,e⟩,deep,db,aN⟩]
def eW (deep db:Int) (aN:Bool) (out:List It):List Sm→List It
 | []=>out
 |s::l=>if decide ((out.length:Int)≤200)then eW deep db aN (jR deep db aN out s) l else out
end
def Pc.flat (f:Pc):List It:=eW 1 0 false [] f.body
def allM (out:List It):List Pc→List It
 | []=>out
 |f::l=>if decide (((out++f.flat).length:Int) > 200)then out++f.flat else allM (out++f.flat) l
def Pg.all (p:Pg):List It:=allM [] p.procs
def Pm.gL:List Pm→Bool
 | []=>true
 |a::l=>if !(isName a.name)then false else Pm.gL l
def Pc.ja:List Pc→Bool
 | []=>true
 |f::l=>
  if !(isName f.name) ||decide ((f.params.length:Int) > 8) ||decide ((f.vars.length:Int) > 16) || !(fh f.vars) || !(fh f.fin)then false
  else if !(Pm.gL f.params)then false else Pc.ja l
def It.gL (n:Nat):List It→Bool
 | []=>true
 |i::l=>if i.s.id != ((n+1:Nat):Int) ||decide (i.deep > 12) || !(i.s.one)then false else It.gL (n+1) l
def Pg.may (p:Pg):Bool:=
 if decide ((p.globals.length:Int) > 16) ||decide ((p.procs.length:Int) > 16) || !(fh p.globals)then false
 else if !(Pc.ja p.procs)then false
 else if decide ((p.all.length:Int) > 200)then false else It.gL 0 p.all
open Go.Proofs
@[go_sem] def aBG (r:Rd):List D:= [.slice .shared 4 (r.l.map k8), .int .i64 r.i, .int .i64 r.code, .int .i64 r.MU, .int .i64 r.n]
set_option maxRecDepth 8000
open Go.Proofs
theorem uN (c:UInt8) (s:St):aH Tryz.prog tu [.int .u8 (c.toNat:Int)] s (.bool (DR c)) s:=by
 refine aH.pure ?_ rfl rfl s
 generalize h:DR c=b
 unfold DR at h
 unfold S0
 refine aH.go Jo rfl fun B Q hB hQ=>?_
 have⟨hD,gA,gB,gC⟩:=bX
 repeat' (first
 |simp only[go_sem,hD,gA,gB,gC]
 |(with_reducible first|refine bq fun hc=>?_|refine br fun hc=>?_|refine bt (fun hc=>?_) fun hc=>?_)<;>(try simp only[hc,bs,↓reduceIte]at h)<;>try simp only[hc]
 |(with_reducible refine aJ hQ ?_;exact fU))
theorem Jr (c:UInt8) (s:St):aH Tryz.prog zT [.int .u8 (c.toNat:Int)] s (.bool (HI c)) s:=by
 refine aH.pure ?_ rfl rfl s
 generalize h:HI c=b
 unfold HI at h
 unfold S0
 refine aH.go Lq rfl fun B Q hB hQ=>?_
 have⟨hD,gA,gB,gC⟩:=bX
 repeat' (first
 |simp only[go_sem,hD,gA,gB,gC]
 |(with_reducible first|refine bq fun hc=>?_|refine br fun hc=>?_|refine bt (fun hc=>?_) fun hc=>?_)<;>(try simp only[hc,bs,↓reduceIte]at h)<;>try simp only[hc]
 |(with_reducible refine aJ hQ ?_;exact fU))
theorem ahF (t:aK) (s:St):aH Tryz.prog BD [.str t] s (.bool (isWord t)) s:=by
 refine aH.pure ?_ rfl rfl s
 generalize h:isWord t=b
 unfold isWord at h
 unfold S0
 refine aH.go Nh rfl fun B Q hB hQ=>?_
 have⟨hD,gA,gB,gC⟩:=bX
 repeat' (first
 |simp only[go_sem,hD,gA,gB,gC]
 |(with_reducible first|refine bq fun hc=>?_|refine br fun hc=>?_|refine bt (fun hc=>?_) fun hc=>?_)<;>(try simp only[hc,bs,↓reduceIte]at h)<;>try simp only[hc]
 |(with_reducible refine aJ hQ ?_;exact fU))
theorem al1 {text:aK} {pos:Nat} (hl:text.length<4611686018427387904) (s:St):aH Tryz.prog DI [.str text, .int .i64 (pos:Int)] s (.int .i64 ((pos+qN (text.drop pos):Nat):Int)) s:=by
 refine aH.pure ?_ rfl rfl s
 unfold S0
 refine aH.go Po rfl fun B Q hB hQ=>?_
 have⟨hD,gA,gB,gC⟩:=bX
 repeat' (first
 |simp only[go_sem,hD,gA,gB,gC]
 |(with_reducible refine aJ hQ ?_;exact bA))
 refine fI 0 0 (bp.ind (ι:=aK×Nat) (fun i=>text.drop i.2=i.1∧i.2+qN i.1=pos+qN (text.drop pos)) (fun i=>i.1.length)
  (fun i=> [(0, .str text),(1, .int .i64 (i.2:Int))]) (fun i=>⟨[],[]⟩) ?_ (text.drop pos,pos) ⟨rfl,rfl⟩)
 rintro⟨rest,k⟩ ⟨h1,h2⟩ IH
 dsimp only at h1 h2
 cases rest with
 |nil=>
  have hD:=drop_nil h1
  simp only[qN,Nat.add_zero]at h2
  rw[← h2]at hQ
  repeat' (first
 |simp only[go_sem,hD,gA,gB,gC]
 |(with_reducible refine aJ hQ ?_;exact bA))
 | cons c rest=>
  obtain⟨gA,g2,hD,g4⟩:=drop_cons h1
  have gB:k<4611686018427387904:=by omega
  cases hb:(DR c ||HI c)
  ·simp only [qN,hb,Bool.false_eq_true, ↓reduceIte,Nat.add_zero]at h2
   rw[← h2]at hQ
   simp only[Bool.or_eq_false_iff]at hb
   repeat' (first
 |simp only[go_sem,hD,gA,gB,gC,hb.1,hb.2]
 |(with_reducible refine CU (uN _ _) ?_)
 |(with_reducible refine CU (Jr _ _) ?_)
 | (with_reducible refine aJ hQ ?_;exact bA))
  ·simp only [qN,hb, ↓reduceIte]at h2
   cases Mi:DR c
   ·rw [Mi,Bool.false_or]at hb
    repeat' (first
 |simp only[go_sem,hD,gA,gB,gC,hb,Mi]
 |(with_reducible refine CU (uN _ _) ?_)
 |(with_reducible refine CU (Jr _ _) ?_)
 | (with_reducible refine aJ hQ ?_;exact bA))
    refine fI 0 0 (IH (rest,k+1) ⟨g2,by dsimp only;omega⟩ (Nat.lt_succ_self _))
   ·repeat' (first
 |simp only[go_sem,hD,gA,gB,gC,Mi]
 |(with_reducible refine CU (uN _ _) ?_)
 |(with_reducible refine CU (Jr _ _) ?_)
 | (with_reducible refine aJ hQ ?_;exact bA))
    refine fI 0 0 (IH (rest,k+1) ⟨g2,by dsimp only;omega⟩ (Nat.lt_succ_self _))
def aAb (s:aK):Int×Bool:=match bj 0 s with|some n=>(n,true)|none=>(0,false)
open Go.Proofs
def atJ (f:Int×Int):List D:= [.int .i64 f.1, .int .i64 f.2]
def al2 (text:aK) (out:List rl) (pos:Nat):Tm:= [(0, .str text),(3, .ptr 0 0),(4, .slice (.tok 0) 4 (out.map k8)),(5, .ptr 1 0),(6, .int .i64 (pos:Int))]
def al3 (out:List rl):St:=⟨[[.int .i64 0, .int .i64 0],[.junk, .junk, .junk, .junk]],[some out.length]⟩
attribute [go_sem] al2 al3 atJ
end Go.Abs
namespace Go.Abs
set_option maxRecDepth 8000
open Go.Proofs
def auD (s:aK):Bool:=
 [103,108,111,98,97,108] == s || [112,114,111,99] == s || [118,97,114] == s || [114,101,102] == s || [105,102] == s || [101,108,115,101] == s || [119,104,105,108,101] == s || [98,114,101,97,107] == s || [99,111,110,116,105,110,117,101] == s || [114,101,116,117,114,110] == s || [103,111,116,111] == s || [114,101,97,100] == s || [112,114,105,110,116] == s
def OpR (p:Int×Int):Prop:=0≤p.2∧p.2≤6
@[go_sem] def aBH (z:D) (r:Rd):List D:= [.slice .shared 4 (r.l.map k8), .int .i64 r.i, .int .i64 r.code, .int .i64 r.MU,z]
class Cell (z:D):Prop where
 ok:D.ok 0 0 z=true
 fg : ∀ n m,D.fg n m z=z
instance (n:Int):Cell (.int .i64 n):=⟨rfl,fun _ _=>rfl⟩
instance:Cell .junk:=⟨rfl,fun _ _=>rfl⟩
theorem aeg (z:D) [h:Cell z] (n m:Nat):D.fg n m z=z:=h.fg n m
attribute [go_sem] aeg
def Rd.isO (text:aK) (r:Rd):Option Bool:=if r.good then r.is text else some false
end Go.Abs
namespace Go.Abs
open Go.Proofs
def ahG (s:aK):Int×Int:=
 if [42] == s then(6,5)else if [47] == s then(6,6)else if [37] == s then(6,7)else if [43] == s then(5,8)else if [45] == s then(5,9)
 else if [60] == s then(4,10)else if [60,61] == s then(4,11)else if [62] == s then(4,12)else if [62,61] == s then(4,13)
 else if [61,61] == s then(3,14)else if [33,61] == s then(3,15)else if [38,38] == s then(2,16)else if [124,124] == s then(1,17)else(0,0)
def BZ (p:Int×Int):Prop:=(p.2==0)=(p.1==0)
set_option maxRecDepth 8000
open Go.Proofs
structure Sm.wx (s:Sm):Prop where
 lG : ∀ t∈s.labels,t.length<4611686018427387904
 Nj:s.labels.length<4611686018427387904
 name:s.name.length<4611686018427387904
 proc:s.proc.length<4611686018427387904
 x:s.x.size<4611686018427387904
 xt:s.x.texts
 Js:s.args.length<4611686018427387904
 arg : ∀ a∈s.args,a.x.size<4611686018427387904∧a.x.texts∧a.name.length<4611686018427387904
section
variable {v:Sm} {B:gZ} {Q:Exit→Tm→St→Prop} {p:Bool}
end
theorem aH.goS {P:Program} {f:FuncId} {nt:Nat} {res:List (Nat×Option (Bool×Nat))} {body:AC} {args:List D} {s:St} {d:D} {s':St} (h0:Has P f nt res body) (hl:Nat.ble args.length nt=true)
 (h : ∀ (B:gZ) (Q:Exit→Tm→St→Prop),B.s=s→rC s.al.length s.aA.length res d s'=Q→Sem P B nt body Q (ou 0 args) s):aH P f args s d s':=by
 obtain⟨fn,hf,hc⟩:=h0
 exact aH.intro ⟨fn,hf,hc⟩ (Nat.le_of_ble_eq_true hl) fun B hB=>h B _ hB rfl
end Go.Abs
namespace Go.Abs
set_option maxRecDepth 8000
open Go.Proofs
def dP (i:Im):List D:= [.int .i64 i.s.id, .int .i64 i.s.kind, .slice .shared 1 (i.s.labels.map encStr), .str i.s.name, .str i.s.proc,
 .int .i64 i.s.x.op, .int .i64 i.s.x.n, .str i.s.x.name, .slice .shared 4 (i.s.x.kids.map cb), .bool i.s.has, .slice .shared 6 (i.s.args.map fi), .slice .shared 13 (i.s.aQ.map bd), .slice .shared 13 (i.s.aN.map bd), .int .i64 i.proc, .int .i64 i.up, .int .i64 i.next, .int .i64 i.loop]
def cO (n:Int):List D:= [.int .i64 n]
theorem Tg (i:Im):D.bM 0 0 (dP i)=true:=by simp[dP,D.bM,D.ok,Tag.ok,fL,abx,LF,l8]
theorem LH (l:List Im):D.jd 0 0 (l.map dP)=true:=je Tg l
theorem acp (n m:Nat) (l:List Im):D.lL n m (l.map dP)=l.map dP:=nF Tg n m l
theorem al4 (n m:Nat) (i:Im):D.iG n m (dP i)=dP i:=jh n m _ (Tg i)
theorem al5 (x:Im):(dP x).length=17:=nd rfl
theorem aeh (x:Im):List.take 17 (dP x)=dP x:=nd rfl
theorem ahH (x:Im):List.drop 17 (dP x) = []:=nd rfl
theorem ahI (x:Im):List.take 13 (dP x)=bd x.s:=by simp only[dP,dv];rfl
theorem Zw (x:Im):(dP x)[0]? = some (.int .i64 x.s.id):=nd rfl
theorem Zx (x:Im):(dP x)[1]? = some (.int .i64 x.s.kind):=nd rfl
theorem Zy (x:Im):(dP x)[4]? = some (.str x.s.proc):=nd rfl
theorem VV (x:Im):(dP x)[13]? = some (.int .i64 x.proc):=nd rfl
theorem VW (x:Im):(dP x)[14]? = some (.int .i64 x.up):=nd rfl
theorem VX (x:Im):(dP x)[15]? = some (.int .i64 x.next):=nd rfl
theorem VY (x:Im):(dP x)[16]? = some (.int .i64 x.loop):=nd rfl
theorem Ti (s:Sm) (a b c d:Int):dP ⟨s,a,b,c,d⟩ = [.int .i64 s.id, .int .i64 s.kind, .slice .shared 1 (s.labels.map encStr), .str s.name, .str s.proc,
 .int .i64 s.x.op, .int .i64 s.x.n, .str s.x.name, .slice .shared 4 (s.x.kids.map cb), .bool s.has, .slice .shared 6 (s.args.map fi), .slice .shared 13 (s.aQ.map bd), .slice .shared 13 (s.aN.map bd), .int .i64 a, .int .i64 b, .int .i64 c, .int .i64 d]:=nd rfl
theorem acq (n:Int):D.bM 0 0 (cO n)=true:=rfl
theorem ju (l:List Int):D.jd 0 0 (l.map cO)=true:=je acq l
theorem VZ (n m:Nat) (l:List Int):D.lL n m (l.map cO)=l.map cO:=nF acq n m l
attribute [go_sem] acp al4 al5 aeh ahH ahI Zw Zx Zy VV VW VX VY VZ cO
theorem ahJ : ∀ n,n<1000000000→∀ v:Sm,v.size≤n→aH Tryz.prog oa [.agg (bd v)] S0 (.int .i64 (v.kB:Int)) S0:=by
 intro n
 induction n with
 |zero=>intro _ v h;obtain⟨_,_,_,_,_,_,_,_,_,_⟩:=v;simp only[Sm.size]at h;omega
 |succ n ih=>
 intro hn v hv
 have dU:Sm.aU v.aQ≤n∧Sm.aU v.aN≤n∧v.kB=1+Sm.jK v.aQ+Sm.jK v.aN:=by
  obtain⟨_,_,_,_,_,_,_,_,_,_⟩:=v
  simp only[Sm.size]at hv;exact⟨by dsimp only;omega,by dsimp only;omega,rfl⟩
 obtain⟨h1,h2,h3⟩:=dU
 have c1:=py v.aQ
 have c2:=py v.aN
 have l1:=Sm.dR v.aQ
 have l2:=Sm.dR v.aN
 have hk : ∀ y,y∈v.aQ∨y∈v.aN→∀ s,aH Tryz.prog oa [.agg (bd y)] s (.int .i64 (y.kB:Int)) s:=fun y hy s=>
  (ih (by omega) y (by rcases hy with hy|hy<;>(have:=Sm.cZ hy;omega))).pure (by simp only[D.bM,D.ok,qh];rfl) rfl s
 rw[h3]
 unfold S0
 refine aH.go Ln rfl fun B Q hB hQ=>?_
 have⟨hD,gA,gB,gC⟩:=bX
 repeat' (first
 |simp only[go_sem,hD,gA,gB,gC]
 |(with_reducible refine aJ hQ ?_;exact bA))
 refine fI 1 0 (bp.ind (ι:=List Sm×Nat×Nat) (fun i=>v.aQ.drop i.2.1=i.1∧i.2.2+Sm.jK i.1=1+Sm.jK v.aQ) (fun i=>i.1.length)
  (fun i=> [(1, .ptr 0 0),(3, .int .i64 (i.2.2:Int)),(9, .slice .shared 13 (v.aQ.map bd)),(10, .int .i64 (v.aQ.length:Int)),(11, .int .i64 (i.2.1:Int))]) (fun i=>⟨[bd v],[]⟩) ?_ (v.aQ,0,1) ⟨rfl,rfl⟩)
 rintro⟨rest,k,c⟩ ⟨g1,g2⟩ IH
 dsimp only at g1 g2
 cases rest with
 |cons y rest=>
  obtain⟨gA,g3,hD,g4⟩:=drop_cons g1
  have hy:=hk y (.inl (List.mem_of_getElem? gA))
  simp only[Sm.jK]at g2
  have CM:=F4 y
  have Fp:=Sm.cZ (List.mem_of_getElem? gA)
  have w1:IntKind.wrap .i64 ((k:Int)+1)=((k+1:Nat):Int):=by rw[eA]<;>omega
  have w2:IntKind.wrap .i64 ((c:Int)+(y.kB:Int))=((c+y.kB:Nat):Int):=by rw[eA]<;>omega
  repeat' (first
 |simp only[go_sem,hD,gA,gB,gC,w1,w2]
 |(with_reducible refine CU (hy _) ?_)
 |(with_reducible refine aJ hQ ?_;exact bA))
  refine fI 1 0 (IH (rest,k+1,c+y.kB) ⟨g3,by dsimp only;omega⟩ (Nat.lt_succ_self _))
 |nil=>
  have hD:=drop_nil g1
  simp only[Sm.jK,Nat.add_zero]at g2
  subst g2
  repeat' (first
 |simp only[go_sem,hD,gA,gB,gC]
 | (with_reducible refine aJ hQ ?_;exact bA))
  refine fI 1 0 (bp.ind (ι:=List Sm×Nat×Nat) (fun i=>v.aN.drop i.2.1=i.1∧i.2.2+Sm.jK i.1=1+Sm.jK v.aQ+Sm.jK v.aN) (fun i=>i.1.length)
   (fun i=> [(1, .ptr 0 0),(3, .int .i64 (i.2.2:Int)),(21, .slice .shared 13 (v.aN.map bd)),(22, .int .i64 (v.aN.length:Int)),(23, .int .i64 (i.2.1:Int))]) (fun i=>⟨[bd v],[]⟩) ?_ (v.aN,0,1+Sm.jK v.aQ) ⟨rfl,rfl⟩)
  rintro⟨rest,k,c⟩ ⟨g1,g2⟩ IH
  dsimp only at g1 g2
  cases rest with
  |cons y rest=>
   obtain⟨gA,g3,hD,g4⟩:=drop_cons g1
   have hy:=hk y (.inr (List.mem_of_getElem? gA))
   simp only[Sm.jK]at g2
   have CM:=F4 y
   have Fp:=Sm.cZ (List.mem_of_getElem? gA)
   have w1:IntKind.wrap .i64 ((k:Int)+1)=((k+1:Nat):Int):=by rw[eA]<;>omega
   have w2:IntKind.wrap .i64 ((c:Int)+(y.kB:Int))=((c+y.kB:Nat):Int):=by rw[eA]<;>omega
   repeat' (first
 |simp only[go_sem,hD,gA,gB,gC,w1,w2]
 |(with_reducible refine CU (hy _) ?_)
 | (with_reducible refine aJ hQ ?_;exact bA))
   refine fI 1 0 (IH (rest,k+1,c+y.kB) ⟨g3,by dsimp only;omega⟩ (Nat.lt_succ_self _))
  |nil=>
   have hD:=drop_nil g1
   simp only[Sm.jK,Nat.add_zero]at g2
   subst g2
   repeat' (first
 |simp only[go_sem,hD,gA,gB,gC]
 |(with_reducible refine aJ hQ ?_;exact bA))
theorem ahK {v:Sm} (h:v.size<1000000000) (s:St):aH Tryz.prog oa [.agg (bd v)] s (.int .i64 (v.kB:Int)) s:=
 (ahJ v.size h v (Nat.le_refl _)).pure (by simp only[D.bM,D.ok,qh];rfl) rfl s
end Go.Abs
namespace Go.Abs
set_option maxRecDepth 8000
open Go.Proofs
abbrev jS (g ps:D) (L:List Im) (lo hi:List Int):List D:= [g,ps, .slice (.tok 0) 17 (L.map dP), .slice (.tok 1) 1 (lo.map cO), .slice (.tok 2) 1 (hi.map cO)]
abbrev Zz (proc up next loop:Int):List D:= [.int .i64 0, .int .i64 0, .slice .full 0 [], .str [], .str [], .int .i64 0, .int .i64 0, .str [], .slice .full 0 [], .bool false, .slice .full 0 [], .slice .full 0 [], .slice .full 0 [], .int .i64 proc, .int .i64 up, .int .i64 next, .int .i64 loop]
theorem aH.al6 {P:Program} {f:Nat} {args:List D} {g ps:D} {L L':List Im} {lo hi J2 iI:List Int} {a b c a' b' c':Option Nat}
 (h:aH P f (.ptr 0 0::args) ⟨[jS g ps L lo hi],[a,b,c]⟩ (.tuple []) ⟨[jS g ps L' J2 iI],[a',b',c']⟩)
 (ha:D.bM 0 0 args=true) (hg:D.ok 0 0 g=true) (hp:D.ok 0 0 ps=true)
 {s:St} {o:Nat} (ho:s.al[o]? = some (jS g ps L lo hi)) (ht:s.aA = [a,b,c]):aH P f (.ptr o 0::args) s (.tuple []) ⟨s.al.set o (jS g ps L' J2 iI),[a',b',c']⟩:=by
 have hr : ∀ (L:List Im) (lo hi:List Int),D.fa [o] [0,1,2] (jS g ps L lo hi)=jS g ps L lo hi:=fun L lo hi=>by
  simp[D.fa,D.cT,Tag.cT,sv _ _ _ hg,sv _ _ _ hp,ke _ _ _ (LH L),ke _ _ _ (ju lo),ke _ _ _ (ju hi)]
 have hk : ∀ (L:List Im) (lo hi:List Int),D.bM 1 3 (jS g ps L lo hi)=true:=fun L lo hi=>by
  simp[D.bM,D.ok,Tag.ok,Ja (Nat.zero_le 1) (Nat.zero_le 3) _ hg,Ja (Nat.zero_le 1) (Nat.zero_le 3) _ hp,n8 (Nat.zero_le 1) (Nat.zero_le 3) _ (LH L),n8 (Nat.zero_le 1) (Nat.zero_le 3) _ (ju lo),n8 (Nat.zero_le 1) (Nat.zero_le 3) _ (ju hi)]
 refine bW.frame [o] [0,1,2] h (by simp) (by decide) (by simpa using (List.getElem?_eq_some_iff.1 ho).1) (by rw[ht];simp) rfl (fun i o' ds e1 e2=>?_) rfl (fun i t' e1=>?_)
  (by simp[D.fa,D.cT,fY _ _ _ ha])
  (by simp[D.bM,D.ok,jw (Nat.zero_le 1) (Nat.zero_le 3) _ ha]) ?_
 ·cases i with
  |zero=>simp only[List.getElem?_cons_zero,Option.some.injEq]at e1 e2;subst e1;subst e2;exact⟨by rw[hr];exact ho,hk L lo hi⟩
  |succ i=>simp at e1
 ·rw [ht]
  match i,e1 with
  | 0,e1=>simp at e1;subst e1;rfl
  | 1,e1=>simp at e1;subst e1;rfl
  | 2,e1=>simp at e1;subst e1;rfl
  |i+3,e1=>simp at e1
 ·rintro _ _ ⟨rfl,rfl⟩
  refine⟨by simp[D.back,D.cT,D.fa], ?_⟩
  have:=hr L' J2 iI
  simp[St.back,lC,kP,this,ht]
abbrev acr (N:Nat):Prop:=∀ (l:List Sm) (proc up next loop:Int) (out:List Im) (g ps:D) (lo hi:List Int) (b c:Option Nat),Sm.aU l<N→out.length+Sm.jK l<1000000000→D.ok 0 0 g=true→D.ok 0 0 ps=true→
 ∀ {s:St} {o:Nat},s.al[o]? = some (jS g ps out lo hi)→s.aA = [some out.length,b,c]→
 aH Tryz.prog lh [.ptr o 0, .slice .shared 13 (l.map bd), .agg (Zz proc up next loop)] s (.tuple []) ⟨s.al.set o (jS g ps (Im.rows proc up next loop out l) lo hi),[some (Im.rows proc up next loop out l).length,b,c]⟩
theorem al7 {N:Nat} (ih:acr N) {l:List Sm} {proc up next loop:Int} {out:List Im} {g ps:D} {lo hi:List Int} {b c:Option Nat} (hs:Sm.aU l<N+1) (hc:out.length+Sm.jK l<1000000000) (hg:D.ok 0 0 g=true) (hp:D.ok 0 0 ps=true) (hN:N<1000000000) :
 aH Tryz.prog lh [.ptr 0 0, .slice .shared 13 (l.map bd), .agg (Zz proc up next loop)] ⟨[jS g ps out lo hi],[some out.length,b,c]⟩ (.tuple []) ⟨[jS g ps (Im.rows proc up next loop out l) lo hi],[some (Im.rows proc up next loop out l).length,b,c]⟩:=by
 obtain⟨R,hR⟩ : ∃ R,R=Im.rows proc up next loop out l:=⟨_,rfl⟩
 have hlR:R.length=out.length+Sm.jK l:=by rw[hR,iP]
 rw[← hR]
 have k1 : ∀ n m,D.fg n m g=g:=fun n m=>SW n m _ hg
 have k2 : ∀ n m,D.fg n m ps=ps:=fun n m=>SW n m _ hp
 refine aH.go DQ rfl fun B Q hB hQ=>?_
 have⟨hD,gA,gB,gC⟩:=bX
 repeat' (first
 |simp only[go_sem,hD,gA,gB,gC,k1,k2]
 |(with_reducible first|refine bq fun hc=>?_|refine br fun hc=>?_|refine bt (fun hc=>?_) fun hc=>?_)<;>(try simp only[hc,bs,↓reduceIte]at h)<;>try simp only[hc]
 |(with_reducible refine aJ hQ ?_;simp only[bh,bk,bO,bP,go_sem,hD,gA,gB,gC,k1,k2];try exact cJ))
 refine fm 2 3 ?_ ?_ (bp.ind (ι:=List Sm×Nat×List Im) (fun i=>l.drop i.2.1=i.1∧Im.rows proc up next loop i.2.2 i.1=R∧i.2.2.length+Sm.jK i.1=out.length+Sm.jK l) (fun i=>i.1.length)
  (fun i=> [(0, .ptr 0 0),(1, .slice .shared 13 (l.map bd)),(5, .ptr 1 0),(11, .slice .shared 13 (l.map bd)),(12, .int .i64 (l.length:Int)),(13, .int .i64 (i.2.1:Int))]) (fun i=>⟨[jS g ps i.2.2 lo hi,Zz proc up next loop],[some i.2.2.length,b,c]⟩) ?_ (l,0,out) ⟨rfl,hR.symm,rfl⟩)
 ·(simp only[go_sem,hD,gA,gB,gC,k1,k2];try exact cd)
 ·(simp only[go_sem,hD,gA,gB,gC,k1,k2];try exact cd)
 rintro⟨rest,k,dg⟩ ⟨h1,h2,h3⟩ IH
 dsimp only at h1 h2 h3
 have hlen:l.length<1000000000:=by have:=Sm.dR l;omega
 cases rest with
 |nil=>
  have hD:=drop_nil h1
  simp only[Im.rows]at h2
  subst h2
  repeat' (first
 |simp only[go_sem,hD,gA,gB,gC,k1,k2]
 |(with_reducible first|refine bq fun hc=>?_|refine br fun hc=>?_|refine bt (fun hc=>?_) fun hc=>?_)<;>(try simp only[hc,bs,↓reduceIte]at h)<;>try simp only[hc]
 |(with_reducible refine aJ hQ ?_;simp only[bh,bk,bO,bP,go_sem,hD,gA,gB,gC,k1,k2];try exact cJ))
 | cons v rest=>
  obtain⟨gA,g2,hD,g4⟩:=drop_cons h1
  have ct:k<4611686018427387904:=by omega
  have hv:=Sm.cZ (List.mem_of_getElem? gA)
  have qC:Sm.aU v.aQ<N∧Sm.aU v.aN<N∧v.kB=1+Sm.jK v.aQ+Sm.jK v.aN:=by
   obtain⟨_,_,_,_,_,_,_,_,_,_⟩:=v
   simp only[Sm.size]at hv
   exact⟨by dsimp only;omega,by dsimp only;omega,rfl⟩
  obtain⟨Aw,Mg,hv3⟩:=qC
  simp only[Sm.jK]at h3
  simp only[Im.rows,Im.ag2]at h2
  have gB:(dg.length+1)*241≤bD:=by unfold bD;omega
  have P3:IntKind.wrap .i64 ((dg.length:Int)+1)=(dg.length:Int)+1:=eA (by omega) (by omega)
  have sQ:IntKind.wrap .i64 ((k:Int)+1)=((k+1:Nat):Int):=by rw[eA]<;>omega
  have hw3:IntKind.wrap .i64 ((dg.length:Int)+1+(v.kB:Int))=(dg.length:Int)+1+(v.kB:Int):=eA (by omega) (by omega)
  have dU:=fun s=>ahK (v:=v) (by omega) s
  simp only[dv]at dU
  have Dp:rest.length=l.length - (k+1):=by rw[← g2,List.length_drop]
  by_cases aBI:k+1<l.length
  ·have d1:decide (((k+1:Nat):Int)<(l.length:Int))=true:=by simp;omega
   have e1:(rest.length=0)=False:=by simp;intro h;rw[h]at Dp;simp at Dp;omega
   by_cases V0:v.kind=6
   ·have d2:(v.kind==6)=true:=by simp [V0]
    simp only[e1,d2,↓reduceIte,Bool.false_eq_true]at h2
    have f1:=fun {s:St} {o:Nat}=>@ih v.aQ proc ((dg.length:Int)+1) ((dg.length:Int)+1) ((dg.length:Int)+1) (dg++ [⟨v,proc,up,((dg.length:Int)+1+(v.kB:Int)),loop⟩]) g ps lo hi b c Aw (by simp;omega) hg hp s o
    have f2:=fun {s:St} {o:Nat}=>@ih v.aN proc ((dg.length:Int)+1) ((dg.length:Int)+1) ((dg.length:Int)+1) _ g ps lo hi b c Mg (by rw[iP proc ((dg.length:Int)+1) ((dg.length:Int)+1) ((dg.length:Int)+1) (dg++ [⟨v,proc,up,((dg.length:Int)+1+(v.kB:Int)),loop⟩]) v.aQ];simp;omega) hg hp s o
    have hl:(Im.rows proc ((dg.length:Int)+1) ((dg.length:Int)+1) ((dg.length:Int)+1) (Im.rows proc ((dg.length:Int)+1) ((dg.length:Int)+1) ((dg.length:Int)+1) (dg++ [⟨v,proc,up,((dg.length:Int)+1+(v.kB:Int)),loop⟩]) v.aQ) v.aN).length=dg.length+v.kB:=by rw[iP,iP];simp;omega
    simp only[jS,List.map_append,List.map_cons,List.map_nil,Ti,List.length_append,List.length_cons,List.length_nil]at f1
    repeat' (first
 |simp only[go_sem,hD,gA,gB,gC,k1,k2,P3,sQ,hw3,d1,d2,dv]
 |(with_reducible refine CU (dU _) ?_)
 |(with_reducible refine CU (f1 (by with_unfolding_all rfl) (by with_unfolding_all rfl)) ?_)
 |(with_reducible refine CU (f2 (by with_unfolding_all rfl) (by with_unfolding_all rfl)) ?_)
 | (with_reducible refine aJ hQ ?_;exact bA))
    refine fm 2 3 ?_ ?_ (IH (rest,k+1,_) ⟨g2,h2,by dsimp only;rw[hl];omega⟩ (Nat.lt_succ_self _))
    ·(simp only[go_sem,hD,gA,gB,gC,sQ,k1,k2];try exact cd)
    ·(simp only[go_sem,hD,gA,gB,gC,sQ,k1,k2];try exact cd)
   ·have d2:(v.kind==6)=false:=by simp [V0]
    simp only[e1,d2,↓reduceIte,Bool.false_eq_true]at h2
    have f1:=fun {s:St} {o:Nat}=>@ih v.aQ proc ((dg.length:Int)+1) ((dg.length:Int)+1+(v.kB:Int)) loop (dg++ [⟨v,proc,up,((dg.length:Int)+1+(v.kB:Int)),loop⟩]) g ps lo hi b c Aw (by simp;omega) hg hp s o
    have f2:=fun {s:St} {o:Nat}=>@ih v.aN proc ((dg.length:Int)+1) ((dg.length:Int)+1+(v.kB:Int)) loop _ g ps lo hi b c Mg (by rw[iP proc ((dg.length:Int)+1) ((dg.length:Int)+1+(v.kB:Int)) loop (dg++ [⟨v,proc,up,((dg.length:Int)+1+(v.kB:Int)),loop⟩]) v.aQ];simp;omega) hg hp s o
    have hl:(Im.rows proc ((dg.length:Int)+1) ((dg.length:Int)+1+(v.kB:Int)) loop (Im.rows proc ((dg.length:Int)+1) ((dg.length:Int)+1+(v.kB:Int)) loop (dg++ [⟨v,proc,up,((dg.length:Int)+1+(v.kB:Int)),loop⟩]) v.aQ) v.aN).length=dg.length+v.kB:=by rw[iP,iP];simp;omega
    simp only[jS,List.map_append,List.map_cons,List.map_nil,Ti,List.length_append,List.length_cons,List.length_nil]at f1
    repeat' (first
 |simp only[go_sem,hD,gA,gB,gC,k1,k2,P3,sQ,hw3,d1,d2,dv]
 |(with_reducible refine CU (dU _) ?_)
 |(with_reducible refine CU (f1 (by with_unfolding_all rfl) (by with_unfolding_all rfl)) ?_)
 |(with_reducible refine CU (f2 (by with_unfolding_all rfl) (by with_unfolding_all rfl)) ?_)
 | (with_reducible refine aJ hQ ?_;exact bA))
    refine fm 2 3 ?_ ?_ (IH (rest,k+1,_) ⟨g2,h2,by dsimp only;rw[hl];omega⟩ (Nat.lt_succ_self _))
    ·(simp only[go_sem,hD,gA,gB,gC,sQ,k1,k2];try exact cd)
    ·(simp only[go_sem,hD,gA,gB,gC,sQ,k1,k2];try exact cd)
  ·have d1:decide (((k+1:Nat):Int)<(l.length:Int))=false:=by simp;omega
   have e1:(rest.length=0)=True:=by simp only[eq_iff_iff,iff_true];omega
   by_cases V0:v.kind=6
   ·have d2:(v.kind==6)=true:=by simp [V0]
    simp only[e1,d2,↓reduceIte,Bool.false_eq_true]at h2
    have f1:=fun {s:St} {o:Nat}=>@ih v.aQ proc ((dg.length:Int)+1) ((dg.length:Int)+1) ((dg.length:Int)+1) (dg++ [⟨v,proc,up,next,loop⟩]) g ps lo hi b c Aw (by simp;omega) hg hp s o
    have f2:=fun {s:St} {o:Nat}=>@ih v.aN proc ((dg.length:Int)+1) ((dg.length:Int)+1) ((dg.length:Int)+1) _ g ps lo hi b c Mg (by rw[iP proc ((dg.length:Int)+1) ((dg.length:Int)+1) ((dg.length:Int)+1) (dg++ [⟨v,proc,up,next,loop⟩]) v.aQ];simp;omega) hg hp s o
    have hl:(Im.rows proc ((dg.length:Int)+1) ((dg.length:Int)+1) ((dg.length:Int)+1) (Im.rows proc ((dg.length:Int)+1) ((dg.length:Int)+1) ((dg.length:Int)+1) (dg++ [⟨v,proc,up,next,loop⟩]) v.aQ) v.aN).length=dg.length+v.kB:=by rw[iP,iP];simp;omega
    simp only[jS,List.map_append,List.map_cons,List.map_nil,Ti,List.length_append,List.length_cons,List.length_nil]at f1
    repeat' (first
 |simp only[go_sem,hD,gA,gB,gC,k1,k2,P3,sQ,hw3,d1,d2,dv]
 |(with_reducible refine CU (dU _) ?_)
 |(with_reducible refine CU (f1 (by with_unfolding_all rfl) (by with_unfolding_all rfl)) ?_)
 |(with_reducible refine CU (f2 (by with_unfolding_all rfl) (by with_unfolding_all rfl)) ?_)
 | (with_reducible refine aJ hQ ?_;exact bA))
    refine fm 2 3 ?_ ?_ (IH (rest,k+1,_) ⟨g2,h2,by dsimp only;rw[hl];omega⟩ (Nat.lt_succ_self _))
    ·(simp only[go_sem,hD,gA,gB,gC,sQ,k1,k2];try exact cd)
    ·(simp only[go_sem,hD,gA,gB,gC,sQ,k1,k2];try exact cd)
   ·have d2:(v.kind==6)=false:=by simp [V0]
    simp only[e1,d2,↓reduceIte,Bool.false_eq_true]at h2
    have f1:=fun {s:St} {o:Nat}=>@ih v.aQ proc ((dg.length:Int)+1) next loop (dg++ [⟨v,proc,up,next,loop⟩]) g ps lo hi b c Aw (by simp;omega) hg hp s o
    have f2:=fun {s:St} {o:Nat}=>@ih v.aN proc ((dg.length:Int)+1) next loop _ g ps lo hi b c Mg (by rw[iP proc ((dg.length:Int)+1) next loop (dg++ [⟨v,proc,up,next,loop⟩]) v.aQ];simp;omega) hg hp s o
    have hl:(Im.rows proc ((dg.length:Int)+1) next loop (Im.rows proc ((dg.length:Int)+1) next loop (dg++ [⟨v,proc,up,next,loop⟩]) v.aQ) v.aN).length=dg.length+v.kB:=by rw[iP,iP];simp;omega
    simp only[jS,List.map_append,List.map_cons,List.map_nil,Ti,List.length_append,List.length_cons,List.length_nil]at f1
    repeat' (first
 |simp only[go_sem,hD,gA,gB,gC,k1,k2,P3,sQ,hw3,d1,d2,dv]
 |(with_reducible refine CU (dU _) ?_)
 |(with_reducible refine CU (f1 (by with_unfolding_all rfl) (by with_unfolding_all rfl)) ?_)
 |(with_reducible refine CU (f2 (by with_unfolding_all rfl) (by with_unfolding_all rfl)) ?_)
 | (with_reducible refine aJ hQ ?_;exact bA))
    refine fm 2 3 ?_ ?_ (IH (rest,k+1,_) ⟨g2,h2,by dsimp only;rw[hl];omega⟩ (Nat.lt_succ_self _))
    ·(simp only[go_sem,hD,gA,gB,gC,sQ,k1,k2];try exact cd)
    ·(simp only[go_sem,hD,gA,gB,gC,sQ,k1,k2];try exact cd)
theorem aei : ∀ N,N<1000000000→acr N:=by
 intro N
 induction N with
 |zero=>exact fun _ l proc up next loop out g ps lo hi b c h=>absurd h (Nat.not_lt_zero _)
 |succ N ih=>
  intro h l proc up next loop out g ps lo hi b c hs hc hg hp s o ho ht
  exact(al7 (ih (by omega)) hs hc hg hp (by omega)).al6 (by simp[D.bM,D.ok,Tag.ok,l8,D.jd]) hg hp ho ht
def gu (p:Pg):List D:= [.slice .shared 1 (p.globals.map encStr), .slice .shared 5 (p.procs.map bS), .slice .shared 17 (p.a7.L.map dP), .slice .shared 1 (p.a7.lo.map cO), .slice .shared 1 (p.a7.hi.map cO)]
theorem pL (p:Pg):gu p = [.slice .shared 1 (p.globals.map encStr), .slice .shared 5 (p.procs.map bS), .slice .shared 17 (p.a7.L.map dP), .slice .shared 1 (p.a7.lo.map cO), .slice .shared 1 (p.a7.hi.map cO)]:=nd rfl
theorem wy (p:Pg):D.bM 0 0 (gu p)=true:=by simp[gu,D.bM,D.ok,Tag.ok,fL,yK,LH,ju]
theorem HK (p:Pg):bV p = [.slice .shared 1 (p.globals.map encStr), .slice .shared 5 (p.procs.map bS)]:=nd rfl
theorem al8 {p:Pg} (hs:Pc.aU p.procs<1000000000):aH Tryz.prog l9 [.agg (bV p)] S0 (.ptr 1 0) ⟨[bV p,jS (.slice .shared 1 (p.globals.map encStr)) (.slice .shared 5 (p.procs.map bS)) p.a7.L p.a7.lo p.a7.hi],[some p.a7.L.length,some p.a7.lo.length,some p.a7.hi.length]⟩:=by
 have hlen:p.procs.length<1000000000:=by have:=Pc.dR p.procs;omega
 obtain⟨R,hR⟩ : ∃ R,R=p.a7:=⟨_,rfl⟩
 have hR':=hR
 unfold Pg.a7 at hR'
 unfold S0
 rw[HK, ← hR]
 refine aH.goK 2 3 (Nat.zero_le _) (Nat.zero_le _) M8 rfl fun B Q hB hQ=>?_
 have⟨hD,gA,gB,gC⟩:=bX
 repeat' (first
 |simp only[go_sem,hD,gA,gB,gC,HK]
 |(with_reducible refine aJ hQ ?_;exact bA))
 refine bp.By 1 2 17 rfl rfl ?_
 simp only[go_sem,hD,gA,gB,gC]
 refine bp.By 1 3 1 rfl rfl ?_
 simp only[go_sem,hD,gA,gB,gC]
 refine bp.By 1 4 1 rfl rfl ?_
 simp only[go_sem,hD,gA,gB,gC]
 refine fm 2 3 ?_ ?_ (bp.ind (ι:=List Pc×Nat×Sh×Nat×Nat) (fun i=>p.procs.drop i.2.1=i.1∧Sh.go i.2.1 i.2.2.1 i.1=R∧i.2.2.1.L.length+Pc.aU i.1≤Pc.aU p.procs∧i.2.2.1.lo.length=i.2.1∧i.2.2.1.hi.length=i.2.1∧i.2.2.2.1=i.2.2.1.lo.length∧i.2.2.2.2=i.2.2.1.hi.length) (fun i=>i.1.length)
  (fun i=> [(1, .ptr 0 0),(3, .ptr 1 0),(10, .slice .shared 5 (p.procs.map bS)),(11, .int .i64 (p.procs.length:Int)),(12, .int .i64 (i.2.1:Int))]) (fun i=>⟨[[.slice .shared 1 (p.globals.map encStr), .slice .shared 5 (p.procs.map bS)],jS (.slice .shared 1 (p.globals.map encStr)) (.slice .shared 5 (p.procs.map bS)) i.2.2.1.L i.2.2.1.lo i.2.2.1.hi],[some i.2.2.1.L.length,some i.2.2.2.1,some i.2.2.2.2]⟩) ?_ (p.procs,0,⟨[],[],[]⟩,0,0) ⟨rfl,hR'.symm,by simp,rfl,rfl,rfl,rfl⟩)
 ·(simp only[go_sem,hD,gA,gB,gC,jS];try exact cd)
 ·(simp only[go_sem,hD,gA,gB,gC,jS];try exact cd)
 rintro⟨rest,k,h,n1,n2⟩ ⟨h1,h2,h3,h4,h5,h6,h7⟩ IH
 dsimp only at h1 h2 h3 h4 h5 h6 h7
 subst h6 h7
 cases rest with
 |nil=>
  have hD:=drop_nil h1
  simp only[Sh.go]at h2
  rw[← h2]at hQ
  repeat' (first
 |simp only[go_sem,hD,gA,gB,gC,jS]
 |(with_reducible refine aJ hQ ?_;exact bA))
 |cons f rest=>
  obtain⟨gA,g2,hD,g4⟩:=drop_cons h1
  have ct:k<4611686018427387904:=by omega
  simp only[Pc.aU,Pc.size]at h3
  simp only[Sh.go]at h2
  have c1:=py f.body
  have gB:(h.lo.length+1)*9≤bD:=by unfold bD;omega
  have atK:(h.hi.length+1)*9≤bD:=by unfold bD;omega
  have P3:IntKind.wrap .i64 ((h.L.length:Int)+1)=(h.L.length:Int)+1:=eA (by omega) (by omega)
  have hl:(Im.rows (k:Int) 0 (-1) 0 h.L f.body).length=h.L.length+Sm.jK f.body:=iP ..
  have sQ:IntKind.wrap .i64 (((Im.rows (k:Int) 0 (-1) 0 h.L f.body).length:Int)+1)=((Im.rows (k:Int) 0 (-1) 0 h.L f.body).length:Int)+1:=eA (by omega) (by omega)
  have hr:=fun {s:St} {o:Nat}=>@aei (Sm.aU f.body+1) (by omega) f.body (k:Int) 0 (-1) 0 h.L (.slice .shared 1 (p.globals.map encStr)) (.slice .shared 5 (p.procs.map bS)) (h.lo++ [(h.L.length:Int)+1]) h.hi (some (h.lo.length+1)) (some h.hi.length) (Nat.lt_succ_self _) (by omega) (by simp[D.ok,Tag.ok,fL]) (by simp[D.ok,Tag.ok,yK]) s o
  simp only[jS,List.map_append,List.map_cons,List.map_nil,cO]at hr
  repeat' (first
 |simp only[go_sem,hD,gA,gB,gC,P3,sQ,atK,jS]
 |(with_reducible refine CU (hr (by with_unfolding_all rfl) (by with_unfolding_all rfl)) ?_)
 |(with_reducible refine aJ hQ ?_;exact bA))
  refine fm 2 3 ?_ ?_ (IH (rest,k+1,⟨Im.rows (k:Int) 0 (-1) 0 h.L f.body,h.lo++ [(h.L.length:Int)+1],h.hi++ [((Im.rows (k:Int) 0 (-1) 0 h.L f.body).length:Int)+1]⟩,_,_) ⟨g2,h2,by dsimp only;rw[hl];omega,by simp[h4],by simp[h5],by simp,by simp⟩ (Nat.lt_succ_self _))
  ·(simp only[go_sem,hD,gA,gB,gC,jS,aM ct,List.map_append,List.map_cons,List.map_nil,cO];try exact cd)
  ·(simp only[go_sem,hD,gA,gB,gC,jS,aM ct,List.map_append,List.map_cons,List.map_nil,cO];try exact cd)
theorem EL {p:Pg} (hs:Pc.aU p.procs<1000000000) (s:St):aH Tryz.prog l9 [.agg (bV p)] s (.dS (gu p) 0) s:=by
 refine aH.pure ?_ (by simp only[D.bM,D.ok,jj];rfl) (by simp only[D.ok,wy]) s
 have h:=(al8 hs).C8 (n:=0) (m:=0) rfl (Nat.le_refl _) (Nat.zero_le _) (Nat.le_refl _)
 simpa[D.iG,D.fg,Tag.fg,MR,aby,acp,VZ,St.cut,gu,S0]using h
def j7 (x:aK) (k:Int):List aK→Int
 | []=> -1
 |s::l=>if x==s then k else j7 x (k+1) l
def fG (l:List aK) (x:aK):Bool:=decide (j7 x 0 l≥0)
def mr {α:Type} (b:α→Bool) (k:Int):List α→Int
 | []=> -1
 |s::l=>if b s then k else mr b (k+1) l
theorem P4 (x:aK) : ∀ (l:List aK) (k:Int),0≤k→(j7 x k l≥0↔x∈l)
 | [],k,h=>by simp[j7]
 | s::l,k,h=>by
  by_cases e:x=s
  ·simp[j7,e];omega
  ·have e':(x==s)=false:=by simp [e]
   simp only[j7,e',Bool.false_eq_true,if_false,List.mem_cons,e,false_or]
   exact P4 x l (k+1) (by omega)
theorem fx (l:List aK) (x:aK):fG l x=true↔x∈l:=by
 simp only[fG,decide_eq_true_eq];exact P4 x l 0 (Int.le_refl 0)
theorem Jt {α:Type} (b:α→Bool) : ∀ (l:List α) (k:Int),0≤k→(mr b k l≥0↔l.any b=true)
 | [],k,h=>by simp[mr]
 | s::l,k,h=>by
  by_cases e:b s=true
  ·simp[mr,e];omega
  ·have e':b s=false:=by simpa using e
   simp only[mr,e',Bool.false_eq_true,if_false,List.any_cons,Bool.or_eq_true,false_or]
   exact Jt b l (k+1) (by omega)
theorem EM {l:List aK} (hl:l.length<4611686018427387904) (x:aK) (s:St):aH Tryz.prog ic [.slice .shared 1 (l.map encStr), .str x] s (.int .i64 (j7 x 0 l)) s:=by
 refine aH.pure ?_ (by simp[D.bM,D.ok,Tag.ok,fL]) rfl s
 generalize h:j7 x 0 l=p
 unfold S0
 refine aH.go yo rfl fun B Q hB hQ=>?_
 have⟨hD,gA,gB,gC⟩:=bX
 repeat' (first
 |simp only[go_sem,hD,gA,gB,gC]
 |(with_reducible first|refine bq fun hc=>?_|refine br fun hc=>?_|refine bt (fun hc=>?_) fun hc=>?_)<;>(try simp only[hc,bs,↓reduceIte]at h)<;>try simp only[hc]
 |(with_reducible refine aJ hQ ?_;exact fU))
 refine fI 0 0 (bp.ind (ι:=List aK×Nat) (fun i=>l.drop i.2=i.1∧j7 x (i.2:Int) i.1=p) (fun i=>i.1.length)
  (fun i=> [(0, .slice .shared 1 (l.map encStr)),(1, .str x),(7, .int .i64 (l.length:Int)),(8, .int .i64 (i.2:Int))]) (fun i=>⟨[],[]⟩) ?_ (l,0) ⟨rfl,h⟩)
 rintro⟨rest,k⟩ ⟨h1,h⟩ IH
 dsimp only at h1 h
 cases rest with
 |nil=>
  have hD:=drop_nil h1
  simp only[j7]at h
  repeat' (first
 |simp only[go_sem,hD,gA,gB,gC]
 |(with_reducible first|refine bq fun hc=>?_|refine br fun hc=>?_|refine bt (fun hc=>?_) fun hc=>?_)<;>(try simp only[hc,bs,↓reduceIte]at h)<;>try simp only[hc]
 |(with_reducible refine aJ hQ ?_;exact fU))
 |cons a rest=>
  obtain⟨gA,g2,hD,g4⟩:=drop_cons h1
  have ct:k<4611686018427387904:=by omega
  simp only[j7]at h
  repeat' (first
 |simp only[go_sem,hD,gA,gB,gC]
 |(with_reducible first|refine bq fun hc=>?_|refine br fun hc=>?_|refine bt (fun hc=>?_) fun hc=>?_)<;>(try simp only[hc,bs,↓reduceIte]at h)<;>try simp only[hc]
 |(with_reducible refine aJ hQ ?_;exact fU))
  refine fm 0 0 ?_ ?_ (IH (rest,k+1) ⟨g2,h⟩ (Nat.lt_succ_self _))
  ·(simp only[go_sem,hD,gA,gB,gC,aM ct];try exact cd)
  ·(simp only[go_sem,hD,gA,gB,gC,aM ct];try exact cd)
theorem tL {l:List aK} (hl:l.length<4611686018427387904) (x:aK) (s:St):aH Tryz.prog cY [.slice .shared 1 (l.map encStr), .str x] s (.bool (fG l x)) s:=by
 refine aH.pure ?_ (by simp[D.bM,D.ok,Tag.ok,fL]) rfl s
 have hi:=fun s=>EM hl x s
 unfold S0
 refine aH.go wv rfl fun B Q hB hQ=>?_
 have⟨hD,gA,gB,gC⟩:=bX
 repeat' (first
 |simp only[go_sem,hD,gA,gB,gC,fG]
 |(with_reducible refine CU (hi _) ?_)
 |(with_reducible first|refine bq fun hc=>?_|refine br fun hc=>?_|refine bt (fun hc=>?_) fun hc=>?_)<;>(try simp only[hc,bs,↓reduceIte]at h)<;>try simp only[hc]
 |(with_reducible refine aJ hQ ?_;simp only[bh,bk,bO,bP,go_sem,hD,gA,gB,gC,fG];try exact cJ))
theorem aH.wk1 {P:Program} {f:Nat} {d d':D} {r:List D} {s s':St} {x:D} (h:aH P f (d'::r) s x s') (hw:Wk d d'):aH P f (d::r) s x s':=bW.su (.cons hw (kv.refl r)) h
theorem kI {l:List aK} (hl:l.length<4611686018427387904) (x:aK) (g:Tag) (s:St):aH Tryz.prog cY [.slice g 1 (l.map encStr), .str x] s (.bool (fG l x)) s:=
 (tL hl x s).wk1 (Wk.shared _ _ _)
theorem Nk (x:aK) (z:Nat) (g:Tag) (s:St):aH Tryz.prog cY [.slice g z [], .str x] s (.bool false) s:=
 (tL (l:= []) (by simp) x s).wk1 (Wk.nil _ _ _)
theorem DT {l:List aK} (hl:l.length<4611686018427387904) {f:Nat} {row:List D} {b:aK→Bool} (wM:D.bM 0 0 row=true) (he:enters Tryz.prog f=true)
 (hb : ∀ x∈l,aH Tryz.prog f ([.str x]++ [.ptr 0 0]) ⟨[row],[]⟩ (.bool (b x)) ⟨[row],[]⟩) :
 aH Tryz.prog mh [.slice .shared 1 (l.map encStr), .ix f [.ptr 0 0]] ⟨[row],[]⟩ (.int .i64 (mr b 0 l)) ⟨[row],[]⟩:=by
 generalize h:mr b 0 l=p
 have k1 : ∀ n m,D.iG n m row=row:=fun n m=>jh n m _ wM
 refine aH.go vN rfl fun B Q hB hQ=>?_
 have⟨hD,gA,gB,gC⟩:=bX
 repeat' (first
 |simp only[go_sem,hD,gA,gB,gC,k1]
 |(with_reducible first|refine bq fun hc=>?_|refine br fun hc=>?_|refine bt (fun hc=>?_) fun hc=>?_)<;>(try simp only[hc,bs,↓reduceIte]at h)<;>try simp only[hc]
 |(with_reducible refine aJ hQ ?_;(try cases h);simp only[bh,bk,bO,bP,go_sem,hD,gA,gB,gC,k1];try exact cJ))
 refine fm 1 0 ?_ ?_ (bp.ind (ι:=List aK×Nat) (fun i=>l.drop i.2=i.1∧mr b (i.2:Int) i.1=p) (fun i=>i.1.length)
  (fun i=> [(0, .slice .shared 1 (l.map encStr)),(1, .ix f [.ptr 0 0]),(7, .int .i64 (l.length:Int)),(8, .int .i64 (i.2:Int))]) (fun i=>⟨[row],[]⟩) ?_ (l,0) ⟨rfl,h⟩)
 ·(simp only[go_sem,hD,gA,gB,gC,k1];try exact cd)
 ·(simp only[go_sem,hD,gA,gB,gC,k1];try exact cd)
 rintro⟨rest,k⟩ ⟨h1,h⟩ IH
 dsimp only at h1 h
 cases rest with
 |nil=>
  have hD:=drop_nil h1
  simp only[mr]at h
  repeat' (first
 |simp only[go_sem,hD,gA,gB,gC,k1]
 |(with_reducible first|refine bq fun hc=>?_|refine br fun hc=>?_|refine bt (fun hc=>?_) fun hc=>?_)<;>(try simp only[hc,bs,↓reduceIte]at h)<;>try simp only[hc]
 |(with_reducible refine aJ hQ ?_;(try cases h);simp only[bh,bk,bO,bP,go_sem,hD,gA,gB,gC,k1];try exact cJ))
 |cons a rest=>
  obtain⟨gA,g2,hD,g4⟩:=drop_cons h1
  have ct:k<4611686018427387904:=by omega
  have hba:=hb a (List.mem_of_getElem? gA)
  simp only[mr]at h
  repeat' (first
 |simp only[go_sem,hD,gA,gB,gC,k1]
 |(with_reducible refine CV.use (he) (hba) ?_)
 |(with_reducible first|refine bq fun hc=>?_|refine br fun hc=>?_|refine bt (fun hc=>?_) fun hc=>?_)<;>(try simp only[hc,bs,↓reduceIte]at h)<;>try simp only[hc]
 |(with_reducible refine aJ hQ ?_;(try cases h);simp only[bh,bk,bO,bP,go_sem,hD,gA,gB,gC,k1];try exact cJ))
  refine fm 1 0 ?_ ?_ (IH (rest,k+1) ⟨g2,h⟩ (Nat.lt_succ_self _))
  ·(simp only[go_sem,hD,gA,gB,gC,k1,aM ct];try exact cd)
  ·(simp only[go_sem,hD,gA,gB,gC,k1,aM ct];try exact cd)
theorem DU {P:Program} {g f:Nat} {row:List D} {rows:List (List D)} {z:Nat} {d:D} (h:aH P g [.slice .shared z rows, .ix f [.ptr 0 0]] ⟨[row],[]⟩ d ⟨[row],[]⟩) (wM:D.bM 0 0 row=true) (hw:D.jd 0 0 rows=true) (hd:D.ok 0 0 d=true) {s:St} {o:Nat} (ho:s.al[o]? = some row) :
 aH P g [.slice .shared z rows, .ix f [.ptr o 0]] s d s:=by
 refine bW.frame [o] [] h (by simp) List.nodup_nil (by simpa using (List.getElem?_eq_some_iff.1 ho).1) (by simp) rfl (fun i o' ds e1 e2=>?_) rfl (by simp) (by simp[D.fa,D.cT,Tag.cT,ke _ _ _ hw])
  (by simp[D.bM,D.ok,Tag.ok,n8 (Nat.zero_le 1) (Nat.le_refl 0) _ hw]) ?_
 ·cases i with
  |zero=>simp at e1 e2;subst e1;subst e2;exact⟨by rw[fY _ _ _ wM];exact ho,jw (Nat.zero_le 1) (Nat.le_refl 0) _ wM⟩
  |succ i=>simp at e1
 ·rintro _ _ ⟨rfl,rfl⟩
  refine⟨sv _ _ _ hd, ?_⟩
  have:s.al.set o row=s.al:=by
   apply List.ext_getElem?
   intro i
   rw[List.getElem?_set]
   split
   ·rename_i e;subst e;rw [ho];split
    ·rfl
    ·rename_i hh;exact absurd (List.getElem?_eq_some_iff.1 ho).1 hh
   ·rfl
  simp[St.back,lC,fY _ _ _ wM,this]
theorem A2 {l:List aK} (hl:l.length<4611686018427387904) {f:Nat} {row:List D} {b:aK→Bool} (wM:D.bM 0 0 row=true) (he:enters Tryz.prog f=true)
 (hb : ∀ x∈l,aH Tryz.prog f ([.str x]++ [.ptr 0 0]) ⟨[row],[]⟩ (.bool (b x)) ⟨[row],[]⟩) :
 aH Tryz.prog ie [.slice .shared 1 (l.map encStr), .ix f [.ptr 0 0]] ⟨[row],[]⟩ (.bool (l.any b)) ⟨[row],[]⟩:=by
 have k1 : ∀ n m,D.iG n m row=row:=fun n m=>jh n m _ wM
 have hi:=DT hl wM he hb
 have e:decide (mr b 0 l≥0)=l.any b:=by
  have:=Jt b l 0 (Int.le_refl 0)
  cases hh:l.any b<;>simp_all
 refine aH.go tJ rfl fun B Q hB hQ=>?_
 have⟨hD,gA,gB,gC⟩:=bX
 repeat' (first
 |simp only[go_sem,hD,gA,gB,gC,k1,e]
 |(with_reducible refine CU (hi) ?_)
 |(with_reducible first|refine bq fun hc=>?_|refine br fun hc=>?_|refine bt (fun hc=>?_) fun hc=>?_)<;>(try simp only[hc,bs,↓reduceIte]at h)<;>try simp only[hc]
 |(with_reducible refine aJ hQ ?_;simp only[bh,bk,bO,bP,go_sem,hD,gA,gB,gC,k1,e];try exact cJ))
theorem A3 {l:List aK} (hl:l.length<4611686018427387904) {f:Nat} {row:List D} {b:aK→Bool} (wM:D.bM 0 0 row=true) (he:enters Tryz.prog f=true)
 (hb : ∀ x∈l,aH Tryz.prog f ([.str x]++ [.ptr 0 0]) ⟨[row],[]⟩ (.bool (b x)) ⟨[row],[]⟩) {s:St} {o:Nat} (ho:s.al[o]? = some row) :
 aH Tryz.prog ie [.slice .shared 1 (l.map encStr), .ix f [.ptr o 0]] s (.bool (l.any b)) s:=
 DU (A2 hl wM he hb) wM (fL l) rfl ho
theorem xO {l:List Pc} (hl:l.length<4611686018427387904) {f:Nat} {row:List D} {b:Pc→Bool} (wM:D.bM 0 0 row=true) (he:enters Tryz.prog f=true)
 (hb : ∀ x∈l,aH Tryz.prog f ([.agg (bS x)]++ [.ptr 0 0]) ⟨[row],[]⟩ (.bool (b x)) ⟨[row],[]⟩) :
 aH Tryz.prog iz [.slice .shared 5 (l.map bS), .ix f [.ptr 0 0]] ⟨[row],[]⟩ (.int .i64 (mr b 0 l)) ⟨[row],[]⟩:=by
 generalize h:mr b 0 l=p
 have k1 : ∀ n m,D.iG n m row=row:=fun n m=>jh n m _ wM
 refine aH.go ui rfl fun B Q hB hQ=>?_
 have⟨hD,gA,gB,gC⟩:=bX
 repeat' (first
 |simp only[go_sem,hD,gA,gB,gC,k1]
 |(with_reducible first|refine bq fun hc=>?_|refine br fun hc=>?_|refine bt (fun hc=>?_) fun hc=>?_)<;>(try simp only[hc,bs,↓reduceIte]at h)<;>try simp only[hc]
 |(with_reducible refine aJ hQ ?_;(try cases h);simp only[bh,bk,bO,bP,go_sem,hD,gA,gB,gC,k1];try exact cJ))
 refine fm 1 0 ?_ ?_ (bp.ind (ι:=List Pc×Nat) (fun i=>l.drop i.2=i.1∧mr b (i.2:Int) i.1=p) (fun i=>i.1.length)
  (fun i=> [(0, .slice .shared 5 (l.map bS)),(1, .ix f [.ptr 0 0]),(7, .int .i64 (l.length:Int)),(8, .int .i64 (i.2:Int))]) (fun i=>⟨[row],[]⟩) ?_ (l,0) ⟨rfl,h⟩)
 ·(simp only[go_sem,hD,gA,gB,gC,k1];try exact cd)
 ·(simp only[go_sem,hD,gA,gB,gC,k1];try exact cd)
 rintro⟨rest,k⟩ ⟨h1,h⟩ IH
 dsimp only at h1 h
 cases rest with
 |nil=>
  have hD:=drop_nil h1
  simp only[mr]at h
  repeat' (first
 |simp only[go_sem,hD,gA,gB,gC,k1]
 |(with_reducible first|refine bq fun hc=>?_|refine br fun hc=>?_|refine bt (fun hc=>?_) fun hc=>?_)<;>(try simp only[hc,bs,↓reduceIte]at h)<;>try simp only[hc]
 |(with_reducible refine aJ hQ ?_;(try cases h);simp only[bh,bk,bO,bP,go_sem,hD,gA,gB,gC,k1];try exact cJ))
 |cons a rest=>
  obtain⟨gA,g2,hD,g4⟩:=drop_cons h1
  have ct:k<4611686018427387904:=by omega
  have hba:=hb a (List.mem_of_getElem? gA)
  simp only[mr]at h
  repeat' (first
 |simp only[go_sem,hD,gA,gB,gC,k1]
 |(with_reducible refine CV.use (he) (hba) ?_)
 |(with_reducible first|refine bq fun hc=>?_|refine br fun hc=>?_|refine bt (fun hc=>?_) fun hc=>?_)<;>(try simp only[hc,bs,↓reduceIte]at h)<;>try simp only[hc]
 |(with_reducible refine aJ hQ ?_;(try cases h);simp only[bh,bk,bO,bP,go_sem,hD,gA,gB,gC,k1];try exact cJ))
  refine fm 1 0 ?_ ?_ (IH (rest,k+1) ⟨g2,h⟩ (Nat.lt_succ_self _))
  ·(simp only[go_sem,hD,gA,gB,gC,k1,aM ct];try exact cd)
  ·(simp only[go_sem,hD,gA,gB,gC,k1,aM ct];try exact cd)
theorem C1 {l:List Pc} (hl:l.length<4611686018427387904) {f:Nat} {row:List D} {b:Pc→Bool} (wM:D.bM 0 0 row=true) (he:enters Tryz.prog f=true)
 (hb : ∀ x∈l,aH Tryz.prog f ([.agg (bS x)]++ [.ptr 0 0]) ⟨[row],[]⟩ (.bool (b x)) ⟨[row],[]⟩) :
 aH Tryz.prog iZ [.slice .shared 5 (l.map bS), .ix f [.ptr 0 0]] ⟨[row],[]⟩ (.bool (l.any b)) ⟨[row],[]⟩:=by
 have k1 : ∀ n m,D.iG n m row=row:=fun n m=>jh n m _ wM
 have hi:=xO hl wM he hb
 have e:decide (mr b 0 l≥0)=l.any b:=by
  have:=Jt b l 0 (Int.le_refl 0)
  cases hh:l.any b<;>simp_all
 refine aH.go sy rfl fun B Q hB hQ=>?_
 have⟨hD,gA,gB,gC⟩:=bX
 repeat' (first
 |simp only[go_sem,hD,gA,gB,gC,k1,e]
 |(with_reducible refine CU (hi) ?_)
 |(with_reducible first|refine bq fun hc=>?_|refine br fun hc=>?_|refine bt (fun hc=>?_) fun hc=>?_)<;>(try simp only[hc,bs,↓reduceIte]at h)<;>try simp only[hc]
 |(with_reducible refine aJ hQ ?_;simp only[bh,bk,bO,bP,go_sem,hD,gA,gB,gC,k1,e];try exact cJ))
mutual
def Sm.pre:Sm→List Sm
 |⟨id,kind,labels,name,pc,x,has,args,aQ,aN⟩=>⟨id,kind,labels,name,pc,x,has,args,aQ,aN⟩::(Sm.bN aQ++Sm.bN aN)
def Sm.bN:List Sm→List Sm
 | []=> []
 |s::l=>s.pre++Sm.bN l
end
def Pg.pre (p:Pg):List Sm:=(p.procs.map fun f=>Sm.bN f.body).flatten
theorem Sm.nU (s:Sm):s.pre=s::(Sm.bN s.aQ++Sm.bN s.aN):=by cases s;simp only[Sm.pre]
mutual
theorem aej (proc up next loop:Int) (out:List Im) : ∀ s:Sm,∃ e:List Im,Im.one proc up next loop out s=out++e∧e.map Im.s=s.pre
 |⟨id,kind,labels,name,pc,x,has,args,aQ,aN⟩=>by
  simp only[Im.one,Sm.pre]
  obtain⟨e1,h1,k1⟩:=BO proc ((out.length:Int)+1) (if kind==6 then(out.length:Int)+1 else next) (if kind==6 then(out.length:Int)+1 else loop) (out++ [⟨⟨id,kind,labels,name,pc,x,has,args,aQ,aN⟩,proc,up,next,loop⟩]) aQ
  obtain⟨e2,h2,k2⟩:=BO proc ((out.length:Int)+1) (if kind==6 then(out.length:Int)+1 else next) (if kind==6 then(out.length:Int)+1 else loop) (Im.rows proc ((out.length:Int)+1) (if kind==6 then(out.length:Int)+1 else next) (if kind==6 then(out.length:Int)+1 else loop) (out++ [⟨⟨id,kind,labels,name,pc,x,has,args,aQ,aN⟩,proc,up,next,loop⟩]) aQ) aN
  refine⟨⟨⟨id,kind,labels,name,pc,x,has,args,aQ,aN⟩,proc,up,next,loop⟩::(e1++e2), ?_, ?_⟩
  ·rw[h2,h1];simp
  ·simp[k1,k2]
theorem BO (proc up next loop:Int) (out:List Im) : ∀ l:List Sm,∃ e:List Im,Im.rows proc up next loop out l=out++e∧e.map Im.s=Sm.bN l
 | []=>⟨[],by simp[Im.rows],rfl⟩
 |s::l=>by
  simp only[Im.rows,Sm.bN]
  obtain⟨e1,h1,k1⟩:=aej proc up (if l.length=0 then next else(out.length:Int)+1+(s.kB:Int)) loop out s
  obtain⟨e2,h2,k2⟩:=BO proc up next loop (Im.one proc up (if l.length=0 then next else(out.length:Int)+1+(s.kB:Int)) loop out s) l
  refine⟨e1++e2, ?_,by simp[k1,k2]⟩
  rw[h2,h1];simp
end
theorem V1 : ∀ (l:List Pc) (n:Nat) (h:Sh),h.lo.length=n→h.hi.length=n→
 ∃ e lo hi,Sh.go n h l = ⟨h.L++e,h.lo++lo,h.hi++hi⟩∧e.map Im.s=(l.map fun f=>Sm.bN f.body).flatten∧lo.length=l.length∧hi.length=l.length∧
  ∀ (i:Nat) (f:Pc),l[i]? = some f→∃ a b e' PC:List Im,lo[i]? = some (((h.L++a).length:Int)+1)∧hi[i]? = some (((h.L++a++b).length:Int)+1)∧b.map Im.s=Sm.bN f.body∧e=a++b++e'
 | [],n,h,hl,hh=>⟨[],[],[],by simp[Sh.go],rfl,rfl,rfl,fun i f h=>by simp at h⟩
 | f::l,n,h,hl,hh=>by
  simp only[Sh.go]
  obtain⟨e1,h1,k1⟩:=BO (n:Int) 0 (-1) 0 h.L f.body
  obtain⟨e2,lo,hi,h2,k2,h3,h4,h5⟩:=V1 l (n+1) ⟨Im.rows (n:Int) 0 (-1) 0 h.L f.body,h.lo++ [(h.L.length:Int)+1],h.hi++ [((Im.rows (n:Int) 0 (-1) 0 h.L f.body).length:Int)+1]⟩ (by simp[hl]) (by simp[hh])
  refine⟨e1++e2,((h.L.length:Int)+1)::lo,(((Im.rows (n:Int) 0 (-1) 0 h.L f.body).length:Int)+1)::hi, ?_,by simp[k1,k2],by simp[h3],by simp[h4],fun i g iI=>?_⟩
  ·rw[h2,h1];simp
  ·cases i with
   |zero=>
    simp only[List.getElem?_cons_zero,Option.some.injEq]at iI
    subst iI
    exact⟨[],e1,e2,[],by simp,by rw[h1];simp,k1,by simp⟩
   |succ i=>
    simp only[List.getElem?_cons_succ]at iI
    obtain⟨a,b,e',PC,g1,g2,g3,g4⟩:=h5 i g iI
    refine⟨e1++a,b,e',PC, ?_, ?_,g3,by rw[g4];simp⟩
    ·rw[List.getElem?_cons_succ,g1,h1];simp
    ·rw[List.getElem?_cons_succ,g2,h1];simp
theorem kU (p:Pg):p.a7.L.map Im.s=p.pre∧∀ (i:Nat) (f:Pc),p.procs[i]? = some f→∃ a b e:List Im,p.a7.lo[i]? = some ((a.length:Int)+1)∧p.a7.hi[i]? = some (((a++b).length:Int)+1)∧b.map Im.s=Sm.bN f.body∧p.a7.L=a++b++e:=by
 obtain⟨e,lo,hi,h1,h2,h3,h4,h5⟩:=V1 p.procs 0 ⟨[],[],[]⟩ rfl rfl
 unfold Pg.a7
 rw[h1]
 refine⟨by simpa[Pg.pre]using h2,fun i f hf=>?_⟩
 obtain⟨a,b,e',_,g1,g2,g3,g4⟩:=h5 i f hf
 exact⟨a,b,e',by simpa using g1,by simpa using g2,g3,by simpa using g4⟩
def Pg.at (p:Pg) (name:aK):Int:=mr (fun f:Pc=>f.name==name) 0 p.procs
theorem aek (name:aK) (f:Pc):aH Tryz.prog nn ([.agg (bS f)]++ [.ptr 0 0]) ⟨[[.str name]],[]⟩ (.bool (f.name==name)) ⟨[[.str name]],[]⟩:=by
 show aH Tryz.prog nn [.agg (bS f), .ptr 0 0] _ _ _
 refine aH.go AQ rfl fun B Q hB hQ=>?_
 have⟨hD,gA,gB,gC⟩:=bX
 repeat' (first
 |simp only[go_sem,hD,gA,gB,gC]
 |(with_reducible refine aJ hQ ?_;exact bA))
theorem HL {p:Pg} (hs:p.procs.length<4611686018427387904) (name:aK) (s:St):aH Tryz.prog jx [.dS (gu p) 0, .str name] s (.int .i64 (p.at name)) s:=by
 refine aH.pure ?_ (by simp[D.bM,D.ok,wy]) rfl s
 have hi:=fun {s:St} {o:Nat} (ho:s.al[o]? = some [.str name])=>DU (xO (l:=p.procs) (f:=nn) (row:= [.str name]) (b:=fun f:Pc=>f.name==name) hs rfl (by with_unfolding_all rfl) (fun x _=>aek name x)) rfl (yK _) rfl ho
 have iI:=fun {s:St} {o:Nat} (ho:s.al[o]? = some [.str name])=>(show aH Tryz.prog iz [.slice .shared 5 (p.procs.map bS), .ix 76 [.ptr o 0]] s (.int .i64 (p.at name)) s from hi ho)
 unfold S0
 rw[pL]
 refine aH.go CZ rfl fun B Q hB hQ=>?_
 have⟨hD,gA,gB,gC⟩:=bX
 repeat' (first
 |simp only[go_sem,hD,gA,gB,gC]
 |(with_reducible refine CU (iI (by with_unfolding_all rfl)) ?_)
 |(with_reducible refine aJ hQ ?_;exact bA))
theorem V2 : ∀ (l:List Pc) (n:Nat) (h:Sh),(Sh.go n h l).L.length≤h.L.length+Pc.aU l
 | [],n,h=>by simp[Sh.go]
 |f::l,n,h=>by
  simp only[Sh.go]
  refine Nat.le_trans (V2 l _ _) ?_
  have:=iP (n:Int) 0 (-1) 0 h.L f.body
  have:=py f.body
  simp only[Pc.aU,Pc.size];omega
theorem qO (p:Pg):p.a7.L.length≤Pc.aU p.procs:=by have:=V2 p.procs 0 ⟨[],[],[]⟩;simpa[Pg.a7]using this
theorem ahM {p:Pg} {i:Nat} (hs:Pc.aU p.procs<1000000000) {a b e:List Im} (h1:p.a7.lo[i]? = some ((a.length:Int)+1)) (h2:p.a7.hi[i]? = some (((a++b).length:Int)+1)) (h4:p.a7.L=a++b++e) (s:St) :
 aH Tryz.prog iY [.dS (gu p) 0, .int .i64 (i:Int)] s (.slice .shared 17 (b.map dP)) s:=by
 refine aH.pure ?_ (by simp[D.bM,D.ok,wy]) (by simp[D.ok,Tag.ok,LH]) s
 have hL:p.a7.L.length<1000000000:=Nat.lt_of_le_of_lt (qO p) hs
 have l1:(i:Int)<(p.a7.lo.length:Int):=by have:=(List.getElem?_eq_some_iff.1 h1).1;omega
 have l2:(i:Int)<(p.a7.hi.length:Int):=by have:=(List.getElem?_eq_some_iff.1 h2).1;omega
 have hab:a.length+b.length≤p.a7.L.length:=by rw[h4];simp
 have w1:IntKind.wrap .i64 ((a.length:Int)+1 - 1)=(a.length:Int):=by rw[show(a.length:Int)+1 - 1=(a.length:Int) by omega];exact eA (by omega) (by omega)
 have w2:IntKind.wrap .i64 (((a.length+b.length:Nat):Int)+1 - 1)=((a.length+b.length:Nat):Int):=by rw[show((a.length+b.length:Nat):Int)+1 - 1=((a.length+b.length:Nat):Int) by omega];exact eA (by omega) (by omega)
 have c1:((a.length:Int)≤((a.length+b.length:Nat):Int))=True:=by simp only[eq_iff_iff,iff_true];omega
 have c2:(((a.length+b.length:Nat):Int)≤(p.a7.L.length:Int))=True:=by simp only[eq_iff_iff,iff_true];omega
 have hb:List.drop a.length (List.take (a.length+b.length) (List.map dP p.a7.L))=List.map dP b:=by rw[h4];simp[List.map_append,List.take_append,List.drop_append]
 unfold S0
 rw[pL]
 refine aH.go Ff rfl fun B Q hB hQ=>?_
 have⟨hD,gA,gB,gC⟩:=bX
 repeat' (first
 |simp only[go_sem,hD,gA,gB,gC,h1,h2,List.length_append,w1,w2,c1,c2,or_true,true_and,and_self,ite_self,Int.toNat_natCast,hb]
 |(with_reducible first|refine bq fun hc=>?_|refine br fun hc=>?_|refine bt (fun hc=>?_) fun hc=>?_)<;>(try simp only[hc,bs,↓reduceIte]at h)<;>try simp only[hc]
 |(with_reducible refine aJ hQ ?_;(try cases h);simp only[bh,bk,bO,bP,go_sem,hD,gA,gB,gC,h1,h2,List.length_append,w1,w2,c1,c2,or_true,true_and,and_self,ite_self,Int.toNat_natCast,hb];try exact cJ)
 |(cases h;done))
theorem ZA {p:Pg} {i:Nat} {f:Pc} (hf:p.procs[i]? = some f) (hs:Pc.aU p.procs<1000000000) : ∃ it:List Im,it.map Im.s=Sm.bN f.body∧∀ s,aH Tryz.prog iY [.dS (gu p) 0, .int .i64 (i:Int)] s (.slice .shared 17 (it.map dP)) s:=by
 obtain⟨a,b,e,h1,h2,h3,h4⟩:=(kU p).2 i f hf
 exact⟨b,h3,ahM hs h1 h2 h4⟩
theorem Kd {r:aK} : EK r=true↔qN r=r.length:=by
 induction r with
 |nil=>simp[EK,qN]
 |cons c r ih=>
  simp only[EK,qN]
  cases h1:DR c<;>cases h2:HI c<;>simp[ih]
theorem DV (t:aK) (hl:t.length<4611686018427387904) (s:St):aH Tryz.prog pI [.str t] s (.bool (isName t)) s:=by
 refine aH.pure ?_ rfl rfl s
 have hr:=fun s=>al1 (pos:=0) hl s
 simp only[List.drop_zero,Nat.zero_add]at hr
 unfold S0
 cases t with
 |nil=>
  have z:decide (((0:Nat):Int)<1)=true:=rfl
  have z':decide ((0:Int)<1)=true:=rfl
  have e:isName [] = false:=rfl
  rw[e]
  refine aH.go oR rfl fun B Q hB hQ=>?_
  have⟨hD,gA,gB,gC⟩:=bX
  repeat' (first
 |simp only[go_sem,hD,gA,gB,gC,z,z']
 |(with_reducible refine aJ hQ ?_;exact bA))
 | cons c r=>
  have l1:decide (((r.length+1:Nat):Int)<1)=false:=by simp;omega
  generalize h:isName (c::r)=p
  simp only[isName]at h
  cases hL:DR c
  ·simp only [hL,Bool.not_false,Bool.or_true, ↓reduceIte]at h
   subst h
   by_cases c8:decide (((r.length+1:Nat):Int) > 8)=true
   ·refine aH.go oR rfl fun B Q hB hQ=> ?_
    have⟨hD,gA,gB,gC⟩:=bX
    repeat' (first
 |simp only[go_sem,hD,gA,gB,gC,l1,c8]
 | (with_reducible refine aJ hQ ?_;exact bA))
   ·have c8:decide (((r.length+1:Nat):Int) > 8)=false:=by simpa using c8
    refine aH.go oR rfl fun B Q hB hQ=>?_
    have⟨hD,gA,gB,gC⟩:=bX
    repeat' (first
 |simp only[go_sem,hD,gA,gB,gC,l1,c8,hL]
 |(with_reducible refine CU (uN _ _) ?_)
 | (with_reducible refine aJ hQ ?_;exact bA))
  ·simp only [hL,Bool.not_true,Bool.or_false]at h
   by_cases c8:decide (((r.length+1:Nat):Int) > 8)=true
   ·simp only [c8, ↓reduceIte]at h
    subst h
    refine aH.go oR rfl fun B Q hB hQ=>?_
    have⟨hD,gA,gB,gC⟩:=bX
    repeat' (first
 |simp only[go_sem,hD,gA,gB,gC,l1,c8]
 | (with_reducible refine aJ hQ ?_;exact bA))
   ·have c8:decide (((r.length+1:Nat):Int) > 8)=false:=by simpa using c8
    simp only[c8,Bool.false_eq_true,↓reduceIte]at h
    have ew:qN (c::r)=qN r+1:=by simp[qN,hL]
    cases hn:EK r
    ·simp only [hn,Bool.false_eq_true, ↓reduceIte]at h
     have:qN r≠r.length:=fun e=>by rw[Kd.2 e]at hn;cases hn
     have e:(((qN (c::r):Nat):Int)==((r.length+1:Nat):Int))=false:=by rw[ew];simp;omega
     subst h
     refine aH.go oR rfl fun B Q hB hQ=>?_
     have⟨hD,gA,gB,gC⟩:=bX
     repeat' (first
 |simp only[go_sem,hD,gA,gB,gC,l1,c8,hL,e]
 |(with_reducible refine CU (uN _ _) ?_)
 |(with_reducible refine CU (hr _) ?_)
 | (with_reducible refine aJ hQ ?_;exact bA))
    ·simp only [hn, ↓reduceIte]at h
     have:=Kd.1 hn
     have e:(((qN (c::r):Nat):Int)==((r.length+1:Nat):Int))=true:=by rw[ew];simp;omega
     subst h
     refine aH.go oR rfl fun B Q hB hQ=>?_
     have⟨hD,gA,gB,gC⟩:=bX
     repeat' (first
 |simp only[go_sem,hD,gA,gB,gC,l1,c8,hL,e]
 |(with_reducible refine CU (uN _ _) ?_)
 |(with_reducible refine CU (hr _) ?_)
 |(with_reducible refine CU (ahF _ _) ?_)
 |(with_reducible refine aJ hQ ?_;exact bA))
theorem P5 (op:Int) (s:St):aH Tryz.prog zS [.int .i64 op] s (.int .i64 (p6 op)) s:=by
 refine aH.pure ?_ rfl rfl s
 unfold S0
 generalize h:p6 op=p
 unfold p6 at h
 refine aH.go Lj rfl fun B Q hB hQ=>?_
 have⟨hD,gA,gB,gC⟩:=bX
 repeat' (first
 |simp only[go_sem,hD,gA,gB,gC]
 |(with_reducible first|refine bq fun hc=>?_|refine br fun hc=>?_|refine bt (fun hc=>?_) fun hc=>?_)<;>(try simp only[hc,bs,↓reduceIte]at h)<;>try simp only[hc]
 |(with_reducible refine aJ hQ ?_;exact fU))
theorem BP {l:List aK} (hl:l.length<4611686018427387904) (hs : ∀ t∈l,t.length<4611686018427387904) (s:St):aH Tryz.prog oO [.slice .shared 1 (l.map encStr)] s (.bool (fh l)) s:=by
 refine aH.pure ?_ (by simp[D.bM,D.ok,fL,Tag.ok]) rfl s
 unfold S0
 generalize h:fh l=p
 refine aH.go Jj rfl fun B Q hB hQ=>?_
 have⟨hD,gA,gB,gC⟩:=bX
 repeat' (first
 |simp only[go_sem,hD,gA,gB,gC]
 |(with_reducible first|refine bq fun hc=>?_|refine br fun hc=>?_|refine bt (fun hc=>?_) fun hc=>?_)<;>(try simp only[hc,bs,↓reduceIte]at h)<;>try simp only[hc]
 |(with_reducible refine aJ hQ ?_;exact fU))
 refine fI 0 0 (bp.ind (ι:=List aK×Nat) (fun i=>l.drop i.2=i.1∧fh i.1=p) (fun i=>i.1.length)
  (fun i=> [(5, .slice .shared 1 (l.map encStr)),(6, .int .i64 (l.length:Int)),(7, .int .i64 (i.2:Int))]) (fun i=>⟨[],[]⟩) ?_ (l,0) ⟨rfl,h⟩)
 rintro⟨rest,k⟩ ⟨h1,h⟩ IH
 dsimp only at h1 h
 cases rest with
 |nil=>
  have hD:=drop_nil h1
  simp only[fh]at h
  repeat' (first
 |simp only[go_sem,hD,gA,gB,gC]
 |(with_reducible first|refine bq fun hc=>?_|refine br fun hc=>?_|refine bt (fun hc=>?_) fun hc=>?_)<;>(try simp only[hc,bs,↓reduceIte]at h)<;>try simp only[hc]
 |(with_reducible refine aJ hQ ?_;exact fU))
 |cons t rest=>
  obtain⟨gA,g2,hD,g4⟩:=drop_cons h1
  have gB:k<4611686018427387904:=by omega
  have hn:=DV t (hs t (List.mem_of_getElem? gA))
  simp only[fh]at h
  repeat' (first
 |simp only[go_sem,hD,gA,gB,gC]
 |(with_reducible refine CU (hn _) ?_)
 |(with_reducible first|refine bq fun hc=>?_|refine br fun hc=>?_|refine bt (fun hc=>?_) fun hc=>?_)<;>(try simp only[hc,bs,↓reduceIte]at h)<;>try simp only[hc]
 |(with_reducible refine aJ hQ ?_;exact fU))
  refine fI 0 0 (IH (rest,k+1) ⟨g2,h⟩ (Nat.lt_succ_self _))
mutual
def Ex.dp (left:Int):Ex→Bool
 |⟨op,n,name,kids⟩=>
  if decide (left<1) ||(kids.length:Int) != p6 op then false
  else if op==1 then decide (n≥0) && name == []
  else if op==2 then n==0 && isName name
  else if n != 0 || !(name == [])then false
  else Ex.DW (left - 1) kids
def Ex.DW (left:Int):List Ex→Bool
 | []=>true
 |x::l=>if !(Ex.dp left x)then false else Ex.DW left l
end
theorem ael : ∀ (m:Nat) (x:Ex),x.size≤m→x.size<4611686018427387904→x.texts→∀ left:Int,0≤left→left≤100→∀ s:St,aH Tryz.prog rP [.agg (cb x), .int .i64 left] s (.bool (x.dp left)) s:=by
 intro m
 induction m with
 |zero=>rintro⟨op,v,name,kids⟩ h;simp only[Ex.size]at h;omega
 | succ m ih=>
  rintro⟨op,v,name,kids⟩ h hx ht left h0 ZB s
  refine aH.pure ?_ (by simp[D.bM,D.ok,lE]) rfl s
  have hlen:kids.length<4611686018427387904:=by simp only[Ex.size]at hx;have:=Ex.dR kids;omega
  have hn:=DV name ht.1
  generalize hp:Ex.dp left ⟨op,v,name,kids⟩=p
  simp only[Ex.dp]at hp
  unfold S0
  by_cases tM:left<1
  ·have d1:decide (left<1)=true:=by simpa using tM
   simp only[d1,Bool.true_or,↓reduceIte]at hp
   subst hp
   refine aH.go CI rfl fun B Q hB hQ=>?_
   have⟨hD,gA,gB,gC⟩:=bX
   repeat' (first
 |simp only[go_sem,hD,gA,gB,gC,d1]
 |(with_reducible refine CU (P5 _ _) ?_)
 |(with_reducible refine CU (hn _) ?_)
 | (with_reducible refine aJ hQ ?_;exact bA))
  ·have d1:decide (left<1)=false:=by simpa using tM
   have w1:IntKind.wrap .i64 (left - 1)=left - 1:=eA (by omega) (by omega)
   have hk : ∀ y∈kids,∀ s,aH Tryz.prog rP [.agg (cb y), .int .i64 (left - 1)] s (.bool (y.dp (left - 1))) s:=fun y hy s=>
    ih y (by simp only[Ex.size]at h;have:=Ex.cZ hy;omega) (by simp only[Ex.size]at hx;have:=Ex.cZ hy;omega) (Ex.VU ht hy) (left - 1) (by omega) (by omega) s
   simp only[d1,Bool.false_or]at hp
   have h:=hp
   clear hp
   refine aH.go CI rfl fun B Q hB hQ=>?_
   have⟨hD,gA,gB,gC⟩:=bX
   repeat' (first
 |simp only[go_sem,hD,gA,gB,gC,d1]
 |(with_reducible refine CU (P5 _ _) ?_)
 |(with_reducible refine CU (hn _) ?_)
 |(with_reducible first|refine bq fun hc=>?_|refine br fun hc=>?_|refine bt (fun hc=>?_) fun hc=>?_)<;>(try simp only[hc,bs,↓reduceIte]at h)<;>try simp only[hc]
 | (with_reducible refine aJ hQ ?_;(try cases h);simp only [bh,bk,bO,bP,go_sem,hD,gA,gB,gC,d1];repeat' (first | exact Ok.out | with_reducible refine jo ?_ ?_ | (simp;done))))
   all_goals
    refine fI 1 0 (bp.ind (ι:=List Ex×Nat) (fun i=>kids.drop i.2=i.1∧Ex.DW (left - 1) i.1=p) (fun i=>i.1.length)
     (fun i=> [(1, .int .i64 left),(49, .slice .shared 4 (kids.map cb)),(50, .int .i64 (kids.length:Int)),(51, .int .i64 (i.2:Int))]) (fun i=>⟨[cb ⟨op,v,name,kids⟩],[]⟩) ?_ (kids,0) ⟨rfl,h⟩)
    rintro⟨rest,k⟩ ⟨h1,h⟩ IH
    dsimp only at h1 h
    cases rest with
    |nil=>
     have hD:=drop_nil h1
     simp only[Ex.DW]at h
     repeat' (first
 |simp only[go_sem,hD,gA,gB,gC]
 |(with_reducible first|refine bq fun hc=>?_|refine br fun hc=>?_|refine bt (fun hc=>?_) fun hc=>?_)<;>(try simp only[hc,bs,↓reduceIte]at h)<;>try simp only[hc]
 |(with_reducible refine aJ hQ ?_;exact fU)
 | (cases h;done))
    |cons y rest=>
     obtain⟨gA,g2,hD,g4⟩:=drop_cons h1
     have hy:=hk y (List.mem_of_getElem? gA)
     have gB:k<4611686018427387904:=by omega
     simp only[Ex.DW]at h
     repeat' (first
 |simp only[go_sem,hD,gA,gB,gC,w1]
 |(with_reducible refine CU (hy _) ?_)
 |(with_reducible first|refine bq fun hc=>?_|refine br fun hc=>?_|refine bt (fun hc=>?_) fun hc=>?_)<;>(try simp only[hc,bs,↓reduceIte]at h)<;>try simp only[hc]
 |(with_reducible refine aJ hQ ?_;(try cases h);simp only[bh,bk,bO,bP,go_sem,hD,gA,gB,gC,w1];try exact cJ))
     refine fI 1 0 (IH (rest,k+1) ⟨g2,h⟩ (Nat.lt_succ_self _))
theorem BQ {x:Ex} (hx:x.size<4611686018427387904) (ht:x.texts) (s:St):aH Tryz.prog oN [.agg (cb x)] s (.bool (x.dp 20)) s:=by
 refine aH.pure ?_ (by simp[D.bM,D.ok,lE]) rfl s
 have hd:=fun s=>ael _ x (Nat.le_refl _) hx ht 20 (by omega) (by omega) s
 unfold S0
 refine aH.go Gb rfl fun B Q hB hQ=>?_
 have⟨hD,gA,gB,gC⟩:=bX
 repeat' (first
 |simp only[go_sem,hD,gA,gB,gC]
 |(with_reducible refine CU (hd _) ?_)
 |(with_reducible refine aJ hQ ?_;exact bA))
theorem aem (x:Ex) (s:St):aH Tryz.prog zV [.agg (cb x)] s (.bool x.none) s:=by
 refine aH.pure ?_ (by simp[D.bM,D.ok,lE]) rfl s
 unfold S0
 generalize h:Ex.none x=p
 unfold Ex.none at h
 refine aH.go Lm rfl fun B Q hB hQ=>?_
 have⟨hD,gA,gB,gC⟩:=bX
 repeat' (first
 |simp only[go_sem,hD,gA,gB,gC]
 |(with_reducible first|refine bq fun hc=>?_|refine br fun hc=>?_|refine bt (fun hc=>?_) fun hc=>?_)<;>(try simp only[hc,bs,↓reduceIte]at h)<;>try simp only[hc]
 |(with_reducible refine aJ hQ ?_;exact fU))
def vO (t:aK) (is:Bool):Bool:=(is && isName t) ||(!is && t == [])
theorem Gf (t:aK) (is:Bool) (hl:t.length<4611686018427387904) (s:St):aH Tryz.prog qJ [.str t, .bool is] s (.bool (vO t is)) s:=by
 refine aH.pure ?_ rfl rfl s
 have hn:=DV t hl
 unfold S0
 generalize h:vO t is=p
 unfold vO at h
 refine aH.go Jp rfl fun B Q hB hQ=>?_
 have⟨hD,gA,gB,gC⟩:=bX
 repeat' (first
 |simp only[go_sem,hD,gA,gB,gC]
 |(with_reducible refine CU (hn _) ?_)
 |(with_reducible first|refine bq fun hc=>?_|refine br fun hc=>?_|refine bt (fun hc=>?_) fun hc=>?_)<;>(try simp only[hc,bs,↓reduceIte]at h)<;>try simp only[hc]
 |(with_reducible refine aJ hQ ?_;exact fU))
def xP (x:Ex) (is:Bool):Bool:=(is && x.dp 20) ||(!is && x.none)
theorem P6 {x:Ex} (is:Bool) (hx:x.size<4611686018427387904) (ht:x.texts) (s:St):aH Tryz.prog tx [.agg (cb x), .bool is] s (.bool (xP x is)) s:=by
 refine aH.pure ?_ (by simp[D.bM,D.ok,lE]) rfl s
 have hm:=BQ hx ht
 unfold S0
 generalize h:xP x is=p
 unfold xP at h
 refine aH.go Jq rfl fun B Q hB hQ=>?_
 have⟨hD,gA,gB,gC⟩:=bX
 repeat' (first
 |simp only[go_sem,hD,gA,gB,gC]
 |(with_reducible refine CU (hm _) ?_)
 |(with_reducible refine CU (aem _ _) ?_)
 |(with_reducible first|refine bq fun hc=>?_|refine br fun hc=>?_|refine bt (fun hc=>?_) fun hc=>?_)<;>(try simp only[hc,bs,↓reduceIte]at h)<;>try simp only[hc]
 |(with_reducible refine aJ hQ ?_;exact fU))
def q8:List Ar→Bool
 | []=>true
 |a::l=>if !(vO a.name a.ref) || !(xP a.x !a.ref)then false else q8 l
theorem ZC {l:List Ar} (hl:l.length<4611686018427387904) (hs : ∀ a∈l,a.x.size<4611686018427387904∧a.x.texts∧a.name.length<4611686018427387904) (s:St) :
 aH Tryz.prog wk [.slice .shared 6 (l.map fi)] s (.bool (q8 l)) s:=by
 refine aH.pure ?_ (by simp[D.bM,D.ok,LF,Tag.ok]) rfl s
 unfold S0
 generalize h:q8 l=p
 refine aH.go HH rfl fun B Q hB hQ=>?_
 have⟨hD,gA,gB,gC⟩:=bX
 repeat' (first
 |simp only[go_sem,hD,gA,gB,gC]
 |(with_reducible first|refine bq fun hc=>?_|refine br fun hc=>?_|refine bt (fun hc=>?_) fun hc=>?_)<;>(try simp only[hc,bs,↓reduceIte]at h)<;>try simp only[hc]
 |(with_reducible refine aJ hQ ?_;exact fU))
 refine fI 0 0 (bp.ind (ι:=List Ar×Nat) (fun i=>l.drop i.2=i.1∧q8 i.1=p) (fun i=>i.1.length)
  (fun i=> [(5, .slice .shared 6 (l.map fi)),(6, .int .i64 (l.length:Int)),(7, .int .i64 (i.2:Int))]) (fun i=>⟨[],[]⟩) ?_ (l,0) ⟨rfl,h⟩)
 rintro⟨rest,k⟩ ⟨h1,h⟩ IH
 dsimp only at h1 h
 cases rest with
 |nil=>
  have hD:=drop_nil h1
  simp only[q8]at h
  repeat' (first
 |simp only[go_sem,hD,gA,gB,gC]
 |(with_reducible first|refine bq fun hc=>?_|refine br fun hc=>?_|refine bt (fun hc=>?_) fun hc=>?_)<;>(try simp only[hc,bs,↓reduceIte]at h)<;>try simp only[hc]
 |(with_reducible refine aJ hQ ?_;exact fU))
 |cons a rest=>
  obtain⟨gA,g2,hD,g4⟩:=drop_cons h1
  have gB:k<4611686018427387904:=by omega
  obtain⟨a1,a2,a3⟩:=hs a (List.mem_of_getElem? gA)
  have hn:=fun b s=>Gf a.name b a3 s
  have hw:=fun b s=>P6 b a1 a2 s
  simp only[q8]at h
  repeat' (first
 |simp only[go_sem,hD,gA,gB,gC]
 |(with_reducible refine CU (hn _ _) ?_)
 |(with_reducible refine CU (hw _ _) ?_)
 |(with_reducible first|refine bq fun hc=>?_|refine br fun hc=>?_|refine bt (fun hc=>?_) fun hc=>?_)<;>(try simp only[hc,bs,↓reduceIte]at h)<;>try simp only[hc]
 |(with_reducible refine aJ hQ ?_;exact fU))
  refine fI 0 0 (IH (rest,k+1) ⟨g2,h⟩ (Nat.lt_succ_self _))
def Sm.flags (s:Sm):Option (Bool×Bool×Bool×Bool×Bool×Bool):=
 if s.kind==1 then some (true,false,true,s.has,false,false)
 else if s.kind==2 ||s.kind==10 then some (true,false,false,s.has,false,false)
 else if s.kind==3 then some (false,false,true,s.has,false,false)
 else if s.kind==4 then some (!(s.name == []),true,false,s.has,false,false)
 else if s.kind==5 then some (false,false,true,s.has,true,true)
 else if s.kind==6 then some (false,false,true,s.has,true,false)
 else if s.kind==9 then some (false,false,s.has,false,false,false)
 else if s.kind==7 ||s.kind==8 then some (false,false,false,s.has,false,false)
 else none
def Sm.LI (s:Sm) (nm pr x:Bool):Bool:=if !(vO s.name nm) || !(vO s.proc pr) || !(xP s.x x)then false else q8 s.args
def Sm.LJ (s:Sm) (f:Bool×Bool×Bool×Bool×Bool×Bool):Bool:=
 if f.2.2.2.1 ||(!f.2.2.2.2.1 && decide ((s.aQ.length:Int) > 0)) ||(!f.2.2.2.2.2 && decide ((s.aN.length:Int) > 0)) ||(!(s.kind==4) && decide ((s.args.length:Int) > 0))then false
 else s.LI f.1 f.2.1 f.2.2.1
def Sm.fields (s:Sm):Bool:=match s.flags with
 |none=>false
 |some f=>s.LJ f
section
variable {v:Sm} {B:gZ} {Q:Exit→Tm→St→Prop} {p:Bool}
theorem ZD {nm pr x:Bool} (hf:v.wx) (hB:B.s = ⟨[],[]⟩) (hQ:rC 0 0 [(2,none)] (.bool p) ⟨[],[]⟩=Q) (h:v.LI nm pr x=p) :
 Sem Tryz.prog B 93 ahz Q [(1, .ptr 0 0),(3, .bool nm),(4, .bool pr),(5, .bool x)] ⟨[bd v],[]⟩:=by
 have h1:=fun b s=>Gf v.name b hf.name s
 have h2:=fun b s=>Gf v.proc b hf.proc s
 have h3:=fun b s=>P6 b hf.x hf.xt s
 have h4:=fun s=>ZC hf.Js hf.arg s
 unfold Sm.LI at h
 have⟨hD,gA,gB,gC⟩:=bX
 refine jD ?_
 repeat' (first
 |simp only[go_sem,hD,gA,gB,gC]
 |(with_reducible refine CU (h1 _ _) ?_)
 |(with_reducible refine CU (h2 _ _) ?_)
 |(with_reducible refine CU (h3 _ _) ?_)
 |(with_reducible refine CU (h4 _) ?_)
 |(with_reducible first|refine bq fun hc=>?_|refine br fun hc=>?_|refine bt (fun hc=>?_) fun hc=>?_)<;>(try simp only[hc,bs,↓reduceIte]at h)<;>try simp only[hc]
 |(with_reducible refine aJ hQ ?_;exact fU))
theorem ZE {nm pr x has th ot ar:Bool} (hf:v.wx) (hB:B.s = ⟨[],[]⟩) (hQ:rC 0 0 [(2,none)] (.bool p) ⟨[],[]⟩=Q) (e:(v.kind==4)=ar) (h:v.LJ (nm,pr,x,has,th,ot)=p) :
 Sem Tryz.prog B 93 ahA Q [(1, .ptr 0 0),(3, .bool nm),(4, .bool pr),(5, .bool x),(6, .bool has),(7, .bool th),(8, .bool ot),(9, .bool ar)] ⟨[bd v],[]⟩:=by
 simp only[Sm.LJ,e]at h
 have⟨hD,gA,gB,gC⟩:=bX
 refine Sem.oK ?_
 repeat' (first
 |simp only[go_sem,hD,gA,gB,gC]
 |(with_reducible first|refine bq fun hc=>?_|refine br fun hc=>?_|refine bt (fun hc=>?_) fun hc=>?_)<;>(try simp only[hc,bs,↓reduceIte]at h)<;>try simp only[hc]
 |(with_reducible refine aJ hQ ?_;(try cases h);simp only[bh,bk,bO,bP,go_sem,hD,gA,gB,gC];repeat' (first|exact Ok.out|with_reducible refine jo ?_ ?_|(simp;done))))
 all_goals
  refine Sem.re _ _ 1 0 (by rw[hB];exact CC rfl) (by rw[hB];exact CC rfl) ?_ ?_ (ZD hf hB hQ h)
  ·(simp only[go_sem,hD,gA,gB,gC];repeat' (first|exact Ok.out|with_reducible refine jo ?_ ?_))
  ·(simp only[go_sem,hD,gA,gB,gC];repeat' (first|exact Ok.out|with_reducible refine jo ?_ ?_))
theorem ZF {ar:Bool} (hf:v.wx) (hB:B.s = ⟨[],[]⟩) (hQ:rC 0 0 [(2,none)] (.bool p) ⟨[],[]⟩=Q) (e:(v.kind==4)=ar) (h:v.fields=p) :
 Sem Tryz.prog B 93 Zu Q [(1, .ptr 0 0),(3, .bool false),(4, .bool false),(5, .bool false),(6, .bool v.has),(7, .bool false),(8, .bool false),(9, .bool ar)] ⟨[bd v],[]⟩:=by
 simp only[Sm.fields,Sm.flags]at h
 have⟨hD,gA,gB,gC⟩:=bX
 refine Sem.oK ?_
 repeat' (first
 |simp only[go_sem,hD,gA,gB,gC]
 |(with_reducible first|refine bq fun hc=>?_|refine br fun hc=>?_|refine bt (fun hc=>?_) fun hc=>?_)<;>(try simp only[hc,bs,↓reduceIte]at h)<;>try simp only[hc]
 |(with_reducible refine aJ hQ ?_;(try cases h);simp only[bh,bk,bO,bP,go_sem,hD,gA,gB,gC];repeat' (first|exact Ok.out|with_reducible refine jo ?_ ?_|(simp;done))))
 all_goals
  refine Sem.re _ _ 1 0 (by rw[hB];exact CC rfl) (by rw[hB];exact CC rfl) ?_ ?_ (ZE hf hB hQ e h)
  ·(simp only[go_sem,hD,gA,gB,gC];repeat' (first|exact Ok.out|with_reducible refine jo ?_ ?_))
  ·(simp only[go_sem,hD,gA,gB,gC];repeat' (first|exact Ok.out|with_reducible refine jo ?_ ?_))
end
theorem ZG {v:Sm} (hf:v.wx) (s:St):aH Tryz.prog wj [.agg (bd v)] s (.bool v.fields) s:=by
 refine aH.pure ?_ (by simp[D.bM,D.ok,qh]) rfl s
 unfold S0
 refine aH.goS HE rfl fun B Q hB hQ=>?_
 have⟨hD,gA,gB,gC⟩:=bX
 refine Sem.seq (b:=ahC) (jD ?_)
 repeat' (first
 |simp only[go_sem,hD,gA,gB,gC]
 |(with_reducible refine aJ hQ ?_;exact bA))
 refine Sem.seq (b:=ahB) (jD ?_)
 repeat' (first
 |simp only[go_sem,hD,gA,gB,gC]
 |(with_reducible refine aJ hQ ?_;exact bA))
 refine Sem.seq (b:=Zu) (jD ?_)
 repeat' (first
 |simp only[go_sem,hD,gA,gB,gC]
 |(with_reducible refine aJ hQ ?_;exact bA))
 refine Sem.re _ _ 1 0 (by rw[hB];exact CC rfl) (by rw[hB];exact CC rfl) ?_ ?_ (ZF hf hB hQ rfl rfl)
 ·(simp only[go_sem,hD,gA,gB,gC];repeat' (first|exact Ok.out|with_reducible refine jo ?_ ?_))
 ·(simp only[go_sem,hD,gA,gB,gC];repeat' (first|exact Ok.out|with_reducible refine jo ?_ ?_))
end Go.Abs
namespace Go.Abs
set_option maxRecDepth 8000
open Go.Proofs
def gM (i:It):List D:= [.int .i64 i.s.id, .int .i64 i.s.kind, .slice .shared 1 (i.s.labels.map encStr), .str i.s.name, .str i.s.proc,
 .int .i64 i.s.x.op, .int .i64 i.s.x.n, .str i.s.x.name, .slice .shared 4 (i.s.x.kids.map cb), .bool i.s.has, .slice .shared 6 (i.s.args.map fi), .slice .shared 13 (i.s.aQ.map bd), .slice .shared 13 (i.s.aN.map bd), .int .i64 i.deep, .int .i64 i.db, .bool i.aN]
theorem ZH (i:It):D.bM 0 0 (gM i)=true:=by simp[gM,D.bM,D.ok,Tag.ok,fL,abx,LF,l8]
theorem HN (l:List It):D.jd 0 0 (l.map gM)=true:=je ZH l
theorem al9 (n m:Nat) (l:List It):D.lL n m (l.map gM)=l.map gM:=nF ZH n m l
theorem ama (n m:Nat) (i:It):D.iG n m (gM i)=gM i:=jh n m _ (ZH i)
theorem amb (x:It):(gM x).length=16:=nd rfl
theorem ahN (x:It):List.take 13 (gM x)=bd x.s:=by simp only[gM,dv];rfl
theorem ZI (x:It):(gM x)[0]? = some (.int .i64 x.s.id):=nd rfl
theorem V3 (x:It):(gM x)[13]? = some (.int .i64 x.deep):=nd rfl
theorem Ju (s:Sm) (d n:Int) (e:Bool):gM ⟨s,d,n,e⟩ = [.int .i64 s.id, .int .i64 s.kind, .slice .shared 1 (s.labels.map encStr), .str s.name, .str s.proc,
 .int .i64 s.x.op, .int .i64 s.x.n, .str s.x.name, .slice .shared 4 (s.x.kids.map cb), .bool s.has, .slice .shared 6 (s.args.map fi), .slice .shared 13 (s.aQ.map bd), .slice .shared 13 (s.aN.map bd), .int .i64 d, .int .i64 n, .bool e]:=nd rfl
attribute [go_sem] al9 ama amb ahN ZI V3
theorem Nl (deep db:Int) (aN:Bool) (out:List It) (s:Sm) :
 jR deep db aN out s=if decide (deep≤12)then eW (deep+1) s.id true (eW (deep+1) s.id false (out++ [⟨s,deep,db,aN⟩]) s.aQ) s.aN else out++ [⟨s,deep,db,aN⟩]:=by
 cases s;simp only[jR]
mutual
theorem V4 (deep db:Int) (aN:Bool) (out:List It) (h:out.length≤200) : ∀ s:Sm,(jR deep db aN out s).length≤201
 |⟨id,kind,labels,name,proc,x,has,args,aQ,e⟩=>by
  simp only[jR]
  have h1:(out++ [(⟨⟨id,kind,labels,name,proc,x,has,args,aQ,e⟩,deep,db,aN⟩:It)]).length≤201:=by simp;omega
  split
  ·exact mF _ _ _ _ (mF _ _ _ _ h1 aQ) e
  ·exact h1
theorem mF (deep db:Int) (aN:Bool) (out:List It) (h:out.length≤201) : ∀ l:List Sm,(eW deep db aN out l).length≤201
 | []=>by simpa only[eW]using h
 | s::l=>by
  simp only[eW]
  split
  ·rename_i hc
   simp only[decide_eq_true_eq]at hc
   exact mF deep db aN _ (V4 _ _ _ _ (by omega) s) l
  ·exact h
end
abbrev V5 (N:Nat):Prop:=∀ (l:List Sm) (deep db:Int) (aN:Bool) (out:List It),Sm.aU l<N→0≤deep→deep≤13→out.length≤201→∀ {s:St} {t:Nat},s.aA[t]? = some (some out.length)→
 aH Tryz.prog oc [.slice .shared 13 (l.map bd), .int .i64 deep, .int .i64 db, .bool aN, .slice (.tok t) 16 (out.map gM)] s (.slice (.tok t) 16 ((eW deep db aN out l).map gM)) ⟨s.al,s.aA.set t (some (eW deep db aN out l).length)⟩
theorem ahO {N:Nat} (hN:N<4611686018427387904) (ih:V5 N) {l:List Sm} {deep db:Int} {aN:Bool} {out:List It} (hs:Sm.aU l<N+1) (yS:0≤deep) (hd:deep≤13) (ho:out.length≤201) :
 aH Tryz.prog oc [.slice .shared 13 (l.map bd), .int .i64 deep, .int .i64 db, .bool aN, .slice (.tok 0) 16 (out.map gM)] ⟨[],[some out.length]⟩ (.slice (.tok 0) 16 ((eW deep db aN out l).map gM)) ⟨[],[some (eW deep db aN out l).length]⟩:=by
 generalize hR:eW deep db aN out l=R
 refine aH.go CK rfl fun B Q hB hQ=>?_
 have⟨hD,gA,gB,gC⟩:=bX
 repeat' (first
 |simp only[go_sem,hD,gA,gB,gC]
 |(with_reducible refine aJ hQ ?_;exact bA))
 refine fI 0 1 (bp.ind (ι:=List Sm×Nat×List It×Nat) (fun i=>l.drop i.2.1=i.1∧eW deep db aN i.2.2.1 i.1=R∧i.2.2.1.length≤201∧i.2.2.2=i.2.2.1.length) (fun i=>i.1.length)
  (fun i=> [(0, .slice .shared 13 (l.map bd)),(1, .int .i64 deep),(2, .int .i64 db),(3, .bool aN),(4, .slice (.tok 0) 16 (i.2.2.1.map gM)),(11, .int .i64 (i.2.1:Int))]) (fun i=>⟨[],[some i.2.2.2]⟩) ?_ (l,0,out,out.length) ⟨rfl,hR,ho,rfl⟩)
 rintro⟨rest,k,out,n⟩ ⟨h1,h2,h3,h4⟩ IH
 dsimp only at h1 h2 h3 h4
 subst h4
 have hlen:l.length<4611686018427387904:=by have:=Sm.dR l;omega
 cases rest with
 |nil=>
  have hD:=drop_nil h1
  simp only[eW]at h2
  subst h2
  repeat' (first
 |simp only[go_sem,hD,gA,gB,gC]
 |(with_reducible refine aJ hQ ?_;exact bA))
 | cons v rest=>
  obtain⟨gA,g2,hD,g4⟩:=drop_cons h1
  have ct:k<4611686018427387904:=by omega
  have hv:=Sm.cZ (List.mem_of_getElem? gA)
  have qC:Sm.aU v.aQ<N∧Sm.aU v.aN<N:=by
   obtain⟨_,_,_,_,_,_,_,_,_,_⟩:=v
   simp only[Sm.size]at hv ⊢;omega
  simp only[eW]at h2
  by_cases hc:out.length≤200
  ·have c1:decide ((out.length:Int)≤200)=true:=by simp;omega
   simp only[c1,↓reduceIte,Nl]at h2
   have gB:(out.length+1)*233≤bD:=by unfold bD;omega
   have jn:(out++ [(⟨v,deep,db,aN⟩:It)]).length≤201:=by simp;omega
   have hw:IntKind.wrap .i64 (deep+1)=deep+1:=eA (by omega) (by omega)
   by_cases atL:deep≤12
   ·have c2:decide (deep≤12)=true:=by simp;omega
    simp only[c2,↓reduceIte]at h2
    have f1:=fun {s:St} {t:Nat} (ht:s.aA[t]? = some (some (out++ [(⟨v,deep,db,aN⟩:It)]).length))=>ih v.aQ (deep+1) v.id false _ qC.1 (by omega) (by omega) jn ht
    have f2:=fun {s:St} {t:Nat} (ht:s.aA[t]? = some (some (eW (deep+1) v.id false (out++ [(⟨v,deep,db,aN⟩:It)]) v.aQ).length))=>ih v.aN (deep+1) v.id true _ qC.2 (by omega) (by omega) (mF _ _ _ _ jn _) ht
    simp only[List.map_append,List.map_cons,List.map_nil,Ju,List.length_append,List.length_cons,List.length_nil]at f1
    repeat' (first
 |simp only[go_sem,hD,gA,gB,gC,c1,c2,hw,dv]
 |(with_reducible refine CU (f1 (by with_unfolding_all rfl)) ?_)
 |(with_reducible refine CU (f2 (by with_unfolding_all rfl)) ?_)
 | (with_reducible refine aJ hQ ?_;exact bA))
    refine fm 0 1 ?_ ?_ (IH (rest,k+1,_,_) ⟨g2,h2,mF _ _ _ _ (mF _ _ _ _ jn _) _,rfl⟩ (Nat.lt_succ_self _))
    ·(simp only[go_sem,hD,gA,gB,gC,aM ct];try exact cd)
    ·(simp only[go_sem,hD,gA,gB,gC,aM ct];try exact cd)
   ·have c2:decide (deep≤12)=false:=by simp;omega
    simp only[c2,Bool.false_eq_true,↓reduceIte]at h2
    repeat' (first
 |simp only[go_sem,hD,gA,gB,gC,c1,c2,dv]
 | (with_reducible refine aJ hQ ?_;exact bA))
    refine fm 0 1 ?_ ?_ (IH (rest,k+1,out++ [⟨v,deep,db,aN⟩],out.length+1) ⟨g2,h2,jn,by simp⟩ (Nat.lt_succ_self _))
    ·(simp only[go_sem,hD,gA,gB,gC,aM ct,Ju,List.map_append,List.map_cons,List.map_nil];try exact cd)
    ·(simp only[go_sem,hD,gA,gB,gC,aM ct,Ju,List.map_append,List.map_cons,List.map_nil];try exact cd)
  ·have c1:decide ((out.length:Int)≤200)=false:=by simp;omega
   simp only[c1,Bool.false_eq_true,↓reduceIte]at h2
   subst h2
   repeat' (first
 |simp only[go_sem,hD,gA,gB,gC,c1]
 |(with_reducible refine aJ hQ ?_;exact bA))
theorem ZJ : ∀ N,N<4611686018427387904→V5 N:=by
 intro N
 induction N with
 |zero=>exact fun _ l deep db aN out h=>absurd h (Nat.not_lt_zero _)
 |succ N ih=>
  intro h l deep db aN out hs yS hd ho s t ht
  exact(ahO (by omega) (ih (by omega)) hs yS hd ho).af0 (pre:= [_,_,_,_]) (post:= []) (by simp[D.bM,D.ok,Tag.ok,l8]) rfl (HN out) (HN _) ht
theorem ZK {l:List Sm} (hs:Sm.aU l<4611686018427387000) (s:St) :
 aH Tryz.prog oc [.slice .shared 13 (l.map bd), .int .i64 1, .int .i64 0, .bool false, .slice .full 0 []] s (.slice .shared 16 ((eW 1 0 false [] l).map gM)) s:=by
 refine aH.pure ?_ (by simp[D.bM,D.ok,Tag.ok,l8,D.jd]) (by simp[D.ok,Tag.ok,HN]) s
 obtain⟨N,hN⟩ : ∃ N,N=Sm.aU l:=⟨_,rfl⟩
 have ih:=ZJ N (by omega)
 replace hs:Sm.aU l<N+1∧N<4611686018427387000:=by omega
 obtain⟨hs,hN⟩:=hs
 generalize hR:eW 1 0 false [] l=R
 obtain⟨deep,Tk⟩ : ∃ d:Int,d=1:=⟨_,rfl⟩
 obtain⟨db,ZL⟩ : ∃ d:Int,d=0:=⟨_,rfl⟩
 obtain⟨aN,xQ⟩ : ∃ d:Bool,d=false:=⟨_,rfl⟩
 rw[← Tk, ← ZL, ← xQ]at hR
 rw[← Tk, ← ZL, ← xQ]
 have yS:0≤deep:=by omega
 have hd:deep≤13:=by omega
 clear Tk ZL xQ
 have ho:([] : List It).length≤201:=Nat.zero_le _
 unfold S0
 refine aH.go CK rfl fun B Q hB hQ=>?_
 have⟨hD,gA,gB,gC⟩:=bX
 repeat' (first
 |simp only[go_sem,hD,gA,gB,gC]
 |(with_reducible refine aJ hQ ?_;exact bA))
 refine bp.rD 4 16 rfl ?_
 simp only[go_sem,hD,gA,gB,gC]
 refine fI 0 1 (bp.ind (ι:=List Sm×Nat×List It×Nat) (fun i=>l.drop i.2.1=i.1∧eW deep db aN i.2.2.1 i.1=R∧i.2.2.1.length≤201∧i.2.2.2=i.2.2.1.length) (fun i=>i.1.length)
  (fun i=> [(0, .slice .shared 13 (l.map bd)),(1, .int .i64 deep),(2, .int .i64 db),(3, .bool aN),(4, .slice (.tok 0) 16 (i.2.2.1.map gM)),(11, .int .i64 (i.2.1:Int))]) (fun i=>⟨[],[some i.2.2.2]⟩) ?_ (l,0,[],0) ⟨rfl,hR,ho,rfl⟩)
 rintro⟨rest,k,out,n⟩ ⟨h1,h2,h3,h4⟩ IH
 dsimp only at h1 h2 h3 h4
 subst h4
 have hlen:l.length<4611686018427387904:=by have:=Sm.dR l;omega
 cases rest with
 |nil=>
  have hD:=drop_nil h1
  simp only[eW]at h2
  subst h2
  repeat' (first
 |simp only[go_sem,hD,gA,gB,gC]
 |(with_reducible refine aJ hQ ?_;exact bA))
 | cons v rest=>
  obtain⟨gA,g2,hD,g4⟩:=drop_cons h1
  have ct:k<4611686018427387904:=by omega
  have hv:=Sm.cZ (List.mem_of_getElem? gA)
  have qC:Sm.aU v.aQ<N∧Sm.aU v.aN<N:=by
   obtain⟨_,_,_,_,_,_,_,_,_,_⟩:=v
   simp only[Sm.size]at hv ⊢;omega
  simp only[eW]at h2
  by_cases hc:out.length≤200
  ·have c1:decide ((out.length:Int)≤200)=true:=by simp;omega
   simp only[c1,↓reduceIte,Nl]at h2
   have gB:(out.length+1)*233≤bD:=by unfold bD;omega
   have jn:(out++ [(⟨v,deep,db,aN⟩:It)]).length≤201:=by simp;omega
   have hw:IntKind.wrap .i64 (deep+1)=deep+1:=eA (by omega) (by omega)
   by_cases atL:deep≤12
   ·have c2:decide (deep≤12)=true:=by simp;omega
    simp only[c2,↓reduceIte]at h2
    have f1:=fun {s:St} {t:Nat} (ht:s.aA[t]? = some (some (out++ [(⟨v,deep,db,aN⟩:It)]).length))=>ih v.aQ (deep+1) v.id false _ qC.1 (by omega) (by omega) jn ht
    have f2:=fun {s:St} {t:Nat} (ht:s.aA[t]? = some (some (eW (deep+1) v.id false (out++ [(⟨v,deep,db,aN⟩:It)]) v.aQ).length))=>ih v.aN (deep+1) v.id true _ qC.2 (by omega) (by omega) (mF _ _ _ _ jn _) ht
    simp only[List.map_append,List.map_cons,List.map_nil,Ju,List.length_append,List.length_cons,List.length_nil]at f1
    repeat' (first
 |simp only[go_sem,hD,gA,gB,gC,c1,c2,hw,dv]
 |(with_reducible refine CU (f1 (by with_unfolding_all rfl)) ?_)
 |(with_reducible refine CU (f2 (by with_unfolding_all rfl)) ?_)
 | (with_reducible refine aJ hQ ?_;exact bA))
    refine fm 0 1 ?_ ?_ (IH (rest,k+1,_,_) ⟨g2,h2,mF _ _ _ _ (mF _ _ _ _ jn _) _,rfl⟩ (Nat.lt_succ_self _))
    ·(simp only[go_sem,hD,gA,gB,gC,aM ct];try exact cd)
    ·(simp only[go_sem,hD,gA,gB,gC,aM ct];try exact cd)
   ·have c2:decide (deep≤12)=false:=by simp;omega
    simp only[c2,Bool.false_eq_true,↓reduceIte]at h2
    repeat' (first
 |simp only[go_sem,hD,gA,gB,gC,c1,c2,dv]
 | (with_reducible refine aJ hQ ?_;exact bA))
    refine fm 0 1 ?_ ?_ (IH (rest,k+1,out++ [⟨v,deep,db,aN⟩],out.length+1) ⟨g2,h2,jn,by simp⟩ (Nat.lt_succ_self _))
    ·(simp only[go_sem,hD,gA,gB,gC,aM ct,Ju,List.map_append,List.map_cons,List.map_nil];try exact cd)
    ·(simp only[go_sem,hD,gA,gB,gC,aM ct,Ju,List.map_append,List.map_cons,List.map_nil];try exact cd)
  ·have c1:decide ((out.length:Int)≤200)=false:=by simp;omega
   simp only[c1,Bool.false_eq_true,↓reduceIte]at h2
   subst h2
   repeat' (first
 |simp only[go_sem,hD,gA,gB,gC,c1]
 |(with_reducible refine aJ hQ ?_;exact bA))
theorem ahP {f:Pc} (hs:Sm.aU f.body<4611686018427387000) (s:St):aH Tryz.prog zR [.agg (bS f)] s (.slice .shared 16 (f.flat.map gM)) s:=by
 refine aH.pure ?_ (by simp only[D.bM,D.ok,zJ];rfl) (by simp[D.ok,Tag.ok,HN]) s
 have h:=fun s=>ZK hs s
 unfold S0
 refine aH.go Li rfl fun B Q hB hQ=>?_
 have⟨hD,gA,gB,gC⟩:=bX
 repeat' (first
 |simp only[go_sem,hD,gA,gB,gC,Pc.flat]
 |(with_reducible refine CU (h _) ?_)
 |(with_reducible first|refine bq fun hc=>?_|refine br fun hc=>?_|refine bt (fun hc=>?_) fun hc=>?_)<;>(try simp only[hc,bs,↓reduceIte]at h)<;>try simp only[hc]
 |(with_reducible refine aJ hQ ?_;simp only[bh,bk,bO,bP,go_sem,hD,gA,gB,gC,Pc.flat];try exact cJ))
end Go.Abs
namespace Go.Abs
set_option maxRecDepth 8000
open Go.Proofs
theorem Pc.ZM (f:Pc):f.flat.length≤201:=mF _ _ _ _ (Nat.zero_le _) _
theorem amc {p:Pg} (hs:Pc.aU p.procs<4611686018427387000) (s:St):aH Tryz.prog BB [.agg (bV p)] s (.slice .shared 16 (p.all.map gM)) s:=by
 refine aH.pure ?_ (by simp only[D.bM,D.ok,jj];rfl) (by simp[D.ok,Tag.ok,HN]) s
 have hlen:p.procs.length<4611686018427387904:=by have:=Pc.dR p.procs;omega
 generalize hR:p.all=R
 unfold Pg.all at hR
 unfold S0
 refine aH.go M9 rfl fun B Q hB hQ=>?_
 have⟨hD,gA,gB,gC⟩:=bX
 repeat' (first
 |simp only[go_sem,hD,gA,gB,gC]
 |(with_reducible refine aJ hQ ?_;exact bA))
 refine bp.rD 3 16 rfl ?_
 simp only[go_sem,hD,gA,gB,gC]
 refine fI 1 1 (bp.ind (ι:=List Pc×Nat×List It×Nat) (fun i=>p.procs.drop i.2.1=i.1∧allM i.2.2.1 i.1=R∧i.2.2.1.length≤200∧i.2.2.2=i.2.2.1.length) (fun i=>i.1.length)
  (fun i=> [(1, .ptr 0 0),(3, .slice (.tok 0) 16 (i.2.2.1.map gM)),(7, .slice .shared 5 (p.procs.map bS)),(8, .int .i64 (p.procs.length:Int)),(9, .int .i64 (i.2.1:Int))]) (fun i=>⟨[bV p],[some i.2.2.2]⟩) ?_ (p.procs,0,[],0) ⟨rfl,hR,Nat.zero_le _,rfl⟩)
 rintro⟨rest,k,out,n⟩ ⟨h1,h,h3,h4⟩ IH
 dsimp only at h1 h h3 h4
 subst h4
 cases rest with
 |nil=>
  have hD:=drop_nil h1
  simp only[allM]at h
  subst h
  repeat' (first
 |simp only[go_sem,hD,gA,gB,gC]
 |(with_reducible refine aJ hQ ?_;exact bA))
 |cons f rest=>
  obtain⟨gA,g2,hD,g4⟩:=drop_cons h1
  have ct:k<4611686018427387904:=by omega
  have hf:=Pc.cZ (List.mem_of_getElem? gA)
  have hb:Sm.aU f.body<4611686018427387000:=by simp only[Pc.size]at hf;omega
  have gY:=fun s=>ahP hb s
  have aBU:=f.ZM
  have gB:(out.length+f.flat.length)*233≤bD:=by unfold bD;omega
  simp only[allM,List.length_append]at h
  have fv:=fun(o:List (List D))=>pH (size:=16) (bytes:=232) (t:=0) (rows:=out.map gM) (new:=f.flat.map gM) (g:= .shared) (s:=⟨o,[some out.length]⟩) (by simpa using gB) (by simp)
  repeat' (first
 |simp only[go_sem,hD,gA,gB,gC,fv]
 |(with_reducible refine CU (gY _) ?_)
 |(with_reducible first|refine bq fun hc=>?_|refine br fun hc=>?_|refine bt (fun hc=>?_) fun hc=>?_)<;>(try simp only[hc,bs,↓reduceIte]at h)<;>try simp only[hc]
 |(with_reducible refine aJ hQ ?_;(try cases h);simp only[bh,bk,bO,bP,go_sem,hD,gA,gB,gC,fv];try exact cJ))
  refine fm 1 1 ?_ ?_ (IH (rest,k+1,out++f.flat,out.length+f.flat.length) ⟨g2,h,by rename_i hc;simp only[decide_eq_false_iff_not]at hc;simp only[List.length_append];omega,by simp⟩ (Nat.lt_succ_self _))
  ·(simp only[go_sem,hD,gA,gB,gC,aM ct];try exact cd)
  ·(simp only[go_sem,hD,gA,gB,gC,aM ct];try exact cd)
structure Pg.wx (p:Pg):Prop where
 sz:p.size<4611686018427387000
 sA : ∀ t∈p.globals,t.length<4611686018427387904
 ja : ∀ f∈p.procs,f.name.length<4611686018427387904∧(∀ t∈f.vars,t.length<4611686018427387904)∧(∀ t∈f.fin,t.length<4611686018427387904)∧∀ a∈f.params,a.name.length<4611686018427387904
 items : ∀ i∈p.all,i.s.wx
def gate (nest:Int) (len n:Nat) (r:Bool×Nat):Bool×Nat:=if decide (nest > 12) && decide ((len:Int) > 0)then(false,n)else r
mutual
def Sm.rG (nest:Int) (n:Nat):Sm→Bool×Nat
 |⟨id,kind,labels,name,proc,x,has,args,aQ,aN⟩=>
  if decide (((n+1:Nat):Int) > 200) ||id != ((n+1:Nat):Int) || !(fh labels) || !(Sm.fields ⟨id,kind,labels,name,proc,x,has,args,aQ,aN⟩)then(false,n+1)
  else if !(gate (nest+1) aQ.length (n+1) (Sm.fX (nest+1) (n+1) aQ)).1 then(false,(gate (nest+1) aQ.length (n+1) (Sm.fX (nest+1) (n+1) aQ)).2)
  else gate (nest+1) aN.length (gate (nest+1) aQ.length (n+1) (Sm.fX (nest+1) (n+1) aQ)).2 (Sm.fX (nest+1) (gate (nest+1) aQ.length (n+1) (Sm.fX (nest+1) (n+1) aQ)).2 aN)
def Sm.fX (nest:Int) (n:Nat):List Sm→Bool×Nat
 | []=>(true,n)
 |s::l=>if !(Sm.rG nest n s).1 then(false,(Sm.rG nest n s).2)else Sm.fX nest (Sm.rG nest n s).2 l
end
def Sm.iK (nest:Int) (n:Nat) (l:List Sm):Bool×Nat:=gate nest l.length n (Sm.fX nest n l)
theorem Jv (nest:Int) (n:Nat) (s:Sm):Sm.rG nest n s =
 if decide (((n+1:Nat):Int) > 200) ||s.id != ((n+1:Nat):Int) || !(fh s.labels) || !(s.fields)then(false,n+1)
 else if !(Sm.iK (nest+1) (n+1) s.aQ).1 then(false,(Sm.iK (nest+1) (n+1) s.aQ).2)
 else Sm.iK (nest+1) (Sm.iK (nest+1) (n+1) s.aQ).2 s.aN:=by
 cases s;simp only[Sm.rG,Sm.iK];rfl
mutual
def Sm.mw:Sm→Prop
 |⟨id,kind,labels,name,proc,x,has,args,aQ,aN⟩=>Sm.wx ⟨id,kind,labels,name,proc,x,has,args,aQ,aN⟩∧Sm.gn aQ∧Sm.gn aN
def Sm.gn:List Sm→Prop
 | []=>True
 |s::l=>s.mw∧Sm.gn l
end
theorem Gg (s:Sm):s.mw↔s.wx∧Sm.gn s.aQ∧Sm.gn s.aN:=by cases s;simp only[Sm.mw]
theorem HO {s:Sm} : ∀ {l:List Sm},Sm.gn l→s∈l→s.mw
 |y::l,h,m=>by
  simp only[Sm.gn]at h
  rcases List.mem_cons.1 m with rfl|m
  ·exact h.1
  ·exact HO h.2 m
mutual
theorem aen (nest:Int) (n:Nat) : ∀ s:Sm,n≤201→(Sm.rG nest n s).2≤202∧((Sm.rG nest n s).1=true→(Sm.rG nest n s).2≤200)
 | ⟨id,kind,labels,name,proc,x,has,args,aQ,aN⟩,hn=>by
  simp only[Sm.rG]
  split
  ·exact⟨by dsimp only;omega,fun h=>by cases h⟩
  rename_i hc
  simp only[Bool.or_eq_true,decide_eq_true_eq,not_or]at hc
  have CN:n+1≤200:=by omega
  have g1 : ∀ (nest:Int) (l:List Sm) (m:Nat),m≤200→(Sm.fX nest m l).2≤202∧((Sm.fX nest m l).1=true→(Sm.fX nest m l).2≤200)→
   (gate nest l.length m (Sm.fX nest m l)).2≤202∧((gate nest l.length m (Sm.fX nest m l)).1=true→(gate nest l.length m (Sm.fX nest m l)).2≤200):=by
   intro nest l m hm h
   unfold gate
   split
   ·exact⟨by dsimp only;omega,fun h=>by cases h⟩
   ·exact h
  have h1:=g1 (nest+1) aQ (n+1) CN (EN (nest+1) (n+1) aQ CN)
  split
  ·exact⟨h1.1,fun h=>by cases h⟩
  rename_i L4
  have h2:=h1.2 (by simpa using L4)
  exact g1 (nest+1) aN _ h2 (EN (nest+1) _ aN h2)
theorem EN (nest:Int) (n:Nat) : ∀ l:List Sm,n≤200→(Sm.fX nest n l).2≤202∧((Sm.fX nest n l).1=true→(Sm.fX nest n l).2≤200)
 | [],hn=>by simp only[Sm.fX];exact⟨by omega,fun _=>hn⟩
 |s::l,hn=>by
  simp only[Sm.fX]
  have h1:=aen nest n s (by omega)
  split
  ·exact⟨h1.1,fun h=>by cases h⟩
  rename_i hc
  exact EN nest _ l (h1.2 (by simpa using hc))
end
theorem Jw {nest:Int} {n:Nat} {l:List Sm} (hn:n≤200):(Sm.iK nest n l).2≤202∧((Sm.iK nest n l).1=true→(Sm.iK nest n l).2≤200):=by
 unfold Sm.iK gate
 split
 ·exact⟨by dsimp only;omega,fun h=>by cases h⟩
 ·exact EN nest n l hn
theorem aeo : ∀ (m:Nat) (l:List Sm),Sm.aU l≤m→Sm.aU l<4611686018427387000→Sm.gn l→∀ (nest:Int) (n:Nat),0≤nest→nest≤13→n≤200→
 aH Tryz.prog lF [.ptr 0 0, .slice .shared 13 (l.map bd), .int .i64 nest] ⟨[[.int .i64 n]],[]⟩ (.bool (Sm.iK nest n l).1) ⟨[[.int .i64 (Sm.iK nest n l).2]],[]⟩:=by
 intro m
 induction m with
 | zero=>
  intro l h hs hf nest n h0 h13 hn
  cases l with
  |nil=>
   have d1:decide ((0:Int) > 0)=false:=rfl
   have e:Sm.iK nest n [] = (true,n):=by simp[Sm.iK,gate,Sm.fX]
   have z:decide ((0:Int)<0)=false:=rfl
   rw[e]
   refine aH.go tG rfl fun B Q hB hQ=>?_
   have⟨hD,gA,gB,gC⟩:=bX
   repeat' (first
 |simp only[go_sem,hD,gA,gB,gC,d1,z]
 |(with_reducible refine bp.ki ?_)
 |(with_reducible first|refine bq fun hc=>?_|refine br fun hc=>?_|refine bt (fun hc=>?_) fun hc=>?_)<;>(try simp only[hc,bs,↓reduceIte]at h)<;>try simp only[hc]
 |(with_reducible refine aJ hQ ?_;exact bA))
  |cons s l=>simp only[Sm.aU]at h;omega
 |succ m ih=>
  intro l h hs hf nest n h0 h13 hn
  generalize hR:Sm.iK nest n l=R
  have hlen:=Sm.dR l
  unfold Sm.iK gate at hR
  have h:=hR
  refine aH.go tG rfl fun B Q hB hQ=>?_
  have⟨hD,gA,gB,gC⟩:=bX
  repeat' (first
 |simp only[go_sem,hD,gA,gB,gC]
 |(with_reducible first|refine bq fun hc=>?_|refine br fun hc=>?_|refine bt (fun hc=>?_) fun hc=>?_)<;>(try simp only[hc,bs,↓reduceIte]at h)<;>try simp only[hc]
 | (with_reducible refine aJ hQ ?_;(try cases h);simp only [bh,bk,bO,bP,go_sem,hD,gA,gB,gC];repeat' (first | exact Ok.out | with_reducible refine jo ?_ ?_ | (simp;done))))
  all_goals
   have amd:l≠ []→nest≤12:=by
    intro fu
    have:l.length≠0:=by simpa using fu
    simp_all<;>omega
   refine fI 1 0 (bp.ind (ι:=List Sm×Nat×Nat) (fun i=>l.drop i.2.1=i.1∧Sm.fX nest i.2.2 i.1=R∧i.2.2≤200) (fun i=>i.1.length)
    (fun i=> [(0, .ptr 0 0),(2, .int .i64 nest),(16, .slice .shared 13 (l.map bd)),(17, .int .i64 (l.length:Int)),(18, .int .i64 (i.2.1:Int))]) (fun i=>⟨[[.int .i64 (i.2.2:Int)]],[]⟩) ?_ (l,0,n) ⟨rfl,h,hn⟩)
   rintro⟨rest,k,j⟩ ⟨h1,h,hj⟩ IH
   dsimp only at h1 h hj
   cases rest with
   |nil=>
    have hD:=drop_nil h1
    simp only[Sm.fX]at h
    repeat' (first
 |simp only[go_sem,hD,gA,gB,gC]
 |(with_reducible first|refine bq fun hc=>?_|refine br fun hc=>?_|refine bt (fun hc=>?_) fun hc=>?_)<;>(try simp only[hc,bs,↓reduceIte]at h)<;>try simp only[hc]
 | (with_reducible refine aJ hQ ?_;exact fU))
   | cons s rest=>
    obtain⟨gA,g2,hD,g4⟩:=drop_cons h1
    have gB:k<4611686018427387904:=by omega
    have iO:=List.mem_of_getElem? gA
    have dU:=Sm.cZ iO
    have aBV:=amd (by rintro rfl;simp at iO)
    obtain⟨G8,hft,hfe⟩:=(Gg s).1 (HO hf iO)
    have X1:Sm.aU s.aQ<s.size∧Sm.aU s.aN<s.size:=by cases s;simp only[Sm.size];omega
    have w1:IntKind.wrap .i64 ((j:Int)+1)=((j+1:Nat):Int):=by rw[eA]<;>omega
    have w2:IntKind.wrap .i64 (nest+1)=nest+1:=eA (by omega) (by omega)
    have c1:=fun s=>BP G8.Nj G8.lG s
    have c2:=fun s=>ZG G8 s
    simp only[Sm.fX,Jv]at h
    by_cases V6:j+1≤200
    ·have r1:=Jw (nest:=nest+1) (l:=s.aQ) V6
     have c3:=fun s' ho=>(ih s.aQ (by omega) (by omega) hft (nest+1) (j+1) (by omega) (by omega) V6).X7 (s:=s') (o:=0) (by simp[D.bM,D.ok,l8,Tag.ok]) rfl rfl rfl ho
     by_cases vM:(Sm.iK (nest+1) (j+1) s.aQ).1=true
     ·have c4:=fun s' ho=>(ih s.aN (by omega) (by omega) hfe (nest+1) _ (by omega) (by omega) (r1.2 vM)).X7 (s:=s') (o:=0) (by simp [D.bM,D.ok,l8,Tag.ok]) rfl rfl rfl ho
      have r2:=Jw (nest:=nest+1) (l:=s.aN) (r1.2 vM)
      simp only[vM]at c3
      simp only[vM,Bool.not_true,Bool.false_eq_true,↓reduceIte]at h
      repeat' (first
 |simp only[go_sem,hD,gA,gB,gC,w1,w2,vM]
 |(with_reducible refine CU (c1 _) ?_)
 |(with_reducible refine CU (c2 _) ?_)
 |(with_reducible refine CU (c3 _ rfl) ?_)
 |(with_reducible refine CU (c4 _ rfl) ?_)
 |(with_reducible first|refine bq fun hc=>?_|refine br fun hc=>?_|refine bt (fun hc=>?_) fun hc=>?_)<;>(try simp only[hc,bs,↓reduceIte]at h)<;>try simp only[hc]
 |(with_reducible refine aJ hQ ?_;(try cases h);simp only[bh,bk,bO,bP,go_sem,hD,gA,gB,gC,w1,w2,vM];try exact cJ))
      refine fI 1 0 (IH (rest,k+1,(Sm.iK (nest+1) (Sm.iK (nest+1) (j+1) s.aQ).2 s.aN).2) ⟨g2,h,r2.2 (by assumption)⟩ (Nat.lt_succ_self _))
     ·have vM:(Sm.iK (nest+1) (j+1) s.aQ).1=false:=by simpa using vM
      simp only[vM]at c3
      simp only[vM,Bool.not_false,↓reduceIte]at h
      repeat' (first
 |simp only[go_sem,hD,gA,gB,gC,w1,w2,vM]
 |(with_reducible refine CU (c1 _) ?_)
 |(with_reducible refine CU (c2 _) ?_)
 |(with_reducible refine CU (c3 _ rfl) ?_)
 |(with_reducible first|refine bq fun hc=>?_|refine br fun hc=>?_|refine bt (fun hc=>?_) fun hc=>?_)<;>(try simp only[hc,bs,↓reduceIte]at h)<;>try simp only[hc]
 | (with_reducible refine aJ hQ ?_;(try cases h);simp only [bh,bk,bO,bP,go_sem,hD,gA,gB,gC,w1,w2,vM];try exact cJ))
    ·have d1:decide (((j+1:Nat):Int) > 200)=true:=by simp;omega
     simp only[d1,Bool.true_or,Bool.not_false,↓reduceIte]at h
     repeat' (first
 |simp only[go_sem,hD,gA,gB,gC,w1,w2,d1]
 |(with_reducible refine CU (c1 _) ?_)
 |(with_reducible refine CU (c2 _) ?_)
 |(with_reducible first|refine bq fun hc=>?_|refine br fun hc=>?_|refine bt (fun hc=>?_) fun hc=>?_)<;>(try simp only[hc,bs,↓reduceIte]at h)<;>try simp only[hc]
 |(with_reducible refine aJ hQ ?_;(try cases h);simp only[bh,bk,bO,bP,go_sem,hD,gA,gB,gC,w1,w2,d1];try exact cJ))
def Pc.fX (n:Nat):List Pc→Bool
 | []=>true
 |f::l=>
  if decide ((f.params.length:Int) > 8) ||decide ((f.vars.length:Int) > 16) || !(isName f.name) || !(fh f.vars) || !(fh f.fin)then false
  else if !(Pm.gL f.params)then false
  else if !(Sm.iK 1 n f.body).1 then false
  else Pc.fX (Sm.iK 1 n f.body).2 l
def Pg.Jx (p:Pg):Bool:=
 if decide ((p.globals.length:Int) > 16) ||decide ((p.procs.length:Int) > 16) || !(fh p.globals)then false
 else Pc.fX 0 p.procs
structure Pg.EO (p:Pg):Prop where
 sz:p.size<4611686018427387000
 sA : ∀ t∈p.globals,t.length<4611686018427387904
 ja : ∀ f∈p.procs,f.name.length<4611686018427387904∧(∀ t∈f.vars,t.length<4611686018427387904)∧(∀ t∈f.fin,t.length<4611686018427387904)∧∀ a∈f.params,a.name.length<4611686018427387904
 body : ∀ f∈p.procs,Sm.gn f.body
theorem HP {p:Pg} (hf:p.EO) (s:St):aH Tryz.prog q6 [.agg (bV p)] s (.bool p.Jx) s:=by
 refine aH.pure ?_ (by simp only[D.bM,D.ok,jj];rfl) rfl s
 obtain⟨dU,sR,ahQ,EC⟩:=hf
 have p7:Pc.aU p.procs<4611686018427387000:=by simp only[Pg.size]at dU;omega
 have ame:p.globals.length<4611686018427387904:=by simp only[Pg.size]at dU;omega
 have aBJ:p.procs.length<4611686018427387904:=by have:=Pc.dR p.procs;omega
 have hg:=fun s=>BP ame sR s
 unfold S0
 generalize h:p.Jx=R
 unfold Pg.Jx at h
 refine aH.go M7 rfl fun B Q hB hQ=>?_
 have⟨hD,gA,gB,gC⟩:=bX
 repeat' (first
 |simp only[go_sem,hD,gA,gB,gC]
 |(with_reducible refine CU (hg _) ?_)
 |(with_reducible first|refine bq fun hc=>?_|refine br fun hc=>?_|refine bt (fun hc=>?_) fun hc=>?_)<;>(try simp only[hc,bs,↓reduceIte]at h)<;>try simp only[hc]
 |(with_reducible refine aJ hQ ?_;exact fU))
 refine fI 2 0 (bp.ind (ι:=List Pc×Nat×Nat) (fun i=>p.procs.drop i.2.1=i.1∧Pc.fX i.2.2 i.1=R∧i.2.2≤200) (fun i=>i.1.length)
  (fun i=> [(1, .ptr 0 0),(3, .ptr 1 0),(27, .slice .shared 5 (p.procs.map bS)),(28, .int .i64 (p.procs.length:Int)),(29, .int .i64 (i.2.1:Int))]) (fun i=>⟨[bV p,[.int .i64 (i.2.2:Int)]],[]⟩) ?_ (p.procs,0,0) ⟨rfl,h,Nat.zero_le _⟩)
 rintro⟨rest,k,n⟩ ⟨h1,h,hn⟩ IH
 dsimp only at h1 h hn
 cases rest with
 |nil=>
  have hD:=drop_nil h1
  simp only[Pc.fX]at h
  repeat' (first
 |simp only[go_sem,hD,gA,gB,gC]
 |(with_reducible first|refine bq fun hc=>?_|refine br fun hc=>?_|refine bt (fun hc=>?_) fun hc=>?_)<;>(try simp only[hc,bs,↓reduceIte]at h)<;>try simp only[hc]
 |(with_reducible refine aJ hQ ?_;exact fU))
 |cons f rest=>
  obtain⟨gA,g2,hD,g4⟩:=drop_cons h1
  have ct:k<4611686018427387904:=by omega
  have iO:=List.mem_of_getElem? gA
  have CO:=Pc.cZ iO
  simp only[Pc.size]at CO
  obtain⟨CP,hfv,hff,V7⟩:=ahQ f iO
  have hnm:=DV f.name CP
  have hv:=fun s=>BP (by omega) hfv s
  have he:=fun s=>BP (by omega) hff s
  have hb:=fun s' o ho=>(aeo _ f.body (Nat.le_refl _) (by omega) (EC f iO) 1 n (by omega) (by omega) hn).X7 (s:=s') (o:=o) (by simp[D.bM,D.ok,l8,Tag.ok]) rfl rfl rfl ho
  have hle:=Jw (nest:=1) (l:=f.body) hn
  simp only[Pc.fX]at h
  repeat' (first
 |simp only[go_sem,hD,gA,gB,gC]
 |(with_reducible refine CU (hnm _) ?_)
 |(with_reducible refine CU (hv _) ?_)
 |(with_reducible refine CU (he _) ?_)
 |(with_reducible first|refine bq fun hc=>?_|refine br fun hc=>?_|refine bt (fun hc=>?_) fun hc=>?_)<;>(try simp only[hc,bs,↓reduceIte]at h)<;>try simp only[hc]
 |(with_reducible refine aJ hQ ?_;exact fU)
 | (cases h;done))
  refine fI 3 0 (bp.ind (ι:=List Pm×Nat) (fun i=>f.params.drop i.2=i.1∧(if !(Pm.gL i.1)then false else if !(Sm.iK 1 n f.body).1 then false else Pc.fX (Sm.iK 1 n f.body).2 rest)=R) (fun i=>i.1.length)
   (fun i=> [(1, .ptr 0 0),(3, .ptr 1 0),(5, .ptr 2 0),(27, .slice .shared 5 (p.procs.map bS)),(28, .int .i64 (p.procs.length:Int)),(29, .int .i64 (k:Int)),(62, .slice .shared 2 (f.params.map iW)),(63, .int .i64 (f.params.length:Int)),(64, .int .i64 (i.2:Int))]) (fun i=>⟨[bV p,[.int .i64 (n:Int)],bS f],[]⟩) ?_ (f.params,0) ⟨rfl,h⟩)
  rintro⟨Tl,j⟩ ⟨j1,h⟩ HQ
  dsimp only at j1 h
  cases Tl with
  |nil=>
   have hD:=drop_nil j1
   simp only[Pm.gL,Bool.not_true,Bool.false_eq_true,↓reduceIte]at h
   repeat' (first
 |simp only[go_sem,hD,gA,gB,gC]
 |(with_reducible refine CU (hb _ _ rfl) ?_)
 |(with_reducible first|refine bq fun hc=>?_|refine br fun hc=>?_|refine bt (fun hc=>?_) fun hc=>?_)<;>(try simp only[hc,bs,↓reduceIte]at h)<;>try simp only[hc]
 |(with_reducible refine aJ hQ ?_;exact fU)
 | (cases h;done))
   refine fm 2 0 ?_ ?_ (IH (rest,k+1,(Sm.iK 1 n f.body).2) ⟨g2,h,hle.2 (by assumption)⟩ (Nat.lt_succ_self _))
   ·(simp only[go_sem,hD,gA,gB,gC,aM ct];try exact cd)
   ·(simp only[go_sem,hD,gA,gB,gC,aM ct];try exact cd)
  |cons a Tl=>
   obtain⟨gA,b2,hD,b4⟩:=drop_cons j1
   have V6:j<4611686018427387904:=by omega
   have ha:=DV a.name (V7 a (List.mem_of_getElem? gA))
   simp only[Pm.gL]at h
   repeat' (first
 |simp only[go_sem,hD,gA,gB,gC]
 |(with_reducible refine CU (ha _) ?_)
 |(with_reducible first|refine bq fun hc=>?_|refine br fun hc=>?_|refine bt (fun hc=>?_) fun hc=>?_)<;>(try simp only[hc,bs,↓reduceIte]at h)<;>try simp only[hc]
 |(with_reducible refine aJ hQ ?_;exact fU)
 | (cases h;done))
   refine fm 3 0 ?_ ?_ (HQ (Tl,j+1) ⟨b2,h⟩ (Nat.lt_succ_self _))
   ·(simp only[go_sem,hD,gA,gB,gC,aM V6];try exact cd)
   ·(simp only[go_sem,hD,gA,gB,gC,aM V6];try exact cd)
theorem BR {s:aK} (h:isName s=true):s.length≤8:=by
 cases s with
 |nil=>simp
 | cons c r=>
  simp only[isName]at h
  split at h
  ·cases h
  ·rename_i hc
   simp only[Bool.or_eq_true,decide_eq_true_eq,not_or]at hc
   simp only[List.length_cons];omega
theorem qP {t:aK} : ∀ {l:List aK},fh l=true→t∈l→isName t=true
 | s::l,h,m=>by
  simp only[fh]at h
  cases hs:isName s
  ·simp[hs]at h
  ·simp [hs]at h
   rcases List.mem_cons.1 m with rfl|m
   ·exact hs
   ·exact qP h m
theorem Nn {a:Ar} : ∀ {l:List Ar},Ar.gL l=true→a∈l→a.may=true
 | s::l,h,m=>by
  simp only[Ar.gL]at h
  cases hs:s.may
  ·simp[hs]at h
  ·simp [hs]at h
   rcases List.mem_cons.1 m with rfl|m
   ·exact hs
   ·exact Nn h m
theorem Ke {a:Pm} : ∀ {l:List Pm},Pm.gL l=true→a∈l→isName a.name=true
 | s::l,h,m=>by
  simp only[Pm.gL]at h
  cases hs:isName s.name
  ·simp[hs]at h
  ·simp [hs]at h
   rcases List.mem_cons.1 m with rfl|m
   ·exact hs
   ·exact Ke h m
mutual
theorem HR : ∀ x:Ex,x.form=true→x.texts
 | ⟨op,n,name,kids⟩,h=>by
  simp only[Ex.form]at h
  split at h
  ·cases h
  ·rename_i hc
   refine⟨?_,Fz kids h⟩
   simp only[Bool.or_eq_true,Bool.and_eq_true,Bool.not_eq_true',not_or,not_and,Bool.not_eq_false]at hc
   cases hn:(name == [])
   ·have:=BR (hc.2 hn);omega
   ·simp at hn;subst hn;simp
theorem Fz : ∀ l:List Ex,Ex.vk l=true→Ex.xN l
 | [],_=>trivial
 | x::l,h=>by
  simp only[Ex.vk]at h
  cases hx:x.form
  ·simp[hx]at h
  ·simp [hx]at h
   exact⟨HR x hx,Fz l h⟩
end
theorem Kf {x:Ex} (h:x.may=true):x.texts:=by
 unfold Ex.may at h
 simp only[Bool.and_eq_true]at h
 exact HR x h.2
theorem HS {x:Ex} (h:x.none=true):x.texts:=by
 obtain⟨op,n,name,kids⟩:=x
 simp[Ex.none]at h
 obtain⟨⟨_,h1⟩,h2⟩:=h
 subst h1 h2
 exact⟨by simp,trivial⟩
mutual
theorem V8 {deep db:Int} {aN:Bool} {out:List It} {i:It} : ∀ s:Sm,i∈jR deep db aN out s→i∈out∨i.s.size≤s.size
 | ⟨id,kind,labels,name,proc,x,has,args,aQ,e⟩,h=>by
  simp only[jR]at h
  have key:i∈out++ [(⟨⟨id,kind,labels,name,proc,x,has,args,aQ,e⟩,deep,db,aN⟩:It)]→i∈out∨i.s.size≤(⟨id,kind,labels,name,proc,x,has,args,aQ,e⟩:Sm).size:=by
   intro h
   rcases List.mem_append.1 h with h|h
   ·exact .inl h
   ·simp at h;subst h;exact .inr (Nat.le_refl _)
  split at h
  ·rcases yT e h with h | h
   ·rcases yT aQ h with h | h
    ·exact key h
    ·right;simp only[Sm.size];omega
   ·right;simp only[Sm.size];omega
  ·exact key h
theorem yT {deep db:Int} {aN:Bool} {out:List It} {i:It} : ∀ l:List Sm,i∈eW deep db aN out l→i∈out∨i.s.size<Sm.aU l
 | [],h=>by simp only[eW]at h;exact .inl h
 | s::l,h=>by
  simp only[eW]at h
  split at h
  ·rcases yT l h with h | h
   ·rcases V8 s h with h | h
    ·exact .inl h
    ·right;simp only[Sm.aU];omega
   ·right;simp only[Sm.aU];omega
  ·exact .inl h
end
theorem No {i:It} : ∀ (l:List Pc) (out:List It),i∈allM out l→i∈out∨i.s.size<Pc.aU l
 | [],out,h=>by simp only[allM]at h;exact .inl h
 | f::l,out,h=>by
  have key:i∈out++f.flat→i∈out∨i.s.size<Pc.aU (f::l):=by
   intro h
   rcases List.mem_append.1 h with h|h
   ·exact .inl h
   ·rcases yT _ h with h | h
    ·simp at h
    ·right;simp only[Pc.aU,Pc.size];omega
  simp only[allM]at h
  split at h
  ·exact key h
  ·rcases No l _ h with h | h
   ·exact key h
   ·right;simp only[Pc.aU];omega
theorem HT {i:It} : ∀ (l:List It) (n:Nat),It.gL n l=true→i∈l→i.s.one=true
 | s::l,n,h,m=>by
  simp only[It.gL]at h
  split at h
  ·cases h
  ·rename_i hc
   simp only[Bool.or_eq_true,Bool.not_eq_true',not_or,Bool.not_eq_false]at hc
   rcases List.mem_cons.1 m with rfl|m
   ·exact hc.2
   ·exact HT l (n+1) h m
theorem Np {s:Sm} (h:s.one=true) (hs:s.size<4611686018427387000):s.wx:=by
 unfold Sm.one at h
 split at h
 ·cases h
 split at h
 ·cases h
 split at h
 ·cases h
 split at h
 ·cases h
 rename_i c1 c2 c3 c4
 simp only[Bool.or_eq_true,Bool.and_eq_true,Bool.not_eq_true',not_or,not_and,Bool.not_eq_false,decide_eq_true_eq]at c1 c2 c3 c4
 obtain⟨⟨⟨⟨⟨_,_⟩,atM⟩,cx⟩,cn⟩,_⟩:=c1
 obtain⟨c21,c22⟩:=c2
 obtain⟨⟨c31,c32⟩,c33⟩:=c3
 have nm : ∀ {t:aK},isName t=true→t.length<4611686018427387904:=fun h=>by have:=BR h;omega
 have dU:1+s.labels.length+s.x.size+Ar.aU s.args≤s.size:=by cases s;simp only[Sm.size];omega
 have sO:=Ar.dR s.args
 refine⟨fun t ht=>nm (qP atM ht),by omega, ?_, ?_,by omega, ?_,by omega,fun a ha=>?_⟩
 ·cases hn:s.hasName
  ·cases he:(s.name == [])
   ·exact nm (c22 ⟨hn,he⟩).2
   ·simp at he;rw[he];simp
  ·exact nm (c21 hn)
 ·cases nu:s.A1
  ·rw [nu]at c31
   have:s.proc = []:=by simpa using c31
   rw[this];simp
  ·exact nm (c32 nu)
 ·cases hx:s.DS
  ·exact HS (cn hx)
  ·exact Kf (cx hx)
 ·have hm:=Nn c4 ha
  have hsa:=Ar.cZ ha
  unfold Ar.may at hm
  split at hm
  ·simp only [Bool.and_eq_true]at hm
   exact⟨by omega,HS hm.2,nm hm.1⟩
  ·simp only [Bool.and_eq_true,beq_iff_eq]at hm
   exact⟨by omega,Kf hm.2,by rw[hm.1];simp⟩
theorem Kg {f:Pc} : ∀ {l:List Pc},Pc.ja l=true→f∈l→isName f.name=true∧fh f.vars=true∧fh f.fin=true∧Pm.gL f.params=true
 |s::l,h,m=>by
  simp only[Pc.ja]at h
  split at h
  ·cases h
  split at h
  ·cases h
  rename_i c1 c2
  simp only[Bool.or_eq_true,Bool.not_eq_true',not_or,Bool.not_eq_false]at c1 c2
  rcases List.mem_cons.1 m with rfl|m
  ·exact⟨c1.1.1.1.1,c1.1.2,c1.2,c2⟩
  ·exact Kg h m
theorem ZN {p:Pg} (h:p.may=true) (hs:p.size<4611686018427387000):p.wx:=by
 unfold Pg.may at h
 split at h
 ·cases h
 split at h
 ·cases h
 split at h
 ·cases h
 rename_i c1 c2 c3
 simp only[Bool.or_eq_true,Bool.not_eq_true',not_or,Bool.not_eq_false]at c1 c2
 have nm : ∀ {t:aK},isName t=true→t.length<4611686018427387904:=fun h=>by have:=BR h;omega
 refine⟨hs,fun t ht=>nm (qP c1.2 ht),fun f hf=>?_,fun i hi=>?_⟩
 ·obtain⟨a,b,c,d⟩:=Kg c2 hf
  exact⟨nm a,fun t ht=>nm (qP b ht),fun t ht=>nm (qP c ht),fun t ht=>nm (Ke d ht)⟩
 ·refine Np (HT _ _ h hi) ?_
  rcases No _ _ hi with h1|h1
  ·simp at h1
  ·simp only[Pg.size]at hs;omega
theorem V9 {t:aK} (h:isName t=true):t≠ []:=by rintro rfl;cases h
theorem ZO (op n:Int) (name:aK) (kids:List Ex):Ex.form ⟨op,n,name,kids⟩=true↔
 p6 op=(kids.length:Int)∧(op=1∨n=0)∧0≤n∧(op=2↔name≠ [])∧(name = []∨isName name=true)∧Ex.vk kids=true:=by
 simp only[Ex.form]
 split
 ·rename_i h
  simp only[Bool.or_eq_true,Bool.and_eq_true,bne_iff_ne,ne_eq,decide_eq_true_eq,Bool.not_eq_true']at h
  refine⟨fun h=>(Bool.false_ne_true h).elim,fun⟨h1,h2,h3,h4,h5,_⟩=>?_⟩
  exfalso
  rcases h with (((h|h)|h)|h)|h
  ·exact h h1
  ·rcases h2 with h2 | h2
   ·exact h.1 h2
   ·exact h.2 h2
  ·omega
  ·by_cases h2:op=2<;>cases name<;>simp_all
  ·rcases h5 with h5 | h5
   ·subst h5;simp at h
   ·rw[h5]at h;simp at h
 ·rename_i h
  simp only[Bool.or_eq_true,Bool.and_eq_true,bne_iff_ne,ne_eq,decide_eq_true_eq,Bool.not_eq_true',not_or,not_and,Decidable.not_not,Bool.not_eq_false]at h
  obtain⟨⟨⟨⟨h1,h2⟩,h3⟩,h4⟩,h5⟩:=h
  refine⟨fun h=>⟨h1, ?_,by omega, ?_, ?_,h⟩,fun h=>h.2.2.2.2.2⟩
  ·by_cases h:op=1
   ·exact .inl h
   ·exact .inr (h2 h)
  ·by_cases h2:op=2<;>cases name<;>simp_all
  ·cases name with
   |nil=>exact .inl rfl
   |cons c r=>exact .inr (h5 rfl)
theorem Nq (op n:Int) (name:aK) (kids:List Ex) (k:Int):Ex.dp k ⟨op,n,name,kids⟩=true↔
 1≤k∧(kids.length:Int)=p6 op∧(if op=1 then 0≤n∧name = []else if op=2 then n=0∧isName name=true else n=0∧name = []∧Ex.DW (k - 1) kids=true):=by
 simp only[Ex.dp]
 split
 ·rename_i h
  simp only[Bool.or_eq_true,decide_eq_true_eq,bne_iff_ne,ne_eq]at h
  refine⟨fun h=>(Bool.false_ne_true h).elim,fun⟨h1,h2,_⟩=>?_⟩
  rcases h with h|h
  ·omega
  ·exact(h h2).elim
 rename_i h
 simp only[Bool.or_eq_true,decide_eq_true_eq,bne_iff_ne,ne_eq,not_or,Decidable.not_not]at h
 have h1:1≤k:=by omega
 simp only[h1,h.2,true_and]
 by_cases o1:op=1
 ·subst o1
  cases name<;>simp
 ·have o1' : ¬ (op==1)=true:=by simpa using o1
  rw[if_neg o1',if_neg o1]
  by_cases o2:op=2
  ·subst o2;simp
  ·have o2' : ¬ (op==2)=true:=by simpa using o2
   rw[if_neg o2',if_neg o2]
   by_cases hn:n=0
   ·subst hn
    cases name<;>simp
   ·simp[hn]
mutual
theorem acx : ∀ (x:Ex) (k:Int),0≤k→(x.dp k=true↔(x.depth:Int)≤k∧x.form=true)
 | ⟨op,n,name,kids⟩,k,hk=>by
  rw[Nq,ZO]
  have hd:Ex.depth ⟨op,n,name,kids⟩=Ex.rN kids+1:=by simp only[Ex.depth]
  rw[hd]
  by_cases h1:1≤k
  ·have ih:=Wa kids (k - 1) (by omega)
   by_cases o1:op=1
   ·subst o1
    have ha:p6 1=0:=rfl
    rw[ha,if_pos rfl]
    constructor
    ·rintro⟨_,h2,h3,h4⟩
     have:kids = []:=List.eq_nil_of_length_eq_zero (by omega)
     subst this;subst h4
     simp[Ex.rN,Ex.vk,h3];omega
    ·rintro⟨h2,h3,_,h4,h5,_⟩
     refine⟨h1,h3.symm,h4, ?_⟩
     cases name
     ·rfl
     ·simp at h5
   ·rw [if_neg o1]
    by_cases o2:op=2
    ·subst o2
     have ha:p6 2=0:=rfl
     rw[ha,if_pos rfl]
     constructor
     ·rintro⟨_,h2,h3,h4⟩
      have:kids = []:=List.eq_nil_of_length_eq_zero (by omega)
      subst this;subst h3
      have:=V9 h4
      simp[Ex.rN,Ex.vk,h4,this];omega
     ·rintro⟨h2,h3,h4,_,h5,h6,_⟩
      refine⟨h1,h3.symm,h4.resolve_left o1, ?_⟩
      exact h6.resolve_left (h5.1 rfl)
    ·rw [if_neg o2,ih]
     constructor
     ·rintro⟨_,h2,h3,h4,h5,h6⟩
      subst h3;subst h4
      exact⟨by omega,h2.symm, .inr rfl,Int.le_refl _,by simp[o2], .inl rfl,h6⟩
     ·rintro⟨h2,h3,h4,_,h5,h6,h7⟩
      refine⟨h1,h3.symm,h4.resolve_left o1, ?_,by omega,h7⟩
      exact Decidable.byContradiction fun h=>o2 (h5.2 h)
  ·constructor
   ·rintro⟨h,_⟩;exact(h1 h).elim
   ·rintro⟨h,_⟩;omega
theorem Wa : ∀ (l:List Ex) (k:Int),0≤k→(Ex.DW k l=true↔(Ex.rN l:Int)≤k∧Ex.vk l=true)
 | [],k,hk=>by simp[Ex.DW,Ex.rN,Ex.vk,hk]
 | x::l,k,hk=>by
  have h1:=acx x k hk
  have h2:=Wa l k hk
  have hd:Ex.rN (x::l)=max x.depth (Ex.rN l):=by simp only[Ex.rN]
  rw[hd]
  simp only[Ex.DW,Ex.vk]
  cases hx:Ex.dp k x
  ·simp only [Bool.not_false, ↓reduceIte,Bool.false_eq_true,false_iff,not_and]
   intro h3
   have : ¬ ((x.depth:Int)≤k∧x.form=true):=by rw[← h1,hx];simp
   have hf:x.form=false:=by
    cases hf:x.form
    ·rfl
    ·exact(this ⟨by omega,hf⟩).elim
   simp[hf]
  ·have:=h1.1 hx
   simp only[Bool.not_true,Bool.false_eq_true,↓reduceIte,this.2,h2]
   have h3:=this.1
   refine and_congr_left fun _=>?_
   omega
end
theorem HU (x:Ex):x.dp 20=x.may:=by
 rw[Bool.eq_iff_iff,acx x 20 (by omega)]
 unfold Ex.may
 simp only[Bool.and_eq_true,decide_eq_true_eq]
 refine and_congr_left fun _=>?_
 omega
theorem Kh (x:Ex) (b:Bool):xP x b=if b then x.may else x.none:=by
 unfold xP
 rw[HU]
 cases b<;>simp
theorem Ki (t:aK) (b:Bool):vO t b=if b then isName t else t == []:=by
 unfold vO
 cases b<;>simp
theorem FA : ∀ l:List Ar,q8 l=Ar.gL l
 | []=>rfl
 |a::l=>by
  simp only[q8,Ar.gL,Ar.may,Kh,Ki,FA l]
  grind
theorem Rs {α:Type} (l:List α):((l.length:Int)==0) = !(decide ((l.length:Int) > 0)):=by
 cases l with
 |nil=>rfl
 |cons a l=>
  have h1:(((a::l).length:Int)==0)=false:=by simp only[List.length_cons,beq_eq_false_iff_ne];omega
  have h2:decide (((a::l).length:Int) > 0)=true:=by simp only[List.length_cons,decide_eq_true_eq];omega
  rw[h1,h2];rfl
theorem HV (s:Sm):s.one=(fh s.labels && s.fields):=by
 have hk:s.kind=1∨s.kind=2∨s.kind=3∨s.kind=4∨s.kind=5∨s.kind=6∨s.kind=7∨s.kind=8∨s.kind=9∨s.kind=10∨s.kind<1∨s.kind > 10:=by omega
 unfold Sm.one Sm.fields Sm.flags Sm.DS Sm.hasName Sm.A1
 have p1:isName [] = false:=rfl
 rcases hk with h|h|h|h|h|h|h|h|h|h|h|h
 all_goals
  simp only[h,Rs,FA,Kh,Ki,Sm.LJ,Sm.LI]
  grind
mutual
def Ex.nD (out:List aK):Ex→List aK
 |⟨op,_,name,kids⟩=>Ex.my (if op==2 && !(fG out name)then out++ [name]else out) kids
def Ex.my (out:List aK):List Ex→List aK
 | []=>out
 |x::l=>Ex.my (Ex.nD out x) l
end
def Ex.names (x:Ex):List aK:=if x.may then x.nD []else []
mutual
theorem uP (out:List aK) : ∀ x:Ex,(Ex.nD out x).length≤out.length+x.size
 |⟨op,n,name,kids⟩=>by
  simp only[Ex.nD,Ex.size]
  have h:=Kj (if op==2 && !(fG out name)then out++ [name]else out) kids
  refine Nat.le_trans h ?_
  split<;>simp<;>omega
theorem Kj (out:List aK) : ∀ l:List Ex,(Ex.my out l).length≤out.length+Ex.aU l
 | []=>by simp[Ex.my,Ex.aU]
 |x::l=>by
  simp only[Ex.my,Ex.aU]
  have h1:=uP out x
  have h2:=Kj (Ex.nD out x) l
  omega
end
def vl (out:List aK) (x:aK):List aK:=if fG out x then out else out++ [x]
def amf (x:aK):List aK→Bool
 | []=>false
 |s::l=>if s==x then true else amf x l
abbrev Wb (N:Nat):Prop:=∀ (x:Ex),x.size≤N→∀ out:List aK,out.length+x.size≤1000000000→∀ {s:St} {t:Nat},s.aA[t]? = some (some out.length)→
 aH Tryz.prog jQ [.agg (cb x), .slice (.tok t) 1 (out.map encStr)] s (.slice (.tok t) 1 ((x.nD out).map encStr)) ⟨s.al,s.aA.set t (some (x.nD out).length)⟩
theorem ahT {N:Nat} (ih:Wb N) {op m:Int} {name:aK} {kids:List Ex} (h:Ex.size ⟨op,m,name,kids⟩≤N+1) {out:List aK} (ho:out.length+Ex.size ⟨op,m,name,kids⟩≤1000000000) :
 aH Tryz.prog jQ [.agg (cb ⟨op,m,name,kids⟩), .slice (.tok 0) 1 (out.map encStr)] ⟨[],[some out.length]⟩ (.slice (.tok 0) 1 ((Ex.nD out ⟨op,m,name,kids⟩).map encStr)) ⟨[],[some (Ex.nD out ⟨op,m,name,kids⟩).length]⟩:=by
 obtain⟨R,hG⟩ : ∃ R,Ex.nD out ⟨op,m,name,kids⟩=R:=⟨_,rfl⟩
 rw[hG]
 simp only[Ex.nD]at hG
 simp only[Ex.size]at h ho
 have hlen:kids.length<1000000000:=by have:=Ex.dR kids;omega
 have hk : ∀ y∈kids,∀ out:List aK,out.length+y.size≤1000000000→∀ {s:St} {t:Nat},s.aA[t]? = some (some out.length)→
  aH Tryz.prog jQ [.agg (cb y), .slice (.tok t) 1 (out.map encStr)] s (.slice (.tok t) 1 ((y.nD out).map encStr)) ⟨s.al,s.aA.set t (some (y.nD out).length)⟩:=fun y hy out ho=>
  ih y (by have:=Ex.cZ hy;omega) out ho
 refine aH.go tH rfl fun B Q hB hQ=>?_
 have⟨hD,gA,gB,gC⟩:=bX
 have gB:(out.length+1)*17≤bD:=by unfold bD;omega
 rcases Bool.eq_false_or_eq_true (op==2)with b1|b1
 ·rcases Bool.eq_false_or_eq_true (fG out name)with b2 | b2
  ·simp only [b1,b2,Bool.not_true,Bool.and_false,Bool.false_eq_true,if_false]at hG
   repeat' (first
 |simp only[go_sem,hD,gA,gB,gC,b1,b2]
 |(with_reducible refine CU (kI (l:=out) (by omega) name _ _) ?_)
 | (with_reducible refine aJ hQ ?_;exact bA))
   refine fI 1 1 (bp.ind (ι:=List Ex×Nat×List aK×Nat) (fun i=>kids.drop i.2.1=i.1∧Ex.my i.2.2.1 i.1=R∧i.2.2.1.length+Ex.aU i.1≤1000000000∧i.2.2.2=i.2.2.1.length) (fun i=>i.1.length)
    (fun i=> [(1, .slice (.tok 0) 1 (i.2.2.1.map encStr)),(2, .ptr 0 0),(23, .slice .shared 4 (kids.map cb)),(24, .int .i64 (kids.length:Int)),(25, .int .i64 (i.2.1:Int))]) (fun i=>⟨[cb ⟨op,m,name,kids⟩],[some i.2.2.2]⟩) ?_ (kids,0,out,out.length) ⟨rfl,hG,by simp;omega,by simp⟩)
   rintro⟨rest,k,dg,n'⟩ ⟨h1,h2,h3,h4⟩ IH
   dsimp only at h1 h2 h3 h4
   subst h4
   cases rest with
   |nil=>
    have hD:=drop_nil h1
    simp only[Ex.my]at h2
    subst h2
    repeat' (first
 |simp only[go_sem,hD,gA,gB,gC]
 | (with_reducible refine aJ hQ ?_;exact bA))
   |cons y rest=>
    obtain⟨gA,g2,hD,g4⟩:=drop_cons h1
    have ct:k<4611686018427387904:=by omega
    simp only[Ex.my]at h2
    simp only[Ex.aU]at h3
    have hy:=fun {s:St} {t:Nat} (ht:s.aA[t]? = some (some dg.length))=>hk y (List.mem_of_getElem? gA) dg (by omega) ht
    have hl:=uP dg y
    repeat' (first
 |simp only[go_sem,hD,gA,gB,gC]
 |(with_reducible refine CU (hy (by with_unfolding_all rfl)) ?_)
 | (with_reducible refine aJ hQ ?_;exact bA))
    refine fm 1 1 ?_ ?_ (IH (rest,k+1,_,_) ⟨g2,h2,by dsimp only;omega,rfl⟩ (Nat.lt_succ_self _))
    ·(simp only[go_sem,hD,gA,gB,gC,aM ct];try exact cd)
    ·(simp only[go_sem,hD,gA,gB,gC,aM ct];try exact cd)
  ·simp only [b1,b2,Bool.not_false,Bool.and_true,if_true]at hG
   repeat' (first
 |simp only[go_sem,hD,gA,gB,gC,b1,b2]
 |(with_reducible refine CU (kI (l:=out) (by omega) name _ _) ?_)
 | (with_reducible refine aJ hQ ?_;exact bA))
   refine fm 1 1 ?_ ?_ (bp.ind (ι:=List Ex×Nat×List aK×Nat) (fun i=>kids.drop i.2.1=i.1∧Ex.my i.2.2.1 i.1=R∧i.2.2.1.length+Ex.aU i.1≤1000000000∧i.2.2.2=i.2.2.1.length) (fun i=>i.1.length)
    (fun i=> [(1, .slice (.tok 0) 1 (i.2.2.1.map encStr)),(2, .ptr 0 0),(23, .slice .shared 4 (kids.map cb)),(24, .int .i64 (kids.length:Int)),(25, .int .i64 (i.2.1:Int))]) (fun i=>⟨[cb ⟨op,m,name,kids⟩],[some i.2.2.2]⟩) ?_ (kids,0,(out++ [name]),(out.length+1)) ⟨rfl,hG,by simp;omega,by simp⟩)
   ·(simp only[go_sem,hD,gA,gB,gC,List.map_append,List.map_cons,List.map_nil,List.length_append,List.length_cons,List.length_nil,encStr];try exact cd)
   ·(simp only[go_sem,hD,gA,gB,gC,List.map_append,List.map_cons,List.map_nil,List.length_append,List.length_cons,List.length_nil,encStr];try exact cd)
   rintro⟨rest,k,dg,n'⟩ ⟨h1,h2,h3,h4⟩ IH
   dsimp only at h1 h2 h3 h4
   subst h4
   cases rest with
   |nil=>
    have hD:=drop_nil h1
    simp only[Ex.my]at h2
    subst h2
    repeat' (first
 |simp only[go_sem,hD,gA,gB,gC]
 | (with_reducible refine aJ hQ ?_;exact bA))
   |cons y rest=>
    obtain⟨gA,g2,hD,g4⟩:=drop_cons h1
    have ct:k<4611686018427387904:=by omega
    simp only[Ex.my]at h2
    simp only[Ex.aU]at h3
    have hy:=fun {s:St} {t:Nat} (ht:s.aA[t]? = some (some dg.length))=>hk y (List.mem_of_getElem? gA) dg (by omega) ht
    have hl:=uP dg y
    repeat' (first
 |simp only[go_sem,hD,gA,gB,gC]
 |(with_reducible refine CU (hy (by with_unfolding_all rfl)) ?_)
 | (with_reducible refine aJ hQ ?_;exact bA))
    refine fm 1 1 ?_ ?_ (IH (rest,k+1,_,_) ⟨g2,h2,by dsimp only;omega,rfl⟩ (Nat.lt_succ_self _))
    ·(simp only[go_sem,hD,gA,gB,gC,aM ct];try exact cd)
    ·(simp only[go_sem,hD,gA,gB,gC,aM ct];try exact cd)
 ·simp only [b1,Bool.false_and,Bool.false_eq_true,if_false]at hG
  repeat' (first
 |simp only[go_sem,hD,gA,gB,gC,b1]
 | (with_reducible refine aJ hQ ?_;exact bA))
  refine fI 1 1 (bp.ind (ι:=List Ex×Nat×List aK×Nat) (fun i=>kids.drop i.2.1=i.1∧Ex.my i.2.2.1 i.1=R∧i.2.2.1.length+Ex.aU i.1≤1000000000∧i.2.2.2=i.2.2.1.length) (fun i=>i.1.length)
   (fun i=> [(1, .slice (.tok 0) 1 (i.2.2.1.map encStr)),(2, .ptr 0 0),(23, .slice .shared 4 (kids.map cb)),(24, .int .i64 (kids.length:Int)),(25, .int .i64 (i.2.1:Int))]) (fun i=>⟨[cb ⟨op,m,name,kids⟩],[some i.2.2.2]⟩) ?_ (kids,0,out,out.length) ⟨rfl,hG,by simp;omega,by simp⟩)
  rintro⟨rest,k,dg,n'⟩ ⟨h1,h2,h3,h4⟩ IH
  dsimp only at h1 h2 h3 h4
  subst h4
  cases rest with
  |nil=>
   have hD:=drop_nil h1
   simp only[Ex.my]at h2
   subst h2
   repeat' (first
 |simp only[go_sem,hD,gA,gB,gC]
 | (with_reducible refine aJ hQ ?_;exact bA))
  |cons y rest=>
   obtain⟨gA,g2,hD,g4⟩:=drop_cons h1
   have ct:k<4611686018427387904:=by omega
   simp only[Ex.my]at h2
   simp only[Ex.aU]at h3
   have hy:=fun {s:St} {t:Nat} (ht:s.aA[t]? = some (some dg.length))=>hk y (List.mem_of_getElem? gA) dg (by omega) ht
   have hl:=uP dg y
   repeat' (first
 |simp only[go_sem,hD,gA,gB,gC]
 |(with_reducible refine CU (hy (by with_unfolding_all rfl)) ?_)
 | (with_reducible refine aJ hQ ?_;exact bA))
   refine fm 1 1 ?_ ?_ (IH (rest,k+1,_,_) ⟨g2,h2,by dsimp only;omega,rfl⟩ (Nat.lt_succ_self _))
   ·(simp only[go_sem,hD,gA,gB,gC,aM ct];try exact cd)
   ·(simp only[go_sem,hD,gA,gB,gC,aM ct];try exact cd)
theorem ZP : ∀ N,Wb N:=by
 intro N
 induction N with
 |zero=>rintro⟨op,m,name,kids⟩ h;simp only[Ex.size]at h;omega
 |succ N ih=>
  rintro⟨op,m,name,kids⟩ h out ho s t ht
  exact(ahT ih h ho).af0 (pre:= [_]) (post:= []) (by simp only[D.bM,D.ok,lE];rfl) rfl (fL out) (fL _) ht
abbrev auE (N:Nat):Prop:=∀ (x:Ex),x.size≤N→∀ out:List aK,out.length+x.size≤1000000000→∀ {s:St} {t:Nat},s.aA[t]? = some (some out.length)→
 aH Tryz.prog Pl [.agg (cb x), .slice (.tok t) 1 (out.map encStr)] s (.slice (.tok t) 1 ((x.nD out).map encStr)) ⟨s.al,s.aA.set t (some (x.nD out).length)⟩
theorem Wc {op m:Int} {name:aK} {kids:List Ex} (h:Ex.form ⟨op,m,name,kids⟩=true) (h2:(op==2)=true):kids = []:=by
 have e:op=2:=by simpa using h2
 subst e
 simp only[Ex.form]at h
 split at h
 ·cases h
 ·rename_i hh
  simp only[Bool.or_eq_true,not_or,bne_iff_ne,ne_eq,Decidable.not_not]at hh
  have:=hh.1.1.1.1
  have e:p6 2=0:=rfl
  rw[e]at this
  exact List.length_eq_zero_iff.1 (by omega)
theorem ZQ {op m:Int} {name:aK} {kids:List Ex} (hf:(op==2)=true→kids = []) (ho:Ex.size ⟨op,m,name,kids⟩≤1000000000) (s:St) :
 aH Tryz.prog jQ [.agg (cb ⟨op,m,name,kids⟩), .slice .full 0 []] s (.slice .shared 1 ((Ex.nD [] ⟨op,m,name,kids⟩).map encStr)) s:=by
 refine aH.pure ?_ (by simp only[D.bM,D.ok,lE];rfl) (by simp only[D.ok,Tag.ok,fL];rfl) s
 obtain⟨R,hG⟩ : ∃ R,Ex.nD [] ⟨op,m,name,kids⟩=R:=⟨_,rfl⟩
 rw[hG]
 simp only[Ex.nD]at hG
 simp only[Ex.size]at ho
 have hlen:kids.length<1000000000:=by have:=Ex.dR kids;omega
 have hk : ∀ y∈kids,∀ out:List aK,out.length+y.size≤1000000000→∀ {s:St} {t:Nat},s.aA[t]? = some (some out.length)→
  aH Tryz.prog jQ [.agg (cb y), .slice (.tok t) 1 (out.map encStr)] s (.slice (.tok t) 1 ((y.nD out).map encStr)) ⟨s.al,s.aA.set t (some (y.nD out).length)⟩:=fun y hy out ho=>
  ZP y.size y (Nat.le_refl _) out ho
 unfold S0
 rcases Bool.eq_false_or_eq_true (op==2)with b1|b1
 ·have hk0:=hf b1
  subst hk0
  have e:fG [] name=false:=rfl
  simp only[b1,e,Bool.not_false,Bool.and_true,if_true,Ex.my,List.nil_append]at hG
  subst hG
  refine aH.go tH rfl fun B Q hB hQ=>?_
  have⟨hD,gA,gB,gC⟩:=bX
  have gB:17≤bD:=by unfold bD;omega
  repeat' (first
 |simp only[go_sem,hD,gA,gB,gC,b1,List.map_nil,List.map_cons,List.length_nil,encStr,Int.natCast_zero,Int.lt_irrefl,decide_false]
 |(with_reducible refine CU (Nk name _ _ _) ?_)
 |(with_reducible refine bp.ki ?_)
 |(with_reducible refine aJ hQ ?_;exact bA))
 ·simp only [b1,Bool.false_and,Bool.false_eq_true,if_false]at hG
  refine aH.go tH rfl fun B Q hB hQ=>?_
  have⟨hD,gA,gB,gC⟩:=bX
  repeat' (first
 |simp only[go_sem,hD,gA,gB,gC,b1]
 | (with_reducible refine aJ hQ ?_;exact bA))
  refine bp.rD 1 1 rfl ?_
  simp only[go_sem,hD,gA,gB,gC]
  refine fI 1 1 (bp.ind (ι:=List Ex×Nat×List aK×Nat) (fun i=>kids.drop i.2.1=i.1∧Ex.my i.2.2.1 i.1=R∧i.2.2.1.length+Ex.aU i.1≤1000000000∧i.2.2.2=i.2.2.1.length) (fun i=>i.1.length)
   (fun i=> [(1, .slice (.tok 0) 1 (i.2.2.1.map encStr)),(2, .ptr 0 0),(23, .slice .shared 4 (kids.map cb)),(24, .int .i64 (kids.length:Int)),(25, .int .i64 (i.2.1:Int))]) (fun i=>⟨[cb ⟨op,m,name,kids⟩],[some i.2.2.2]⟩) ?_ (kids,0,[],0) ⟨rfl,hG,by simp;omega,by simp⟩)
  rintro⟨rest,k,dg,n'⟩ ⟨h1,h2,h3,h4⟩ IH
  dsimp only at h1 h2 h3 h4
  subst h4
  cases rest with
  |nil=>
   have hD:=drop_nil h1
   simp only[Ex.my]at h2
   subst h2
   repeat' (first
 |simp only[go_sem,hD,gA,gB,gC]
 | (with_reducible refine aJ hQ ?_;exact bA))
  |cons y rest=>
   obtain⟨gA,g2,hD,g4⟩:=drop_cons h1
   have ct:k<4611686018427387904:=by omega
   simp only[Ex.my]at h2
   simp only[Ex.aU]at h3
   have hy:=fun {s:St} {t:Nat} (ht:s.aA[t]? = some (some dg.length))=>hk y (List.mem_of_getElem? gA) dg (by omega) ht
   have hl:=uP dg y
   repeat' (first
 |simp only[go_sem,hD,gA,gB,gC]
 |(with_reducible refine CU (hy (by with_unfolding_all rfl)) ?_)
 | (with_reducible refine aJ hQ ?_;exact bA))
   refine fm 1 1 ?_ ?_ (IH (rest,k+1,_,_) ⟨g2,h2,by dsimp only;omega,rfl⟩ (Nat.lt_succ_self _))
   ·(simp only[go_sem,hD,gA,gB,gC,aM ct];try exact cd)
   ·(simp only[go_sem,hD,gA,gB,gC,aM ct];try exact cd)
theorem oT {x:Ex} (hx:x.size≤1000000000) (ht:x.texts) (s:St):aH Tryz.prog tB [.agg (cb x)] s (.slice .shared 1 (x.names.map encStr)) s:=by
 refine aH.pure ?_ (by simp only[D.bM,D.ok,lE];rfl) (by simp only[D.ok,Tag.ok,fL];rfl) s
 have hm:=fun s=>BQ (x:=x) (by omega) ht s
 simp only[HU]at hm
 unfold Ex.names
 unfold S0
 cases hb:x.may
 ·simp only [hb]at hm
  simp only[Bool.false_eq_true,if_false,List.map_nil]
  refine aH.go AW rfl fun B Q hB hQ=>?_
  have⟨hD,gA,gB,gC⟩:=bX
  repeat' (first
 |simp only[go_sem,hD,gA,gB,gC]
 |(with_reducible refine CU (hm _) ?_)
 |(with_reducible refine aJ hQ ?_;exact bA))
 ·simp only [hb]at hm
  simp only[if_true]
  have hg : ∀ s,aH Tryz.prog jQ [.agg (cb x), .slice .full 0 []] s (.slice .shared 1 ((x.nD []).map encStr)) s:=by
   intro s
   obtain⟨op,m,name,kids⟩:=x
   exact ZQ (fun h2=>Wc (by simp only[Ex.may,Bool.and_eq_true]at hb;exact hb.2) h2) hx s
  refine aH.go AW rfl fun B Q hB hQ=>?_
  have⟨hD,gA,gB,gC⟩:=bX
  repeat' (first
 |simp only[go_sem,hD,gA,gB,gC]
 |(with_reducible refine CU (hm _) ?_)
 |(with_reducible refine CU (hg _) ?_)
 |(with_reducible refine aJ hQ ?_;exact bA))
def Ar.said (out:List aK):List Ar→List aK
 | []=>out
 |a::l=>Ar.said ((if a.ref then out++ [a.name]else out)++a.x.names) l
def Sm.vm (v:Sm):List aK:=if v.kind != 10 && v.name != []then [v.name]else []
def Sm.said (v:Sm):List aK:=Ar.said (v.vm++v.x.names) v.args
theorem mH (x:Ex):x.names.length≤x.size:=by
 unfold Ex.names
 split
 ·simpa using uP [] x
 ·exact Nat.zero_le _
def Ar.xN:List Ar→Prop
 | []=>True
 |a::l=>a.x.texts∧Ar.xN l
def Sm.oU (v:Sm):Prop:=v.x.texts∧(∀ a∈v.args,a.x.texts)∧v.x.size+Ar.aU v.args<1000000
theorem lU {l nx:List aK} {n:Nat} (hn:n=l.length) (h:l.length+nx.length≤1000000000) {g:Tag} (o:List (List D)) :
 jv 1 16 (.slice (.tok 0) 1 (l.map encStr)) (.slice g 1 (nx.map encStr)) ⟨o,[some n]⟩=some (.slice (.tok 0) 1 ((l++nx).map encStr),⟨o,[some (l++nx).length]⟩):=by
 subst hn
 have:=pH (size:=1) (bytes:=16) (t:=0) (rows:=l.map encStr) (new:=nx.map encStr) (g:=g) (s:=⟨o,[some l.length]⟩) (by simp only[List.length_map];unfold bD;omega) (by simp)
 rw[this]
 simp
theorem DX {v:Sm} (hv:v.oU) (s:St):aH Tryz.prog tz [.agg (bd v)] s (.slice .shared 1 (v.said.map encStr)) s:=by
 refine aH.pure ?_ (by simp only[D.bM,D.ok,qh];rfl) (by simp only[D.ok,Tag.ok,fL];rfl) s
 obtain⟨yU,vP,dU⟩:=hv
 obtain⟨R,hG⟩ : ∃ R,v.said=R:=⟨_,rfl⟩
 rw[hG]
 simp only[Sm.said]at hG
 have hlen:v.args.length<1000000000:=by have:=Ar.dR v.args;omega
 have hx:=fun s=>oT (x:=v.x) (by omega) yU s
 have P7:=mH v.x
 unfold S0
 refine aH.go Jl rfl fun B Q hB hQ=>?_
 have⟨hD,gA,gB,gC⟩:=bX
 have gB:17≤bD:=by unfold bD;omega
 by_cases hb:(v.kind != 10 && v.name != [])=true
 ·simp only [Sm.vm,hb,if_true]at hG
  rw[Bool.and_eq_true]at hb
  obtain⟨b1,b2⟩:=hb
  have fv:=lU (l:= [v.name]) (nx:=v.x.names) (n:=1) rfl (by simp;omega) (g:= .shared)
  simp only[List.map_append,List.map_cons,List.map_nil,encStr]at fv
  have b3:(v.name == [])=false:=by simpa using b2
  repeat' (first
 |simp only[go_sem,hD,gA,gB,gC,b1,b2,b3,fv]
 |(with_reducible refine CU (hx _) ?_)
 | (with_reducible refine aJ hQ ?_;exact bA))
  refine fm 1 1 ?_ ?_ (bp.ind (ι:=List Ar×Nat×List aK×Nat) (fun i=>v.args.drop i.2.1=i.1∧Ar.said i.2.2.1 i.1=R∧i.2.2.1.length+Ar.aU i.1≤2000000∧i.2.2.2=i.2.2.1.length) (fun i=>i.1.length)
   (fun i=> [(3, .slice (.tok 0) 1 (i.2.2.1.map encStr)),(1, .ptr 0 0),(25, .slice .shared 6 (v.args.map fi)),(26, .int .i64 (v.args.length:Int)),(27, .int .i64 (i.2.1:Int))]) (fun i=>⟨[bd v],[some i.2.2.2]⟩) ?_ (v.args,0,([v.name]++v.x.names),(v.x.names.length+1)) ⟨rfl,hG,by simp at P7 ⊢;omega,by simp⟩)
  ·(simp only[go_sem,hD,gA,gB,gC,List.map_append,List.map_cons,List.map_nil,encStr];try exact cd)
  ·(simp only[go_sem,hD,gA,gB,gC,List.map_append,List.map_cons,List.map_nil,encStr];try exact cd)
  rintro⟨rest,k,out,n'⟩ ⟨h1,h2,h3,h4⟩ IH
  dsimp only at h1 h2 h3 h4
  subst h4
  cases rest with
  |nil=>
   have hD:=drop_nil h1
   simp only[Ar.said]at h2
   subst h2
   repeat' (first
 |simp only[go_sem,hD,gA,gB,gC]
 | (with_reducible refine aJ hQ ?_;exact bA))
  | cons a rest=>
   obtain⟨gA,g2,hD,g4⟩:=drop_cons h1
   have ct:k<4611686018427387904:=by omega
   simp only[Ar.said]at h2
   simp only[Ar.aU]at h3
   have yV:=fun s=>oT (x:=a.x) (by have:=Ar.cZ (List.mem_of_getElem? gA);omega) (vP a (List.mem_of_getElem? gA)) s
   have hl:=mH a.x
   have gB:(out.length+1)*17≤bD:=by unfold bD;omega
   rcases Bool.eq_false_or_eq_true a.ref with b1|b1
   ·simp only [b1,if_true]at h2
    have fv:=lU (l:=out++ [a.name]) (nx:=a.x.names) (n:=out.length+1) (by simp) (by simp;omega) (g:= .shared)
    simp only[List.map_append,List.map_cons,List.map_nil,encStr]at fv
    repeat' (first
 |simp only[go_sem,hD,gA,gB,gC,b1,fv]
 |(with_reducible refine CU (yV _) ?_)
 | (with_reducible refine aJ hQ ?_;exact bA))
    refine fm 1 1 ?_ ?_ (IH (rest,k+1,out++ [a.name]++a.x.names,_) ⟨g2,h2,by simp;omega,by simp<;>omega⟩ (Nat.lt_succ_self _))
    ·(simp only[go_sem,hD,gA,gB,gC,aM ct,List.map_append,List.map_cons,List.map_nil,encStr];try exact cd)
    ·(simp only[go_sem,hD,gA,gB,gC,aM ct,List.map_append,List.map_cons,List.map_nil,encStr];try exact cd)
   ·simp only [b1,Bool.false_eq_true,if_false]at h2
    have fv:=lU (l:=out) (nx:=a.x.names) rfl (by omega) (g:= .shared)
    repeat' (first
 |simp only[go_sem,hD,gA,gB,gC,b1,fv]
 |(with_reducible refine CU (yV _) ?_)
 | (with_reducible refine aJ hQ ?_;exact bA))
    refine fm 1 1 ?_ ?_ (IH (rest,k+1,out++a.x.names,_) ⟨g2,h2,by simp;omega,by simp<;>omega⟩ (Nat.lt_succ_self _))
    ·(simp only[go_sem,hD,gA,gB,gC,aM ct];try exact cd)
    ·(simp only[go_sem,hD,gA,gB,gC,aM ct];try exact cd)
 ·simp only [Sm.vm,hb,Bool.false_eq_true,if_false,List.nil_append]at hG
  have um:(v.kind != 10 && v.name != [])=false:=by simpa using hb
  obtain⟨nx,hnx⟩ : ∃ nx,nx=v.x.names:=⟨_,rfl⟩
  rw[← hnx]at hG P7
  simp only[← hnx]at hx
  by_cases Mf:nx = []
  ·subst Mf
   simp only[List.map_nil]at hx
   have fv : ∀ o:List (List D),jv 1 16 (.slice .full 0 []) (.slice .shared 1 []) ⟨o,[]⟩=some (.slice .full 0 [],⟨o,[]⟩):=fun o=>by simp[jv,bD]
   have HB:(v.kind != 10)=false∨(v.kind != 10)=true∧(v.name != [])=false:=by
    cases h1:(v.kind != 10)
    ·exact .inl rfl
    ·rw[h1]at um;exact .inr ⟨rfl,by simpa using um⟩
   rcases HB with b1|⟨b1,b2⟩
   ·rcases Bool.eq_false_or_eq_true (v.name != [])with b2 | b2
    all_goals
     have b3:(v.name == []) = !(v.name != []):=by simp only[bne,Bool.not_not]
     rw[b2]at b3
     repeat' (first
 |simp only[go_sem,hD,gA,gB,gC,b1,b2,b3,Bool.not_true,Bool.not_false,fv]
 |(with_reducible refine CU (hx _) ?_)
 | (with_reducible refine aJ hQ ?_;simp only [bh,bk,bO,bP,go_sem,hD,gA,gB,gC];repeat' (first | exact Ok.out | with_reducible refine jo ?_ ?_ | (simp;done))))
    all_goals
     refine bp.rD 3 1 rfl ?_
     simp only[go_sem,hD,gA,gB,gC]
     refine fI 1 1 (bp.ind (ι:=List Ar×Nat×List aK×Nat) (fun i=>v.args.drop i.2.1=i.1∧Ar.said i.2.2.1 i.1=R∧i.2.2.1.length+Ar.aU i.1≤2000000∧i.2.2.2=i.2.2.1.length) (fun i=>i.1.length)
      (fun i=> [(3, .slice (.tok 0) 1 (i.2.2.1.map encStr)),(1, .ptr 0 0),(25, .slice .shared 6 (v.args.map fi)),(26, .int .i64 (v.args.length:Int)),(27, .int .i64 (i.2.1:Int))]) (fun i=>⟨[bd v],[some i.2.2.2]⟩) ?_ (v.args,0,[],0) ⟨rfl,hG,by simp at P7 ⊢;omega,by simp⟩)
     rintro⟨rest,k,out,n'⟩ ⟨h1,h2,h3,h4⟩ IH
     dsimp only at h1 h2 h3 h4
     subst h4
     cases rest with
     |nil=>
      have hD:=drop_nil h1
      simp only[Ar.said]at h2
      subst h2
      repeat' (first
 |simp only[go_sem,hD,gA,gB,gC]
 |(with_reducible refine aJ hQ ?_;exact bA))
     | cons a rest=>
      obtain⟨gA,g2,hD,g4⟩:=drop_cons h1
      have ct:k<4611686018427387904:=by omega
      simp only[Ar.said]at h2
      simp only[Ar.aU]at h3
      have yV:=fun s=>oT (x:=a.x) (by have:=Ar.cZ (List.mem_of_getElem? gA);omega) (vP a (List.mem_of_getElem? gA)) s
      have hl:=mH a.x
      have gB:(out.length+1)*17≤bD:=by unfold bD;omega
      rcases Bool.eq_false_or_eq_true a.ref with b1|b1
      ·simp only [b1,if_true]at h2
       have fv:=lU (l:=out++ [a.name]) (nx:=a.x.names) (n:=out.length+1) (by simp) (by simp;omega) (g:= .shared)
       simp only[List.map_append,List.map_cons,List.map_nil,encStr]at fv
       repeat' (first
 |simp only[go_sem,hD,gA,gB,gC,b1,fv]
 |(with_reducible refine CU (yV _) ?_)
 |(with_reducible refine aJ hQ ?_;exact bA))
       refine fm 1 1 ?_ ?_ (IH (rest,k+1,out++ [a.name]++a.x.names,_) ⟨g2,h2,by simp;omega,by simp<;>omega⟩ (Nat.lt_succ_self _))
       ·(simp only[go_sem,hD,gA,gB,gC,aM ct,List.map_append,List.map_cons,List.map_nil,encStr];try exact cd)
       ·(simp only[go_sem,hD,gA,gB,gC,aM ct,List.map_append,List.map_cons,List.map_nil,encStr];try exact cd)
      ·simp only [b1,Bool.false_eq_true,if_false]at h2
       have fv:=lU (l:=out) (nx:=a.x.names) rfl (by omega) (g:= .shared)
       repeat' (first
 |simp only[go_sem,hD,gA,gB,gC,b1,fv]
 |(with_reducible refine CU (yV _) ?_)
 | (with_reducible refine aJ hQ ?_;exact bA))
       refine fm 1 1 ?_ ?_ (IH (rest,k+1,out++a.x.names,_) ⟨g2,h2,by simp;omega,by simp<;>omega⟩ (Nat.lt_succ_self _))
       ·(simp only[go_sem,hD,gA,gB,gC,aM ct];try exact cd)
       ·(simp only[go_sem,hD,gA,gB,gC,aM ct];try exact cd)
   ·have b3:(v.name == [])=true:=by simpa using b2
    repeat' (first
 |simp only[go_sem,hD,gA,gB,gC,b1,b2,b3,fv]
 |(with_reducible refine CU (hx _) ?_)
 | (with_reducible refine aJ hQ ?_;exact bA))
    refine bp.rD 3 1 rfl ?_
    simp only[go_sem,hD,gA,gB,gC]
    refine fI 1 1 (bp.ind (ι:=List Ar×Nat×List aK×Nat) (fun i=>v.args.drop i.2.1=i.1∧Ar.said i.2.2.1 i.1=R∧i.2.2.1.length+Ar.aU i.1≤2000000∧i.2.2.2=i.2.2.1.length) (fun i=>i.1.length)
     (fun i=> [(3, .slice (.tok 0) 1 (i.2.2.1.map encStr)),(1, .ptr 0 0),(25, .slice .shared 6 (v.args.map fi)),(26, .int .i64 (v.args.length:Int)),(27, .int .i64 (i.2.1:Int))]) (fun i=>⟨[bd v],[some i.2.2.2]⟩) ?_ (v.args,0,[],0) ⟨rfl,hG,by simp at P7 ⊢;omega,by simp⟩)
    rintro⟨rest,k,out,n'⟩ ⟨h1,h2,h3,h4⟩ IH
    dsimp only at h1 h2 h3 h4
    subst h4
    cases rest with
    |nil=>
     have hD:=drop_nil h1
     simp only[Ar.said]at h2
     subst h2
     repeat' (first
 |simp only[go_sem,hD,gA,gB,gC]
 | (with_reducible refine aJ hQ ?_;exact bA))
    | cons a rest=>
     obtain⟨gA,g2,hD,g4⟩:=drop_cons h1
     have ct:k<4611686018427387904:=by omega
     simp only[Ar.said]at h2
     simp only[Ar.aU]at h3
     have yV:=fun s=>oT (x:=a.x) (by have:=Ar.cZ (List.mem_of_getElem? gA);omega) (vP a (List.mem_of_getElem? gA)) s
     have hl:=mH a.x
     have gB:(out.length+1)*17≤bD:=by unfold bD;omega
     rcases Bool.eq_false_or_eq_true a.ref with b1|b1
     ·simp only [b1,if_true]at h2
      have fv:=lU (l:=out++ [a.name]) (nx:=a.x.names) (n:=out.length+1) (by simp) (by simp;omega) (g:= .shared)
      simp only[List.map_append,List.map_cons,List.map_nil,encStr]at fv
      repeat' (first
 |simp only[go_sem,hD,gA,gB,gC,b1,fv]
 |(with_reducible refine CU (yV _) ?_)
 |(with_reducible refine aJ hQ ?_;exact bA))
      refine fm 1 1 ?_ ?_ (IH (rest,k+1,out++ [a.name]++a.x.names,_) ⟨g2,h2,by simp;omega,by simp<;>omega⟩ (Nat.lt_succ_self _))
      ·(simp only[go_sem,hD,gA,gB,gC,aM ct,List.map_append,List.map_cons,List.map_nil,encStr];try exact cd)
      ·(simp only[go_sem,hD,gA,gB,gC,aM ct,List.map_append,List.map_cons,List.map_nil,encStr];try exact cd)
     ·simp only [b1,Bool.false_eq_true,if_false]at h2
      have fv:=lU (l:=out) (nx:=a.x.names) rfl (by omega) (g:= .shared)
      repeat' (first
 |simp only[go_sem,hD,gA,gB,gC,b1,fv]
 |(with_reducible refine CU (yV _) ?_)
 | (with_reducible refine aJ hQ ?_;exact bA))
      refine fm 1 1 ?_ ?_ (IH (rest,k+1,out++a.x.names,_) ⟨g2,h2,by simp;omega,by simp<;>omega⟩ (Nat.lt_succ_self _))
      ·(simp only[go_sem,hD,gA,gB,gC,aM ct];try exact cd)
      ·(simp only[go_sem,hD,gA,gB,gC,aM ct];try exact cd)
  ·have fv : ∀ o:List (List D),jv 1 16 (.slice .full 0 []) (.slice .shared 1 (nx.map encStr)) ⟨o,[]⟩=some (.slice (.tok 0) 1 (nx.map encStr),⟨o,[some nx.length]⟩):=fun o=>by
    have:nx.length*17≤bD:=by unfold bD;omega
    cases nx with
    |nil=>exact absurd rfl Mf
    |cons a r=>simp only[List.length_cons]at this;simp[jv,this]
   have HB:(v.kind != 10)=false∨(v.kind != 10)=true∧(v.name != [])=false:=by
    cases h1:(v.kind != 10)
    ·exact .inl rfl
    ·rw[h1]at um;exact .inr ⟨rfl,by simpa using um⟩
   rcases HB with b1|⟨b1,b2⟩
   ·rcases Bool.eq_false_or_eq_true (v.name != [])with b2 | b2
    all_goals
     have b3:(v.name == []) = !(v.name != []):=by simp only[bne,Bool.not_not]
     rw[b2]at b3
     repeat' (first
 |simp only[go_sem,hD,gA,gB,gC,b1,b2,b3,Bool.not_true,Bool.not_false,fv]
 |(with_reducible refine CU (hx _) ?_)
 | (with_reducible refine aJ hQ ?_;simp only [bh,bk,bO,bP,go_sem,hD,gA,gB,gC];repeat' (first | exact Ok.out | with_reducible refine jo ?_ ?_ | (simp;done))))
    all_goals
     refine fI 1 1 (bp.ind (ι:=List Ar×Nat×List aK×Nat) (fun i=>v.args.drop i.2.1=i.1∧Ar.said i.2.2.1 i.1=R∧i.2.2.1.length+Ar.aU i.1≤2000000∧i.2.2.2=i.2.2.1.length) (fun i=>i.1.length)
      (fun i=> [(3, .slice (.tok 0) 1 (i.2.2.1.map encStr)),(1, .ptr 0 0),(25, .slice .shared 6 (v.args.map fi)),(26, .int .i64 (v.args.length:Int)),(27, .int .i64 (i.2.1:Int))]) (fun i=>⟨[bd v],[some i.2.2.2]⟩) ?_ (v.args,0,nx,_) ⟨rfl,hG,by simp at P7 ⊢;omega,by simp⟩)
     rintro⟨rest,k,out,n'⟩ ⟨h1,h2,h3,h4⟩ IH
     dsimp only at h1 h2 h3 h4
     subst h4
     cases rest with
     |nil=>
      have hD:=drop_nil h1
      simp only[Ar.said]at h2
      subst h2
      repeat' (first
 |simp only[go_sem,hD,gA,gB,gC]
 |(with_reducible refine aJ hQ ?_;exact bA))
     | cons a rest=>
      obtain⟨gA,g2,hD,g4⟩:=drop_cons h1
      have ct:k<4611686018427387904:=by omega
      simp only[Ar.said]at h2
      simp only[Ar.aU]at h3
      have yV:=fun s=>oT (x:=a.x) (by have:=Ar.cZ (List.mem_of_getElem? gA);omega) (vP a (List.mem_of_getElem? gA)) s
      have hl:=mH a.x
      have gB:(out.length+1)*17≤bD:=by unfold bD;omega
      rcases Bool.eq_false_or_eq_true a.ref with b1|b1
      ·simp only [b1,if_true]at h2
       have fv:=lU (l:=out++ [a.name]) (nx:=a.x.names) (n:=out.length+1) (by simp) (by simp;omega) (g:= .shared)
       simp only[List.map_append,List.map_cons,List.map_nil,encStr]at fv
       repeat' (first
 |simp only[go_sem,hD,gA,gB,gC,b1,fv]
 |(with_reducible refine CU (yV _) ?_)
 |(with_reducible refine aJ hQ ?_;exact bA))
       refine fm 1 1 ?_ ?_ (IH (rest,k+1,out++ [a.name]++a.x.names,_) ⟨g2,h2,by simp;omega,by simp<;>omega⟩ (Nat.lt_succ_self _))
       ·(simp only[go_sem,hD,gA,gB,gC,aM ct,List.map_append,List.map_cons,List.map_nil,encStr];try exact cd)
       ·(simp only[go_sem,hD,gA,gB,gC,aM ct,List.map_append,List.map_cons,List.map_nil,encStr];try exact cd)
      ·simp only [b1,Bool.false_eq_true,if_false]at h2
       have fv:=lU (l:=out) (nx:=a.x.names) rfl (by omega) (g:= .shared)
       repeat' (first
 |simp only[go_sem,hD,gA,gB,gC,b1,fv]
 |(with_reducible refine CU (yV _) ?_)
 | (with_reducible refine aJ hQ ?_;exact bA))
       refine fm 1 1 ?_ ?_ (IH (rest,k+1,out++a.x.names,_) ⟨g2,h2,by simp;omega,by simp<;>omega⟩ (Nat.lt_succ_self _))
       ·(simp only[go_sem,hD,gA,gB,gC,aM ct];try exact cd)
       ·(simp only[go_sem,hD,gA,gB,gC,aM ct];try exact cd)
   ·have b3:(v.name == [])=true:=by simpa using b2
    repeat' (first
 |simp only[go_sem,hD,gA,gB,gC,b1,b2,b3,fv]
 |(with_reducible refine CU (hx _) ?_)
 | (with_reducible refine aJ hQ ?_;exact bA))
    refine fI 1 1 (bp.ind (ι:=List Ar×Nat×List aK×Nat) (fun i=>v.args.drop i.2.1=i.1∧Ar.said i.2.2.1 i.1=R∧i.2.2.1.length+Ar.aU i.1≤2000000∧i.2.2.2=i.2.2.1.length) (fun i=>i.1.length)
     (fun i=> [(3, .slice (.tok 0) 1 (i.2.2.1.map encStr)),(1, .ptr 0 0),(25, .slice .shared 6 (v.args.map fi)),(26, .int .i64 (v.args.length:Int)),(27, .int .i64 (i.2.1:Int))]) (fun i=>⟨[bd v],[some i.2.2.2]⟩) ?_ (v.args,0,nx,_) ⟨rfl,hG,by simp at P7 ⊢;omega,by simp⟩)
    rintro⟨rest,k,out,n'⟩ ⟨h1,h2,h3,h4⟩ IH
    dsimp only at h1 h2 h3 h4
    subst h4
    cases rest with
    |nil=>
     have hD:=drop_nil h1
     simp only[Ar.said]at h2
     subst h2
     repeat' (first
 |simp only[go_sem,hD,gA,gB,gC]
 | (with_reducible refine aJ hQ ?_;exact bA))
    | cons a rest=>
     obtain⟨gA,g2,hD,g4⟩:=drop_cons h1
     have ct:k<4611686018427387904:=by omega
     simp only[Ar.said]at h2
     simp only[Ar.aU]at h3
     have yV:=fun s=>oT (x:=a.x) (by have:=Ar.cZ (List.mem_of_getElem? gA);omega) (vP a (List.mem_of_getElem? gA)) s
     have hl:=mH a.x
     have gB:(out.length+1)*17≤bD:=by unfold bD;omega
     rcases Bool.eq_false_or_eq_true a.ref with b1|b1
     ·simp only [b1,if_true]at h2
      have fv:=lU (l:=out++ [a.name]) (nx:=a.x.names) (n:=out.length+1) (by simp) (by simp;omega) (g:= .shared)
      simp only[List.map_append,List.map_cons,List.map_nil,encStr]at fv
      repeat' (first
 |simp only[go_sem,hD,gA,gB,gC,b1,fv]
 |(with_reducible refine CU (yV _) ?_)
 |(with_reducible refine aJ hQ ?_;exact bA))
      refine fm 1 1 ?_ ?_ (IH (rest,k+1,out++ [a.name]++a.x.names,_) ⟨g2,h2,by simp;omega,by simp<;>omega⟩ (Nat.lt_succ_self _))
      ·(simp only[go_sem,hD,gA,gB,gC,aM ct,List.map_append,List.map_cons,List.map_nil,encStr];try exact cd)
      ·(simp only[go_sem,hD,gA,gB,gC,aM ct,List.map_append,List.map_cons,List.map_nil,encStr];try exact cd)
     ·simp only [b1,Bool.false_eq_true,if_false]at h2
      have fv:=lU (l:=out) (nx:=a.x.names) rfl (by omega) (g:= .shared)
      repeat' (first
 |simp only[go_sem,hD,gA,gB,gC,b1,fv]
 |(with_reducible refine CU (yV _) ?_)
 |(with_reducible refine aJ hQ ?_;exact bA))
      refine fm 1 1 ?_ ?_ (IH (rest,k+1,out++a.x.names,_) ⟨g2,h2,by simp;omega,by simp<;>omega⟩ (Nat.lt_succ_self _))
      ·(simp only[go_sem,hD,gA,gB,gC,aM ct];try exact cd)
      ·(simp only[go_sem,hD,gA,gB,gC,aM ct];try exact cd)
end Go.Abs
