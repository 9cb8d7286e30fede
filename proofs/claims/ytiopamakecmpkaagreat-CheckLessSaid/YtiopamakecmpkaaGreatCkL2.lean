/-
  What is proved here: part 2 of the road to the claim (Codes1, Have1, Codes2, Have2, Codes3, Codes4, Have4, Codes5, Have5, Have3, Prs, Lex1, Lex2, RefLex1, Prs2, Ref1, Ref2, Ref3, RefMay1, TMay1, RefMay2, TMay2, RefMay3, RefMay4).
  No conditions.
-/
import Derived.Test.YtiopamakecmpkaaGreatCkL1
import Derived.Test.YtiopamakecmpkaaGreatProg
import Derived.KernelRfl

set_option linter.unusedSimpArgs false
set_option linter.unusedVariables false

/-! Codes1 -/

namespace Go.Abs
abbrev QH7:AC:= .run [.o 0 (.mv (.k (.str [103,108,111,98,97,108,32,103,59,10,112,114,111,99,32,109,97,105,110,40,41,32,123,10,32,118,97,114,32,118,59,10,32,118,32,61,32,50,59,10,32,103,32,61,32,112,40,51,44,32,114,101,102,32,118,41,59,10,32,112,114,105,110,116,32,118,59,10,32,112,114,105,110,116,32,103,59,10,125,10,112,114,111,99,32,112,40,120,44,32,114,101,102,32,121,41,32,123,10,32,121,32,61,32,121,32,43,32,120,59,10,32,105,102,32,40,121,32,62,32,57,41,32,123,10,32,32,103,111,116,111,32,101,59,10,32,125,10,32,114,101,116,117,114,110,32,121,59,10,101,58,32,125,10])))]
abbrev QH9:AC:= .seq (.run [.o 0 (.mv (.k (.str [])))]) (.seq QH7 .ret)
abbrev QHB:AC:= .run [(.o 3 (.cQ [(.str [])] 1 1 [(0,(.k (.str [118])))])), .c 4 q8 [(.k (.int .i64 2))],(.o 5 (.build [(.int .i64 0),(.int .i64 0),(.slice .full 0 []),(.str []),(.str []),(.int .i64 0),(.int .i64 0),(.str []),(.slice .full 0 []),(.bool false),(.slice .full 0 []),(.slice .full 0 []),(.slice .full 0 [])] [(0,(1,(.k (.int .i64 1)))),(1,(1,(.k (.int .i64 1)))),(3,(1,(.k (.str [118])))),(5,(4,cR))])), .c 6 q8 [(.k (.int .i64 3))], .o 7 (.build [(.bool false),(.str []),(.int .i64 0),(.int .i64 0),(.str []),(.slice .full 0 [])] [(2,(4,bU))]),(.o 8 (.build [(.bool false),(.str []),(.int .i64 0),(.int .i64 0),(.str []),(.slice .full 0 [])] [(0,(1,(.k (.bool true)))),(1,(1,(.k (.str [118]))))])), .o 9 (.cQ [(.bool false),(.str []),(.int .i64 0),(.int .i64 0),(.str []),(.slice .full 0 [])] 6 2 [(0,bJ),(1,bS)]),(.o 10 (.build [(.int .i64 0),(.int .i64 0),(.slice .full 0 []),(.str []),(.str []),(.int .i64 0),(.int .i64 0),(.str []),(.slice .full 0 []),(.bool false),(.slice .full 0 []),(.slice .full 0 []),(.slice .full 0 [])] [(0,(1,(.k (.int .i64 2)))),(1,(1,(.k (.int .i64 4)))),(3,(1,(.k (.str [103])))),(4,(1,(.k (.str [112])))),(10,(1,cb))])),(.c 11 kP [(.k (.str [118]))]),(.o 12 (.build [(.int .i64 0),(.int .i64 0),(.slice .full 0 []),(.str []),(.str []),(.int .i64 0),(.int .i64 0),(.str []),(.slice .full 0 []),(.bool false),(.slice .full 0 []),(.slice .full 0 []),(.slice .full 0 [])] [(0,(1,(.k (.int .i64 3)))),(1,(1,(.k (.int .i64 3)))),(5,(4,bM))])),(.c 13 kP [(.k (.str [103]))]),(.o 14 (.build [(.int .i64 0),(.int .i64 0),(.slice .full 0 []),(.str []),(.str []),(.int .i64 0),(.int .i64 0),(.str []),(.slice .full 0 []),(.bool false),(.slice .full 0 []),(.slice .full 0 []),(.slice .full 0 [])] [(0,(1,(.k (.int .i64 4)))),(1,(1,(.k (.int .i64 3)))),(5,(4,bY))])), .o 15 (.cQ [(.int .i64 0),(.int .i64 0),(.slice .full 0 []),(.str []),(.str []),(.int .i64 0),(.int .i64 0),(.str []),(.slice .full 0 []),(.bool false),(.slice .full 0 []),(.slice .full 0 []),(.slice .full 0 [])] 13 4 [(0,bj),(1,bP),(2,bZ),(3,bN)]),(.o 16 (.build [(.str []),(.slice .full 0 []),(.slice .full 0 []),(.slice .full 0 []),(.slice .full 0 [])] [(0,(1,(.k (.str [109,97,105,110])))),(2,(1,bQ)),(3,(1,cd))])), .o 1 (.alloc [(.str []),(.slice .full 0 []),(.slice .full 0 []),(.slice .full 0 []),(.slice .full 0 [])]), .op none none (.store bc b7 5)]
abbrev QHC:AC:= .run [(.o 17 (.build [(.str []),(.bool false)] [(0,(1,(.k (.str [120]))))])),(.o 18 (.build [(.str []),(.bool false)] [(0,(1,(.k (.str [121])))),(1,(1,(.k (.bool true))))])), .o 19 (.cQ [(.str []),(.bool false)] 2 2 [(0,cJ),(1,cG)]),(.o 20 (.cQ [(.str [])] 1 1 [(0,(.k (.str [101])))])),(.c 21 kP [(.k (.str [121]))]),(.c 22 kP [(.k (.str [120]))]), .c 23 uw [(.k (.int .i64 8)),dh,dt],(.o 24 (.build [(.int .i64 0),(.int .i64 0),(.slice .full 0 []),(.str []),(.str []),(.int .i64 0),(.int .i64 0),(.str []),(.slice .full 0 []),(.bool false),(.slice .full 0 []),(.slice .full 0 []),(.slice .full 0 [])] [(0,(1,(.k (.int .i64 5)))),(1,(1,(.k (.int .i64 1)))),(3,(1,(.k (.str [121])))),(5,(4,dz))])),(.c 25 kP [(.k (.str [121]))]), .c 26 q8 [(.k (.int .i64 9))], .c 27 uw [(.k (.int .i64 12)),db,dS],(.o 28 (.build [(.int .i64 0),(.int .i64 0),(.slice .full 0 []),(.str []),(.str []),(.int .i64 0),(.int .i64 0),(.str []),(.slice .full 0 []),(.bool false),(.slice .full 0 []),(.slice .full 0 []),(.slice .full 0 [])] [(0,(1,(.k (.int .i64 7)))),(1,(1,(.k (.int .i64 10)))),(3,(1,(.k (.str [101]))))])), .o 29 (.cQ [(.int .i64 0),(.int .i64 0),(.slice .full 0 []),(.str []),(.str []),(.int .i64 0),(.int .i64 0),(.str []),(.slice .full 0 []),(.bool false),(.slice .full 0 []),(.slice .full 0 []),(.slice .full 0 [])] 13 1 [(0,ey)]),(.o 30 (.build [(.int .i64 0),(.int .i64 0),(.slice .full 0 []),(.str []),(.str []),(.int .i64 0),(.int .i64 0),(.str []),(.slice .full 0 []),(.bool false),(.slice .full 0 []),(.slice .full 0 []),(.slice .full 0 [])] [(0,(1,(.k (.int .i64 6)))),(1,(1,(.k (.int .i64 5)))),(5,(4,dM)),(11,(1,ez))])),(.c 31 kP [(.k (.str [121]))]),(.o 32 (.build [(.int .i64 0),(.int .i64 0),(.slice .full 0 []),(.str []),(.str []),(.int .i64 0),(.int .i64 0),(.str []),(.slice .full 0 []),(.bool false),(.slice .full 0 []),(.slice .full 0 []),(.slice .full 0 [])] [(0,(1,(.k (.int .i64 8)))),(1,(1,(.k (.int .i64 9)))),(9,(1,(.k (.bool true)))),(5,(4,eU))])), .o 33 (.cQ [(.int .i64 0),(.int .i64 0),(.slice .full 0 []),(.str []),(.str []),(.int .i64 0),(.int .i64 0),(.str []),(.slice .full 0 []),(.bool false),(.slice .full 0 []),(.slice .full 0 []),(.slice .full 0 [])] 13 3 [(0,da),(1,eK),(2,fh)]),(.o 34 (.build [(.str []),(.slice .full 0 []),(.slice .full 0 []),(.slice .full 0 []),(.slice .full 0 [])] [(0,(1,(.k (.str [112])))),(1,(1,cW)),(4,(1,dd)),(3,(1,fc))])), .o 2 (.alloc [(.str []),(.slice .full 0 []),(.slice .full 0 []),(.slice .full 0 []),(.slice .full 0 [])]), .op none none (.store df fA 5)]
abbrev QHE:AC:= .seq (.run [(.o 35 (.cQ [(.str [])] 1 1 [(0,(.k (.str [103])))])), .o 36 (.load bc true 5), .o 37 (.load df true 5), .o 38 (.cQ [(.str []),(.slice .full 0 []),(.slice .full 0 []),(.slice .full 0 []),(.slice .full 0 [])] 5 2 [(0,fJ),(1,gd)]), .o 39 (.build [(.slice .full 0 []),(.slice .full 0 [])] [(0,(1,fw)),(1,(1,gG))]), .op none none (.store aW gC 2)]) .ret
abbrev QHH:AC:= .seq (.run [.o 0 (.alloc [(.slice .full 0 []),(.slice .full 0 [])])]) (.seq QHB (.seq QHC QHE))
abbrev QHR:AC:= .seq (.seq (.run [.m 6 bj, .m 7 aW, .o 8 (.len bJ), .o 9 (.bin .lss bU bS), .m 10 cb, .g 11 10 true (.mv bc), .g 12 10 true (.bin .leq bM (.k (.int .i64 20000))), .o 13 (.pick bP bZ (.k (.bool false)))]) (.cond bY .skip (.exit 0))) (.seq (.block 1 (.run [.m 16 aW, .m 17 bj, .o 18 (.b6 b7 cJ 1), .o 19 (.load cG false 1), .m 20 bc, .c 21 gx [cW,dd], .m 1 dh])) (.run [.m 14 bj, .o 15 (.bin .add bN (.k (.int .i64 1))), .m 5 cd]))
abbrev QHX:AC:= .seq (.seq (.run [.o 5 (.mv (.k (.int .i64 0)))]) (.block 0 (.loop QHR))) (.seq (.run [.m 22 bc, .m 4 dt]) .ret)
abbrev QHY:AC:= .seq (.run [.o 4 (.mv (.k (.int .i64 0)))]) QHX
abbrev QI3:AC:= .cond bY (.seq (.run [.o 4 (.mv (.k (.int .i64 20001)))]) .ret) .skip
abbrev QI7:AC:= .seq (.seq (.run [.m 5 bc, .o 6 (.bin .gtr bj (.k (.int .i64 20000))), .m 7 bU, .g 8 7 false (.mv aW), .g 9 7 false (.lW bS), .g 10 7 false (.mv bc), .g 11 7 false (.bin .sub (.k (.int .i64 20000)) bP), .g 12 7 false (.bin .geq cb bM), .o 13 (.pick bJ (.k (.bool true)) bZ)]) QI3) (.seq (.run [.m 14 bc, .o 15 (.bin .add bN (.k (.int .i64 1))), .m 16 aW, .o 17 (.lW b7), .o 18 (.bin .add cd cJ), .m 4 cG]) .ret)
abbrev QI8:AC:= .seq (.run [.o 4 (.mv (.k (.int .i64 0)))]) QI7
abbrev QIF:AC:= .par [.o 22 (.av bU 4), .o 23 (.load dt false 1), .o 24 (.av bU 3), .o 25 (.load da false 1), .o 26 (.av bU 2), .o 27 (.load dS false 1), .o 28 (.av bU 5), .o 29 (.load ey true 4), .m 30 bc, .c 31 jE [ez,eK], .c 32 jo [dM,eU], .c 33 gx [db,fh], .c 34 gx [dz,fc], .m 1 fA] [(6,0),(7,0),(8,0),(9,0),(4,0),(5,1),(10,0),(2,0),(3,2),(11,0),(0,0),(1,3),(12,0),(13,0)]
abbrev QIK:AC:= .par [.o 46 (.av bU 10), .o 47 (.load jW false 1), .m 48 bJ, .o 49 (.b6 kG jG 6), .o 50 (.av jX 1), .o 51 (.load lh false 1), .o 52 (.av bU 10), .o 53 (.load kH false 1), .m 54 bJ, .o 55 (.b6 kI lj 6), .o 56 (.av lE 2), .o 57 (.load mT true 4), .m 58 bc, .c 59 jE [nI,mU], .c 60 gx [ko,lk], .m 1 oR] [(6,0),(7,0),(8,0),(9,0),(10,0),(11,0),(12,0),(13,0),(0,0),(1,1),(2,0),(3,0),(4,0),(5,1),(14,0),(15,0)]
abbrev QIO:AC:= .seq (.seq (.run [.m 35 bJ, .o 36 (.av bU 10), .o 37 (.load fJ false 1), .o 38 (.len gd), .o 39 (.bin .lss fw gG), .m 40 gC, .g 41 40 true (.mv bc), .g 42 40 true (.bin .leq gV (.k (.int .i64 20000))), .o 43 (.pick gU ie (.k (.bool false)))]) (.cond iQ .skip (.exit 2))) (.seq (.block 3 QIK) (.run [.m 44 bJ, .o 45 (.bin .add jj (.k (.int .i64 1))), .m 7 jV]))
abbrev QIS:AC:= .par [.o 61 (.av bU 12), .o 62 (.load qm false 1), .o 63 (.av bU 11), .o 64 (.load qo false 1), .m 65 bc, .c 66 ky [ri,vi], .c 67 ky [qn,xb], .m 1 vj] [(2,0),(3,0),(4,0),(5,0),(0,0),(1,1),(6,0),(7,0)]
abbrev QIT:AC:= .seq (.seq (.run [.o 7 (.mv (.k (.int .i64 0)))]) (.block 2 (.loop QIO))) QIS
abbrev QIY:AC:= .seq (.block 1 (.seq (.run [.m 18 aW, .m 19 bj, .o 20 (.b6 cG cW 13), .o 21 (.load dd true 13), .o 6 (.alloc [(.int .i64 0),(.int .i64 0),(.slice .full 0 []),(.str []),(.str []),(.int .i64 0),(.int .i64 0),(.str []),(.slice .full 0 []),(.bool false),(.slice .full 0 []),(.slice .full 0 []),(.slice .full 0 [])]), .op none none (.store bU dh 13)]) (.seq QIF QIT))) (.run [.m 16 bj, .o 17 (.bin .add b7 (.k (.int .i64 1))), .m 5 cJ])
abbrev QIZ:AC:= .seq (.seq (.run [.m 8 bj, .m 9 aW, .o 10 (.len cb), .o 11 (.bin .lss bS bP), .m 12 bM, .g 13 12 true (.mv bc), .g 14 12 true (.bin .leq bY (.k (.int .i64 20000))), .o 15 (.pick bZ bN (.k (.bool false)))]) (.cond cd .skip (.exit 0))) QIY
abbrev QJ5:AC:= .seq (.seq (.run [.o 5 (.mv (.k (.int .i64 0)))]) (.block 0 (.loop QIZ))) (.seq (.run [.m 68 bc, .m 4 vk]) .ret)
abbrev QJ6:AC:= .seq (.run [.o 4 (.mv (.k (.int .i64 0)))]) QJ5
abbrev QJF:AC:= .cond bY (.seq (.run [.o 2 (.mv (.k (.bool false)))]) .ret) .skip
abbrev QJK:AC:= .seq (.block 1 (.seq (.run [.o 9 (.b6 bj bJ 1), .o 10 (.load cb false 1), .m 4 bP]) (.seq (.run [.m 11 cR, .c 12 nE [bM], .o 13 (.un .not bZ)]) QJF))) (.run [.o 14 (.bin .add bJ (.k (.int .i64 1))), .m 7 bN])
abbrev QJO:AC:= .block 0 (.loop (.seq (.run [.o 8 (.bin .lss bJ bU)]) (.seq (.cond bS .skip (.exit 0)) QJK)))
abbrev QJS:AC:= .seq (.seq (.run [.m 5 aW, .o 6 (.len bj), .o 7 (.mv (.k (.int .i64 0)))]) QJO) (.seq (.run [.o 2 (.mv (.k (.bool true)))]) .ret)
abbrev QJT:AC:= .seq (.run [.o 2 (.mv (.k (.bool false)))]) QJS
abbrev QJY:AC:= .cond cd (.seq (.run [.o 6 (.mv (.k (.bool false)))]) .ret) .skip
abbrev QK5:AC:= .par [.m 29 aW, .o 30 (.dB ez), .o 31 (.av eK 0), .o 32 (.load eU false 1), .o 33 (.bin .gtr fh (.k (.int .i64 200))), .m 34 fc, .g 35 34 false (.av bS 0), .g 36 34 false (.load fw false 1), .g 37 34 false (.mv aW), .g 38 34 false (.dB gd), .g 39 34 false (.av gG 0), .g 40 34 false (.load gC false 1), .g 41 34 false (.bin .neq fJ gU), .o 42 (.pick fA (.k (.bool true)) gV), .m 43 ie, .g 44 43 false (.av bS 2), .g 45 43 false (.load jj false 1), .d 46 43 false mO [jV], .g 47 43 false (.un .not jW), .o 48 (.pick iQ (.k (.bool true)) kG), .m 49 jG, .g 50 49 false (.load bS true 13), .d 51 49 false tA [lh], .g 52 49 false (.un .not ko), .o 53 (.pick jX (.k (.bool true)) kH)] [(0,0),(1,0),(2,0),(3,0),(4,0),(5,0),(6,0),(7,0),(8,0),(9,0),(10,0),(11,0),(12,0),(13,0),(14,0),(15,0),(16,0),(17,0),(18,0),(19,0),(20,0),(21,0),(22,0),(23,0),(24,0)]
abbrev QK8:AC:= .cond kI (.seq (.run [.o 6 (.mv (.k (.bool false)))]) .ret) .skip
abbrev QKD:AC:= .cond yR (.seq (.run [.o 6 (.mv (.k (.bool false)))]) .ret) .skip
abbrev QKF:AC:= .seq (.seq QK5 QK8) (.seq (.run [.m 54 aW, .o 55 (.av bS 11), .o 56 (.load lE false 1), .m 57 df, .o 58 (.bin .add nI (.k (.int .i64 1))), .c 59 jS [lj,mT,mU], .o 60 (.un .not lk), .m 61 oR, .g 62 61 false (.mv aW), .g 63 61 false (.av bS 12), .g 64 61 false (.load qo false 1), .g 65 61 false (.mv df), .g 66 61 false (.bin .add vi (.k (.int .i64 1))), .d 67 61 false jS [qn,ri,xb], .g 68 61 false (.un .not vj), .o 69 (.pick qm (.k (.bool true)) vk)]) QKD)
abbrev QKH:AC:= .seq (.run [.o 20 (.b6 b7 cG 13), .o 21 (.load dd true 13), .o 8 (.alloc [(.int .i64 0),(.int .i64 0),(.slice .full 0 []),(.str []),(.str []),(.int .i64 0),(.int .i64 0),(.str []),(.slice .full 0 []),(.bool false),(.slice .full 0 []),(.slice .full 0 []),(.slice .full 0 [])]), .op none none (.store bS dh 13)]) (.seq (.run [.m 22 aW, .o 23 (.dB dt), .o 24 (.av dz 0), .o 25 (.load da false 1), .o 26 (.bin .add db (.k (.int .i64 1))), .o 27 (.dB dt), .o 28 (.av dM 0), .op none none (.store ey dS 1)]) QKF)
abbrev QKL:AC:= .seq (.cond cW .skip (.exit 0)) (.seq (.block 1 QKH) (.run [.o 70 (.bin .add cG (.k (.int .i64 1))), .m 18 xc]))
abbrev QKP:AC:= .seq (.run [.m 16 bc, .o 17 (.len b7), .o 18 (.mv (.k (.int .i64 0)))]) (.block 0 (.loop (.seq (.run [.o 19 (.bin .lss cG cJ)]) QKL)))
abbrev QKS:AC:= .seq QKP (.seq (.run [.o 6 (.mv (.k (.bool true)))]) .ret)
abbrev QKT:AC:= .seq (.seq (.run [.m 9 df, .o 10 (.bin .gtr cb (.k (.int .i64 12))), .m 11 bP, .g 12 11 true (.mv bc), .g 13 11 true (.len bZ), .g 14 11 true (.bin .gtr bY (.k (.int .i64 0))), .o 15 (.pick bM bN (.k (.bool false)))]) QJY) QKS
abbrev QKU:AC:= .seq (.run [.o 6 (.mv (.k (.bool false)))]) QKT
abbrev QL6:AC:= .block 1 (.seq (.run [.m 10 bS, .m 5 bP]) (.seq (.run [.m 11 bc, .m 12 aW, .m 13 bj, .o 14 (.b6 bZ bY 1), .o 15 (.load bN false 1), .o 16 (.bin .eql bM cd)]) (.cond b7 (.seq (.run [.m 17 bj, .m 4 cJ]) .ret) .skip)))
abbrev QL9:AC:= .seq (.cond cb .skip (.exit 0)) (.seq QL6 (.run [.o 18 (.bin .add bS (.k (.int .i64 1))), .m 8 cG]))
abbrev QLD:AC:= .seq (.run [.m 6 aW, .o 7 (.len bU), .o 8 (.mv (.k (.int .i64 0)))]) (.block 0 (.loop (.seq (.run [.o 9 (.bin .lss bS bJ)]) QL9)))
abbrev QLF:AC:= .seq (.run [(.o 4 (.mv (.k (.int .i64 (-1)))))]) .ret
abbrev QLH:AC:= .seq (.run [.o 4 (.mv (.k (.int .i64 0)))]) (.seq QLD QLF)
abbrev QLQ:AC:= .cond b7 (.seq (.run [.o 2 (.mv (.k (.bool true)))]) .ret) .skip
abbrev QLT:AC:= .block 1 (.seq (.run [.m 9 bJ, .o 10 (.b6 bj bJ 1), .o 11 (.load bP false 1), .m 3 cb, .m 4 bM]) (.seq (.run [.m 12 aW, .m 13 bQ, .o 14 (.Ih 1 bZ none (some bY)), .m 15 cR, .c 16 cr [bN,cd]]) QLQ))
abbrev QLW:AC:= .seq (.cond bS .skip (.exit 0)) (.seq QLT (.run [.o 17 (.bin .add bJ (.k (.int .i64 1))), .m 7 cJ]))
abbrev QM0:AC:= .seq (.run [.m 5 aW, .o 6 (.len bj), .o 7 (.mv (.k (.int .i64 0)))]) (.block 0 (.loop (.seq (.run [.o 8 (.bin .lss bJ bU)]) QLW)))
abbrev QM3:AC:= .seq QM0 (.seq (.run [.o 2 (.mv (.k (.bool false)))]) .ret)
abbrev QM4:AC:= .seq (.run [.o 2 (.mv (.k (.bool false)))]) QM3
abbrev QMB:AC:= .par [.m 17 bQ, .m 18 bQ, .o 19 (.dB cG), .o 20 (.av cW 3), .o 21 (.load dd false 1), .m 22 bQ, .o 23 (.dB dt), .o 24 (.av dz 2), .o 25 (.load da false 1), .o 26 (.len db), .o 27 (.bin .add dS (.k (.int .i64 1))), .o 28 (.cQ [(.int .i64 0)] 1 1 [(0,dM)]), .o 29 (.app 1 8 dh ey), .o 30 (.dB cJ), .o 31 (.av eK 3), .op none none (.store eU ez 1)] [(1,0),(2,0),(3,0),(4,0),(5,0),(6,0),(7,0),(8,0),(9,0),(10,0),(11,0),(12,0),(0,0),(13,0),(14,0),(15,0)]
abbrev QMD:AC:= .par [.m 38 bQ, .m 39 bQ, .o 40 (.dB gC), .o 41 (.av gU 4), .o 42 (.load gV false 1), .m 43 bQ, .o 44 (.dB iQ), .o 45 (.av jj 2), .o 46 (.load jV false 1), .o 47 (.len jW), .o 48 (.bin .add kG (.k (.int .i64 1))), .o 49 (.cQ [(.int .i64 0)] 1 1 [(0,jG)]), .o 50 (.app 1 8 ie jX), .o 51 (.dB gG), .o 52 (.av ko 4), .op none none (.store kH lh 1)] [(1,0),(2,0),(3,0),(4,0),(5,0),(6,0),(7,0),(8,0),(9,0),(10,0),(11,0),(12,0),(0,0),(13,0),(14,0),(15,0)]
abbrev QME:AC:= .seq (.run [.m 32 bQ, .o 33 (.av bj 3), .o 34 (.load fc false 1), .m 35 cR,(.o 36 (.build [(.int .i64 0),(.int .i64 0),(.slice .full 0 []),(.str []),(.str []),(.int .i64 0),(.int .i64 0),(.str []),(.slice .full 0 []),(.bool false),(.slice .full 0 []),(.slice .full 0 []),(.slice .full 0 []),(.int .i64 0),(.int .i64 0),(.int .i64 0),(.int .i64 0)] [(13,(1,fw)),(15,(1,(.k (.int .i64 (-1)))))])), .c 37 jF [fh,fA,fJ]]) QMD
abbrev QMJ:AC:= .seq (.block 1 (.seq (.run [.m 14 bZ, .o 15 (.b6 bP bZ 5), .o 16 (.load cd true 5), .o 5 (.alloc [(.str []),(.slice .full 0 []),(.slice .full 0 []),(.slice .full 0 []),(.slice .full 0 [])]), .m 4 bN, .op none none (.store bj b7 5)]) (.seq QMB QME))) (.run [.o 53 (.bin .add bZ (.k (.int .i64 1))), .m 12 kI])
abbrev QMN:AC:= .block 0 (.loop (.seq (.run [.o 13 (.bin .lss bZ bM)]) (.seq (.cond bY .skip (.exit 0)) QMJ)))
abbrev QMR:AC:= .seq (.seq (.run [.o 9 (.av bc 1), .o 10 (.load cb false 1), .o 11 (.len bP), .o 12 (.mv (.k (.int .i64 0)))]) QMN) (.seq (.run [.m 54 bQ, .m 2 lj]) .ret)
abbrev QMT:AC:= .seq (.run [.o 1 (.box aW), .o 2 (.mv (.k .eR))]) (.seq (.run [.o 6 (.load bc true 2), .o 7 (.build [(.slice .full 0 []),(.slice .full 0 []),(.slice .full 0 []),(.slice .full 0 []),(.slice .full 0 [])] [(0,(2,bU))]), .o 8 (.box bJ), .m 3 bS]) QMR)
abbrev QN4:AC:= .seq (.block 1 (.seq (.run [.o 11 (.b6 bJ cb 2), .o 12 (.load bM true 2), .o 5 (.alloc [(.str []),(.bool false)]), .op none none (.store bj bZ 2)]) (.run [.m 13 bQ, .o 14 (.av bj 0), .o 15 (.load bN false 1), .o 16 (.cQ [(.str [])] 1 1 [(0,cd)]), .o 17 (.app 1 16 bY b7), .m 3 cJ]))) (.run [.o 18 (.bin .add cb (.k (.int .i64 1))), .m 9 cG])
abbrev QN8:AC:= .block 0 (.loop (.seq (.run [.o 10 (.bin .lss cb bS)]) (.seq (.cond bP .skip (.exit 0)) QN4)))
abbrev QNC:AC:= .seq (.seq (.run [.o 6 (.av bc 1), .o 7 (.load bU false 1), .o 8 (.len bJ), .o 9 (.mv (.k (.int .i64 0)))]) QN8) (.seq (.run [.m 19 bQ, .o 20 (.av bc 2), .o 21 (.load dd false 1), .o 22 (.app 1 16 cW dh), .m 2 dt]) .ret)
abbrev QNE:AC:= .seq (.run [.o 1 (.box aW), .o 2 (.mv (.k (.slice .full 0 [])))]) (.seq (.run [.o 3 (.mv (.k (.slice .full 0 [])))]) QNC)
abbrev QNI:AC:= .seq (.run [.o 4 (.mv (.k (.bool false)))]) (.seq (.run [.m 5 aW, .m 6 bc, .c 7 kF [bj,bU], .o 8 (.bin .geq bJ (.k (.int .i64 0))), .m 4 bS]) .ret)
abbrev QNM:AC:= .seq (.run [.o 3 (.mv (.k (.bool false)))]) (.seq (.run [.o 4 (.av bc 0), .o 5 (.load cR false 1), .m 6 aW, .c 7 cr [bj,bU], .m 3 bJ]) .ret)
abbrev QNQ:AC:= .seq (.run [.o 4 (.mv (.k (.bool false)))]) (.seq (.run [.m 5 aW, .m 6 bc, .c 7 iX [bj,bU], .o 8 (.bin .geq bJ (.k (.int .i64 0))), .m 4 bS]) .ret)
abbrev QNS:AC:= .par [.m 5 aW, .o 6 (.dB bj), .o 7 (.av bU 2), .o 8 (.load bJ false 1), .m 9 aW, .o 10 (.dB cb), .o 11 (.av bP 3), .o 12 (.load bM false 1), .m 13 bc, .o 14 (.b6 bZ bY 1), .o 15 (.load bN false 1), .o 16 (.bin .sub cd (.k (.int .i64 1))), .m 17 aW, .o 18 (.dB cJ), .o 19 (.av cG 4), .o 20 (.load cW false 1), .m 21 bc, .o 22 (.b6 dd dh 1), .o 23 (.load dt false 1), .o 24 (.bin .sub dz (.k (.int .i64 1))), .o 25 (.Ih 17 bS (some b7) (some da)), .m 4 db] [(0,0),(1,0),(2,0),(3,0),(4,0),(5,0),(6,0),(7,0),(8,0),(9,0),(10,0),(11,0),(12,0),(13,0),(14,0),(15,0),(16,0),(17,0),(18,0),(19,0),(20,0),(21,0)]
abbrev QNU:AC:= .seq (.run [.o 4 (.mv (.k (.slice .full 0 [])))]) (.seq QNS .ret)
abbrev QO3:AC:= .cond dt (.seq (.run [.o 8 (.mv (.k (.bool false)))]) .ret) .skip
abbrev QO5:AC:= .seq (.run [.o 16 (.b6 bZ bN 1), .o 17 (.load b7 false 1), .m 10 cJ]) (.seq (.run [.o 18 (.load cR true 2), .o 19 (.load bj true 5), .m 20 bP, .c 21 va [cG,cW,dd], .o 22 (.bin .eql dh (.k (.int .i64 0)))]) QO3)
abbrev QO9:AC:= .seq (.cond cd .skip (.exit 0)) (.seq (.block 1 QO5) (.run [.o 23 (.bin .add bN (.k (.int .i64 1))), .m 14 dz]))
abbrev QOD:AC:= .seq (.run [.o 11 (.load bJ true 13), .c 12 q9 [bM], .o 13 (.len bZ), .o 14 (.mv (.k (.int .i64 0)))]) (.block 0 (.loop (.seq (.run [.o 15 (.bin .lss bN bY)]) QO9)))
abbrev QOG:AC:= .seq QOD (.seq (.run [.o 24 (.av bJ 1), .o 25 (.load da false 1), .o 26 (.bin .neq db (.k (.int .i64 4))), .m 27 dS, .g 28 27 false (.av bJ 4), .g 29 27 false (.load ey false 1), .g 30 27 false (.bin .neq ez (.k (.str [109,97,105,110]))), .g 31 27 false (.mv eK), .g 32 31 true (.mv df), .g 33 31 true (.av bJ 4), .g 34 31 true (.load fc false 1), .d 35 31 true cr [fh,fA], .g 36 27 false (.pick eU fw (.k (.bool false))), .o 37 (.pick dM (.k (.bool true)) fJ), .m 8 gd]) .ret)
abbrev QOH:AC:= .seq (.run [.o 4 (.box aW), .o 5 (.box bc), .o 7 (.box bQ), .o 8 (.mv (.k (.bool false)))]) QOG
abbrev QOM:AC:= .cond cb (.seq (.run [.o 4 (.mv (.k (.bool false)))]) .ret) .skip
abbrev QOX:AC:= .seq (.run [.o 15 (.b6 bM bY 5), .o 16 (.load cd true 5), .o 6 (.alloc [(.str []),(.slice .full 0 []),(.slice .full 0 []),(.slice .full 0 []),(.slice .full 0 [])]), .op none none (.store bU b7 5)]) (.seq (.run [.o 17 (.av bU 0), .o 18 (.load cJ false 1), .o 19 (.av bQ 4), .o 20 (.load cW false 1), .o 21 (.bin .eql cG dd)]) (.cond dh (.seq (.run [.o 22 (.av bU 1), .o 23 (.load dt false 1), .o 24 (.av bQ 10), .o 25 (.load da false 1), .c 26 vb [dz,db], .m 4 dS]) .ret) .skip))
abbrev QP1:AC:= .seq (.cond bN .skip (.exit 0)) (.seq (.block 1 QOX) (.run [.o 27 (.bin .add bY (.k (.int .i64 1))), .m 13 dM]))
abbrev QP5:AC:= .seq (.run [.o 10 (.av df 1), .o 11 (.load bP false 1), .o 12 (.len bM), .o 13 (.mv (.k (.int .i64 0)))]) (.block 0 (.loop (.seq (.run [.o 14 (.bin .lss bY bZ)]) QP1)))
abbrev QP8:AC:= .seq QP5 (.seq (.run [.o 4 (.mv (.k (.bool false)))]) .ret)
abbrev QP9:AC:= .seq (.seq (.run [.o 7 (.av bQ 1), .o 8 (.load bJ false 1), .o 9 (.bin .neq bS (.k (.int .i64 4)))]) QOM) QP8
abbrev QPA:AC:= .seq (.run [.o 2 (.box aW), .o 3 (.box bc), .o 4 (.mv (.k (.bool false)))]) QP9
abbrev QPG:AC:= .seq (.run [.o 3 (.load bc true 2), .c 4 lF [bQ], .o 5 (.sN cR 0 false 1), .o 6 (.bin .neq bj (.k (.int .i64 0)))]) (.cond bU (.seq (.run [.o 2 (.mv (.k .eR))]) .ret) .skip)
abbrev QPK:AC:= .seq (.run [.o 1 (.box aW), .o 2 (.mv (.k .eR))]) (.seq QPG (.seq (.run [.o 7 (.load bc true 2), .c 8 lR [bJ], .m 2 bS]) .ret))
abbrev QPT:AC:= .cond b7 (.seq (.run [.m 17 aW, .m 4 cJ, .o 5 (.mv (.k (.bool false)))]) .ret) .skip
abbrev QPY:AC:= .block 1 (.seq (.run [.o 12 (.b6 bS bP 1), .o 13 (.load bZ false 1), .m 7 bY]) (.seq (.seq (.run [.m 14 aW, .m 15 bJ, .c 16 cr [bN,cd]]) QPT) (.run [.m 18 aW, .m 19 bJ, .o 20 (.cQ [(.str [])] 1 1 [(0,cW)]), .o 21 (.app 1 16 cG dd), .m 0 dh])))
abbrev QQ1:AC:= .seq (.cond bM .skip (.exit 0)) (.seq QPY (.run [.o 22 (.bin .add bP (.k (.int .i64 1))), .m 10 dt]))
abbrev QQ5:AC:= .seq (.run [.m 8 bc, .o 9 (.len bS), .o 10 (.mv (.k (.int .i64 0)))]) (.block 0 (.loop (.seq (.run [.o 11 (.bin .lss bP cb)]) QQ1)))
abbrev QQ8:AC:= .seq QQ5 (.seq (.run [.m 23 aW, .m 4 dz, .o 5 (.mv (.k (.bool true)))]) .ret)
abbrev QQ9:AC:= .seq (.run [.o 4 (.mv (.k (.slice .full 0 []))), .o 5 (.mv (.k (.bool false)))]) QQ8
abbrev QQF:AC:= .seq (.run [.o 11 (.bin .eql cb (.k (.int .i64 7))), .m 10 bM]) (.cond bP .skip (.run [.o 12 (.bin .eql cb (.k (.int .i64 8))), .m 10 bZ]))
abbrev QQP:AC:= .cond bP (.seq (.run [.o 13 (.av bQ 16), .o 14 (.load bY false 1), .o 15 (.bin .neq bN (.k (.int .i64 0))), .m 4 cd]) .ret) (.seq (.run [.o 17 (.bin .eql cb (.k (.int .i64 10))), .m 16 cJ]) (.cond b7 (.seq (.run [.m 19 aW, .o 20 (.av bQ 13), .o 21 (.load dd false 1), .o 22 (.av bQ 0), .o 23 (.av dt 3), .o 24 (.load dz false 1), .c 25 ra [cW,dh,da], .m 18 db, .o 26 (.ext cG 0), .o 27 (.ext cG 1), .m 5 dS, .m 6 dM]) (.seq (.run [.m 28 bU, .m 4 ey]) .ret)) .skip))
abbrev QQV:AC:= .seq (.seq (.run [.o 7 (.av bQ 0), .o 8 (.av bJ 1), .o 9 (.load bS false 1)]) (.block 0 (.seq QQF QQP))) (.seq (.run [.o 4 (.mv (.k (.bool true)))]) .ret)
abbrev QQW:AC:= .seq (.run [.o 3 (.box bc), .o 4 (.mv (.k (.bool false)))]) QQV
abbrev QR1:AC:= .cond b7 (.seq (.run [.o 4 (.mv (.k (.slice .full 0 [])))]) .ret) .skip
abbrev QRL:AC:= .seq (.run [.o 43 (.b6 gC gV 1), .o 44 (.load iQ false 1), .m 12 jj]) (.seq (.run [.o 45 (.av df 0), .o 46 (.load jV false 1), .m 47 bZ, .c 48 cr [jW,kG]]) (.cond jG (.run [.m 49 bU, .m 50 bZ, .o 51 (.cQ [(.str [])] 1 1 [(0,lh)]), .o 52 (.app 1 16 jX ko), .m 6 kH]) .skip))
abbrev QRP:AC:= .seq (.cond ie .skip (.exit 4)) (.seq (.block 5 QRL) (.run [.o 53 (.bin .add gV (.k (.int .i64 1))), .m 41 kI]))
abbrev QRT:AC:= .seq (.run [.o 37 (.av bP 0), .o 38 (.load gd true 13), .c 39 q9 [gG], .o 40 (.len gC), .o 41 (.mv (.k (.int .i64 0)))]) (.block 4 (.loop (.seq (.run [.o 42 (.bin .lss gV gU)]) QRP)))
abbrev QRX:AC:= .seq (.block 3 (.seq (.run [.o 35 (.b6 eU fc 17), .o 36 (.load fw true 17), .o 10 (.alloc [(.int .i64 0),(.int .i64 0),(.slice .full 0 []),(.str []),(.str []),(.int .i64 0),(.int .i64 0),(.str []),(.slice .full 0 []),(.bool false),(.slice .full 0 []),(.slice .full 0 []),(.slice .full 0 []),(.int .i64 0),(.int .i64 0),(.int .i64 0),(.int .i64 0)]), .op none none (.store bP fJ 17)]) QRT)) (.run [.o 54 (.bin .add fc (.k (.int .i64 1))), .m 33 lj])
abbrev QS1:AC:= .block 2 (.loop (.seq (.run [.o 34 (.bin .lss fc fh)]) (.seq (.cond fA .skip (.exit 2)) QRX)))
abbrev QS3:AC:= .seq (.run [.o 25 (.b6 dh dz 1), .o 26 (.load db false 1), .m 8 dS]) (.seq (.run [.m 27 bj, .m 28 bj, .m 29 bS, .c 30 mw [ey,ez], .c 31 gS [dM,eK], .o 32 (.len eU), .o 33 (.mv (.k (.int .i64 0)))]) QS1)
abbrev QS7:AC:= .seq (.cond da .skip (.exit 0)) (.seq (.block 1 QS3) (.run [.o 55 (.bin .add dz (.k (.int .i64 1))), .m 23 lE]))
abbrev QSB:AC:= .seq (.run [.m 19 bj, .m 20 bc, .c 21 w7 [cW,dd], .o 22 (.len dh), .o 23 (.mv (.k (.int .i64 0)))]) (.block 0 (.loop (.seq (.run [.o 24 (.bin .lss dz dt)]) QS7)))
abbrev QSI:AC:= .seq (.run [.o 17 (.load df true 2), .c 18 lR [cJ], .m 5 cG]) (.seq (.run [.o 6 (.mv (.k (.slice .full 0 [])))]) (.seq QSB (.seq (.run [.m 56 bU, .c 57 jf [mT]]) (.seq (.run [.m 58 bU, .c 59 jw [mU], .m 4 lk]) .ret))))
abbrev QSK:AC:= .seq (.run [.o 2 (.box aW), .o 4 (.mv (.k (.slice .full 0 [])))]) (.seq (.seq (.run [.o 13 (.load df true 2), .m 14 bc, .c 15 tB [bY,bN], .o 16 (.un .not cd)]) QR1) QSI)
abbrev QSX:AC:= .cond fA (.seq (.run [.o 4 (.mv (.k (.bool false)))]) .ret) .skip
abbrev QT0:AC:= .seq (.seq (.run [.m 18 bj, .o 19 (.av bJ 1), .o 20 (.load cW false 1), .c 21 cr [cG,dd], .m 22 dh, .g 23 22 false (.av bJ 1), .g 24 22 false (.load dz false 1), .g 25 22 false (.av df 3), .g 26 22 false (.load db false 1), .g 27 22 false (.bin .eql da dS), .o 28 (.pick dt (.k (.bool true)) dM), .m 29 ey, .g 30 29 false (.mv bc), .g 31 29 false (.av bJ 1), .g 32 29 false (.load eU false 1), .d 33 29 false cr [eK,fh], .o 34 (.pick ez (.k (.bool true)) fc)]) QSX) (.run [.m 35 bj, .o 36 (.av bJ 1), .o 37 (.load fJ false 1), .o 38 (.cQ [(.str [])] 1 1 [(0,gd)]), .o 39 (.app 1 16 fw gG), .m 5 gC])
abbrev QT3:AC:= .block 1 (.seq (.run [.o 13 (.b6 cb bM 6), .o 14 (.load bY true 6), .o 7 (.alloc [(.bool false),(.str []),(.int .i64 0),(.int .i64 0),(.str []),(.slice .full 0 [])]), .op none none (.store bJ bN 6)]) (.seq (.seq (.run [.o 15 (.av bJ 0), .o 16 (.load cd false 1), .o 17 (.un .not b7)]) (.cond cJ (.exit 1) .skip)) QT0))
abbrev QT6:AC:= .seq (.cond bZ .skip (.exit 0)) (.seq QT3 (.run [.o 40 (.bin .add bM (.k (.int .i64 1))), .m 11 gU]))
abbrev QTA:AC:= .seq (.run [.o 8 (.av df 10), .o 9 (.load bS false 1), .o 10 (.len cb), .o 11 (.mv (.k (.int .i64 0)))]) (.block 0 (.loop (.seq (.run [.o 12 (.bin .lss bM bP)]) QT6)))
abbrev QTD:AC:= .seq QTA (.seq (.run [.o 4 (.mv (.k (.bool true)))]) .ret)
abbrev QTF:AC:= .seq (.run [.o 2 (.box aW), .o 4 (.mv (.k (.bool false)))]) (.seq (.run [.o 5 (.mv (.k (.slice .full 0 [])))]) QTD)
abbrev QTM:AC:= .seq (.run [(.o 13 (.build [(.int .i64 0),(.int .i64 0)] [(0,(1,(.k (.int .i64 4))))])), .o 2 (.mv (.k (.slice .full 0 []))), .op none none (.store bQ bY 2)]) .ret
abbrev QTS:AC:= .cond cJ (.seq (.run [.m 18 cR, .m 19 aW, .o 20 (.lW cW), .o 21 (.build [(.int .i64 0),(.str []),(.int .i64 0),(.int .i64 0)] [(3,(1,dd))]), .o 22 (.cQ [(.int .i64 0),(.str []),(.int .i64 0),(.int .i64 0)] 4 1 [(0,dh)]), .o 23 (.app 4 40 cG dt), .o 24 (.build [(.int .i64 0),(.int .i64 0)] []), .m 2 dz, .op none none (.store bQ da 2)]) .ret) .skip
abbrev QU6:AC:= .cond kG (.goto 1) (.seq (.run [.m 51 cb, .c 52 oP [ko], .m 50 kH]) (.cond lh (.goto 2) (.seq (.run [.m 54 cb, .c 55 pO [lj], .m 53 lE]) (.cond kI (.goto 3) .skip))))
abbrev QU8:AC:= .cond eK (.seq (.run [.m 45 bU, .o 46 (.bin .add jV (.k (.int .i64 1))), .m 6 jW]) (.goto 0)) (.seq (.run [.m 48 cb, .o 49 (.bin .eql jG (.k (.int .u8 35))), .m 47 jX]) QU6)
abbrev QUA:AC:= .block 0 (.seq (.run [.m 31 cb, .o 32 (.bin .eql eU (.k (.int .u8 32))), .m 33 fh, .g 34 33 false (.mv cb), .g 35 33 false (.bin .eql fA (.k (.int .u8 9))), .o 36 (.pick fc (.k (.bool true)) fw), .m 37 fJ, .g 38 37 false (.mv cb), .g 39 37 false (.bin .eql gG (.k (.int .u8 10))), .o 40 (.pick gd (.k (.bool true)) gC), .m 41 gU, .g 42 41 false (.mv cb), .g 43 41 false (.bin .eql ie (.k (.int .u8 13))), .o 44 (.pick gV (.k (.bool true)) iQ), .m 30 jj]) QU8)
abbrev QUO:AC:= .seq (.seq (.run [.m 72 bU, .m 73 aW, .o 74 (.lW Fw), .o 75 (.bin .lss CT Fx), .m 76 Fy, .g 77 76 true (.mv aW), .g 78 76 true (.mv bU), .g 79 76 true (.oC Fz CX), .g 80 76 true (.bin .neq OF (.k (.int .u8 10))), .o 81 (.pick CW OG (.k (.bool false)))]) (.cond OH .skip (.exit 1))) (.block 2 (.run [.m 82 bU, .o 83 (.bin .add OI (.k (.int .i64 1))), .m 6 OM]))
abbrev QUS:AC:= .par [.m 87 aW, .o 88 (.av bj 3), .o 89 (.load OR false 1), .m 90 bU, .o 91 (.yv OQ (some OS) (some OT)), .o 92 (.av bj 0), .op none none (.store OV (.k (.int .i64 1)) 1), .o 93 (.av bj 1), .op none none (.store UF OU 1)] [(1,0),(2,0),(5,0),(6,0),(0,0),(3,0),(4,0),(7,0),(8,0)]
abbrev QUW:AC:= .seq (.run [.o 94 (.av bj 1), .o 95 (.load UG false 1), .c 96 uv [UH]]) (.cond ab5 (.run [.o 97 (.av bj 0), .op none none (.store ab6 (.k (.int .i64 3)) 1)]) .skip)
abbrev QV6:AC:= .seq (.seq (.run [.m 103 bU, .m 104 aW, .o 105 (.lW W3), .o 106 (.bin .lss W2 W4), .m 107 W5, .g 108 107 true (.mv aW), .g 109 107 true (.mv bU), .g 110 107 true (.oC W7 W8), .d 111 107 true pO [W9], .o 112 (.pick W6 Xa (.k (.bool false)))]) (.cond Xb .skip (.exit 3))) (.block 4 (.run [.m 113 bU, .o 114 (.bin .add Xc (.k (.int .i64 1))), .m 6 Xd]))
abbrev QV9:AC:= .par [.m 115 aW, .o 116 (.av bj 3), .o 117 (.load Xf false 1), .m 118 bU, .o 119 (.yv Xe (some Xg) (some Xh)), .o 120 (.av bj 0), .op none none (.store Xj (.k (.int .i64 2)) 1), .o 121 (.av bj 1), .op none none (.store Xk Xi 1), .o 7 (.mv (.k (.int .i64 2)))] [(1,0),(2,0),(5,0),(6,0),(0,0),(3,0),(4,0),(7,0),(8,0),(9,0)]
abbrev QVN:AC:= .par [.m 148 bJ, .o 149 (.av bj 3), .o 150 (.load XJ false 1), .o 151 (.build [(.int .i64 0),(.int .i64 0)] [(0,(1,XI)),(1,(1,XK))]), .o 2 (.mv (.k (.slice .full 0 []))), .op none none (.store bQ XL 2)] [(0,0),(1,0),(2,0),(3,0),(4,0),(5,0)]
abbrev QVS:AC:= .seq (.seq (.run [.m 141 cR, .o 142 (.len XD), .o 143 (.bin .eql XE (.k (.int .i64 2000)))]) (.cond OX (.goto 5) .skip)) (.seq (.run [.m 144 cR, .o 145 (.load bj true 4), .o 146 (.cQ [(.int .i64 0),(.str []),(.int .i64 0),(.int .i64 0)] 4 1 [(0,H2)]), .o 147 (.app 4 40 XF XG), .m 4 XH]) (.seq (.goto 0) (.seq (.label 5) (.seq QVN .ret))))
abbrev QVU:AC:= .seq (.label 4) (.seq (.run [.o 7 (.mv (.k (.int .i64 4)))]) QVS)
abbrev QVX:AC:= .seq (.run [.o 133 (.av bj 1), .o 134 (.load Xv false 1), .c 135 vd [Xw], .m 132 Xx, .o 136 (.ext OW 0), .o 137 (.ext OW 1), .o 138 (.av bj 2), .op none none (.store XA Xy 1), .m 8 Xz]) (.seq (.run [.o 7 (.mv (.k (.int .i64 4)))]) (.seq (.seq (.run [.m 139 bS, .o 140 (.un .not XB)]) (.cond XC (.goto 5) .skip)) QVU))
abbrev QVY:AC:= .seq (.seq (.run [.o 122 (.av bj 1), .o 123 (.load Xl false 1), .o 124 (.lW Xm), .o 125 (.bin .gtr Xn (.k (.int .i64 1))), .m 126 Xo, .g 127 126 true (.av bj 1), .g 128 126 true (.load Xq false 1), .g 129 126 true (.oC Xr (.k (.int .i64 0))), .g 130 126 true (.bin .eql Xs (.k (.int .u8 48))), .o 131 (.pick Xp Xt (.k (.bool false)))]) (.cond Xu (.goto 5) .skip)) QVX
abbrev QVZ:AC:= .seq QV9 QVY
abbrev QW3:AC:= .seq (.seq (.run [.m 98 bU, .o 99 (.av bj 3), .o 100 (.load ab8 false 1), .o 101 (.bin .sub ab7 WZ), .o 102 (.bin .gtr W0 (.k (.int .i64 8)))]) (.cond W1 (.goto 5) .skip)) (.seq (.goto 4) (.seq (.label 3) (.seq (.block 3 (.loop QV6)) QVZ)))
abbrev QW5:AC:= .seq QUW (.seq (.run [.o 7 (.mv (.k (.int .i64 4)))]) QW3)
abbrev QWB:AC:= .seq (.label 1) (.seq (.block 1 (.loop QUO)) (.seq (.goto 0) (.seq (.label 2) (.seq (.run [.m 84 aW, .m 85 bU, .c 86 vZ [ON,OO], .m 6 OP]) (.seq QUS QW5)))))
abbrev QWF:AC:= .seq (.run [.m 62 aW, .o 63 (.av bj 3), .o 64 (.load qo false 1), .m 65 bU, .o 66 (.yv qn (some ri) (some vi)), .o 67 (.av bj 1), .op none none (.store vj xb 1)]) (.seq (.run [.o 7 (.mv (.k (.int .i64 2)))]) (.seq (.seq (.run [.m 68 bU, .o 69 (.av bj 3), .o 70 (.load yR false 1), .o 71 (.bin .gtr vk xc)]) (.cond CS (.goto 4) .skip)) (.seq (.goto 5) QWB)))
abbrev QWI:AC:= .seq (.seq (.run [.m 27 aW, .m 28 bU, .o 29 (.oC dM ey), .m 9 ez]) QUA) (.seq (.run [.o 56 (.av bj 0), .op none none (.store mT (.k (.int .i64 4)) 1)]) (.seq (.run [.m 57 bU, .m 58 aW, .m 59 bU, .c 60 yP [mU,lk], .o 61 (.bin .add nI oR), .m 6 qm]) QWF))
abbrev A4:AC:= .seq (.seq (.run [.m 14 bU, .m 15 aW, .o 16 (.lW cd), .o 17 (.bin .geq bN b7)]) QTS) (.seq (.run [.m 25 bU, .o 26 (.build [(.int .i64 0),(.str []),(.int .i64 0),(.int .i64 0)] [(3,(1,db))]), .op none none (.store bj dS 4)]) QWI)
abbrev QWM:AC:= .seq (.seq (.run [.m 10 aW, .o 11 (.lW bP), .o 12 (.bin .gtr bM (.k (.int .i64 100000)))]) (.cond bZ QTM .skip)) (.seq (.label 0) A4)
abbrev QWO:AC:= .seq (.run [.o 5 (.alloc [(.int .i64 0),(.str []),(.int .i64 0),(.int .i64 0)])]) (.seq (.run [.o 6 (.mv (.k (.int .i64 0))), .o 7 (.mv (.k (.int .i64 0))), .o 8 (.mv (.k (.bool true)))]) QWM)
abbrev vl:AC:= .seq (.run [.o 4 (.mv (.k (.slice .full 0 [])))]) QWO
abbrev QWQ:AC:= .scope vl
abbrev QWR:AC:= .seq (.run [.o 2 (.mv (.k (.slice .full 0 []))), .o 3 (.alloc [(.int .i64 0),(.int .i64 0)])]) QWQ
abbrev QWZ:AC:= .seq (.seq (.run [.m 4 aW,(.c 5 dD [cR,(.k (.str [103,108,111,98,97,108]))])]) (.cond bj .skip (.exit 0))) (.block 1 (.run [.m 6 aW, .o 7 (.av bQ 0), .o 8 (.load bJ false 1), .c 9 jg [bU,bS,(.k (.int .i64 16))], .o 10 (.av bQ 0), .op none none (.store bP cb 1)]))
abbrev QXB:AC:= .seq (.run [.o 17 (.av bQ 1), .o 18 (.load cJ false 1), .o 19 (.len cG), .o 20 (.bin .eql cW (.k (.int .i64 16)))]) (.cond dd (.seq (.run [.m 21 aW, .c 22 e9 [dh,(.k (.int .i64 4))]]) (.seq (.run [.o 23 (.load bQ true 2), .op none none (.store df dz 2)]) .ret)) .skip)
abbrev QXD:AC:= .par [.o 31 (.av bQ 1), .o 32 (.load eU false 1), .m 33 aW, .c 34 n9 [fc], .o 35 (.cQ [(.str []),(.slice .full 0 []),(.slice .full 0 []),(.slice .full 0 []),(.slice .full 0 [])] 5 1 [(0,fA)]), .o 36 (.app 5 112 fh fw), .o 37 (.av bQ 1), .op none none (.store gd fJ 1)] [(2,0),(3,0),(0,0),(1,1),(4,0),(5,0),(6,0),(7,0)]
abbrev QXF:AC:= .seq QXB (.seq (.run [.m 24 aW, .o 25 (.dB da), .o 26 (.av db 1), .o 27 (.load dS false 1), .o 28 (.bin .add dM (.k (.int .i64 1))), .o 29 (.dB da), .o 30 (.av ez 1), .op none none (.store eK ey 1)]) QXD)
abbrev QXH:AC:= .seq (.seq (.run [.m 11 aW, .c 12 cP [bM], .m 13 bZ, .g 14 13 true (.mv aW),(.d 15 13 true fK [bN,(.k (.str [112,114,111,99]))]), .o 16 (.pick bY cd (.k (.bool false)))]) (.cond b7 .skip (.exit 2))) (.block 3 QXF)
abbrev QXQ:AC:= .seq (.seq (.run [.m 38 aW, .c 39 cP [gG], .m 40 gC, .g 41 40 true (.mv aW), .d 42 40 true dE [gV], .g 43 40 true (.sN ie 0 false 1), .g 44 40 true (.bin .neq iQ (.k (.int .i64 0))), .o 45 (.pick gU jj (.k (.bool false)))]) (.cond jV (.run [.m 46 aW, .c 47 e9 [jW,(.k (.int .i64 3))]]) .skip)) (.seq (.run [.o 48 (.load bQ true 2), .op none none (.store df jG 2)]) .ret)
abbrev QXU:AC:= .seq (.run [.o 2 (.alloc [(.slice .full 0 []),(.slice .full 0 [])])]) (.seq (.run [.o 3 (.alloc [(.slice .full 0 []),(.slice .full 0 [])])]) (.seq (.block 0 (.loop QWZ)) (.seq (.block 2 (.loop QXH)) QXQ)))
abbrev QY2:AC:= .par [.o 19 (.av bU 0), .o 20 (.load cW false 1), .o 21 (.av bU 1), .o 22 (.load dh false 1), .c 23 lg [dt], .o 24 (.av bU 2), .o 25 (.load da false 1), .c 26 gX [db], .o 27 (.av bU 4), .o 28 (.load dM false 1), .c 29 gX [ey], .o 30 (.build [(.str []),(.slice .full 0 []),(.slice .full 0 []),(.slice .full 0 []),(.slice .full 0 [])] [(0,(1,dd)),(1,(1,dz)),(2,(1,dS)),(4,(1,ez))]), .o 7 (.alloc [(.str []),(.slice .full 0 []),(.slice .full 0 []),(.slice .full 0 []),(.slice .full 0 [])]), .op none none (.store bJ eK 5)] [(2,0),(3,0),(4,0),(5,0),(6,1),(7,0),(8,0),(9,2),(10,0),(12,0),(0,0),(1,4),(11,0),(13,0)]
abbrev QY7:AC:= .seq (.run [.o 17 (.b6 bY cd 5), .o 18 (.load cJ true 5), .o 6 (.alloc [(.str []),(.slice .full 0 []),(.slice .full 0 []),(.slice .full 0 []),(.slice .full 0 [])]), .op none none (.store bU cG 5)]) (.seq QY2 (.seq (.run [.o 32 (.av bU 3), .o 33 (.load fh false 1), .m 34 bQ, .c 35 kn [fc,fA,(.k (.bool true))], .m 31 fw, .o 36 (.ext eU 0), .o 37 (.ext eU 1), .o 38 (.av bJ 3), .op none none (.store gG fJ 1), .m 3 gd]) (.run [.o 39 (.av cR 1), .o 40 (.load gC false 1), .o 41 (.load bJ true 5), .o 42 (.cQ [(.str []),(.slice .full 0 []),(.slice .full 0 []),(.slice .full 0 []),(.slice .full 0 [])] 5 1 [(0,gV)]), .o 43 (.app 5 112 gU ie), .o 44 (.av cR 1), .op none none (.store jj iQ 1)])))
abbrev QYB:AC:= .seq (.cond b7 .skip (.exit 0)) (.seq (.block 1 QY7) (.run [.o 45 (.bin .add cd (.k (.int .i64 1))), .m 15 jV]))
abbrev QYF:AC:= .seq (.run [.o 12 (.av bc 1), .o 13 (.load bZ false 1), .o 14 (.len bY), .o 15 (.mv (.k (.int .i64 0)))]) (.block 0 (.loop (.seq (.run [.o 16 (.bin .lss cd bN)]) QYB)))
abbrev QYK:AC:= .seq (.run [.o 3 (.mv (.k (.int .i64 0)))]) (.seq (.run [.o 8 (.av bc 0), .o 9 (.load bS false 1), .c 10 gX [cb], .o 11 (.build [(.slice .full 0 []),(.slice .full 0 [])] [(0,(1,bP))]), .o 4 (.alloc [(.slice .full 0 []),(.slice .full 0 [])]), .op none none (.store cR bM 2)]) (.seq QYF (.seq (.run [.o 46 (.load cR true 2), .op none none (.store df jW 2)]) .ret)))
abbrev QYL:AC:= .seq (.run [.o 1 (.box aW), .o 2 (.alloc [(.slice .full 0 []),(.slice .full 0 [])])]) QYK
abbrev QYP:AC:= .seq (.run [.o 2 (.mv (.k (.bool false)))]) (.seq (.run [.m 3 aW, .o 4 (.bin .geq bQ (.k (.int .u8 97))), .m 5 cR, .g 6 5 true (.mv aW), .g 7 5 true (.bin .leq bU (.k (.int .u8 122))), .o 8 (.pick bj bJ (.k (.bool false))), .m 2 bS]) .ret)
abbrev QYW:AC:= .seq (.seq (.run [.m 5 bc, .m 6 aW, .o 7 (.lW bU), .o 8 (.bin .lss bj bJ), .m 9 bS, .g 10 9 true (.mv aW), .g 11 9 true (.mv bc), .g 12 9 true (.oC bP bM), .d 13 9 true oP [bZ], .g 14 9 true (.mv bY), .g 15 14 false (.mv aW), .g 16 14 false (.mv bc), .g 17 14 false (.oC cd b7), .d 18 14 false pO [cJ], .g 19 9 true (.pick bN (.k (.bool true)) cG), .o 20 (.pick cb cW (.k (.bool false)))]) (.cond dd .skip (.exit 0))) (.block 1 (.run [.m 21 bc, .o 22 (.bin .add dh (.k (.int .i64 1))), .m 1 dt]))
abbrev QZ2:AC:= .seq (.run [.o 4 (.mv (.k (.int .i64 0)))]) (.seq (.block 0 (.loop QYW)) (.seq (.run [.m 23 bc, .m 4 dz]) .ret))
abbrev QZJ:AC:= .seq (.run [.o 16 (.bin .eql bQ (.k (.str [114,101,97,100]))), .m 4 b7]) (.cond cR .skip (.run [.o 17 (.bin .eql bQ (.k (.str [112,114,105,110,116]))), .m 4 cJ]))
abbrev QZM:AC:= .cond cR .skip (.seq (.run [.o 15 (.bin .eql bQ (.k (.str [103,111,116,111]))), .m 4 cd]) (.cond cR .skip QZJ))
abbrev QZO:AC:= .cond cR .skip (.seq (.run [.o 14 (.bin .eql bQ (.k (.str [114,101,116,117,114,110]))), .m 4 bN]) QZM)
abbrev QZQ:AC:= .cond cR .skip (.seq (.run [.o 13 (.bin .eql bQ (.k (.str [99,111,110,116,105,110,117,101]))), .m 4 bY]) QZO)
abbrev QZS:AC:= .cond cR .skip (.seq (.run [.o 12 (.bin .eql bQ (.k (.str [98,114,101,97,107]))), .m 4 bZ]) QZQ)
abbrev QZU:AC:= .cond cR .skip (.seq (.run [.o 11 (.bin .eql bQ (.k (.str [119,104,105,108,101]))), .m 4 bM]) QZS)
abbrev QZW:AC:= .cond cR .skip (.seq (.run [.o 10 (.bin .eql bQ (.k (.str [101,108,115,101]))), .m 4 bP]) QZU)
abbrev QZY:AC:= .cond cR .skip (.seq (.run [.o 9 (.bin .eql bQ (.k (.str [105,102]))), .m 4 cb]) QZW)
abbrev ai6:AC:= .cond cR .skip (.seq (.run [.o 8 (.bin .eql bQ (.k (.str [114,101,102]))), .m 4 bS]) QZY)
abbrev ai7:AC:= .cond cR .skip (.seq (.run [.o 7 (.bin .eql bQ (.k (.str [118,97,114]))), .m 4 bJ]) ai6)
abbrev ai8:AC:= .cond cR .skip (.seq (.run [.o 6 (.bin .eql bQ (.k (.str [112,114,111,99]))), .m 4 bU]) ai7)
abbrev ai9:AC:= .cond cR (.seq (.run [.o 2 (.mv (.k (.bool true)))]) .ret) .skip
abbrev aja:AC:= .seq (.seq (.run [.o 5 (.bin .eql bQ (.k (.str [103,108,111,98,97,108]))), .m 4 bj]) ai8) ai9
abbrev ajb:AC:= .seq (.seq (.run [.m 3 aW]) (.block 0 aja)) (.seq (.run [.o 2 (.mv (.k (.bool false)))]) .ret)
abbrev ajc:AC:= .seq (.run [.o 2 (.mv (.k (.bool false)))]) ajb
end Go.Abs

/-! Have1 -/

namespace Go.Abs
open Go.Proofs
theorem DU:Has Tryz.prog tz 1 [(0,none)] QH9:=⟨Tryz.f44,by kernel_rfl,by kernel_rfl⟩
theorem Hw:Has Tryz.prog wX 40 [(0,(some (true,2)))] QHH:=⟨Tryz.f45,by kernel_rfl,by kernel_rfl⟩
theorem Ab:Has Tryz.prog jo 23 [(4,none)] QHY:=⟨Tryz.f46,by kernel_rfl,by kernel_rfl⟩
theorem oS:Has Tryz.prog gx 19 [(4,none)] QI8:=⟨Tryz.f47,by kernel_rfl,by kernel_rfl⟩
theorem rM:Has Tryz.prog ky 69 [(4,none)] QJ6:=⟨Tryz.f48,by kernel_rfl,by kernel_rfl⟩
theorem FB:Has Tryz.prog mO 15 [(2,none)] QJT:=⟨Tryz.f56,by kernel_rfl,by kernel_rfl⟩
theorem rj:Has Tryz.prog jS 71 [(6,none)] QKU:=⟨Tryz.f57,by kernel_rfl,by kernel_rfl⟩
theorem vD:Has Tryz.prog iX 19 [(4,none)] QLH:=⟨Tryz.f58,by kernel_rfl,by kernel_rfl⟩
theorem DV:Has Tryz.prog nV 18 [(2,none)] QM4:=⟨Tryz.f59,by kernel_rfl,by kernel_rfl⟩
theorem Jv:Has Tryz.prog lR 55 [(2,none)] QMT:=⟨Tryz.f60,by kernel_rfl,by kernel_rfl⟩
theorem Hx:Has Tryz.prog wY 23 [(2,none)] QNE:=⟨Tryz.f61,by kernel_rfl,by kernel_rfl⟩
theorem rk:Has Tryz.prog gb 9 [(4,none)] QNI:=⟨Tryz.f62,by kernel_rfl,by kernel_rfl⟩
theorem B5:Has Tryz.prog oj 8 [(3,none)] QNM:=⟨Tryz.f63,by kernel_rfl,by kernel_rfl⟩
theorem tF:Has Tryz.prog cr 9 [(4,none)] QNQ:=⟨Tryz.f64,by kernel_rfl,by kernel_rfl⟩
theorem B6:Has Tryz.prog gS 26 [(4,none)] QNU:=⟨Tryz.f65,by kernel_rfl,by kernel_rfl⟩
theorem DW:Has Tryz.prog p8 38 [(8,none)] QOH:=⟨Tryz.f66,by kernel_rfl,by kernel_rfl⟩
theorem xT:Has Tryz.prog u7 28 [(4,none)] QPA:=⟨Tryz.f67,by kernel_rfl,by kernel_rfl⟩
theorem xU:Has Tryz.prog q5 9 [(2,none)] QPK:=⟨Tryz.f68,by kernel_rfl,by kernel_rfl⟩
theorem Hy:Has Tryz.prog pN 24 [(4,none),(5,none)] QQ9:=⟨Tryz.f69,by kernel_rfl,by kernel_rfl⟩
theorem pd:Has Tryz.prog u9 29 [(4,none)] QQW:=⟨Tryz.f70,by kernel_rfl,by kernel_rfl⟩
theorem tZ:Has Tryz.prog q6 60 [(4,none)] QSK:=⟨Tryz.f71,by kernel_rfl,by kernel_rfl⟩
theorem CY:Has Tryz.prog rZ 41 [(4,none)] QTF:=⟨Tryz.f72,by kernel_rfl,by kernel_rfl⟩
theorem Lf:Has Tryz.prog A0 152 [(2,none),(3,(some (true,2)))] QWR:=⟨Tryz.f73,by kernel_rfl,by kernel_rfl⟩
theorem vm:Has Tryz.prog l9 49 [(2,(some (true,2)))] QXU:=⟨Tryz.f74,by kernel_rfl,by kernel_rfl⟩
theorem DX:Has Tryz.prog p9 47 [(2,(some (true,2)))] QYL:=⟨Tryz.f75,by kernel_rfl,by kernel_rfl⟩
theorem FC:Has Tryz.prog oP 9 [(2,none)] QYP:=⟨Tryz.f76,by kernel_rfl,by kernel_rfl⟩
theorem Lg:Has Tryz.prog vZ 24 [(4,none)] QZ2:=⟨Tryz.f77,by kernel_rfl,by kernel_rfl⟩
theorem Jw:Has Tryz.prog uv 18 [(2,none)] ajc:=⟨Tryz.f78,by kernel_rfl,by kernel_rfl⟩
end Go.Abs

/-! Codes2 -/

namespace Go.Abs
abbrev ajd:AC:= .seq (.run [.o 1 (.box aW), .o 2 (.mv (.k (.slice .full 0 [])))]) (.seq (.run [.o 3 (.av bc 3), .o 4 (.load bQ false 1),(.c 5 ma [cR,(.k (.int .i64 1)),(.k (.int .i64 0)),(.k (.bool false)),(.k (.slice .full 0 []))]), .m 2 bj]) .ret)
abbrev aje:AC:= .par [.o 20 (.av bJ 0), .o 21 (.load dd false 1), .o 22 (.av bJ 2), .o 23 (.load dt false 1), .c 24 mP [dz], .o 25 (.av bJ 4), .o 26 (.load db false 1), .c 27 mP [dS], .o 28 (.av bJ 3), .o 29 (.load ey false 1), .o 30 (.load bQ true 13), .c 31 nF [ez,eK], .o 32 (.build [(.str []),(.slice .full 0 []),(.slice .full 0 []),(.slice .full 0 []),(.slice .full 0 [])] [(0,(1,dh)),(2,(1,da)),(4,(1,dM)),(3,(1,eU))]), .o 8 (.alloc [(.str []),(.slice .full 0 []),(.slice .full 0 []),(.slice .full 0 []),(.slice .full 0 [])]), .op none none (.store bS fh 5)] [(2,0),(3,0),(4,0),(5,0),(6,1),(7,0),(8,0),(9,2),(10,2),(11,0),(13,0),(0,0),(1,4),(12,0),(14,0)]
abbrev ajf:AC:= .seq (.run [.o 18 (.b6 bN b7 5), .o 19 (.load cG true 5), .o 7 (.alloc [(.str []),(.slice .full 0 []),(.slice .full 0 []),(.slice .full 0 []),(.slice .full 0 [])]), .op none none (.store bJ cW 5)]) (.seq aje (.seq (.run [.o 33 (.av bS 1), .o 34 (.load fc false 1), .o 35 (.av bJ 1), .o 36 (.load fw false 1), .o 37 (.app 2 24 fA fJ), .o 38 (.av bS 1), .op none none (.store gG gd 1)]) (.run [.o 39 (.av bj 1), .o 40 (.load gC false 1), .o 41 (.load bS true 5), .o 42 (.cQ [(.str []),(.slice .full 0 []),(.slice .full 0 []),(.slice .full 0 []),(.slice .full 0 [])] 5 1 [(0,gV)]), .o 43 (.app 5 112 gU ie), .o 44 (.av bj 1), .op none none (.store jj iQ 1)])))
abbrev ajg:AC:= .seq (.cond cJ .skip (.exit 0)) (.seq (.block 1 ajf) (.run [.o 45 (.bin .add b7 (.k (.int .i64 1))), .m 16 jV]))
abbrev UI:AC:= .seq (.run [.o 17 (.bin .lss b7 cd)]) ajg
abbrev UJ:AC:= .seq (.run [.o 46 (.load bj true 2), .op none none (.store cR jW 2)]) .ret
abbrev ajh:AC:= .seq (.seq (.run [.o 13 (.av df 1), .o 14 (.load bY false 1), .o 15 (.len bN), .o 16 (.mv (.k (.int .i64 0)))]) (.block 0 (.loop UI))) UJ
abbrev aji:AC:= .seq (.run [.o 2 (.box aW), .o 3 (.box bc), .o 4 (.alloc [(.slice .full 0 []),(.slice .full 0 [])])]) (.seq (.run [.o 9 (.av df 0), .o 10 (.load cb false 1), .c 11 mP [bP], .o 12 (.build [(.slice .full 0 []),(.slice .full 0 [])] [(0,(1,bM))]), .o 5 (.alloc [(.slice .full 0 []),(.slice .full 0 [])]), .op none none (.store bj bZ 2)]) ajh)
abbrev ajj:AC:= .par [.m 12 bQ, .m 13 aW, .m 14 cR, .o 15 (.b6 bY bN 13), .o 16 (.av cd 11), .o 17 (.load b7 false 1), .c 18 jT [cJ], .m 19 aW, .m 20 cR, .o 21 (.b6 cW dd 13), .o 22 (.av dh 12), .o 23 (.load dt false 1), .c 24 jT [dz], .o 25 (.bin .add cG da), .o 26 (.bin .add bZ db), .m 3 dS] [(1,0),(2,0),(3,0),(4,0),(5,0),(6,0),(7,0),(8,0),(9,0),(10,0),(11,1),(12,0),(0,0),(13,0),(14,0),(15,0)]
abbrev ajk:AC:= .seq (.cond bP .skip (.exit 0)) (.seq (.block 1 (.seq (.run [.m 11 cb, .m 4 bM]) ajj)) (.run [.o 27 (.bin .add cb (.k (.int .i64 1))), .m 9 dM]))
abbrev ajl:AC:= .seq (.run [.m 7 aW, .o 8 (.len bJ), .o 9 (.mv (.k (.int .i64 0)))]) (.block 0 (.loop (.seq (.run [.o 10 (.bin .lss cb bS)]) ajk)))
abbrev ajm:AC:= .seq (.run [.o 2 (.mv (.k (.int .i64 0)))]) (.seq (.run [.m 5 aW, .o 6 (.len bj), .m 3 bU]) (.seq ajl (.seq (.run [.m 28 bQ, .m 2 ey]) .ret)))
abbrev ajn:AC:= .seq (.run [.m 20 bc, .o 21 (.av cb 0), .op none none (.store dh dd 1)]) (.seq (.run [.o 23 (.av bS 11), .o 24 (.load dz false 1), .m 25 bc, .c 26 je [da,db], .m 22 dS, .o 27 (.ext dt 0), .o 28 (.ext dt 1), .o 29 (.av cb 11), .op none none (.store ez dM 1), .m 1 ey]) (.seq (.run [.o 31 (.av bS 12), .o 32 (.load eU false 1), .m 33 bc, .c 34 je [fh,fc], .m 30 fA, .o 35 (.ext eK 0), .o 36 (.ext eK 1), .o 37 (.av cb 12), .op none none (.store gd fw 1), .m 1 fJ]) (.run [.m 38 bU, .o 39 (.load cb true 13), .o 40 (.cQ [(.int .i64 0),(.int .i64 0),(.slice .full 0 []),(.str []),(.str []),(.int .i64 0),(.int .i64 0),(.str []),(.slice .full 0 []),(.bool false),(.slice .full 0 []),(.slice .full 0 []),(.slice .full 0 [])] 13 1 [(0,gC)]), .o 41 (.app 13 208 gG gU), .m 6 gV])))
abbrev ajo:AC:= .seq (.run [.o 14 (.b6 bP bZ 13), .o 15 (.load bN true 13), .o 8 (.alloc [(.int .i64 0),(.int .i64 0),(.slice .full 0 []),(.str []),(.str []),(.int .i64 0),(.int .i64 0),(.str []),(.slice .full 0 []),(.bool false),(.slice .full 0 []),(.slice .full 0 []),(.slice .full 0 [])]), .op none none (.store bS cd 13)]) (.seq (.run [.m 16 bc, .o 17 (.bin .add b7 (.k (.int .i64 1))), .m 1 cJ]) (.seq (.run [.o 18 (.load bS true 13), .c 19 k8 [cG], .o 9 (.alloc [(.int .i64 0),(.int .i64 0),(.slice .full 0 []),(.str []),(.str []),(.int .i64 0),(.int .i64 0),(.str []),(.slice .full 0 []),(.bool false),(.slice .full 0 []),(.slice .full 0 []),(.slice .full 0 [])]), .op none none (.store cb cW 13)]) ajn))
abbrev ajp:AC:= .seq (.cond bY .skip (.exit 0)) (.seq (.block 1 ajo) (.run [.o 42 (.bin .add bZ (.k (.int .i64 1))), .m 12 ie]))
abbrev ajq:AC:= .seq (.run [.m 10 aW, .o 11 (.len bP), .o 12 (.mv (.k (.int .i64 0)))]) (.block 0 (.loop (.seq (.run [.o 13 (.bin .lss bZ bM)]) ajp)))
abbrev ajr:AC:= .seq (.run [.o 4 (.mv (.k (.slice .full 0 []))), .o 5 (.mv (.k (.int .i64 0)))]) (.seq (.run [.o 6 (.mv (.k (.slice .full 0 [])))]) (.seq ajq (.seq (.run [.m 43 bU, .m 44 bc, .m 4 iQ, .m 5 jj]) .ret)))
abbrev ajs:AC:= .par [.o 30 (.load bP true 16), .o 31 (.av bS 0), .o 32 (.load eU false 1), .op none none (.store cR eK 16), .m 5 fh, .o 6 (.mv (.k (.bool true)))] [(0,0),(3,0),(1,0),(2,1),(4,0),(5,0)]
abbrev ajt:AC:= .seq (.block 3 (.seq (.run [.o 23 (.b6 cW dh 16), .o 24 (.load dz true 16), .o 10 (.alloc [(.int .i64 0),(.int .i64 0),(.slice .full 0 []),(.str []),(.str []),(.int .i64 0),(.int .i64 0),(.str []),(.slice .full 0 []),(.bool false),(.slice .full 0 []),(.slice .full 0 []),(.slice .full 0 []),(.int .i64 0),(.int .i64 0),(.bool false)]), .op none none (.store bP da 16)]) (.seq (.run [.o 25 (.av bP 0), .o 26 (.av db 0), .o 27 (.load dS false 1), .m 28 bc, .o 29 (.bin .eql dM ey)]) (.cond ez (.seq ajs .ret) .skip)))) (.run [.o 33 (.bin .add dh (.k (.int .i64 1))), .m 21 fc])
abbrev aju:AC:= .block 2 (.loop (.seq (.run [.o 22 (.bin .lss dh dd)]) (.seq (.cond dt .skip (.exit 2)) ajt)))
abbrev ajv:AC:= .seq (.run [.o 16 (.b6 bZ bN 5), .o 17 (.load b7 true 5), .o 8 (.alloc [(.str []),(.slice .full 0 []),(.slice .full 0 []),(.slice .full 0 []),(.slice .full 0 [])]), .op none none (.store bS cJ 5)]) (.seq (.run [.o 18 (.load bS true 5), .c 19 sG [cG], .o 20 (.len cW), .o 21 (.mv (.k (.int .i64 0)))]) aju)
abbrev ajw:AC:= .seq (.cond cd .skip (.exit 0)) (.seq (.block 1 ajv) (.run [.o 34 (.bin .add bN (.k (.int .i64 1))), .m 14 fA]))
abbrev ajx:AC:= .seq (.run [.o 11 (.av df 1), .o 12 (.load bM false 1), .o 13 (.len bZ), .o 14 (.mv (.k (.int .i64 0)))]) (.block 0 (.loop (.seq (.run [.o 15 (.bin .lss bN bY)]) ajw)))
abbrev ajy:AC:= .seq ajx (.seq (.run [.o 35 (.build [(.int .i64 0),(.int .i64 0),(.slice .full 0 []),(.str []),(.str []),(.int .i64 0),(.int .i64 0),(.str []),(.slice .full 0 []),(.bool false),(.slice .full 0 []),(.slice .full 0 []),(.slice .full 0 []),(.int .i64 0),(.int .i64 0),(.bool false)] []), .op none none (.store cR fw 16), .o 5 (.mv (.k (.str []))), .o 6 (.mv (.k (.bool false)))]) .ret)
abbrev ajz:AC:= .seq (.run [.o 2 (.box aW), .o 4 (.alloc [(.int .i64 0),(.int .i64 0),(.slice .full 0 []),(.str []),(.str []),(.int .i64 0),(.int .i64 0),(.str []),(.slice .full 0 []),(.bool false),(.slice .full 0 []),(.slice .full 0 []),(.slice .full 0 []),(.int .i64 0),(.int .i64 0),(.bool false)]), .o 5 (.mv (.k (.str []))), .o 6 (.mv (.k (.bool false)))]) ajy
abbrev ajA:AC:= .par [.o 21 (.av bJ 11), .o 22 (.load dh false 1), .m 23 bc, .c 24 jD [dt,dz], .o 25 (.av bJ 12), .o 26 (.load db false 1), .m 27 bc, .c 28 jD [dS,dM], .o 29 (.av bS 11), .op none none (.store ez da 1), .o 30 (.av bS 12), .op none none (.store eK ey 1)] [(0,0),(1,0),(2,0),(3,0),(4,0),(5,1),(6,0),(7,0),(8,0),(9,0),(10,0),(11,0)]
abbrev ajB:AC:= .seq (.seq (.run [.o 15 (.av bJ 0), .o 16 (.load cd false 1), .m 17 bc, .o 18 (.bin .eql b7 cJ)]) (.cond cG (.exit 1) .skip)) (.seq (.run [.o 19 (.load bJ true 13), .c 20 k8 [cW], .o 8 (.alloc [(.int .i64 0),(.int .i64 0),(.slice .full 0 []),(.str []),(.str []),(.int .i64 0),(.int .i64 0),(.str []),(.slice .full 0 []),(.bool false),(.slice .full 0 []),(.slice .full 0 []),(.slice .full 0 [])]), .op none none (.store bS dd 13)]) (.seq ajA (.run [.m 31 bj, .o 32 (.load bS true 13), .o 33 (.cQ [(.int .i64 0),(.int .i64 0),(.slice .full 0 []),(.str []),(.str []),(.int .i64 0),(.int .i64 0),(.str []),(.slice .full 0 []),(.bool false),(.slice .full 0 []),(.slice .full 0 []),(.slice .full 0 [])] 13 1 [(0,fh)]), .o 34 (.app 13 208 eU fc), .m 5 fA])))
abbrev ajC:AC:= .seq (.block 1 (.seq (.run [.o 13 (.b6 cb bM 13), .o 14 (.load bY true 13), .o 7 (.alloc [(.int .i64 0),(.int .i64 0),(.slice .full 0 []),(.str []),(.str []),(.int .i64 0),(.int .i64 0),(.str []),(.slice .full 0 []),(.bool false),(.slice .full 0 []),(.slice .full 0 []),(.slice .full 0 [])]), .op none none (.store bJ bN 13)]) ajB)) (.run [.o 35 (.bin .add bM (.k (.int .i64 1))), .m 11 fw])
abbrev ajD:AC:= .block 0 (.loop (.seq (.run [.o 12 (.bin .lss bM bP)]) (.seq (.cond bZ .skip (.exit 0)) ajC)))
abbrev ajE:AC:= .seq (.seq (.run [.m 9 aW, .o 10 (.len cb), .o 11 (.mv (.k (.int .i64 0)))]) ajD) (.seq (.run [.m 36 bj, .m 4 fJ]) .ret)
abbrev ajF:AC:= .seq (.run [.o 4 (.mv (.k (.slice .full 0 [])))]) (.seq (.run [.o 5 (.mv (.k (.slice .full 0 [])))]) ajE)
abbrev ajG:AC:= .seq (.run [.m 3 aW,(.o 4 (.build [(.int .i64 0),(.int .i64 0),(.str []),(.slice .full 0 [])] [(0,(1,(.k (.int .i64 1)))),(1,(1,bQ))])), .op none none (.store df cR 4)]) .ret
abbrev ajH:AC:= .seq (.run [.o 2 (.alloc [(.int .i64 0),(.int .i64 0),(.str []),(.slice .full 0 [])])]) ajG
abbrev ajI:AC:= .seq (.run [.m 3 aW,(.o 4 (.build [(.int .i64 0),(.int .i64 0),(.str []),(.slice .full 0 [])] [(0,(1,(.k (.int .i64 2)))),(2,(1,bQ))])), .op none none (.store df cR 4)]) .ret
abbrev ajJ:AC:= .seq (.run [.o 2 (.alloc [(.int .i64 0),(.int .i64 0),(.str []),(.slice .full 0 [])])]) ajI
abbrev ajK:AC:= .seq (.run [.o 4 (.box bc), .o 5 (.box df), .o 6 (.alloc [(.int .i64 0),(.int .i64 0),(.str []),(.slice .full 0 [])])]) (.seq (.run [.m 7 aW, .o 8 (.load cR true 4), .o 9 (.load bj true 4), .o 10 (.cQ [(.int .i64 0),(.int .i64 0),(.str []),(.slice .full 0 [])] 4 2 [(0,bS),(1,cb)]), .o 11 (.build [(.int .i64 0),(.int .i64 0),(.str []),(.slice .full 0 [])] [(0,(1,bJ)),(3,(1,bP))]), .op none none (.store bU bM 4)]) .ret)
abbrev ajL:AC:= .seq (.seq (.run [.m 10 bj, .o 11 (.av df 3), .o 12 (.load bM false 1), .o 13 (.len bZ), .o 14 (.bin .lss bP bY), .m 15 bN, .g 16 15 true (.mv bc), .g 17 15 true (.bin .leq b7 (.k (.int .i64 20000))), .o 18 (.pick cd cJ (.k (.bool false)))]) (.cond cG .skip (.exit 0))) (.seq (.block 1 (.run [.o 21 (.av df 3), .o 22 (.load dh false 1), .m 23 bj, .o 24 (.b6 dt dz 4), .o 25 (.load da true 4), .m 26 bc, .c 27 jE [db,dS], .m 1 dM])) (.run [.m 19 bj, .o 20 (.bin .add cW (.k (.int .i64 1))), .m 5 dd]))
abbrev ajM:AC:= .seq (.seq (.run [.o 5 (.mv (.k (.int .i64 0)))]) (.block 0 (.loop ajL))) (.seq (.run [.m 28 bc, .m 4 ey]) .ret)
abbrev ajN:AC:= .seq (.run [.o 2 (.box aW), .o 4 (.mv (.k (.int .i64 0)))]) (.seq (.run [.o 6 (.av df 2), .o 7 (.load bU false 1), .m 8 bc, .c 9 gx [bJ,bS], .m 1 cb]) ajM)
abbrev ajO:AC:= .par [.o 10 (.av bc 9), .o 11 (.load bP false 1), .o 3 (.mv (.k (.bool false))), .o 4 (.mv (.k (.bool false))), .o 5 (.mv (.k (.bool false))), .m 6 bM, .o 7 (.mv (.k (.bool false))), .o 8 (.mv (.k (.bool false)))] [(0,0),(1,0),(2,0),(3,0),(4,0),(5,0),(6,0),(7,0)]
abbrev ajP:AC:= .seq (.run [.o 20 (.bin .eql b7 (.k (.int .i64 2))), .m 19 dd]) (.cond cW .skip (.run [.o 21 (.bin .eql b7 (.k (.int .i64 10))), .m 19 dh]))
abbrev ajQ:AC:= .seq (.run [.o 38 (.bin .eql b7 (.k (.int .i64 7))), .m 37 gG]) (.cond gd .skip (.run [.o 39 (.bin .eql b7 (.k (.int .i64 8))), .m 37 gC]))
abbrev ajR:AC:= .cond gd .skip (.seq (.run [.o 2 (.mv (.k (.bool false)))]) .ret)
abbrev ajS:AC:= .seq (.run [.o 34 (.bin .eql b7 (.k (.int .i64 9))), .m 33 fA]) (.cond fc (.run [.o 35 (.av bc 9), .o 36 (.load fw false 1), .m 5 fJ, .o 6 (.mv (.k (.bool false)))]) (.seq ajQ ajR))
abbrev ajT:AC:= .seq (.run [.o 32 (.bin .eql b7 (.k (.int .i64 6))), .m 31 fh]) (.cond eU (.run [.o 5 (.mv (.k (.bool true))), .o 7 (.mv (.k (.bool true)))]) ajS)
abbrev ajU:AC:= .seq (.run [.o 30 (.bin .eql b7 (.k (.int .i64 5))), .m 29 eK]) (.cond ez (.run [.o 5 (.mv (.k (.bool true))), .o 7 (.mv (.k (.bool true))), .o 8 (.mv (.k (.bool true)))]) ajT)
abbrev ajV:AC:= .seq (.run [.o 25 (.bin .eql b7 (.k (.int .i64 4))), .m 24 db]) (.cond da (.run [.o 26 (.av bc 3), .o 27 (.load dS false 1), .o 28 (.bin .neq dM (.k (.str []))), .m 3 ey, .o 4 (.mv (.k (.bool true)))]) ajU)
abbrev ajW:AC:= .seq (.run [.o 23 (.bin .eql b7 (.k (.int .i64 3))), .m 22 dz]) (.cond dt (.run [.o 5 (.mv (.k (.bool true)))]) ajV)
abbrev ajX:AC:= .seq ajP (.cond cW (.run [.o 3 (.mv (.k (.bool true)))]) ajW)
abbrev ajY:AC:= .seq (.run [.o 18 (.bin .eql b7 (.k (.int .i64 1))), .m 17 cG]) (.cond cJ (.run [.o 3 (.mv (.k (.bool true))), .o 5 (.mv (.k (.bool true)))]) ajX)
abbrev ajZ:AC:= .run [.m 40 bU, .m 41 gU, .g 42 41 false (.mv bJ), .g 43 41 false (.un .not ie), .g 44 41 false (.mv iQ), .g 45 44 true (.av bc 11), .g 46 44 true (.load jV false 1), .g 47 44 true (.len jW), .g 48 44 true (.bin .gtr kG (.k (.int .i64 0))), .g 49 41 false (.pick jj jG (.k (.bool false))), .o 50 (.pick gV (.k (.bool true)) jX), .m 51 lh, .g 52 51 false (.mv bS), .g 53 51 false (.un .not kH), .g 54 51 false (.mv kI), .g 55 54 true (.av bc 12), .g 56 54 true (.load lE false 1), .g 57 54 true (.len mT), .g 58 54 true (.bin .gtr nI (.k (.int .i64 0))), .g 59 51 false (.pick lj mU (.k (.bool false))), .o 60 (.pick ko (.k (.bool true)) lk), .m 61 oR, .g 62 61 false (.mv cb), .g 63 61 false (.un .not qn), .g 64 61 false (.mv qo), .g 65 64 true (.av bc 10), .g 66 64 true (.load vi false 1), .g 67 64 true (.len xb), .g 68 64 true (.bin .gtr vj (.k (.int .i64 0))), .g 69 61 false (.pick ri vk (.k (.bool false))), .o 70 (.pick qm (.k (.bool true)) yR)]
abbrev aj0:AC:= .cond xc (.seq (.run [.o 2 (.mv (.k (.bool false)))]) .ret) .skip
abbrev aj1:AC:= .cond OS (.seq (.run [.o 2 (.mv (.k (.bool false)))]) .ret) .skip
abbrev acg:AC:= .seq (.seq (.run [.o 71 (.av bc 3), .o 72 (.load CS false 1), .m 73 bQ, .c 74 oQ [CT,Fw], .o 75 (.un .not Fx), .m 76 Fy, .g 77 76 false (.av bc 4), .g 78 76 false (.load Fz false 1), .g 79 76 false (.mv cR), .d 80 76 false oQ [CX,OF], .g 81 76 false (.un .not OG), .o 82 (.pick CW (.k (.bool true)) OH), .m 83 OI, .g 84 83 false (.av bc 5), .g 85 83 false (.load ON true 4), .g 86 83 false (.mv bj), .d 87 83 false rb [OO,OP], .g 88 83 false (.un .not OQ), .o 89 (.pick OM (.k (.bool true)) OR)]) aj1) (.seq (.run [.o 90 (.av bc 10), .o 91 (.load OT false 1), .c 92 tC [OU], .m 2 OV]) .ret)
abbrev ach:AC:= .seq (.seq ajZ aj0) acg
abbrev UK:AC:= .seq (.seq (.run [.o 15 (.av bc 1), .o 16 (.load cd false 1)]) (.block 0 ajY)) ach
abbrev aci:AC:= .seq (.run [.o 12 (.av bc 1), .o 13 (.load bZ false 1), .o 14 (.bin .eql bY (.k (.int .i64 4))), .m 9 bN]) UK
abbrev acj:AC:= .seq ajO aci
abbrev aj2:AC:= .seq (.run [.o 1 (.box aW), .o 2 (.mv (.k (.bool false)))]) acj
abbrev aj3:AC:= .par [.m 37 aW, .m 38 aW, .o 39 (.dB gG), .o 40 (.av gC 2), .o 41 (.load gU false 1), .o 42 (.load cb true 17), .o 43 (.cQ [(.int .i64 0),(.int .i64 0),(.slice .full 0 []),(.str []),(.str []),(.int .i64 0),(.int .i64 0),(.str []),(.slice .full 0 []),(.bool false),(.slice .full 0 []),(.slice .full 0 []),(.slice .full 0 []),(.int .i64 0),(.int .i64 0),(.int .i64 0),(.int .i64 0)] 17 1 [(0,ie)]), .o 44 (.app 17 240 gV iQ), .o 45 (.dB gd), .o 46 (.av jV 2), .op none none (.store jW jj 1)] [(1,0),(2,0),(3,0),(4,0),(5,0),(6,0),(7,0),(0,0),(8,0),(9,0),(10,0)]
abbrev aj4:AC:= .run [.o 47 (.av bj 13), .o 48 (.load kG false 1), .m 49 bS, .o 50 (.av cb 15), .o 51 (.load lh false 1), .o 52 (.av bj 16), .o 53 (.load kH false 1), .o 54 (.build [(.int .i64 0),(.int .i64 0),(.slice .full 0 []),(.str []),(.str []),(.int .i64 0),(.int .i64 0),(.str []),(.slice .full 0 []),(.bool false),(.slice .full 0 []),(.slice .full 0 []),(.slice .full 0 []),(.int .i64 0),(.int .i64 0),(.int .i64 0),(.int .i64 0)] [(13,(1,jG)),(14,(1,jX)),(15,(1,ko)),(16,(1,kI))]), .o 10 (.alloc [(.int .i64 0),(.int .i64 0),(.slice .full 0 []),(.str []),(.str []),(.int .i64 0),(.int .i64 0),(.str []),(.slice .full 0 []),(.bool false),(.slice .full 0 []),(.slice .full 0 []),(.slice .full 0 []),(.int .i64 0),(.int .i64 0),(.int .i64 0),(.int .i64 0)]), .op none none (.store bP lj 17)]
abbrev aj5:AC:= .seq (.seq (.run [.o 55 (.av bJ 1), .o 56 (.load lE false 1), .o 57 (.bin .eql mT (.k (.int .i64 6)))]) (.cond nI (.run [.m 58 bS, .m 59 bS, .o 60 (.av bP 15), .op none none (.store oR mU 1), .o 61 (.av bP 16), .op none none (.store qm lk 1)]) .skip)) (.seq (.run [.m 62 aW, .o 63 (.av bJ 11), .o 64 (.load qo false 1), .o 65 (.load bP true 17), .c 66 jF [qn,ri,vi]]) (.run [.m 67 aW, .o 68 (.av bJ 12), .o 69 (.load vk false 1), .o 70 (.load bP true 17), .c 71 jF [vj,yR,xc]]))
abbrev aj6:AC:= .seq (.seq (.run [.m 27 bU, .o 28 (.bin .add dM (.k (.int .i64 1))), .m 29 bc, .o 30 (.len ez), .o 31 (.bin .lss ey eK)]) (.cond eU (.run [.m 32 bS, .o 33 (.load bJ true 13), .c 34 mb [fc], .o 35 (.bin .add fh fA), .o 36 (.av cb 15), .op none none (.store fJ fw 1)]) .skip)) (.seq aj3 (.seq aj4 aj5))
abbrev aj7:AC:= .seq (.run [.m 15 bY, .o 16 (.b6 bM bY 13), .o 17 (.load b7 true 13), .o 7 (.alloc [(.int .i64 0),(.int .i64 0),(.slice .full 0 []),(.str []),(.str []),(.int .i64 0),(.int .i64 0),(.str []),(.slice .full 0 []),(.bool false),(.slice .full 0 []),(.slice .full 0 []),(.slice .full 0 [])]), .m 6 cd, .op none none (.store bJ cJ 13)]) (.seq (.run [.m 18 aW, .o 19 (.dB cG), .o 20 (.av cW 2), .o 21 (.load dd false 1), .o 22 (.len dh), .o 23 (.bin .add dt (.k (.int .i64 1))), .m 8 dz]) (.seq (.run [.o 24 (.load bj true 17), .o 9 (.alloc [(.int .i64 0),(.int .i64 0),(.slice .full 0 []),(.str []),(.str []),(.int .i64 0),(.int .i64 0),(.str []),(.slice .full 0 []),(.bool false),(.slice .full 0 []),(.slice .full 0 []),(.slice .full 0 []),(.int .i64 0),(.int .i64 0),(.int .i64 0),(.int .i64 0)]), .op none none (.store cb da 17)]) (.seq (.run [.o 25 (.load bJ true 13), .o 26 (.av cb 0), .op none none (.store dS db 13)]) aj6)))
abbrev aj8:AC:= .seq (.cond bN .skip (.exit 0)) (.seq (.block 1 aj7) (.run [.o 72 (.bin .add bY (.k (.int .i64 1))), .m 13 CT]))
abbrev aj9:AC:= .seq (.run [.m 11 bc, .o 12 (.len bM), .o 13 (.mv (.k (.int .i64 0)))]) (.block 0 (.loop (.seq (.run [.o 14 (.bin .lss bY bZ)]) aj8)))
abbrev aka:AC:= .seq (.run [.o 5 (.box df)]) aj9
abbrev akb:AC:= .block 1 (.seq (.run [.m 10 bS, .m 5 bP]) (.seq (.run [.m 11 bc, .m 12 aW, .m 13 bj, .o 14 (.b6 bZ bY 1), .o 15 (.load bN false 1),(.jb (some 16) none 11 [cd])]) (.cond b7 (.seq (.run [.m 17 bj, .m 4 cJ]) .ret) .skip)))
abbrev akc:AC:= .seq (.cond cb .skip (.exit 0)) (.seq akb (.run [.o 18 (.bin .add bS (.k (.int .i64 1))), .m 8 cG]))
abbrev akd:AC:= .seq (.run [.m 6 aW, .o 7 (.len bU), .o 8 (.mv (.k (.int .i64 0)))]) (.block 0 (.loop (.seq (.run [.o 9 (.bin .lss bS bJ)]) akc)))
abbrev ake:AC:= .seq (.run [(.o 4 (.mv (.k (.int .i64 (-1)))))]) .ret
abbrev akf:AC:= .seq (.run [.o 4 (.mv (.k (.int .i64 0)))]) (.seq akd ake)
abbrev akg:AC:= .seq (.seq (.run [.o 31 (.av bj 0), .o 32 (.load eU false 1)]) (.cond fh (.run [.m 33 bQ, .o 34 (.av bj 1), .o 35 (.load fA false 1), .o 36 (.cQ [(.str [])] 1 1 [(0,fw)]), .o 37 (.app 1 16 fc fJ), .m 3 gd]) .skip)) (.run [.m 38 bQ, .o 39 (.av bj 2), .o 40 (.load gC true 4), .c 41 rf [gU], .o 42 (.app 1 16 gG gV), .m 3 ie])
abbrev akh:AC:= .seq (.block 1 (.seq (.run [.o 29 (.b6 db dM 6), .o 30 (.load ez true 6), .o 5 (.alloc [(.bool false),(.str []),(.int .i64 0),(.int .i64 0),(.str []),(.slice .full 0 [])]), .op none none (.store bj eK 6)]) akg)) (.run [.o 43 (.bin .add dM (.k (.int .i64 1))), .m 27 iQ])
abbrev aki:AC:= .block 0 (.loop (.seq (.run [.o 28 (.bin .lss dM dS)]) (.seq (.cond ey .skip (.exit 0)) akh)))
abbrev akj:AC:= .seq (.seq (.run [.o 24 (.av bc 10), .o 25 (.load da false 1), .o 26 (.len db), .o 27 (.mv (.k (.int .i64 0)))]) aki) (.seq (.run [.m 44 bQ, .m 2 jj]) .ret)
abbrev akk:AC:= .seq (.seq (.run [.o 6 (.av bc 1), .o 7 (.load bU false 1), .o 8 (.bin .neq bJ (.k (.int .i64 10))), .m 9 bS, .g 10 9 true (.av bc 3), .g 11 9 true (.load bP false 1), .g 12 9 true (.bin .neq bM (.k (.str []))), .o 13 (.pick cb bZ (.k (.bool false)))]) (.cond bY (.run [.m 14 bQ, .o 15 (.av bc 3), .o 16 (.load cd false 1), .o 17 (.cQ [(.str [])] 1 1 [(0,b7)]), .o 18 (.app 1 16 bN cJ), .m 3 cG]) .skip)) (.seq (.run [.m 19 bQ, .o 20 (.av bc 5), .o 21 (.load dd true 4), .c 22 rf [dh], .o 23 (.app 1 16 cW dt), .m 3 dz]) akj)
abbrev akl:AC:= .seq (.run [.o 1 (.box aW), .o 2 (.mv (.k (.slice .full 0 [])))]) (.seq (.run [.o 3 (.mv (.k (.slice .full 0 [])))]) akk)
end Go.Abs

/-! Have2 -/

namespace Go.Abs
open Go.Proofs
theorem Hz:Has Tryz.prog sG 6 [(2,none)] ajd:=⟨Tryz.f83,by kernel_rfl,by kernel_rfl⟩
theorem Jx:Has Tryz.prog q7 47 [(4,(some (true,2)))] aji:=⟨Tryz.f85,by kernel_rfl,by kernel_rfl⟩
theorem FD:Has Tryz.prog jT 29 [(2,none)] ajm:=⟨Tryz.f86,by kernel_rfl,by kernel_rfl⟩
theorem B7:Has Tryz.prog je 45 [(4,none),(5,none)] ajr:=⟨Tryz.f87,by kernel_rfl,by kernel_rfl⟩
theorem HA:Has Tryz.prog wZ 36 [(4,(some (true,16))),(5,none),(6,none)] ajz:=⟨Tryz.f88,by kernel_rfl,by kernel_rfl⟩
theorem CZ:Has Tryz.prog jD 37 [(4,none)] ajF:=⟨Tryz.f89,by kernel_rfl,by kernel_rfl⟩
theorem Jy:Has Tryz.prog q8 5 [(2,(some (true,4)))] ajH:=⟨Tryz.f95,by kernel_rfl,by kernel_rfl⟩
theorem HC:Has Tryz.prog kP 5 [(2,(some (true,4)))] ajJ:=⟨Tryz.f96,by kernel_rfl,by kernel_rfl⟩
theorem Jz:Has Tryz.prog uw 12 [(6,(some (true,4)))] ajK:=⟨Tryz.f97,by kernel_rfl,by kernel_rfl⟩
theorem A5:Has Tryz.prog jE 29 [(4,none)] ajN:=⟨Tryz.f98,by kernel_rfl,by kernel_rfl⟩
theorem DY:Has Tryz.prog tA 93 [(2,none)] aj2:=⟨Tryz.f116,by kernel_rfl,by kernel_rfl⟩
theorem A6:Has Tryz.prog jF 73 [] aka:=⟨Tryz.f117,by kernel_rfl,by kernel_rfl⟩
theorem s8:Has Tryz.prog kF 19 [(4,none)] akf:=⟨Tryz.f118,by kernel_rfl,by kernel_rfl⟩
theorem FE:Has Tryz.prog q9 45 [(2,none)] akl:=⟨Tryz.f119,by kernel_rfl,by kernel_rfl⟩
end Go.Abs

/-! Codes3 -/

namespace Go.Abs
abbrev akm:AC:= .cond dz (.seq (.run [.o 6 (.mv (.k (.int .i64 3)))]) .ret) .skip
abbrev akn:AC:= .cond dM (.seq (.run [.o 6 (.mv (.k (.int .i64 2)))]) .ret) .skip
abbrev ako:AC:= .seq (.seq (.run [.o 16 (.av bS 0), .o 17 (.load b7 false 1), .m 18 df, .o 19 (.bin .eql cJ cG), .m 20 cW, .g 21 20 true (.av bS 1), .g 22 20 true (.load dh false 1), .o 23 (.pick dd dt (.k (.bool false)))]) akm) (.seq (.run [.o 24 (.av bS 0), .o 25 (.load da false 1), .m 26 df, .o 27 (.bin .eql db dS)]) akn)
abbrev akp:AC:= .seq (.block 1 (.seq (.run [.o 14 (.b6 bP bZ 2), .o 15 (.load bN true 2), .o 8 (.alloc [(.str []),(.bool false)]), .op none none (.store bS cd 2)]) ako)) (.run [.o 28 (.bin .add bZ (.k (.int .i64 1))), .m 12 ey])
abbrev akq:AC:= .block 0 (.loop (.seq (.run [.o 13 (.bin .lss bZ bM)]) (.seq (.cond bY .skip (.exit 0)) akp)))
abbrev akr:AC:= .cond fh (.seq (.run [.o 6 (.mv (.k (.int .i64 4)))]) .ret) .skip
abbrev aks:AC:= .cond fJ (.seq (.run [.o 6 (.mv (.k (.int .i64 1)))]) .ret) .skip
abbrev akt:AC:= .seq (.seq (.run [.o 33 (.av bQ 0), .o 34 (.load fc false 1), .m 35 df, .c 36 cr [fA,fw]]) aks) (.seq (.run [.o 6 (.mv (.k (.int .i64 0)))]) .ret)
abbrev aku:AC:= .seq (.seq (.run [.o 9 (.av cR 1), .o 10 (.load cb false 1), .o 11 (.len bP), .o 12 (.mv (.k (.int .i64 0)))]) akq) (.seq (.seq (.run [.o 29 (.av cR 2), .o 30 (.load ez false 1), .m 31 df, .c 32 cr [eK,eU]]) akr) akt)
abbrev akv:AC:= .seq (.run [.o 3 (.box aW), .o 4 (.box bc), .o 6 (.mv (.k (.int .i64 0)))]) aku
abbrev akw:AC:= .cond bM (.seq (.run [.o 4 (.mv (.k (.bool false)))]) .ret) .skip
abbrev akx:AC:= .par [.o 19 (.av bU 1), .o 20 (.load cW false 1), .m 21 bc, .m 22 bj, .o 23 (.b6 dh dt 6), .o 24 (.av dz 0), .o 25 (.load da false 1), .o 26 (.Cc true dd db)] [(0,0),(1,0),(2,0),(3,0),(4,0),(5,0),(6,0),(7,0)]
abbrev aky:AC:= .cond dS (.seq (.run [.o 4 (.mv (.k (.bool false)))]) .ret) .skip
abbrev akz:AC:= .seq (.block 1 (.seq (.run [.m 16 bN, .o 17 (.b6 bZ bN 2), .o 18 (.load cJ true 2), .o 6 (.alloc [(.str []),(.bool false)]), .m 5 b7, .op none none (.store bU cG 2)]) (.seq akx aky))) (.run [.o 27 (.bin .add bN (.k (.int .i64 1))), .m 14 dM])
abbrev akA:AC:= .block 0 (.loop (.seq (.run [.o 15 (.bin .lss bN bY)]) (.seq (.cond cd .skip (.exit 0)) akz)))
abbrev akB:AC:= .seq (.seq (.run [.m 12 aW, .o 13 (.len bZ), .o 14 (.mv (.k (.int .i64 0)))]) akA) (.seq (.run [.o 4 (.mv (.k (.bool true)))]) .ret)
abbrev akC:AC:= .seq (.run [.o 4 (.mv (.k (.bool false)))]) (.seq (.seq (.run [.m 7 aW, .o 8 (.len bJ), .m 9 bc, .o 10 (.len cb), .o 11 (.bin .neq bS bP)]) akw) akB)
abbrev akD:AC:= .cond dt (.seq (.run [.o 23 (.av cb 0), .o 24 (.av dz 0), .o 25 (.load da false 1), .m 6 db, .o 7 (.mv (.k (.bool true)))]) .ret) .skip
abbrev akE:AC:= .seq (.block 1 (.seq (.run [.o 16 (.b6 bZ bN 17), .o 17 (.load b7 true 17), .o 9 (.alloc [(.int .i64 0),(.int .i64 0),(.slice .full 0 []),(.str []),(.str []),(.int .i64 0),(.int .i64 0),(.str []),(.slice .full 0 []),(.bool false),(.slice .full 0 []),(.slice .full 0 []),(.slice .full 0 []),(.int .i64 0),(.int .i64 0),(.int .i64 0),(.int .i64 0)]), .op none none (.store cb cJ 17)]) (.seq (.run [.o 18 (.av cb 0), .o 19 (.av cG 2), .o 20 (.load cW false 1), .m 21 df, .c 22 cr [dd,dh]]) akD))) (.run [.o 26 (.bin .add bN (.k (.int .i64 1))), .m 14 dS])
abbrev akF:AC:= .block 0 (.loop (.seq (.run [.o 15 (.bin .lss bN bY)]) (.seq (.cond cd .skip (.exit 0)) akE)))
abbrev akG:AC:= .seq (.run [(.o 6 (.mv (.k (.int .i64 (-1))))), .o 7 (.mv (.k (.bool true)))]) .ret
abbrev akH:AC:= .seq (.seq (.run [.m 27 aW, .o 28 (.dB dM), .o 29 (.av ey 0), .o 30 (.av ez 1), .o 31 (.load eK false 1), .m 32 bc, .o 33 (.b6 eU fh 5), .o 34 (.av fc 4), .o 35 (.load fA false 1), .m 36 df, .c 37 cr [fw,fJ]]) (.cond gd akG .skip)) (.seq (.run [.o 6 (.mv (.k (.int .i64 0))), .o 7 (.mv (.k (.bool false)))]) .ret)
abbrev akI:AC:= .seq (.seq (.run [.m 10 aW, .m 11 bc, .c 12 gS [bP,bM], .o 13 (.len bZ), .o 14 (.mv (.k (.int .i64 0)))]) akF) akH
abbrev akJ:AC:= .seq (.run [.o 6 (.mv (.k (.int .i64 0))), .o 7 (.mv (.k (.bool false)))]) akI
abbrev akK:AC:= .seq (.run [.o 2 (.box aW), .o 3 (.box bc), .o 4 (.mv (.k (.bool false)))]) (.seq (.run [.o 5 (.load df true 2), .c 6 lF [bj], .o 7 (.sN bU 0 false 1), .o 8 (.bin .eql bJ (.k (.int .i64 0))), .m 9 bS, .g 10 9 true (.av df 1), .g 11 9 true (.load bP false 1), .g 12 9 true (.uf 164 [bQ]), .d 13 9 true gT [bM,bZ], .o 14 (.pick cb bY (.k (.bool false))), .m 4 bN]) .ret)
abbrev akL:AC:= .seq (.run [.o 26 (.b6 dt da 1), .o 27 (.load dS false 1), .m 8 dM]) (.seq (.run [.m 28 bj, .m 29 bS, .c 30 cr [ey,ez], .o 31 (.un .not eK)]) (.cond eU (.run [.m 32 bj, .m 33 bS, .o 34 (.cQ [(.str [])] 1 1 [(0,fc)]), .o 35 (.app 1 16 fh fA), .m 5 fw]) .skip))
abbrev akM:AC:= .seq (.cond db .skip (.exit 2)) (.seq (.block 3 akL) (.run [.o 36 (.bin .add da (.k (.int .i64 1))), .m 24 fJ]))
abbrev akN:AC:= .seq (.run [.m 17 aW, .m 18 bj, .m 19 bU, .o 20 (.b6 cG cW 1), .o 21 (.load dd false 1), .c 22 tD [cJ,dh], .o 23 (.len dt), .o 24 (.mv (.k (.int .i64 0)))]) (.block 2 (.loop (.seq (.run [.o 25 (.bin .lss da dz)]) akM)))
abbrev akO:AC:= .seq (.seq (.run [.m 11 bU, .m 12 bj, .o 13 (.len bZ), .o 14 (.bin .lss bM bY)]) (.cond bN .skip (.exit 0))) (.seq (.block 1 akN) (.run [.m 15 bU, .o 16 (.bin .add cd (.k (.int .i64 1))), .m 6 b7]))
abbrev ack:AC:= .seq (.run [.m 39 bj, .m 4 gC]) .ret
abbrev akP:AC:= .seq (.seq (.run [.o 6 (.mv (.k (.int .i64 0)))]) (.block 0 (.loop akO))) (.seq (.run [.m 37 bj, .c 38 jf [gd]]) ack)
abbrev akQ:AC:= .seq (.run [.o 4 (.mv (.k (.slice .full 0 [])))]) (.seq (.run [.m 9 bc, .o 10 (.cQ [(.str [])] 1 1 [(0,cb)]), .m 5 bP]) akP)
abbrev akR:AC:= .seq (.run [.o 3 (.box bc), .o 4 (.mv (.k (.int .i64 0)))]) (.seq (.run [.m 5 aW, .o 6 (.dB bj), .o 7 (.av bU 0), .o 8 (.av bJ 1), .o 9 (.load bS false 1), .o 10 (.uf 167 [bQ]), .c 11 gl [cb,bP], .m 4 bM]) .ret)
abbrev akS:AC:= .seq (.run [.o 2 (.mv (.k (.bool false)))]) (.seq (.run [.m 3 aW, .o 4 (.bin .geq bQ (.k (.int .u8 48))), .m 5 cR, .g 6 5 true (.mv aW), .g 7 5 true (.bin .leq bU (.k (.int .u8 57))), .o 8 (.pick bj bJ (.k (.bool false))), .m 2 bS]) .ret)
abbrev akT:AC:= .seq (.run [.o 20 (.bin .eql bN (.k (.str [38,38]))), .m 15 dd]) (.cond cd .skip (.run [.o 21 (.bin .eql bN (.k (.str [124,124]))), .m 15 dh]))
abbrev akU:AC:= .cond cd .skip (.seq (.run [.o 19 (.bin .eql bN (.k (.str [62,61]))), .m 15 cW]) (.cond cd .skip akT))
abbrev akV:AC:= .cond cd .skip (.seq (.run [.o 18 (.bin .eql bN (.k (.str [60,61]))), .m 15 cG]) akU)
abbrev akW:AC:= .cond cd .skip (.seq (.run [.o 17 (.bin .eql bN (.k (.str [33,61]))), .m 15 cJ]) akV)
abbrev akX:AC:= .cond cd (.seq (.run [.o 4 (.mv (.k (.int .i64 2)))]) .ret) .skip
abbrev akY:AC:= .seq (.seq (.run [.o 16 (.bin .eql bN (.k (.str [61,61]))), .m 15 b7]) akW) akX
abbrev akZ:AC:= .cond cb (.seq (.run [.m 10 aW, .m 11 bc, .m 12 bc, .o 13 (.bin .add bZ (.k (.int .i64 2))), .o 14 (.yv bP (some bM) (some bY))]) (.block 0 akY)) .skip
abbrev ak0:AC:= .seq (.run [.o 40 (.bin .eql da (.k (.int .u8 47))), .m 25 gU]) (.cond db .skip (.run [.o 41 (.bin .eql da (.k (.int .u8 37))), .m 25 gV]))
abbrev ak1:AC:= .cond db .skip (.seq (.run [.o 39 (.bin .eql da (.k (.int .u8 42))), .m 25 gC]) (.cond db .skip ak0))
abbrev ak2:AC:= .cond db .skip (.seq (.run [.o 38 (.bin .eql da (.k (.int .u8 45))), .m 25 gG]) ak1)
abbrev ak3:AC:= .cond db .skip (.seq (.run [.o 37 (.bin .eql da (.k (.int .u8 43))), .m 25 gd]) ak2)
abbrev ak4:AC:= .cond db .skip (.seq (.run [.o 36 (.bin .eql da (.k (.int .u8 62))), .m 25 fJ]) ak3)
abbrev ak5:AC:= .cond db .skip (.seq (.run [.o 35 (.bin .eql da (.k (.int .u8 60))), .m 25 fw]) ak4)
abbrev ak6:AC:= .cond db .skip (.seq (.run [.o 34 (.bin .eql da (.k (.int .u8 33))), .m 25 fA]) ak5)
abbrev ak7:AC:= .cond db .skip (.seq (.run [.o 33 (.bin .eql da (.k (.int .u8 61))), .m 25 fc]) ak6)
abbrev ak8:AC:= .cond db .skip (.seq (.run [.o 32 (.bin .eql da (.k (.int .u8 58))), .m 25 fh]) ak7)
abbrev ak9:AC:= .cond db .skip (.seq (.run [.o 31 (.bin .eql da (.k (.int .u8 59))), .m 25 eU]) ak8)
abbrev ala:AC:= .cond db .skip (.seq (.run [.o 30 (.bin .eql da (.k (.int .u8 44))), .m 25 eK]) ak9)
abbrev alb:AC:= .cond db .skip (.seq (.run [.o 29 (.bin .eql da (.k (.int .u8 125))), .m 25 ez]) ala)
abbrev alc:AC:= .cond db .skip (.seq (.run [.o 28 (.bin .eql da (.k (.int .u8 123))), .m 25 ey]) alb)
abbrev ald:AC:= .cond db .skip (.seq (.run [.o 27 (.bin .eql da (.k (.int .u8 41))), .m 25 dM]) alc)
abbrev ale:AC:= .cond db (.seq (.run [.o 4 (.mv (.k (.int .i64 1)))]) .ret) .skip
abbrev alf:AC:= .seq (.seq (.run [.o 26 (.bin .eql da (.k (.int .u8 40))), .m 25 dS]) ald) ale
abbrev alg:AC:= .seq (.seq (.run [.m 22 aW, .m 23 bc, .o 24 (.oC dt dz)]) (.block 1 alf)) (.seq (.run [.o 4 (.mv (.k (.int .i64 0)))]) .ret)
abbrev alh:AC:= .seq (.seq (.run [.m 5 bc, .o 6 (.bin .add bj (.k (.int .i64 1))), .m 7 aW, .o 8 (.lW bJ), .o 9 (.bin .lss bU bS)]) akZ) alg
abbrev ali:AC:= .seq (.run [.o 4 (.mv (.k (.int .i64 0)))]) alh
abbrev alj:AC:= .cond dt (.seq (.run [.o 2 (.mv (.k (.int .i64 0))), .o 3 (.mv (.k (.bool false)))]) .ret) .skip
abbrev alk:AC:= .seq (.seq (.run [.m 18 cR, .m 19 bU, .o 20 (.bin .sub (.k (.int .i64 9223372036854775807)) cW), .o 21 (.bin .quo dd (.k (.int .i64 10))), .o 22 (.bin .gtr cG dh)]) alj) (.run [.m 23 cR, .o 24 (.bin .mul dz (.k (.int .i64 10))), .m 25 bU, .o 26 (.bin .add da db), .m 4 dS])
abbrev alm:AC:= .block 1 (.seq (.run [.m 13 aW, .m 14 bj, .o 15 (.oC bY bN), .o 16 (.bin .sub cd (.k (.int .u8 48))), .o 17 (.conv .i64 b7), .m 6 cJ]) alk)
abbrev aln:AC:= .seq (.seq (.run [.m 7 bj, .m 8 aW, .o 9 (.lW bS), .o 10 (.bin .lss bJ cb)]) (.cond bP .skip (.exit 0))) (.seq alm (.run [.m 11 bj, .o 12 (.bin .add bM (.k (.int .i64 1))), .m 5 bZ]))
abbrev alo:AC:= .seq (.seq (.run [.o 5 (.mv (.k (.int .i64 0)))]) (.block 0 (.loop aln))) (.seq (.run [.m 27 cR, .m 2 dM, .o 3 (.mv (.k (.bool true)))]) .ret)
abbrev alp:AC:= .seq (.run [.o 2 (.mv (.k (.int .i64 0))), .o 3 (.mv (.k (.bool false)))]) (.seq (.run [.o 4 (.mv (.k (.int .i64 0)))]) alo)
abbrev alq:AC:= .cond bY (.seq (.run [.o 4 (.mv (.k (.bool false)))]) .ret) .skip
abbrev alr:AC:= .seq (.run [.m 14 aW, .o 15 (.dB bN), .o 16 (.av cd 1), .o 17 (.load b7 false 1), .o 18 (.bin .add cJ (.k (.int .i64 1))), .o 19 (.dB bN), .o 20 (.av cW 1), .op none none (.store dd cG 1)]) (.seq (.run [.o 4 (.mv (.k (.bool true)))]) .ret)
abbrev als:AC:= .seq (.seq (.run [.m 5 aW, .c 6 cP [bj], .o 7 (.un .not bU), .m 8 bJ, .g 9 8 false (.mv aW), .g 10 8 false (.mv bc), .d 11 8 false fK [cb,bP], .g 12 8 false (.un .not bM), .o 13 (.pick bS (.k (.bool true)) bZ)]) alq) alr
abbrev alu:AC:= .seq (.run [.o 4 (.mv (.k (.bool false)))]) als
abbrev alv:AC:= .cond dd (.seq (.run [.m 21 aW,(.c 22 di [dh,(.k (.str [59]))])]) (.seq (.run [.m 23 bc, .m 6 dz]) .ret)) .skip
abbrev alw:AC:= .seq (.run [.m 9 bc, .m 10 aW, .m 11 bc, .o 12 (.len bM), .m 13 df, .o 14 (.bin .lss bZ bY), .c 15 eJ [bP,bN], .o 16 (.cQ [(.str [])] 1 1 [(0,cd)]), .o 17 (.app 1 16 cb b7), .m 1 cJ]) (.seq (.run [.m 18 aW,(.c 19 dD [cG,(.k (.str [44]))]), .o 20 (.un .not cW)]) alv)
abbrev alx:AC:= .block 0 (.loop (.seq (.seq (.run [.m 7 aW, .c 8 cP [bJ]]) (.cond bS .skip (.exit 0))) (.block 1 alw)))
abbrev aly:AC:= .seq (.run [.o 6 (.mv (.k (.slice .full 0 [])))]) (.seq alx (.seq (.run [.m 24 bc, .m 6 da]) .ret))
abbrev alz:AC:= .seq (.run [.o 2 (.mv (.k (.bool false)))]) (.seq (.run [.m 3 aW, .o 4 (.dB bQ), .o 5 (.av cR 2), .o 6 (.av bj 0), .o 7 (.load bU false 1), .o 8 (.bin .eql bJ (.k (.int .i64 0))), .m 2 bS]) .ret)
abbrev alA:AC:= .seq (.run [.m 6 aW, .c 7 dE [bU], .o 5 (.alloc [(.int .i64 0),(.str []),(.int .i64 0),(.int .i64 0)]), .op none none (.store bj bJ 4)]) (.seq (.run [.o 8 (.av bj 0), .o 9 (.load bS false 1), .o 10 (.bin .eql cb (.k (.int .i64 3))), .m 11 bP, .g 12 11 false (.av bj 0), .g 13 11 false (.load bZ false 1), .g 14 11 false (.bin .eql bY (.k (.int .i64 4))), .o 15 (.pick bM (.k (.bool true)) bN), .m 16 cd, .g 17 16 true (.av bj 1), .g 18 16 true (.load cJ false 1), .g 19 16 true (.mv bc), .g 20 16 true (.bin .eql cG cW), .o 21 (.pick b7 dd (.k (.bool false))), .m 4 dh]) .ret)
abbrev alB:AC:= .seq (.run [.o 4 (.mv (.k (.bool false)))]) alA
abbrev alC:AC:= .seq (.run [.m 4 aW, .c 5 cP [cR]]) (.cond bj (.run [.m 6 aW, .m 7 bc, .m 8 aW, .c 9 dE [bS], .o 10 (.sN cb 3 false 1), .o 11 (.build [(.int .i64 0),(.int .i64 0)] [(0,(1,bJ)),(1,(1,bP))]), .o 12 (.dB bU), .o 13 (.av bZ 2), .op none none (.store bY bM 2)]) .skip)
abbrev alD:AC:= .par [.o 21 (.av bQ 1), .o 22 (.load dh false 1), .m 23 aW, .o 24 (.av bQ 1), .o 25 (.load da false 1), .o 26 (.len db), .o 27 (.bin .lss dS (.k (.int .i64 8))), .c 28 eJ [dz,dM], .m 29 cR, .o 30 (.build [(.str []),(.bool false)] [(0,(1,ey)),(1,(1,ez))]), .o 31 (.cQ [(.str []),(.bool false)] 2 1 [(0,eK)]), .o 32 (.app 2 24 dt eU), .o 33 (.av bQ 1), .op none none (.store fc fh 1)] [(2,0),(3,0),(4,0),(5,0),(6,0),(7,0),(0,0),(1,1),(8,0),(9,0),(10,0),(11,0),(12,0),(13,0)]
abbrev alE:AC:= .seq alD (.seq (.run [.m 34 aW,(.c 35 dD [fA,(.k (.str [44]))]), .o 36 (.un .not fw)]) (.cond fJ (.exit 0) .skip))
abbrev alG:AC:= .block 1 (.seq (.run [.m 19 aW,(.c 20 dD [cW,(.k (.str [114,101,102]))]), .m 4 dd]) alE)
abbrev alH:AC:= .block 0 (.loop (.seq (.seq (.run [.m 17 aW, .c 18 cP [cJ]]) (.cond cG .skip (.exit 0))) alG))
abbrev acm:AC:= .seq (.seq (.run [.m 41 aW,(.c 42 dD [gV,(.k (.str [118,97,114]))])]) (.cond ie .skip (.exit 2))) (.block 3 (.run [.m 43 aW, .o 44 (.av bQ 2), .o 45 (.load jj false 1), .c 46 jg [iQ,jV,(.k (.int .i64 16))], .o 47 (.av bQ 2), .op none none (.store kG jW 1)]))
abbrev acn:AC:= .seq (.run [.m 49 aW, .c 50 gM [jX,(.k (.int .i64 1)),(.k (.bool true))], .m 48 lh, .o 51 (.ext jG 0), .o 52 (.ext jG 1), .o 53 (.av bQ 3), .op none none (.store kI ko 1), .o 54 (.av bQ 4), .op none none (.store lj kH 1)]) (.seq (.run [.o 55 (.load bQ true 5), .op none none (.store df lE 5)]) .ret)
abbrev alI:AC:= .seq (.run [.m 37 aW,(.c 38 di [gd,(.k (.str [41]))])]) (.seq (.run [.m 39 aW,(.c 40 di [gC,(.k (.str [123]))])]) (.seq (.block 2 (.loop acm)) acn))
abbrev alJ:AC:= .seq (.seq (.run [.m 10 aW, .c 11 cP [bP], .m 12 bM, .g 13 12 true (.mv aW),(.d 14 12 true fK [bY,(.k (.str [41]))]), .g 15 12 true (.un .not bN), .o 16 (.pick bZ cd (.k (.bool false)))]) (.cond b7 alH .skip)) alI
abbrev alK:AC:= .seq (.run [.m 5 aW, .c 6 eJ [bj,(.k (.bool true))], .o 7 (.build [(.str []),(.slice .full 0 []),(.slice .full 0 []),(.slice .full 0 []),(.slice .full 0 [])] [(0,(1,bU))]), .o 3 (.alloc [(.str []),(.slice .full 0 []),(.slice .full 0 []),(.slice .full 0 []),(.slice .full 0 [])]), .op none none (.store bQ bJ 5)]) (.seq (.run [.m 8 aW,(.c 9 di [bS,(.k (.str [40]))])]) alJ)
abbrev alL:AC:= .seq (.run [.o 2 (.alloc [(.str []),(.slice .full 0 []),(.slice .full 0 []),(.slice .full 0 []),(.slice .full 0 [])])]) alK
abbrev alM:AC:= .par [.m 3 aW, .o 4 (.dB bQ), .o 5 (.av cR 0), .o 6 (.load bj false 1), .m 7 aW, .o 8 (.dB bJ), .o 9 (.av bS 1), .o 10 (.load cb false 1), .o 11 (.b6 bU bP 4), .o 12 (.load bM true 4), .op none none (.store df bZ 4)] [(0,0),(1,0),(2,0),(3,0),(4,0),(5,0),(6,0),(7,0),(8,0),(9,0),(10,0)]
abbrev alN:AC:= .seq (.run [.o 2 (.alloc [(.int .i64 0),(.str []),(.int .i64 0),(.int .i64 0)])]) (.seq alM .ret)
abbrev alO:AC:= .cond cR (.seq (.run [.o 2 (.mv (.k (.slice .full 0 [])))]) .ret) .skip
abbrev alP:AC:= .seq (.run [.o 2 (.mv (.k (.slice .full 0 [])))]) (.seq (.seq (.run [.m 3 aW, .nil (some 4) none false bQ]) alO) (.seq (.run [.o 5 (.cQ [(.str [])] 1 0 []), .m 6 aW, .o 7 (.app 1 16 bj bU), .m 2 bJ]) .ret))
abbrev alQ:AC:= .cond cR (.seq (.run [.o 2 (.mv (.k (.slice .full 0 [])))]) .ret) .skip
abbrev alR:AC:= .seq (.run [.o 2 (.mv (.k (.slice .full 0 [])))]) (.seq (.seq (.run [.m 3 aW, .nil (some 4) none false bQ]) alQ) (.seq (.run [.o 5 (.cQ [(.str []),(.bool false)] 2 0 []), .m 6 aW, .o 7 (.app 2 24 bj bU), .m 2 bJ]) .ret))
abbrev alS:AC:= .par [.o 26 (.av bP 2), .o 27 (.load dS false 1), .c 28 gX [dM], .o 29 (.av bP 5), .o 30 (.load ez true 4), .c 31 mc [eK], .o 32 (.av bM 2), .op none none (.store fh ey 1), .o 33 (.av bM 5), .op none none (.store fc eU 4), .o 34 (.av bM 10), .op none none (.store fA (.k (.slice .full 0 [])) 1)] [(0,0),(1,0),(2,0),(3,0),(4,1),(5,0),(6,0),(7,0),(8,0),(9,0),(10,0),(11,0)]
abbrev alT:AC:= .block 3 (.seq (.run [.o 40 (.b6 fJ gG 6), .o 41 (.load gU true 6), .o 13 (.alloc [(.bool false),(.str []),(.int .i64 0),(.int .i64 0),(.str []),(.slice .full 0 [])]), .op none none (.store bY gV 6)]) (.seq (.run [.o 42 (.av bY 2), .o 43 (.load ie true 4), .c 44 mc [iQ], .o 45 (.av bY 2), .op none none (.store jV jj 4)]) (.run [.o 46 (.av bM 10), .o 47 (.load jW false 1), .o 48 (.load bY true 6), .o 49 (.cQ [(.bool false),(.str []),(.int .i64 0),(.int .i64 0),(.str []),(.slice .full 0 [])] 6 1 [(0,jG)]), .o 50 (.app 6 80 kG jX), .o 51 (.av bM 10), .op none none (.store ko lh 1)])))
abbrev alU:AC:= .seq (.cond gC .skip (.exit 2)) (.seq alT (.run [.o 52 (.bin .add gG (.k (.int .i64 1))), .m 38 kH]))
abbrev alV:AC:= .seq (.run [.o 35 (.av bP 10), .o 36 (.load fw false 1), .o 37 (.len fJ), .o 38 (.mv (.k (.int .i64 0)))]) (.block 2 (.loop (.seq (.run [.o 39 (.bin .lss gG gd)]) alU)))
abbrev alW:AC:= .seq alV (.seq (.run [.o 54 (.av bP 11), .o 55 (.load lj false 1), .m 56 bc, .m 57 df, .c 58 kn [lE,mT,nI], .m 53 mU, .o 59 (.ext kI 0), .o 60 (.ext kI 1), .o 61 (.av bM 11), .op none none (.store qm lk 1), .m 1 oR]) (.seq (.run [.o 63 (.av bP 12), .o 64 (.load qo false 1), .m 65 bc, .m 66 df, .c 67 kn [ri,vi,xb], .m 62 vj, .o 68 (.ext qn 0), .o 69 (.ext qn 1), .o 70 (.av bM 12), .op none none (.store xc vk 1), .m 1 yR]) (.run [.m 71 bS, .o 72 (.load bM true 13), .o 73 (.cQ [(.int .i64 0),(.int .i64 0),(.slice .full 0 []),(.str []),(.str []),(.int .i64 0),(.int .i64 0),(.str []),(.slice .full 0 []),(.bool false),(.slice .full 0 []),(.slice .full 0 []),(.slice .full 0 [])] 13 1 [(0,CT)]), .o 74 (.app 13 208 CS Fw), .m 8 Fx])))
abbrev alX:AC:= .seq (.run [.o 22 (.load bP true 13), .o 11 (.alloc [(.int .i64 0),(.int .i64 0),(.slice .full 0 []),(.str []),(.str []),(.int .i64 0),(.int .i64 0),(.str []),(.slice .full 0 []),(.bool false),(.slice .full 0 []),(.slice .full 0 []),(.slice .full 0 [])]), .op none none (.store bM dt 13)]) (.seq (.seq (.run [.m 23 df]) (.cond dz (.run [.m 24 bc, .o 25 (.av bM 0), .op none none (.store db da 1)]) .skip)) (.seq alS alW))
abbrev alY:AC:= .seq (.run [.o 18 (.b6 bN b7 13), .o 19 (.load cG true 13), .o 10 (.alloc [(.int .i64 0),(.int .i64 0),(.slice .full 0 []),(.str []),(.str []),(.int .i64 0),(.int .i64 0),(.str []),(.slice .full 0 []),(.bool false),(.slice .full 0 []),(.slice .full 0 []),(.slice .full 0 [])]), .op none none (.store bP cW 13)]) (.seq (.run [.m 20 bc, .o 21 (.bin .add dd (.k (.int .i64 1))), .m 1 dh]) alX)
abbrev alZ:AC:= .seq (.cond cJ .skip (.exit 0)) (.seq (.block 1 alY) (.run [.o 75 (.bin .add b7 (.k (.int .i64 1))), .m 16 Fy]))
abbrev al0:AC:= .seq (.run [.m 14 aW, .o 15 (.len bN), .o 16 (.mv (.k (.int .i64 0)))]) (.block 0 (.loop (.seq (.run [.o 17 (.bin .lss b7 cd)]) alZ)))
abbrev al1:AC:= .seq (.run [.o 6 (.mv (.k (.slice .full 0 []))), .o 7 (.mv (.k (.int .i64 0)))]) (.seq (.run [.o 8 (.mv (.k (.slice .full 0 [])))]) (.seq al0 (.seq (.run [.m 76 bS, .m 77 bc, .m 6 CW, .m 7 Fz]) .ret)))
abbrev al2:AC:= .run [.m 23 cR, .m 24 aW, .m 25 bM, .o 26 (.b6 da db 13), .o 27 (.load dS true 13), .m 28 bc, .m 29 df, .m 30 bQ, .o 31 (.build [(.int .i64 0),(.int .i64 0),(.slice .full 0 []),(.str []),(.str []),(.int .i64 0),(.int .i64 0),(.str []),(.slice .full 0 []),(.bool false),(.slice .full 0 []),(.slice .full 0 []),(.slice .full 0 []),(.int .i64 0),(.int .i64 0),(.bool false)] [(0,(13,dM)),(13,(1,ey)),(14,(1,ez)),(15,(1,eK))]), .o 32 (.cQ [(.int .i64 0),(.int .i64 0),(.slice .full 0 []),(.str []),(.str []),(.int .i64 0),(.int .i64 0),(.str []),(.slice .full 0 []),(.bool false),(.slice .full 0 []),(.slice .full 0 []),(.slice .full 0 []),(.int .i64 0),(.int .i64 0),(.bool false)] 16 1 [(0,eU)]), .o 33 (.app 16 232 dz fh), .m 4 fc]
abbrev al3:AC:= .par [.m 36 aW, .m 37 bM, .o 38 (.b6 fJ gd 13), .o 39 (.av gG 11), .o 40 (.load gC false 1), .m 41 bc, .o 42 (.bin .add gV (.k (.int .i64 1))), .m 43 aW, .m 44 bM, .o 45 (.b6 iQ jj 13), .o 46 (.av jV 0), .o 47 (.load jW false 1), .m 48 cR, .c 49 ma [gU,ie,kG,(.k (.bool false)),jG], .m 4 jX] [(0,0),(1,0),(2,0),(3,0),(4,0),(5,0),(6,0),(7,0),(8,0),(9,0),(10,0),(11,0),(12,0),(13,0),(14,0)]
abbrev al4:AC:= .par [.m 50 aW, .m 51 bM, .o 52 (.b6 lh ko 13), .o 53 (.av kH 12), .o 54 (.load kI false 1), .m 55 bc, .o 56 (.bin .add lE (.k (.int .i64 1))), .m 57 aW, .m 58 bM, .o 59 (.b6 nI mU 13), .o 60 (.av lk 0), .o 61 (.load oR false 1), .m 62 cR, .c 63 ma [lj,mT,qm,(.k (.bool true)),qn], .m 4 qo] [(0,0),(1,0),(2,0),(3,0),(4,0),(5,0),(6,0),(7,0),(8,0),(9,0),(10,0),(11,0),(12,0),(13,0),(14,0)]
abbrev al5:AC:= .seq al2 (.seq (.run [.m 34 bc, .o 35 (.bin .leq fA (.k (.int .i64 12)))]) (.cond fw (.seq al3 al4) .skip))
abbrev al6:AC:= .seq (.seq (.run [.m 12 bM, .m 13 aW, .o 14 (.len bY), .o 15 (.bin .lss bZ bN), .m 16 cd, .g 17 16 true (.mv cR), .g 18 16 true (.len cJ), .g 19 16 true (.bin .leq cG (.k (.int .i64 200))), .o 20 (.pick b7 cW (.k (.bool false)))]) (.cond dd .skip (.exit 0))) (.seq (.block 1 al5) (.run [.m 21 bM, .o 22 (.bin .add dh (.k (.int .i64 1))), .m 11 dt]))
abbrev al7:AC:= .seq (.seq (.run [.o 11 (.mv (.k (.int .i64 0)))]) (.block 0 (.loop al6))) (.seq (.run [.m 64 cR, .m 10 ri]) .ret)
abbrev al8:AC:= .seq (.run [.o 10 (.mv (.k (.slice .full 0 [])))]) al7
abbrev al9:AC:= .seq (.run [.o 2 (.mv (.k (.slice .full 0 [])))]) (.seq (.run [.o 3 (.mv (.k (.slice .full 0 [])))]) (.seq (.run [.m 4 bQ, .m 5 aW, .o 6 (.app 1 16 cR bj), .m 2 bU]) .ret))
abbrev ama:AC:= .par [.o 24 (.av bJ 11), .o 25 (.load da false 1), .o 26 (.load bQ true 13), .c 27 nF [db,dS], .o 28 (.av bJ 12), .o 29 (.load ey false 1), .o 30 (.load bQ true 13), .c 31 nF [ez,eK], .o 32 (.av bS 11), .op none none (.store fh dM 1), .o 33 (.av bS 12), .op none none (.store fc eU 1)] [(0,0),(1,0),(2,0),(3,0),(4,0),(5,1),(6,1),(7,0),(8,0),(9,0),(10,0),(11,0)]
abbrev amb:AC:= .seq (.run [.o 15 (.load bJ true 13), .c 16 k8 [cd], .o 8 (.alloc [(.int .i64 0),(.int .i64 0),(.slice .full 0 []),(.str []),(.str []),(.int .i64 0),(.int .i64 0),(.str []),(.slice .full 0 []),(.bool false),(.slice .full 0 []),(.slice .full 0 []),(.slice .full 0 [])]), .op none none (.store bS b7 13)]) (.seq (.seq (.run [.o 17 (.av bJ 0), .o 18 (.load cJ false 1), .o 19 (.av bQ 0), .o 20 (.load cW false 1), .o 21 (.bin .eql cG dd)]) (.cond dh (.run [.o 22 (.load bQ true 13), .c 23 k8 [dt], .op none none (.store bS dz 13)]) .skip)) (.seq ama (.run [.m 34 bj, .o 35 (.load bS true 13), .o 36 (.cQ [(.int .i64 0),(.int .i64 0),(.slice .full 0 []),(.str []),(.str []),(.int .i64 0),(.int .i64 0),(.str []),(.slice .full 0 []),(.bool false),(.slice .full 0 []),(.slice .full 0 []),(.slice .full 0 [])] 13 1 [(0,fw)]), .o 37 (.app 13 208 fA fJ), .m 5 gd])))
abbrev amc:AC:= .seq (.block 1 (.seq (.run [.o 13 (.b6 cb bM 13), .o 14 (.load bY true 13), .o 7 (.alloc [(.int .i64 0),(.int .i64 0),(.slice .full 0 []),(.str []),(.str []),(.int .i64 0),(.int .i64 0),(.str []),(.slice .full 0 []),(.bool false),(.slice .full 0 []),(.slice .full 0 []),(.slice .full 0 [])]), .op none none (.store bJ bN 13)]) amb)) (.run [.o 38 (.bin .add bM (.k (.int .i64 1))), .m 11 gG])
abbrev amd:AC:= .block 0 (.loop (.seq (.run [.o 12 (.bin .lss bM bP)]) (.seq (.cond bZ .skip (.exit 0)) amc)))
abbrev ame:AC:= .seq (.seq (.run [.m 9 aW, .o 10 (.len cb), .o 11 (.mv (.k (.int .i64 0)))]) amd) (.seq (.run [.m 39 bj, .m 4 gC]) .ret)
abbrev amf:AC:= .seq (.run [.o 3 (.box bc), .o 4 (.mv (.k (.slice .full 0 [])))]) (.seq (.run [.o 5 (.mv (.k (.slice .full 0 [])))]) ame)
abbrev amg:AC:= .par [.o 6 (.av bc 0), .o 7 (.load bU false 1), .o 8 (.av bc 1), .o 9 (.load bS false 1), .o 10 (.av bc 2), .o 11 (.load bP false 1), .c 12 mP [bM], .o 13 (.av bc 3), .o 14 (.load bY false 1), .o 15 (.av bc 4), .o 16 (.load cd false 1), .o 17 (.av bc 5), .o 18 (.load cJ true 4), .c 19 jh [cG], .o 20 (.av bc 9), .o 21 (.load dd false 1), .o 22 (.build [(.int .i64 0),(.int .i64 0),(.slice .full 0 []),(.str []),(.str []),(.int .i64 0),(.int .i64 0),(.str []),(.slice .full 0 []),(.bool false),(.slice .full 0 []),(.slice .full 0 []),(.slice .full 0 [])] [(0,(1,bJ)),(1,(1,cb)),(2,(1,bZ)),(3,(1,bN)),(4,(1,b7)),(5,(4,cW)),(9,(1,dh))]), .o 3 (.alloc [(.int .i64 0),(.int .i64 0),(.slice .full 0 []),(.str []),(.str []),(.int .i64 0),(.int .i64 0),(.str []),(.slice .full 0 []),(.bool false),(.slice .full 0 []),(.slice .full 0 []),(.slice .full 0 [])]), .op none none (.store bQ dt 13)] [(4,0),(5,0),(6,0),(11,0),(12,1),(13,0),(17,0),(0,0),(1,3),(2,0),(3,3),(7,0),(8,3),(9,0),(10,3),(14,0),(15,3),(16,0),(18,0)]
abbrev amh:AC:= .par [.o 30 (.av bQ 10), .o 31 (.load eK false 1), .o 32 (.av bj 0), .o 33 (.load fh false 1), .o 34 (.av bj 1), .o 35 (.load fA false 1), .o 36 (.av bj 2), .o 37 (.load fJ true 4), .c 38 jh [gd], .o 39 (.build [(.bool false),(.str []),(.int .i64 0),(.int .i64 0),(.str []),(.slice .full 0 [])] [(0,(1,fc)),(1,(1,fw)),(2,(4,gG))]), .o 40 (.cQ [(.bool false),(.str []),(.int .i64 0),(.int .i64 0),(.str []),(.slice .full 0 [])] 6 1 [(0,gC)]), .o 41 (.app 6 80 eU gU), .o 42 (.av bQ 10), .op none none (.store ie gV 1)] [(6,0),(7,0),(8,0),(0,0),(1,1),(2,0),(3,1),(4,0),(5,1),(9,0),(10,0),(11,0),(12,0),(13,0)]
abbrev ami:AC:= .seq (.block 1 (.seq (.run [.o 28 (.b6 da dS 6), .o 29 (.load ey true 6), .o 5 (.alloc [(.bool false),(.str []),(.int .i64 0),(.int .i64 0),(.str []),(.slice .full 0 [])]), .op none none (.store bj ez 6)]) amh)) (.run [.o 43 (.bin .add dS (.k (.int .i64 1))), .m 26 iQ])
abbrev amj:AC:= .block 0 (.loop (.seq (.run [.o 27 (.bin .lss dS db)]) (.seq (.cond dM .skip (.exit 0)) ami)))
abbrev amk:AC:= .seq (.seq (.run [.o 23 (.av bc 10), .o 24 (.load dz false 1), .o 25 (.len da), .o 26 (.mv (.k (.int .i64 0)))]) amj) (.seq (.run [.o 44 (.load bQ true 13), .op none none (.store df jj 13)]) .ret)
abbrev aml:AC:= .seq (.run [.o 1 (.box aW), .o 2 (.alloc [(.int .i64 0),(.int .i64 0),(.slice .full 0 []),(.str []),(.str []),(.int .i64 0),(.int .i64 0),(.str []),(.slice .full 0 []),(.bool false),(.slice .full 0 []),(.slice .full 0 []),(.slice .full 0 [])])]) (.seq amg amk)
abbrev amm:AC:= .cond bY (.seq (.run [.o 2 (.mv (.k (.bool false)))]) .ret) .skip
abbrev amn:AC:= .seq (.block 1 (.seq (.run [.o 9 (.b6 bj bJ 1), .o 10 (.load cb false 1), .m 4 bP]) (.seq (.run [.m 11 cR, .c 12 kQ [bM], .o 13 (.un .not bZ)]) amm))) (.run [.o 14 (.bin .add bJ (.k (.int .i64 1))), .m 7 bN])
abbrev amo:AC:= .block 0 (.loop (.seq (.run [.o 8 (.bin .lss bJ bU)]) (.seq (.cond bS .skip (.exit 0)) amn)))
abbrev amp:AC:= .seq (.seq (.run [.m 5 aW, .o 6 (.len bj), .o 7 (.mv (.k (.int .i64 0)))]) amo) (.seq (.run [.o 2 (.mv (.k (.bool true)))]) .ret)
abbrev amq:AC:= .seq (.run [.o 2 (.mv (.k (.bool false)))]) amp
abbrev amr:AC:= .cond b7 (.seq (.run [.o 2 (.mv (.k (.bool false)))]) .ret) .skip
abbrev ams:AC:= .cond fA (.seq (.run [.o 2 (.mv (.k (.bool false)))]) .ret) .skip
abbrev amt:AC:= .block 1 (.seq (.run [.m 23 aW, .m 24 bQ, .o 25 (.oC dz da), .c 26 rh [db], .o 27 (.un .not dS), .m 28 dM, .g 29 28 true (.mv aW), .g 30 28 true (.mv bQ), .g 31 28 true (.oC ez eK), .d 32 28 true vf [eU], .g 33 28 true (.un .not fh), .o 34 (.pick ey fc (.k (.bool false)))]) ams)
abbrev amu:AC:= .seq (.seq (.run [.m 17 bQ, .m 18 aW, .o 19 (.lW cG), .o 20 (.bin .lss cJ cW)]) (.cond dd .skip (.exit 0))) (.seq amt (.run [.m 21 bQ, .o 22 (.bin .add dh (.k (.int .i64 1))), .m 3 dt]))
abbrev amv:AC:= .seq (.seq (.run [.o 3 (.mv (.k (.int .i64 1)))]) (.block 0 (.loop amu))) (.seq (.run [.m 35 aW, .c 36 w8 [fw], .o 37 (.un .not fJ), .m 2 gd]) .ret)
abbrev amw:AC:= .seq (.seq (.run [.m 4 aW, .o 5 (.bin .eql cR (.k (.str []))), .m 6 bj, .g 7 6 false (.mv aW), .g 8 6 false (.lW bJ), .g 9 6 false (.bin .gtr bS (.k (.int .i64 8))), .o 10 (.pick bU (.k (.bool true)) cb), .m 11 bP, .g 12 11 false (.mv aW), .g 13 11 false (.oC bZ (.k (.int .i64 0))), .d 14 11 false rh [bY], .g 15 11 false (.un .not bN), .o 16 (.pick bM (.k (.bool true)) cd)]) amr) amv
abbrev amx:AC:= .seq (.run [.o 2 (.mv (.k (.bool false)))]) amw
abbrev amy:AC:= .run [.o 8 (.av bc 1), .o 9 (.load bS false 1), .o 10 (.bin .eql cb (.k (.int .i64 1))), .m 11 bP, .g 12 11 false (.av bc 1), .g 13 11 false (.load bZ false 1), .g 14 11 false (.bin .eql bY (.k (.int .i64 3))), .o 15 (.pick bM (.k (.bool true)) bN), .m 16 cd, .g 17 16 false (.av bc 1), .g 18 16 false (.load cJ false 1), .g 19 16 false (.bin .eql cG (.k (.int .i64 5))), .o 20 (.pick b7 (.k (.bool true)) cW), .m 21 dd, .g 22 21 false (.av bc 1), .g 23 21 false (.load dt false 1), .g 24 21 false (.bin .eql dz (.k (.int .i64 6))), .o 25 (.pick dh (.k (.bool true)) da), .m 26 db, .g 27 26 false (.av bc 1), .g 28 26 false (.load dM false 1), .g 29 26 false (.bin .eql ey (.k (.int .i64 9))), .g 30 26 false (.mv ez), .g 31 30 true (.av bc 9), .g 32 30 true (.load eU false 1), .g 33 26 false (.pick eK fh (.k (.bool false))), .o 34 (.pick dS (.k (.bool true)) fc), .m 3 fA]
abbrev amz:AC:= .run [.o 51 (.av bc 1), .o 52 (.load ko false 1), .o 53 (.bin .lss kH (.k (.int .i64 1))), .m 54 kI, .g 55 54 false (.av bc 1), .g 56 54 false (.load lE false 1), .g 57 54 false (.bin .gtr mT (.k (.int .i64 10))), .o 58 (.pick lj (.k (.bool true)) nI), .m 59 mU, .g 60 59 false (.av bc 2), .g 61 59 false (.load oR false 1), .d 62 59 false ve [qm], .g 63 59 false (.un .not qn), .o 64 (.pick lk (.k (.bool true)) qo), .m 65 ri, .g 66 65 false (.mv bQ), .g 67 65 false (.mv xb), .g 68 67 true (.av bc 5), .g 69 67 true (.load vk true 4), .d 70 67 true o9 [yR], .g 71 67 true (.un .not xc), .g 72 65 false (.pick vj CS (.k (.bool false))), .o 73 (.pick vi (.k (.bool true)) CT), .m 74 Fw, .g 75 74 false (.mv bQ), .g 76 74 false (.un .not Fy), .g 77 74 false (.mv CW), .g 78 77 true (.av bc 5), .g 79 77 true (.load CX true 4), .d 80 77 true sH [OF], .g 81 77 true (.un .not OG), .g 82 74 false (.pick Fz OH (.k (.bool false))), .o 83 (.pick Fx (.k (.bool true)) OI), .m 84 OM, .g 85 84 false (.av bc 9), .g 86 84 false (.load OO false 1), .g 87 84 false (.mv OP), .g 88 87 true (.av bc 1), .g 89 87 true (.load OR false 1), .g 90 87 true (.bin .neq OS (.k (.int .i64 9))), .g 91 84 false (.pick OQ OT (.k (.bool false))), .o 92 (.pick ON (.k (.bool true)) OU)]
abbrev amA:AC:= .cond OV (.seq (.run [.o 2 (.mv (.k (.bool false)))]) .ret) .skip
abbrev amB:AC:= .run [.m 93 cR, .m 94 UF, .g 95 94 true (.av bc 3), .g 96 94 true (.load UH false 1), .d 97 94 true kQ [ab5], .g 98 94 true (.un .not ab6), .o 99 (.pick UG ab7 (.k (.bool false))), .m 100 ab8, .g 101 100 false (.mv cR), .g 102 100 false (.un .not W0), .g 103 100 false (.mv W1), .g 104 103 true (.av bc 3), .g 105 103 true (.load W3 false 1), .g 106 103 true (.bin .neq W4 (.k (.str []))), .g 107 100 false (.pick W2 W5 (.k (.bool false))), .g 108 100 false (.mv W6), .g 109 108 true (.mv bj), .g 110 108 true (.mv W8), .g 111 110 true (.av bc 3), .g 112 110 true (.load Xa false 1), .d 113 110 true kQ [Xb], .g 114 108 true (.pick W9 Xc (.k (.bool false))), .g 115 108 true (.un .not Xd), .g 116 100 false (.pick W7 Xe (.k (.bool false))), .o 117 (.pick WZ (.k (.bool true)) Xf)]
abbrev amC:AC:= .cond Xg (.seq (.run [.o 2 (.mv (.k (.bool false)))]) .ret) .skip
abbrev amD:AC:= .run [.m 118 bj, .o 119 (.av bc 4), .o 120 (.load Xi false 1), .o 121 (.bin .neq Xj (.k (.str []))), .o 122 (.Cc true Xh Xk), .m 123 Xl, .g 124 123 false (.mv bj), .g 125 123 false (.mv Xn), .g 126 125 true (.av bc 4), .g 127 125 true (.load Xp false 1), .d 128 125 true kQ [Xq], .g 129 125 true (.un .not Xr), .g 130 123 false (.pick Xo Xs (.k (.bool false))), .o 131 (.pick Xm (.k (.bool true)) Xt), .m 132 Xu, .g 133 132 false (.mv bj), .g 134 132 false (.un .not Xv), .g 135 132 false (.mv Xw), .g 136 135 true (.av bc 10), .g 137 135 true (.load Xy false 1), .g 138 135 true (.len Xz), .g 139 135 true (.bin .gtr XA (.k (.int .i64 0))), .g 140 132 false (.pick Xx XB (.k (.bool false))), .o 141 (.pick OW (.k (.bool true)) XC)]
abbrev amE:AC:= .cond XD (.seq (.run [.o 2 (.mv (.k (.bool false)))]) .ret) .skip
abbrev amF:AC:= .cond XL (.seq (.run [.o 2 (.mv (.k (.bool false)))]) .ret) .skip
abbrev amG:AC:= .seq (.block 1 (.seq (.run [.o 147 (.b6 OX H2 6), .o 148 (.load XH true 6), .o 7 (.alloc [(.bool false),(.str []),(.int .i64 0),(.int .i64 0),(.str []),(.slice .full 0 [])]), .op none none (.store bJ XI 6)]) (.seq (.run [.o 149 (.load bJ true 6), .c 150 yQ [XJ], .o 151 (.un .not XK)]) amF))) (.run [.o 152 (.bin .add H2 (.k (.int .i64 1))), .m 145 afQ])
abbrev amH:AC:= .block 0 (.loop (.seq (.run [.o 146 (.bin .lss H2 XF)]) (.seq (.cond XG .skip (.exit 0)) amG)))
abbrev amI:AC:= .run [.o 153 (.av bc 11), .o 154 (.load afR false 1), .o 155 (.len afS), .o 156 (.bin .eql afT (.k (.int .i64 0))), .m 157 afU, .g 158 157 false (.av bc 1), .g 159 157 false (.load afW false 1), .g 160 157 false (.bin .eql afX (.k (.int .i64 5))), .o 161 (.pick afV (.k (.bool true)) afY), .m 162 afZ, .g 163 162 false (.av bc 1), .g 164 162 false (.load af1 false 1), .g 165 162 false (.bin .eql af2 (.k (.int .i64 6))), .o 166 (.pick af0 (.k (.bool true)) af3), .m 167 af4, .g 168 167 true (.av bc 12), .g 169 167 true (.load af6 false 1), .g 170 167 true (.len af7), .g 171 167 true (.bin .eql af8 (.k (.int .i64 0))), .g 172 167 true (.mv af9), .g 173 172 false (.av bc 1), .g 174 172 false (.load agb false 1), .g 175 172 false (.bin .eql agc (.k (.int .i64 5))), .g 176 167 true (.pick aga (.k (.bool true)) agd), .o 177 (.pick af5 age (.k (.bool false))), .m 2 agf]
abbrev aco:AC:= .seq (.seq (.run [.o 142 (.av bc 10), .o 143 (.load XE false 1), .o 144 (.len OX), .o 145 (.mv (.k (.int .i64 0)))]) amH) (.seq amI .ret)
abbrev acp:AC:= .seq (.seq amD amE) aco
abbrev acq:AC:= .seq (.seq amB amC) acp
abbrev acr:AC:= .seq (.seq amz amA) acq
abbrev acs:AC:= .seq (.run [.o 48 (.av bc 1), .o 49 (.load jG false 1), .o 50 (.bin .eql jX (.k (.int .i64 4))), .m 5 lh]) acr
abbrev acu:AC:= .seq (.run [.o 35 (.av bc 1), .o 36 (.load fw false 1), .o 37 (.bin .eql fJ (.k (.int .i64 1))), .m 38 gd, .g 39 38 false (.av bc 1), .g 40 38 false (.load gC false 1), .g 41 38 false (.bin .eql gU (.k (.int .i64 2))), .o 42 (.pick gG (.k (.bool true)) gV), .m 43 ie, .g 44 43 false (.av bc 1), .g 45 43 false (.load jj false 1), .g 46 43 false (.bin .eql jV (.k (.int .i64 10))), .o 47 (.pick iQ (.k (.bool true)) jW), .m 4 kG]) acs
abbrev acv:AC:= .seq amy acu
abbrev amJ:AC:= .seq (.run [.o 1 (.box aW), .o 2 (.mv (.k (.bool false)))]) acv
abbrev amK:AC:= .seq (.run [.o 4 (.mv (.k (.bool false)))]) (.seq (.run [.m 5 bc, .m 6 bj, .g 7 6 true (.mv aW), .d 8 6 true nE [bJ], .o 9 (.pick bU bS (.k (.bool false))), .m 10 cb, .g 11 10 false (.mv bc), .g 12 10 false (.un .not bM), .g 13 10 false (.mv bZ), .g 14 13 true (.mv aW), .g 15 13 true (.bin .eql bN (.k (.str []))), .g 16 10 false (.pick bY cd (.k (.bool false))), .o 17 (.pick bP (.k (.bool true)) b7), .m 4 cJ]) .ret)
abbrev amL:AC:= .seq (.run [.o 2 (.box aW), .o 4 (.mv (.k (.bool false)))]) (.seq (.run [.m 5 bc, .m 6 bj, .g 7 6 true (.load df true 4), .d 8 6 true pb [bJ], .o 9 (.pick bU bS (.k (.bool false))), .m 10 cb, .g 11 10 false (.mv bc), .g 12 10 false (.un .not bM), .g 13 10 false (.mv bZ), .g 14 13 true (.load df true 4), .d 15 13 true w9 [bN], .g 16 10 false (.pick bY cd (.k (.bool false))), .o 17 (.pick bP (.k (.bool true)) b7), .m 4 cJ]) .ret)
abbrev amM:AC:= .cond db (.seq (.run [.o 2 (.mv (.k (.bool false)))]) .ret) .skip
abbrev amN:AC:= .seq (.run [.o 9 (.b6 bj bJ 6), .o 10 (.load cb true 6), .o 4 (.alloc [(.bool false),(.str []),(.int .i64 0),(.int .i64 0),(.str []),(.slice .full 0 [])]), .op none none (.store cR bP 6)]) (.seq (.run [.o 11 (.av cR 1), .o 12 (.load bM false 1), .o 13 (.av cR 0), .o 14 (.load bY false 1), .c 15 oQ [bZ,bN], .o 16 (.un .not cd), .m 17 b7, .g 18 17 false (.av cR 2), .g 19 17 false (.load cG true 4), .g 20 17 false (.av cR 0), .g 21 17 false (.load dd false 1), .g 22 17 false (.un .not dh), .d 23 17 false rb [cW,dt], .g 24 17 false (.un .not dz), .o 25 (.pick cJ (.k (.bool true)) da)]) amM)
abbrev amO:AC:= .seq (.cond bS .skip (.exit 0)) (.seq (.block 1 amN) (.run [.o 26 (.bin .add bJ (.k (.int .i64 1))), .m 7 dS]))
abbrev amP:AC:= .seq (.run [.m 5 aW, .o 6 (.len bj), .o 7 (.mv (.k (.int .i64 0)))]) (.block 0 (.loop (.seq (.run [.o 8 (.bin .lss bJ bU)]) amO)))
abbrev amQ:AC:= .seq amP (.seq (.run [.o 2 (.mv (.k (.bool true)))]) .ret)
abbrev amR:AC:= .seq (.run [.o 2 (.mv (.k (.bool false)))]) amQ
abbrev amS:AC:= .seq (.block 1 (.seq (.run [.o 13 (.b6 cb bM 13), .o 14 (.load bY true 13), .o 5 (.alloc [(.int .i64 0),(.int .i64 0),(.slice .full 0 []),(.str []),(.str []),(.int .i64 0),(.int .i64 0),(.str []),(.slice .full 0 []),(.bool false),(.slice .full 0 []),(.slice .full 0 []),(.slice .full 0 [])]), .op none none (.store bj bN 13)]) (.run [.m 15 bQ, .o 16 (.load bj true 13), .c 17 mb [b7], .o 18 (.bin .add cd cJ), .m 3 cG]))) (.run [.o 19 (.bin .add bM (.k (.int .i64 1))), .m 11 cW])
abbrev amT:AC:= .block 0 (.loop (.seq (.run [.o 12 (.bin .lss bM bP)]) (.seq (.cond bZ .skip (.exit 0)) amS)))
abbrev amU:AC:= .seq (.block 3 (.seq (.run [.o 25 (.b6 dh dz 13), .o 26 (.load db true 13), .o 7 (.alloc [(.int .i64 0),(.int .i64 0),(.slice .full 0 []),(.str []),(.str []),(.int .i64 0),(.int .i64 0),(.str []),(.slice .full 0 []),(.bool false),(.slice .full 0 []),(.slice .full 0 []),(.slice .full 0 [])]), .op none none (.store bJ dS 13)]) (.run [.m 27 bQ, .o 28 (.load bJ true 13), .c 29 mb [ey], .o 30 (.bin .add dM ez), .m 3 eK]))) (.run [.o 31 (.bin .add dz (.k (.int .i64 1))), .m 23 eU])
abbrev amV:AC:= .block 2 (.loop (.seq (.run [.o 24 (.bin .lss dz dt)]) (.seq (.cond da .skip (.exit 2)) amU)))
abbrev amW:AC:= .seq (.seq (.run [.o 20 (.av bc 12), .o 21 (.load dd false 1), .o 22 (.len dh), .o 23 (.mv (.k (.int .i64 0)))]) amV) (.seq (.run [.m 32 bQ, .m 2 fh]) .ret)
abbrev amX:AC:= .seq (.seq (.run [.o 8 (.av bc 11), .o 9 (.load bS false 1), .o 10 (.len cb), .o 11 (.mv (.k (.int .i64 0)))]) amT) amW
abbrev amY:AC:= .seq (.run [.o 1 (.box aW), .o 2 (.mv (.k (.int .i64 0)))]) (.seq (.run [.o 3 (.mv (.k (.int .i64 1)))]) amX)
abbrev amZ:AC:= .cond bj (.seq (.run [.o 2 (.mv (.k (.slice .full 0 [])))]) .ret) .skip
abbrev am0:AC:= .seq (.seq (.run [.o 3 (.load bc true 4), .c 4 pb [bQ], .o 5 (.un .not cR)]) amZ) (.seq (.run [.o 6 (.load bc true 4),(.c 7 iI [bU,(.k (.slice .full 0 []))]), .m 2 bJ]) .ret)
abbrev am1:AC:= .seq (.run [.o 1 (.box aW), .o 2 (.mv (.k (.slice .full 0 [])))]) am0
abbrev am2:AC:= .seq (.run [.o 4 (.mv (.k (.bool false)))]) (.seq (.run [.m 5 aW, .m 6 bc, .c 7 gl [bj,bU], .o 8 (.bin .geq bJ (.k (.int .i64 0))), .m 4 bS]) .ret)
abbrev am3:AC:= .seq (.run [.o 2 (.box aW), .o 3 (.mv (.k (.bool false)))]) (.seq (.run [.o 4 (.av df 0), .o 5 (.load cR false 1), .o 6 (.load bc false 1), .o 7 (.bin .eql bj bU), .m 3 bJ]) .ret)
abbrev am4:AC:= .seq (.run [.o 16 (.b6 bZ bN 17), .o 17 (.load b7 true 17), .o 7 (.alloc [(.int .i64 0),(.int .i64 0),(.slice .full 0 []),(.str []),(.str []),(.int .i64 0),(.int .i64 0),(.str []),(.slice .full 0 []),(.bool false),(.slice .full 0 []),(.slice .full 0 []),(.slice .full 0 []),(.int .i64 0),(.int .i64 0),(.int .i64 0),(.int .i64 0)]), .op none none (.store bJ cJ 17)]) (.seq (.run [.o 18 (.av bJ 0), .o 19 (.av cG 1), .o 20 (.load cW false 1), .o 21 (.bin .eql dd (.k (.int .i64 4)))]) (.cond dh (.run [.m 22 bj, .o 23 (.av bJ 0), .o 24 (.av dz 4), .o 25 (.load da false 1), .o 26 (.cQ [(.str [])] 1 1 [(0,db)]), .o 27 (.app 1 16 dt dS), .m 5 dM]) .skip))
abbrev am5:AC:= .seq (.cond cd .skip (.exit 0)) (.seq (.block 1 am4) (.run [.o 28 (.bin .add bN (.k (.int .i64 1))), .m 14 ey]))
abbrev am6:AC:= .seq (.run [.m 8 aW, .m 9 aW, .m 10 bc, .c 11 mw [cb,bP], .c 12 gS [bS,bM], .o 13 (.len bZ), .o 14 (.mv (.k (.int .i64 0)))]) (.block 0 (.loop (.seq (.run [.o 15 (.bin .lss bN bY)]) am5)))
abbrev am7:AC:= .seq (.run [.o 4 (.mv (.k (.slice .full 0 [])))]) (.seq (.run [.o 5 (.mv (.k (.slice .full 0 [])))]) (.seq am6 (.seq (.run [.m 29 bj, .c 30 jf [ez]]) (.seq (.run [.m 31 bj, .c 32 jw [eU], .m 4 fh]) .ret))))
end Go.Abs

/-! Codes4 -/

namespace Go.Abs
abbrev am8:AC:= .block 1 (.seq (.run [.m 10 bS, .m 5 bP]) (.seq (.run [.m 11 bc, .m 12 aW, .m 13 bj, .o 14 (.b6 bZ bY 5), .o 15 (.load bN true 5),(.jb (some 16) none 11 [cd])]) (.cond b7 (.seq (.run [.m 17 bj, .m 4 cJ]) .ret) .skip)))
abbrev am9:AC:= .seq (.cond cb .skip (.exit 0)) (.seq am8 (.run [.o 18 (.bin .add bS (.k (.int .i64 1))), .m 8 cG]))
abbrev ana:AC:= .seq (.run [.m 6 aW, .o 7 (.len bU), .o 8 (.mv (.k (.int .i64 0)))]) (.block 0 (.loop (.seq (.run [.o 9 (.bin .lss bS bJ)]) am9)))
abbrev anb:AC:= .seq (.run [(.o 4 (.mv (.k (.int .i64 (-1)))))]) .ret
abbrev anc:AC:= .seq (.run [.o 4 (.mv (.k (.int .i64 0)))]) (.seq ana anb)
abbrev ane:AC:= .seq (.run [.o 2 (.box aW), .o 3 (.mv (.k (.bool false)))]) (.seq (.run [.o 4 (.av df 0), .o 5 (.load cR false 1), .o 6 (.load bc false 1), .o 7 (.bin .eql bj bU), .m 3 bJ]) .ret)
abbrev anf:AC:= .seq (.run [.m 16 aW, .c 17 e9 [b7,(.k (.int .i64 3))]]) (.seq (.run [.o 4 (.mv (.k (.str [])))]) .ret)
abbrev ang:AC:= .seq (.run [.m 20 aW, .c 21 e9 [dd,(.k (.int .i64 4))]]) (.seq (.run [.o 4 (.mv (.k (.str [])))]) .ret)
abbrev anh:AC:= .seq (.seq (.run [.m 18 bc, .o 19 (.un .not cG)]) (.cond cW ang .skip)) (.seq (.run [.m 22 aW, .o 23 (.dB dt), .o 24 (.av dz 1), .o 25 (.load da false 1), .o 26 (.bin .add db (.k (.int .i64 1))), .o 27 (.dB dt), .o 28 (.av dM 1), .op none none (.store ey dS 1)]) (.seq (.run [.o 29 (.av bj 1), .o 30 (.load ez false 1), .m 4 eK]) .ret))
abbrev ani:AC:= .seq (.seq (.run [.m 8 aW, .c 9 cP [bS], .o 10 (.un .not cb), .m 11 bP, .g 12 11 false (.av bj 0), .g 13 11 false (.load bZ false 1), .g 14 11 false (.bin .neq bY (.k (.int .i64 1))), .o 15 (.pick bM (.k (.bool true)) bN)]) (.cond cd anf .skip)) anh
abbrev anj:AC:= .seq (.run [.o 4 (.mv (.k (.str [])))]) (.seq (.run [.m 6 aW, .c 7 dE [bU], .o 5 (.alloc [(.int .i64 0),(.str []),(.int .i64 0),(.int .i64 0)]), .op none none (.store bj bJ 4)]) ani)
abbrev ank:AC:= .seq (.run [.m 4 aW, .m 5 bc, .c 6 dD [cR,bj], .o 7 (.un .not bU)]) (.cond bJ (.run [.m 8 aW, .c 9 e9 [bS,(.k (.int .i64 3))]]) .skip)
abbrev anl:AC:= .cond da (.seq (.run [.m 25 aW, .o 26 (.dB db), .o 27 (.av dS 1), .o 28 (.load dM false 1), .o 29 (.bin .add ey (.k (.int .i64 1))), .o 30 (.dB db), .o 31 (.av eK 1), .op none none (.store eU ez 1)]) (.seq (.run [.m 32 bS, .m 33 cb, .m 6 fh, .m 7 fc]) .ret)) .skip
abbrev anm:AC:= .seq (.seq (.run [.m 15 aW,(.c 16 fK [cd,(.k (.str [125]))]), .m 17 b7, .g 18 17 true (.mv df), .g 19 17 true (.mv cG), .g 20 19 false (.mv cb), .g 21 19 false (.len dd), .g 22 19 false (.bin .eql dh (.k (.int .i64 0))), .g 23 17 true (.pick cW (.k (.bool true)) dt), .o 24 (.pick cJ dz (.k (.bool false)))]) anl) (.seq (.run [.m 34 aW, .m 35 bc, .c 36 oa [fA,fw], .o 10 (.alloc [(.int .i64 0),(.int .i64 0),(.slice .full 0 []),(.str []),(.str []),(.int .i64 0),(.int .i64 0),(.str []),(.slice .full 0 []),(.bool false),(.slice .full 0 []),(.slice .full 0 []),(.slice .full 0 [])]), .op none none (.store bP fJ 13)]) (.seq (.run [.m 37 cb, .o 38 (.av bP 2), .op none none (.store gG gd 1)]) (.run [.m 39 bS, .o 40 (.load bP true 13), .o 41 (.cQ [(.int .i64 0),(.int .i64 0),(.slice .full 0 []),(.str []),(.str []),(.int .i64 0),(.int .i64 0),(.str []),(.slice .full 0 []),(.bool false),(.slice .full 0 []),(.slice .full 0 []),(.slice .full 0 [])] 13 1 [(0,gU)]), .o 42 (.app 13 208 gC gV), .m 8 ie])))
abbrev ann:AC:= .block 0 (.loop (.seq (.seq (.run [.m 11 aW, .c 12 cP [bM]]) (.cond bZ .skip (.exit 0))) (.block 1 (.seq (.run [.m 13 aW, .c 14 mQ [bY], .m 9 bN]) anm))))
abbrev ano:AC:= .seq ann (.seq (.run [.o 6 (.mv (.k (.slice .full 0 []))), .o 7 (.mv (.k (.slice .full 0 [])))]) .ret)
abbrev anp:AC:= .seq (.run [.o 6 (.mv (.k (.slice .full 0 []))), .o 7 (.mv (.k (.slice .full 0 [])))]) (.seq (.run [.o 8 (.mv (.k (.slice .full 0 [])))]) ano)
abbrev anq:AC:= .par [.o 15 (.av bc 3), .o 16 (.load cd false 1), .o 17 (.load bj true 4), .c 18 mc [cJ], .o 19 (.cQ [(.int .i64 0),(.int .i64 0),(.str []),(.slice .full 0 [])] 4 1 [(0,cG)]), .o 20 (.app 4 56 b7 cW), .o 21 (.av bc 3), .op none none (.store dh dd 1)] [(2,0),(3,0),(0,0),(1,1),(4,0),(5,0),(6,0),(7,0)]
abbrev anr:AC:= .seq (.block 1 (.seq (.run [.o 13 (.b6 cb bM 4), .o 14 (.load bY true 4), .o 5 (.alloc [(.int .i64 0),(.int .i64 0),(.str []),(.slice .full 0 [])]), .op none none (.store bj bN 4)]) anq)) (.run [.o 22 (.bin .add bM (.k (.int .i64 1))), .m 11 dt])
abbrev ans:AC:= .block 0 (.loop (.seq (.run [.o 12 (.bin .lss bM bP)]) (.seq (.cond bZ .skip (.exit 0)) anr)))
abbrev ant:AC:= .seq (.seq (.run [.m 9 bQ, .o 10 (.len cb), .o 11 (.mv (.k (.int .i64 0)))]) ans) (.seq (.run [.o 23 (.load bc true 4), .op none none (.store df dz 4)]) .ret)
abbrev anu:AC:= .seq (.run [.o 6 (.av bc 3), .o 7 (.load bU false 1), .m 3 bJ]) (.seq (.run [.o 8 (.av bc 3), .op none none (.store bS (.k (.slice .full 0 [])) 1)]) ant)
abbrev anv:AC:= .seq (.run [.o 1 (.box aW), .o 2 (.alloc [(.int .i64 0),(.int .i64 0),(.str []),(.slice .full 0 [])])]) anu
abbrev anw:AC:= .seq (.run [.o 1 (.box aW), .o 2 (.mv (.k (.bool false)))]) (.seq (.run [.o 3 (.load bc true 4), .c 4 pP [bQ,(.k (.int .i64 20))], .o 5 (.bin .leq cR (.k (.int .i64 20))), .m 6 bj, .g 7 6 true (.load bc true 4), .d 8 6 true pQ [bJ], .o 9 (.pick bU bS (.k (.bool false))), .m 2 cb]) .ret)
abbrev anx:AC:= .par [.o 18 (.av bQ 3), .o 19 (.load cG false 1), .o 20 (.av bc 3), .o 21 (.load dd false 1), .m 22 cR, .o 23 (.b6 dh dt 4), .o 24 (.load dz true 4), .c 25 jh [da], .o 26 (.cQ [(.int .i64 0),(.int .i64 0),(.str []),(.slice .full 0 [])] 4 1 [(0,db)]), .o 27 (.app 4 56 cW dS), .o 28 (.av bQ 3), .op none none (.store ey dM 1)] [(2,0),(3,0),(4,0),(5,0),(6,0),(7,0),(0,0),(1,1),(8,0),(9,0),(10,0),(11,0)]
abbrev anz:AC:= .seq (.cond b7 .skip (.exit 0)) (.seq (.block 1 (.seq (.run [.m 17 cd, .m 4 cJ]) anx)) (.run [.o 29 (.bin .add cd (.k (.int .i64 1))), .m 15 ez]))
abbrev anA:AC:= .seq (.run [.o 12 (.av bc 3), .o 13 (.load bZ false 1), .o 14 (.len bY), .o 15 (.mv (.k (.int .i64 0)))]) (.block 0 (.loop (.seq (.run [.o 16 (.bin .lss cd bN)]) anz)))
abbrev anB:AC:= .seq (.run [.o 1 (.box aW), .o 2 (.alloc [(.int .i64 0),(.int .i64 0),(.str []),(.slice .full 0 [])])]) (.seq (.run [.o 5 (.av bc 0), .o 6 (.load bj false 1), .o 7 (.av bc 1), .o 8 (.load bJ false 1), .o 9 (.av bc 2), .o 10 (.load cb false 1), .o 11 (.build [(.int .i64 0),(.int .i64 0),(.str []),(.slice .full 0 [])] [(0,(1,bU)),(1,(1,bS)),(2,(1,bP))]), .o 3 (.alloc [(.int .i64 0),(.int .i64 0),(.str []),(.slice .full 0 [])]), .op none none (.store bQ bM 4)]) (.seq anA (.seq (.run [.o 30 (.load bQ true 4), .op none none (.store df eK 4)]) .ret)))
abbrev anC:AC:= .seq (.run [.o 2 (.mv (.k (.bool false)))]) (.seq (.run [.m 3 aW, .o 4 (.bin .geq bQ (.k (.int .u8 97))), .m 5 cR, .g 6 5 true (.mv aW), .g 7 5 true (.bin .leq bU (.k (.int .u8 122))), .o 8 (.pick bj bJ (.k (.bool false))), .m 2 bS]) .ret)
abbrev anD:AC:= .seq (.run [.o 2 (.mv (.k (.bool false)))]) (.seq (.run [.m 3 aW, .o 4 (.bin .geq bQ (.k (.int .u8 48))), .m 5 cR, .g 6 5 true (.mv aW), .g 7 5 true (.bin .leq bU (.k (.int .u8 57))), .o 8 (.pick bj bJ (.k (.bool false))), .m 2 bS]) .ret)
abbrev anE:AC:= .cond bY (.seq (.run [.o 2 (.mv (.k (.bool true)))]) .ret) .skip
abbrev anF:AC:= .seq (.block 1 (.seq (.run [.o 9 (.b6 bj bJ 1), .o 10 (.load cb false 1), .m 4 bP]) (.seq (.run [.m 11 cR, .m 12 aW, .o 13 (.bin .eql bM bZ)]) anE))) (.run [.o 14 (.bin .add bJ (.k (.int .i64 1))), .m 7 bN])
abbrev anG:AC:= .block 0 (.loop (.seq (.run [.o 8 (.bin .lss bJ bU)]) (.seq (.cond bS .skip (.exit 0)) anF)))
abbrev anH:AC:= .seq (.seq (.run [.c 5 vg [], .o 6 (.len bj), .o 7 (.mv (.k (.int .i64 0)))]) anG) (.seq (.run [.o 2 (.mv (.k (.bool false)))]) .ret)
abbrev anI:AC:= .seq (.run [.o 2 (.mv (.k (.bool false)))]) anH
abbrev anJ:AC:= .seq (.run [.o 1 (.box aW), .o 2 (.mv (.k (.bool false)))]) (.seq (.run [.o 3 (.av bc 0), .o 4 (.load bQ false 1), .o 5 (.bin .eql cR (.k (.int .i64 0))), .m 6 bj, .g 7 6 true (.av bc 1), .g 8 6 true (.load bJ false 1), .g 9 6 true (.bin .eql bS (.k (.int .i64 0))), .o 10 (.pick bU cb (.k (.bool false))), .m 11 bP, .g 12 11 true (.av bc 2), .g 13 11 true (.load bZ false 1), .g 14 11 true (.bin .eql bY (.k (.str []))), .o 15 (.pick bM bN (.k (.bool false))), .m 16 cd, .g 17 16 true (.av bc 3), .g 18 16 true (.load cJ false 1), .g 19 16 true (.len cG), .g 20 16 true (.bin .eql cW (.k (.int .i64 0))), .o 21 (.pick b7 dd (.k (.bool false))), .m 2 dh]) .ret)
abbrev anK:AC:= .cond cR (.seq (.run [.o 5 (.av bc 1), .o 6 (.load bj false 1), .c 7 kQ [bU], .m 8 bJ, .g 9 8 true (.av bc 2), .g 10 8 true (.load cb true 4), .d 11 8 true sH [bP], .o 12 (.pick bS bM (.k (.bool false))), .m 2 bZ]) .ret) .skip
abbrev anL:AC:= .seq (.seq (.run [.o 3 (.av bc 0), .o 4 (.load bQ false 1)]) anK) (.seq (.run [.o 13 (.av bc 1), .o 14 (.load bY false 1), .o 15 (.bin .eql bN (.k (.str []))), .m 16 cd, .g 17 16 true (.av bc 2), .g 18 16 true (.load cJ true 4), .d 19 16 true o9 [cG], .o 20 (.pick b7 cW (.k (.bool false))), .m 2 dd]) .ret)
abbrev anM:AC:= .seq (.run [.o 1 (.box aW), .o 2 (.mv (.k (.bool false)))]) anL
abbrev anN:AC:= .seq (.run [.o 1 (.box aW), .o 2 (.mv (.k (.bool false)))]) (.seq (.run [.o 3 (.load bc true 4), .c 4 pR [bQ,(.k (.int .i64 20))], .m 2 cR]) .ret)
abbrev anO:AC:= .seq (.run [.o 1 (.box aW), .o 2 (.mv (.k (.bool false)))]) (.seq (.run [.o 3 (.av bc 0), .o 4 (.load bQ false 1), .o 5 (.bin .eql cR (.k (.int .i64 0))), .m 6 bj, .g 7 6 true (.av bc 1), .g 8 6 true (.load bJ false 1), .g 9 6 true (.bin .eql bS (.k (.int .i64 0))), .o 10 (.pick bU cb (.k (.bool false))), .m 11 bP, .g 12 11 true (.av bc 2), .g 13 11 true (.load bZ false 1), .g 14 11 true (.bin .eql bY (.k (.str []))), .o 15 (.pick bM bN (.k (.bool false))), .m 16 cd, .g 17 16 true (.av bc 3), .g 18 16 true (.load cJ false 1), .g 19 16 true (.len cG), .g 20 16 true (.bin .eql cW (.k (.int .i64 0))), .o 21 (.pick b7 dd (.k (.bool false))), .m 2 dh]) .ret)
abbrev anP:AC:= .seq (.block 1 (.seq (.run [.o 27 (.b6 dz db 4), .o 28 (.load dM true 4), .o 6 (.alloc [(.int .i64 0),(.int .i64 0),(.str []),(.slice .full 0 [])]), .op none none (.store bU ey 4)]) (.run [.o 29 (.load bU true 4), .m 30 bc, .c 31 iI [ez,eK], .m 1 eU]))) (.run [.o 32 (.bin .add db (.k (.int .i64 1))), .m 25 fh])
abbrev anQ:AC:= .block 0 (.loop (.seq (.run [.o 26 (.bin .lss db da)]) (.seq (.cond dS .skip (.exit 0)) anP)))
abbrev anR:AC:= .seq (.seq (.run [.o 22 (.av df 3), .o 23 (.load dt false 1), .o 24 (.len dz), .o 25 (.mv (.k (.int .i64 0)))]) anQ) (.seq (.run [.m 33 bc, .m 4 fc]) .ret)
abbrev anS:AC:= .seq (.seq (.run [.o 7 (.av df 0), .o 8 (.load bJ false 1), .o 9 (.bin .eql bS (.k (.int .i64 2))), .m 10 cb, .g 11 10 true (.mv bc), .g 12 10 true (.av df 2), .g 13 10 true (.load bZ false 1), .d 14 10 true cr [bM,bY], .g 15 10 true (.un .not bN), .o 16 (.pick bP cd (.k (.bool false)))]) (.cond b7 (.run [.m 17 bc, .o 18 (.av df 2), .o 19 (.load cG false 1), .o 20 (.cQ [(.str [])] 1 1 [(0,cW)]), .o 21 (.app 1 16 cJ dd), .m 1 dh]) .skip)) anR
abbrev anT:AC:= .seq (.run [.o 2 (.box aW), .o 4 (.mv (.k (.slice .full 0 [])))]) anS
abbrev anU:AC:= .par [.m 4 aW, .c 5 cP [cR], .m 6 bj, .g 7 6 true (.mv aW), .d 8 6 true dE [bJ], .g 9 6 true (.sN bS 0 false 1), .g 10 6 true (.bin .eql cb (.k (.int .i64 1))), .o 11 (.pick bU bP (.k (.bool false))), .m 12 bM, .g 13 12 true (.mv aW), .g 14 12 true (.dB bY), .g 15 12 true (.av bN 0), .g 16 12 true (.load cd false 1), .g 17 12 true (.mv aW), .g 18 12 true (.dB cJ), .g 19 12 true (.av cG 1), .g 20 12 true (.load cW false 1), .g 21 12 true (.bin .add dd (.k (.int .i64 1))), .g 22 12 true (.b6 b7 dh 4), .g 23 12 true (.av dt 0), .g 24 12 true (.load dz false 1), .g 25 12 true (.bin .eql da (.k (.int .i64 4))), .o 26 (.pick bZ db (.k (.bool false))), .m 27 dS, .g 28 27 true (.mv aW), .g 29 27 true (.dB ey), .g 30 27 true (.av ez 0), .g 31 27 true (.load eK false 1), .g 32 27 true (.mv aW), .g 33 27 true (.dB fh), .g 34 27 true (.av fc 1), .g 35 27 true (.load fA false 1), .g 36 27 true (.bin .add fw (.k (.int .i64 1))), .g 37 27 true (.b6 eU fJ 4), .g 38 27 true (.av gd 1), .g 39 27 true (.load gG false 1), .g 40 27 true (.bin .eql gC (.k (.str [58]))), .o 41 (.pick dM gU (.k (.bool false)))] [(0,0),(1,0),(2,0),(3,0),(4,0),(5,0),(6,0),(7,0),(8,0),(9,0),(10,0),(11,0),(12,0),(13,0),(14,0),(15,0),(16,0),(17,0),(18,0),(19,0),(20,0),(21,0),(22,0),(23,0),(24,0),(25,0),(26,0),(27,0),(28,0),(29,0),(30,0),(31,0),(32,0),(33,0),(34,0),(35,0),(36,0),(37,0)]
abbrev anV:AC:= .block 1 (.seq (.run [.m 42 bQ, .m 43 aW, .c 44 dE [iQ], .o 45 (.sN jj 1 false 1), .o 46 (.cQ [(.str [])] 1 1 [(0,jV)]), .o 47 (.app 1 16 ie jW), .m 3 kG]) (.run [.m 48 aW, .o 49 (.dB jG), .o 50 (.av jX 1), .o 51 (.load lh false 1), .o 52 (.bin .add ko (.k (.int .i64 2))), .o 53 (.dB jG), .o 54 (.av kI 1), .op none none (.store lj kH 1)]))
abbrev anW:AC:= .block 0 (.loop (.seq (.seq anU (.cond gV .skip (.exit 0))) anV))
abbrev anX:AC:= .seq (.run [.o 2 (.mv (.k (.slice .full 0 [])))]) (.seq (.run [.o 3 (.mv (.k (.slice .full 0 [])))]) (.seq anW (.seq (.run [.m 55 bQ, .m 2 lE]) .ret)))
end Go.Abs

/-! Have4 -/

namespace Go.Abs
open Go.Proofs
theorem rI:Has Tryz.prog gl 19 [(4,none)] anc:=⟨Tryz.f166,by kernel_rfl,by kernel_rfl⟩
theorem xV:Has Tryz.prog lu 8 [(3,none)] ane:=⟨Tryz.f167,by kernel_rfl,by kernel_rfl⟩
theorem xW:Has Tryz.prog eJ 31 [(4,none)] anj:=⟨Tryz.f170,by kernel_rfl,by kernel_rfl⟩
theorem xX:Has Tryz.prog di 10 [] ank:=⟨Tryz.f171,by kernel_rfl,by kernel_rfl⟩
theorem qC:Has Tryz.prog gM 43 [(6,none),(7,none)] anp:=⟨Tryz.f172,by kernel_rfl,by kernel_rfl⟩
theorem HD:Has Tryz.prog mc 24 [(2,(some (true,4)))] anv:=⟨Tryz.f173,by kernel_rfl,by kernel_rfl⟩
theorem C0:Has Tryz.prog o9 10 [(2,none)] anw:=⟨Tryz.f174,by kernel_rfl,by kernel_rfl⟩
theorem B8:Has Tryz.prog jh 31 [(2,(some (true,4)))] anB:=⟨Tryz.f176,by kernel_rfl,by kernel_rfl⟩
theorem FF:Has Tryz.prog rh 9 [(2,none)] anC:=⟨Tryz.f177,by kernel_rfl,by kernel_rfl⟩
theorem FG:Has Tryz.prog vf 9 [(2,none)] anD:=⟨Tryz.f178,by kernel_rfl,by kernel_rfl⟩
theorem HE:Has Tryz.prog w8 15 [(2,none)] anI:=⟨Tryz.f179,by kernel_rfl,by kernel_rfl⟩
theorem HF:Has Tryz.prog sH 22 [(2,none)] anJ:=⟨Tryz.f180,by kernel_rfl,by kernel_rfl⟩
theorem JA:Has Tryz.prog yQ 21 [(2,none)] anM:=⟨Tryz.f181,by kernel_rfl,by kernel_rfl⟩
theorem C1:Has Tryz.prog pb 5 [(2,none)] anN:=⟨Tryz.f190,by kernel_rfl,by kernel_rfl⟩
theorem HG:Has Tryz.prog w9 22 [(2,none)] anO:=⟨Tryz.f191,by kernel_rfl,by kernel_rfl⟩
theorem rl:Has Tryz.prog iI 34 [(4,none)] anT:=⟨Tryz.f192,by kernel_rfl,by kernel_rfl⟩
theorem vE:Has Tryz.prog mQ 56 [(2,none)] anX:=⟨Tryz.f204,by kernel_rfl,by kernel_rfl⟩
end Go.Abs

/-! Codes5 -/

namespace Go.Abs
abbrev anY:AC:= .cond bP (.seq (.run [.m 11 aW, .c 12 e9 [bM,(.k (.int .i64 3))]]) (.seq (.run [.o 13 (.build [(.int .i64 0),(.int .i64 0),(.slice .full 0 []),(.str []),(.str []),(.int .i64 0),(.int .i64 0),(.str []),(.slice .full 0 []),(.bool false),(.slice .full 0 []),(.slice .full 0 []),(.slice .full 0 [])] []), .op none none (.store cR bY 13)]) .ret)) .skip
abbrev anZ:AC:= .cond ez (.seq (.run [.m 30 aW, .c 31 e9 [eK,(.k (.int .i64 4))]]) (.seq (.run [.o 32 (.build [(.int .i64 0),(.int .i64 0),(.slice .full 0 []),(.str []),(.str []),(.int .i64 0),(.int .i64 0),(.str []),(.slice .full 0 []),(.bool false),(.slice .full 0 []),(.slice .full 0 []),(.slice .full 0 [])] []), .op none none (.store cR fh 13)]) .ret)) .skip
abbrev an0:AC:= .seq (.run [.m 56 aW, .c 57 lx [mT],(.o 58 (.build [(.int .i64 0),(.int .i64 0),(.slice .full 0 []),(.str []),(.str []),(.int .i64 0),(.int .i64 0),(.str []),(.slice .full 0 []),(.bool false),(.slice .full 0 []),(.slice .full 0 []),(.slice .full 0 [])] [(1,(1,(.k (.int .i64 6)))),(5,(4,nI))])), .o 6 (.alloc [(.int .i64 0),(.int .i64 0),(.slice .full 0 []),(.str []),(.str []),(.int .i64 0),(.int .i64 0),(.str []),(.slice .full 0 []),(.bool false),(.slice .full 0 []),(.slice .full 0 []),(.slice .full 0 [])]), .op none none (.store bU mU 13)]) (.seq (.run [.m 59 aW, .m 60 bc, .c 61 ji [lk,oR], .o 62 (.av bU 11), .op none none (.store qn qm 1)]) (.seq (.run [.o 63 (.load bU true 13), .op none none (.store cR qo 13)]) .ret))
abbrev an1:AC:= .cond jX (.seq (.run [.m 51 aW, .m 52 bc, .c 53 mS [ko,kH], .op none none (.store cR kI 13)]) .ret) (.seq (.run [.o 55 (.bin .eql jG (.k (.str [119,104,105,108,101]))), .m 54 lE]) (.cond lj an0 .skip))
abbrev an2:AC:= .block 0 (.seq (.run [.o 50 (.bin .eql jG (.k (.str [105,102]))), .m 49 lh]) an1)
abbrev an3:AC:= .seq (.run [.m 64 aW, .o 65 (.av bj 1), .o 66 (.load vi false 1), .c 67 nH [ri,xb], .o 7 (.alloc [(.int .i64 0),(.int .i64 0),(.slice .full 0 []),(.str []),(.str []),(.int .i64 0),(.int .i64 0),(.str []),(.slice .full 0 []),(.bool false),(.slice .full 0 []),(.slice .full 0 []),(.slice .full 0 [])]), .op none none (.store bJ vj 13)]) (.seq (.run [.m 68 aW,(.c 69 di [vk,(.k (.str [59]))])]) (.seq (.run [.o 70 (.load bJ true 13), .op none none (.store cR xc 13)]) .ret))
abbrev an4:AC:= .seq (.seq (.run [.o 35 (.av bj 0), .o 36 (.load fw false 1), .o 37 (.bin .eql fJ (.k (.int .i64 1)))]) (.cond gd (.seq (.run [.m 38 aW, .c 39 nG [gG], .op none none (.store cR gC 13)]) .ret) .skip)) (.seq (.run [.m 40 aW, .o 41 (.dB gU), .o 42 (.av gV 1), .o 43 (.load ie false 1), .o 44 (.bin .add iQ (.k (.int .i64 1))), .o 45 (.dB gU), .o 46 (.av jV 1), .op none none (.store jW jj 1)]) (.seq (.seq (.run [.o 47 (.av bj 1), .o 48 (.load kG false 1)]) an2) an3))
abbrev an5:AC:= .seq (.seq (.run [.m 21 aW, .o 22 (.dB dh), .o 23 (.av dt 4), .o 24 (.load dz false 1), .o 25 (.bin .gtr da (.k (.int .i64 200))), .m 26 db, .g 27 26 false (.mv bc), .g 28 26 false (.bin .gtr dM (.k (.int .i64 12))), .o 29 (.pick dS (.k (.bool true)) ey)]) anZ) (.seq (.run [.m 33 aW, .c 34 dE [fc], .o 5 (.alloc [(.int .i64 0),(.str []),(.int .i64 0),(.int .i64 0)]), .op none none (.store bj fA 4)]) an4)
abbrev an6:AC:= .seq (.seq (.run [.m 8 aW, .c 9 mR [bS], .o 10 (.un .not cb)]) anY) (.seq (.run [.m 14 aW, .o 15 (.dB bN), .o 16 (.av cd 4), .o 17 (.load b7 false 1), .o 18 (.bin .add cJ (.k (.int .i64 1))), .o 19 (.dB bN), .o 20 (.av cW 4), .op none none (.store dd cG 1)]) an5)
abbrev an7:AC:= .seq (.run [.o 4 (.alloc [(.int .i64 0),(.int .i64 0),(.slice .full 0 []),(.str []),(.str []),(.int .i64 0),(.int .i64 0),(.str []),(.slice .full 0 []),(.bool false),(.slice .full 0 []),(.slice .full 0 []),(.slice .full 0 [])])]) an6
abbrev an8:AC:= .cond cb (.seq (.run [.o 4 (.mv (.k (.int .i64 1)))]) .ret) .skip
abbrev an9:AC:= .block 1 (.seq (.run [.o 22 (.av df 3), .o 23 (.load dt false 1), .m 24 bU, .o 25 (.b6 dz da 4), .o 26 (.load db true 4), .m 27 bc, .o 28 (.bin .sub dM (.k (.int .i64 1))), .c 29 pP [dS,ey], .m 7 ez]) (.seq (.run [.m 30 bJ, .m 31 bj, .o 32 (.bin .gtr eK eU)]) (.cond fh (.run [.m 33 bJ, .m 5 fc]) .skip)))
abbrev aoa:AC:= .seq (.seq (.run [.m 10 bU, .o 11 (.av df 3), .o 12 (.load bM false 1), .o 13 (.len bZ), .o 14 (.bin .lss bP bY), .m 15 bN, .g 16 15 true (.mv bj), .g 17 15 true (.mv bc), .g 18 15 true (.bin .lss b7 cJ), .o 19 (.pick cd cG (.k (.bool false)))]) (.cond cW .skip (.exit 0))) (.seq an9 (.run [.m 20 bU, .o 21 (.bin .add dd (.k (.int .i64 1))), .m 6 dh]))
abbrev aob:AC:= .seq (.seq (.run [.o 6 (.mv (.k (.int .i64 0)))]) (.block 0 (.loop aoa))) (.seq (.run [.m 34 bj, .o 35 (.bin .add fA (.k (.int .i64 1))), .m 4 fw]) .ret)
abbrev aoc:AC:= .seq (.seq (.run [.m 8 bc, .o 9 (.bin .eql bS (.k (.int .i64 0)))]) an8) (.seq (.run [.o 5 (.mv (.k (.int .i64 0)))]) aob)
abbrev aod:AC:= .seq (.run [.o 2 (.box aW), .o 4 (.mv (.k (.int .i64 0)))]) aoc
abbrev aoe:AC:= .par [.o 4 (.av bc 0), .o 5 (.load cR false 1), .c 6 vh [bj], .o 7 (.av bc 3), .o 8 (.load bJ false 1), .o 9 (.len bS), .o 10 (.bin .neq bU cb), .m 11 bP, .g 12 11 false (.av bc 0), .g 13 11 false (.load bZ false 1), .g 14 11 false (.bin .neq bY (.k (.int .i64 1))), .g 15 11 false (.mv bN), .g 16 15 true (.av bc 1), .g 17 15 true (.load b7 false 1), .g 18 15 true (.bin .neq cJ (.k (.int .i64 0))), .g 19 11 false (.pick cd cG (.k (.bool false))), .o 20 (.pick bM (.k (.bool true)) cW), .m 21 dd, .g 22 21 false (.av bc 1), .g 23 21 false (.load dt false 1), .g 24 21 false (.bin .lss dz (.k (.int .i64 0))), .o 25 (.pick dh (.k (.bool true)) da), .m 26 db, .g 27 26 false (.av bc 0), .g 28 26 false (.load dM false 1), .g 29 26 false (.bin .eql ey (.k (.int .i64 2))), .g 30 26 false (.av bc 2), .g 31 26 false (.load eK false 1), .g 32 26 false (.bin .neq eU (.k (.str []))), .g 33 26 false (.Cc true ez fh), .o 34 (.pick dS (.k (.bool true)) fc), .m 35 fA, .g 36 35 false (.av bc 2), .g 37 35 false (.load fJ false 1), .g 38 35 false (.bin .neq gd (.k (.str []))), .g 39 35 false (.mv gG), .g 40 39 true (.av bc 2), .g 41 39 true (.load gU false 1), .d 42 39 true kQ [gV], .g 43 39 true (.un .not ie), .g 44 35 false (.pick gC iQ (.k (.bool false))), .o 45 (.pick fw (.k (.bool true)) jj)] [(0,0),(1,0),(2,0),(3,0),(4,1),(5,0),(6,0),(7,0),(8,0),(9,0),(10,0),(11,0),(12,0),(13,0),(14,0),(15,0),(16,0),(17,0),(18,0),(19,0),(20,0),(21,0),(22,0),(23,0),(24,0),(25,0),(26,0),(27,0),(28,0),(29,0),(30,0),(31,0),(32,0),(33,0),(34,0),(35,0),(36,0),(37,0),(38,0),(39,0),(40,0),(41,0)]
abbrev aof:AC:= .cond jV (.seq (.run [.o 2 (.mv (.k (.bool false)))]) .ret) .skip
abbrev aog:AC:= .cond mU (.seq (.run [.o 2 (.mv (.k (.bool false)))]) .ret) .skip
abbrev aoh:AC:= .seq (.block 1 (.seq (.run [.m 51 jX, .m 3 ko]) (.seq (.run [.o 52 (.av bc 3), .o 53 (.load kH false 1), .m 54 bQ, .o 55 (.b6 kI lj 4), .o 56 (.load lE true 4), .c 57 pQ [mT], .o 58 (.un .not nI)]) aog))) (.run [.o 59 (.bin .add jX (.k (.int .i64 1))), .m 49 lk])
abbrev aoi:AC:= .block 0 (.loop (.seq (.run [.o 50 (.bin .lss jX jG)]) (.seq (.cond lh .skip (.exit 0)) aoh)))
abbrev aoj:AC:= .seq (.seq (.run [.o 46 (.av bc 3), .o 47 (.load jW false 1), .o 48 (.len kG), .o 49 (.mv (.k (.int .i64 0)))]) aoi) (.seq (.run [.o 2 (.mv (.k (.bool true)))]) .ret)
abbrev aok:AC:= .seq (.run [.o 1 (.box aW), .o 2 (.mv (.k (.bool false)))]) (.seq (.seq aoe aof) aoj)
abbrev aol:AC:= .seq (.run [(.o 1 (.cQ [(.str [])] 1 13 [(0,(.k (.str [103,108,111,98,97,108]))),(1,(.k (.str [112,114,111,99]))),(2,(.k (.str [118,97,114]))),(3,(.k (.str [114,101,102]))),(4,(.k (.str [105,102]))),(5,(.k (.str [101,108,115,101]))),(6,(.k (.str [119,104,105,108,101]))),(7,(.k (.str [98,114,101,97,107]))),(8,(.k (.str [99,111,110,116,105,110,117,101]))),(9,(.k (.str [114,101,116,117,114,110]))),(10,(.k (.str [103,111,116,111]))),(11,(.k (.str [114,101,97,100]))),(12,(.k (.str [112,114,105,110,116])))])), .m 0 bc]) .ret
abbrev aom:AC:= .seq (.run [.o 0 (.mv (.k (.slice .full 0 [])))]) aol
abbrev aon:AC:= .cond cJ (.seq (.run [.o 2 (.mv (.k (.int .i64 2)))]) .ret) .skip
abbrev aoo:AC:= .cond bP (.seq (.run [.o 2 (.mv (.k (.int .i64 1)))]) .ret) (.seq (.run [.m 18 aW, .o 19 (.bin .geq cG (.k (.int .i64 5))), .m 20 cW, .g 21 20 true (.mv aW), .g 22 20 true (.bin .leq dh (.k (.int .i64 17))), .o 23 (.pick dd dt (.k (.bool false))), .m 17 dz]) aon)
abbrev aop:AC:= .cond bQ (.seq (.run [.o 2 (.mv (.k (.int .i64 0)))]) .ret) (.seq (.run [.m 11 aW, .o 12 (.bin .eql bM (.k (.int .i64 3))), .m 13 bZ, .g 14 13 false (.mv aW), .g 15 13 false (.bin .eql bN (.k (.int .i64 4))), .o 16 (.pick bY (.k (.bool true)) cd), .m 10 b7]) aoo)
abbrev aoq:AC:= .block 0 (.seq (.run [.m 4 aW, .o 5 (.bin .eql cR (.k (.int .i64 1))), .m 6 bj, .g 7 6 false (.mv aW), .g 8 6 false (.bin .eql bJ (.k (.int .i64 2))), .o 9 (.pick bU (.k (.bool true)) bS), .m 3 cb]) aop)
abbrev aor:AC:= .seq (.run [(.o 2 (.mv (.k (.int .i64 (-1)))))]) .ret
abbrev aos:AC:= .seq (.run [.o 2 (.mv (.k (.int .i64 0)))]) (.seq aoq aor)
abbrev aot:AC:= .par [.m 7 bc, .o 8 (.bin .lss bJ (.k (.int .i64 1))), .m 9 bS, .g 10 9 false (.av df 3), .g 11 9 false (.load bP false 1), .g 12 9 false (.len bM), .g 13 9 false (.av df 0), .g 14 9 false (.load bY false 1), .d 15 9 false xa [bN], .g 16 9 false (.bin .neq bZ cd), .o 17 (.pick cb (.k (.bool true)) b7)] [(0,0),(1,0),(2,0),(6,0),(7,0),(8,0),(3,0),(4,1),(5,0),(9,0),(10,0)]
abbrev aou:AC:= .cond cJ (.seq (.run [.o 4 (.mv (.k (.bool false)))]) .ret) .skip
abbrev aov:AC:= .cond eK (.seq (.run [.o 32 (.av df 1), .o 33 (.load fh false 1), .o 34 (.bin .eql fc (.k (.int .i64 0))), .m 35 fA, .g 36 35 true (.av df 2), .g 37 35 true (.load fJ false 1), .d 38 35 true nE [gd], .o 39 (.pick fw gG (.k (.bool false))), .m 4 gC]) .ret) .skip
abbrev aow:AC:= .cond dd (.seq (.run [.o 22 (.av df 1), .o 23 (.load dt false 1), .o 24 (.bin .geq dz (.k (.int .i64 0))), .m 25 da, .g 26 25 true (.av df 2), .g 27 25 true (.load dS false 1), .g 28 25 true (.bin .eql dM (.k (.str []))), .o 29 (.pick db ey (.k (.bool false))), .m 4 ez]) .ret) (.seq (.run [.o 31 (.bin .eql cW (.k (.int .i64 2))), .m 30 eU]) aov)
abbrev aox:AC:= .block 0 (.seq (.run [.o 21 (.bin .eql cW (.k (.int .i64 1))), .m 20 dh]) aow)
abbrev aoy:AC:= .cond kG (.seq (.run [.o 4 (.mv (.k (.bool false)))]) .ret) .skip
abbrev aoz:AC:= .cond lk (.seq (.run [.o 4 (.mv (.k (.bool false)))]) .ret) .skip
abbrev aoA:AC:= .seq (.run [.o 53 (.b6 jX ko 4), .o 54 (.load kI true 4), .o 6 (.alloc [(.int .i64 0),(.int .i64 0),(.str []),(.slice .full 0 [])]), .op none none (.store bU lj 4)]) (.seq (.run [.o 55 (.load bU true 4), .m 56 bc, .o 57 (.bin .sub mT (.k (.int .i64 1))), .c 58 pR [lE,nI], .o 59 (.un .not mU)]) aoz)
abbrev aoB:AC:= .seq (.cond kH .skip (.exit 1)) (.seq (.block 2 aoA) (.run [.o 60 (.bin .add ko (.k (.int .i64 1))), .m 51 oR]))
abbrev aoC:AC:= .seq (.run [.o 48 (.av df 3), .o 49 (.load jG false 1), .o 50 (.len jX), .o 51 (.mv (.k (.int .i64 0)))]) (.block 1 (.loop (.seq (.run [.o 52 (.bin .lss ko lh)]) aoB)))
abbrev aoD:AC:= .seq aoC (.seq (.run [.o 4 (.mv (.k (.bool true)))]) .ret)
abbrev aoE:AC:= .seq (.seq (.run [.o 40 (.av df 1), .o 41 (.load gU false 1), .o 42 (.bin .neq gV (.k (.int .i64 0))), .m 43 ie, .g 44 43 false (.av df 2), .g 45 43 false (.load jj false 1), .g 46 43 false (.bin .neq jV (.k (.str []))), .o 47 (.pick iQ (.k (.bool true)) jW)]) aoy) aoD
abbrev aoF:AC:= .seq (.run [.o 2 (.box aW), .o 4 (.mv (.k (.bool false)))]) (.seq (.seq aot aou) (.seq (.seq (.run [.o 18 (.av df 0), .o 19 (.load cG false 1)]) aox) aoE))
abbrev aoG:AC:= .cond bS (.seq (.run [.o 2 (.mv (.k (.bool true)))]) .ret) .skip
abbrev aoH:AC:= .cond bM (.seq (.run [.o 2 (.mv (.k (.bool false)))]) .ret) .skip
abbrev aoI:AC:= .seq (.run [.o 21 (.bin .eql bY (.k (.str [114,101,97,100]))), .m 14 dh]) (.cond bN .skip (.run [.o 22 (.bin .eql bY (.k (.str [112,114,105,110,116]))), .m 14 dt]))
abbrev aoJ:AC:= .cond bN .skip (.seq (.run [.o 20 (.bin .eql bY (.k (.str [103,111,116,111]))), .m 14 dd]) (.cond bN .skip aoI))
abbrev aoK:AC:= .cond bN .skip (.seq (.run [.o 19 (.bin .eql bY (.k (.str [114,101,116,117,114,110]))), .m 14 cW]) aoJ)
abbrev aoL:AC:= .cond bN .skip (.seq (.run [.o 18 (.bin .eql bY (.k (.str [99,111,110,116,105,110,117,101]))), .m 14 cG]) aoK)
abbrev aoM:AC:= .cond bN .skip (.seq (.run [.o 17 (.bin .eql bY (.k (.str [98,114,101,97,107]))), .m 14 cJ]) aoL)
abbrev aoN:AC:= .cond bN .skip (.seq (.run [.o 16 (.bin .eql bY (.k (.str [119,104,105,108,101]))), .m 14 b7]) aoM)
abbrev aoO:AC:= .cond bN (.seq (.run [.o 2 (.mv (.k (.bool true)))]) .ret) .skip
abbrev aoP:AC:= .seq (.seq (.run [.o 15 (.bin .eql bY (.k (.str [105,102]))), .m 14 cd]) aoN) aoO
abbrev aoQ:AC:= .seq (.seq (.run [.o 12 (.av bQ 1), .o 13 (.load bZ false 1)]) (.block 0 aoP)) (.seq (.run [.o 2 (.mv (.k (.bool false)))]) .ret)
abbrev aoR:AC:= .seq (.seq (.run [.o 9 (.av bQ 0), .o 10 (.load cb false 1), .o 11 (.bin .neq bP (.k (.int .i64 3)))]) aoH) aoQ
abbrev aoS:AC:= .seq (.seq (.run [.o 6 (.av bQ 0), .o 7 (.load bU false 1), .o 8 (.bin .eql bJ (.k (.int .i64 1)))]) aoG) aoR
abbrev aoT:AC:= .seq (.run [.o 2 (.mv (.k (.bool false)))]) (.seq (.run [.m 4 aW, .c 5 dE [cR], .o 3 (.alloc [(.int .i64 0),(.str []),(.int .i64 0),(.int .i64 0)]), .op none none (.store bQ bj 4)]) aoS)
abbrev aoU:AC:= .cond bS (.seq (.run [.m 9 aW, .m 10 bQ,(.c 11 ly [cb,(.k (.str [])),bP]), .op none none (.store df bM 13)]) .ret) .skip
abbrev aoV:AC:= .par [.m 14 aW, .c 15 cP [bN], .m 16 cd, .g 17 16 true (.mv aW), .d 18 16 true dE [cJ], .g 19 16 true (.sN cG 0 false 1), .g 20 16 true (.bin .eql cW (.k (.int .i64 1))), .o 21 (.pick b7 dd (.k (.bool false))), .m 22 dh, .g 23 22 true (.mv aW), .g 24 22 true (.dB dz), .g 25 22 true (.av da 0), .g 26 22 true (.load db false 1), .g 27 22 true (.mv aW), .g 28 22 true (.dB dM), .g 29 22 true (.av ey 1), .g 30 22 true (.load ez false 1), .g 31 22 true (.bin .add eK (.k (.int .i64 1))), .g 32 22 true (.b6 dS eU 4), .g 33 22 true (.av fh 0), .g 34 22 true (.load fc false 1), .g 35 22 true (.bin .eql fA (.k (.int .i64 4))), .o 36 (.pick dt fw (.k (.bool false))), .m 37 fJ, .g 38 37 true (.mv aW), .g 39 37 true (.dB gG), .g 40 37 true (.av gC 0), .g 41 37 true (.load gU false 1), .g 42 37 true (.mv aW), .g 43 37 true (.dB ie), .g 44 37 true (.av iQ 1), .g 45 37 true (.load jj false 1), .g 46 37 true (.bin .add jV (.k (.int .i64 1))), .g 47 37 true (.b6 gV jW 4), .g 48 37 true (.av kG 1), .g 49 37 true (.load jG false 1), .g 50 37 true (.bin .eql jX (.k (.str [40]))), .o 51 (.pick gd lh (.k (.bool false)))] [(0,0),(1,0),(2,0),(3,0),(4,0),(5,0),(6,0),(7,0),(8,0),(9,0),(10,0),(11,0),(12,0),(13,0),(14,0),(15,0),(16,0),(17,0),(18,0),(19,0),(20,0),(21,0),(22,0),(23,0),(24,0),(25,0),(26,0),(27,0),(28,0),(29,0),(30,0),(31,0),(32,0),(33,0),(34,0),(35,0),(36,0),(37,0)]
abbrev aoW:AC:= .seq aoV (.cond ko (.seq (.run [.m 52 aW, .m 53 bQ, .m 54 aW, .c 55 eJ [lj,(.k (.bool true))], .c 56 ly [kH,kI,lE], .op none none (.store df mT 13)]) .ret) .skip)
abbrev aoX:AC:= .seq (.run [.m 57 bQ, .m 58 aW, .c 59 gy [mU],(.o 60 (.build [(.int .i64 0),(.int .i64 0),(.slice .full 0 []),(.str []),(.str []),(.int .i64 0),(.int .i64 0),(.str []),(.slice .full 0 []),(.bool false),(.slice .full 0 []),(.slice .full 0 []),(.slice .full 0 [])] [(1,(1,(.k (.int .i64 1)))),(3,(1,nI)),(5,(4,lk))])), .o 4 (.alloc [(.int .i64 0),(.int .i64 0),(.slice .full 0 []),(.str []),(.str []),(.int .i64 0),(.int .i64 0),(.str []),(.slice .full 0 []),(.bool false),(.slice .full 0 []),(.slice .full 0 []),(.slice .full 0 [])]), .op none none (.store cR oR 13)]) (.seq (.run [.m 61 aW,(.c 62 di [qm,(.k (.str [59]))])]) (.seq (.run [.o 63 (.load cR true 13), .op none none (.store df qo 13)]) .ret))
abbrev aoY:AC:= .seq (.seq (.run [.m 7 aW,(.c 8 fK [bJ,(.k (.str [40]))])]) aoU) (.seq (.run [.m 12 aW,(.c 13 di [bZ,(.k (.str [61]))])]) (.seq aoW aoX))
abbrev aoZ:AC:= .seq (.run [.o 2 (.alloc [(.int .i64 0),(.int .i64 0),(.slice .full 0 []),(.str []),(.str []),(.int .i64 0),(.int .i64 0),(.str []),(.slice .full 0 []),(.bool false),(.slice .full 0 []),(.slice .full 0 []),(.slice .full 0 [])])]) (.seq (.run [.m 5 aW, .c 6 eJ [bj,(.k (.bool true))], .m 3 bU]) aoY)
abbrev ao0:AC:= .seq (.seq (.run [.m 13 aW,(.c 14 dD [bY,(.k (.str [101,108,115,101]))])]) (.cond bN (.run [.m 15 aW, .m 16 bc, .c 17 ji [cd,b7], .o 18 (.av bj 12), .op none none (.store cG cJ 1)]) .skip)) (.seq (.run [.o 19 (.load bj true 13), .op none none (.store cR cW 13)]) .ret)
abbrev ao1:AC:= .seq (.run [.m 6 aW, .c 7 lx [bU],(.o 8 (.build [(.int .i64 0),(.int .i64 0),(.slice .full 0 []),(.str []),(.str []),(.int .i64 0),(.int .i64 0),(.str []),(.slice .full 0 []),(.bool false),(.slice .full 0 []),(.slice .full 0 []),(.slice .full 0 [])] [(1,(1,(.k (.int .i64 5)))),(5,(4,bJ))])), .o 5 (.alloc [(.int .i64 0),(.int .i64 0),(.slice .full 0 []),(.str []),(.str []),(.int .i64 0),(.int .i64 0),(.str []),(.slice .full 0 []),(.bool false),(.slice .full 0 []),(.slice .full 0 []),(.slice .full 0 [])]), .op none none (.store bj bS 13)]) (.seq (.run [.m 9 aW, .m 10 bc, .c 11 ji [cb,bP], .o 12 (.av bj 11), .op none none (.store bZ bM 1)]) ao0)
abbrev ao2:AC:= .seq (.run [.o 4 (.alloc [(.int .i64 0),(.int .i64 0),(.slice .full 0 []),(.str []),(.str []),(.int .i64 0),(.int .i64 0),(.str []),(.slice .full 0 []),(.bool false),(.slice .full 0 []),(.slice .full 0 []),(.slice .full 0 [])])]) ao1
abbrev ao3:AC:= .seq (.run [.m 6 aW, .c 7 gy [bU], .o 3 (.alloc [(.int .i64 0),(.int .i64 0),(.str []),(.slice .full 0 [])]), .op none none (.store bQ bJ 4)]) (.seq (.run [.m 8 aW,(.c 9 di [bS,(.k (.str [41]))])]) (.seq (.run [.o 10 (.load bQ true 4), .op none none (.store df bP 4)]) .ret))
abbrev ao4:AC:= .seq (.run [.o 2 (.alloc [(.int .i64 0),(.int .i64 0),(.str []),(.slice .full 0 [])])]) (.seq (.run [.m 4 aW,(.c 5 di [cR,(.k (.str [40]))])]) ao3)
abbrev ao5:AC:= .seq (.run [.m 7 aW,(.c 8 di [bJ,(.k (.str [123]))])]) (.seq (.run [.m 10 aW, .m 11 bc, .o 12 (.bin .add bM (.k (.int .i64 1))), .c 13 gM [bP,bZ,(.k (.bool false))], .m 9 bY, .o 14 (.ext cb 0), .o 15 (.ext cb 1), .m 5 bN, .m 6 cd]) (.seq (.run [.m 16 bj, .m 4 b7]) .ret))
abbrev ao6:AC:= .seq (.run [.o 4 (.mv (.k (.slice .full 0 [])))]) ao5
abbrev ao7:AC:= .seq (.run [.m 16 aW,(.c 17 fK [b7,(.k (.str [59]))]), .o 18 (.un .not cJ)]) (.cond cG (.run [.m 19 aW, .c 20 gy [cW], .o 21 (.av bj 9), .op none none (.store dh (.k (.bool true)) 1), .o 22 (.av bj 5), .op none none (.store dt dd 4)]) .skip)
abbrev ao8:AC:= .seq (.run [.o 36 (.bin .eql bU (.k (.str [112,114,105,110,116]))), .m 35 fJ]) (.cond fw (.run [.m 37 aW, .c 38 gy [gd], .o 39 (.av bj 1), .op none none (.store gC (.k (.int .i64 3)) 1), .o 40 (.av bj 5), .op none none (.store gU gG 4)]) .skip)
abbrev ao9:AC:= .seq (.run [.o 30 (.bin .eql bU (.k (.str [114,101,97,100]))), .m 29 eK]) (.cond ez (.run [.m 31 aW, .c 32 eJ [eU,(.k (.bool true))], .o 33 (.av bj 1), .op none none (.store fc (.k (.int .i64 2)) 1), .o 34 (.av bj 3), .op none none (.store fA fh 1)]) ao8)
abbrev apa:AC:= .seq (.run [.o 24 (.bin .eql bU (.k (.str [103,111,116,111]))), .m 23 da]) (.cond dz (.run [.m 25 aW, .c 26 eJ [db,(.k (.bool true))], .o 27 (.av bj 1), .op none none (.store dM (.k (.int .i64 10)) 1), .o 28 (.av bj 3), .op none none (.store ey dS 1)]) ao9)
abbrev apb:AC:= .cond bY (.seq (.run [.o 15 (.av bj 1), .op none none (.store cd (.k (.int .i64 9)) 1)]) ao7) apa
abbrev apc:AC:= .cond bP (.run [.o 12 (.av bj 1), .op none none (.store bZ (.k (.int .i64 8)) 1)]) (.seq (.run [.o 14 (.bin .eql bU (.k (.str [114,101,116,117,114,110]))), .m 13 bN]) apb)
abbrev apd:AC:= .cond bJ (.run [.o 9 (.av bj 1), .op none none (.store cb (.k (.int .i64 7)) 1)]) (.seq (.run [.o 11 (.bin .eql bU (.k (.str [99,111,110,116,105,110,117,101]))), .m 10 bM]) apc)
abbrev ape:AC:= .block 0 (.seq (.run [.o 8 (.bin .eql bU (.k (.str [98,114,101,97,107]))), .m 7 bS]) apd)
abbrev apf:AC:= .seq (.run [.o 4 (.alloc [(.int .i64 0),(.int .i64 0),(.slice .full 0 []),(.str []),(.str []),(.int .i64 0),(.int .i64 0),(.str []),(.slice .full 0 []),(.bool false),(.slice .full 0 []),(.slice .full 0 []),(.slice .full 0 [])])]) (.seq (.run [.o 5 (.alloc [(.int .i64 0),(.int .i64 0),(.slice .full 0 []),(.str []),(.str []),(.int .i64 0),(.int .i64 0),(.str []),(.slice .full 0 []),(.bool false),(.slice .full 0 []),(.slice .full 0 []),(.slice .full 0 [])])]) (.seq (.seq (.run [.m 6 bc]) ape) (.seq (.run [.o 41 (.load bj true 13), .op none none (.store cR gV 13)]) .ret)))
abbrev apg:AC:= .cond cJ (.seq (.run [.o 2 (.mv (.k (.int .i64 2)))]) .ret) .skip
abbrev aph:AC:= .cond bP (.seq (.run [.o 2 (.mv (.k (.int .i64 1)))]) .ret) (.seq (.run [.m 18 aW, .o 19 (.bin .geq cG (.k (.int .i64 5))), .m 20 cW, .g 21 20 true (.mv aW), .g 22 20 true (.bin .leq dh (.k (.int .i64 17))), .o 23 (.pick dd dt (.k (.bool false))), .m 17 dz]) apg)
abbrev api:AC:= .cond bQ (.seq (.run [.o 2 (.mv (.k (.int .i64 0)))]) .ret) (.seq (.run [.m 11 aW, .o 12 (.bin .eql bM (.k (.int .i64 3))), .m 13 bZ, .g 14 13 false (.mv aW), .g 15 13 false (.bin .eql bN (.k (.int .i64 4))), .o 16 (.pick bY (.k (.bool true)) cd), .m 10 b7]) aph)
abbrev apj:AC:= .block 0 (.seq (.run [.m 4 aW, .o 5 (.bin .eql cR (.k (.int .i64 1))), .m 6 bj, .g 7 6 false (.mv aW), .g 8 6 false (.bin .eql bJ (.k (.int .i64 2))), .o 9 (.pick bU (.k (.bool true)) bS), .m 3 cb]) api)
abbrev apk:AC:= .seq (.run [(.o 2 (.mv (.k (.int .i64 (-1)))))]) .ret
abbrev apl:AC:= .seq (.run [.o 2 (.mv (.k (.int .i64 0)))]) (.seq apj apk)
abbrev apm:AC:= .par [.o 24 (.av bJ 10), .o 25 (.load da false 1), .m 26 aW, .c 27 eJ [dS,(.k (.bool true))],(.o 28 (.build [(.bool false),(.str []),(.int .i64 0),(.int .i64 0),(.str []),(.slice .full 0 [])] [(0,(1,(.k (.bool true)))),(1,(1,dM))])), .o 29 (.cQ [(.bool false),(.str []),(.int .i64 0),(.int .i64 0),(.str []),(.slice .full 0 [])] 6 1 [(0,ey)]), .o 30 (.app 6 80 db ez), .o 31 (.av bJ 10), .op none none (.store eU eK 1)] [(2,0),(3,0),(0,0),(1,1),(4,0),(5,0),(6,0),(7,0),(8,0)]
abbrev apn:AC:= .par [.o 32 (.av bJ 10), .o 33 (.load fh false 1), .m 34 aW, .c 35 gy [fA], .o 36 (.build [(.bool false),(.str []),(.int .i64 0),(.int .i64 0),(.str []),(.slice .full 0 [])] [(2,(4,fw))]), .o 37 (.cQ [(.bool false),(.str []),(.int .i64 0),(.int .i64 0),(.str []),(.slice .full 0 [])] 6 1 [(0,fJ)]), .o 38 (.app 6 80 fc gd), .o 39 (.av bJ 10), .op none none (.store gC gG 1)] [(2,0),(3,0),(0,0),(1,1),(4,0),(5,0),(6,0),(7,0),(8,0)]
abbrev apo:AC:= .seq (.seq (.run [.m 22 aW,(.c 23 dD [dt,(.k (.str [114,101,102]))])]) (.cond dz apm apn)) (.seq (.run [.m 40 aW,(.c 41 dD [gU,(.k (.str [44]))]), .o 42 (.un .not gV)]) (.cond ie (.exit 0) .skip))
abbrev apq:AC:= .block 0 (.loop (.seq (.seq (.run [.m 20 aW, .c 21 cP [dd]]) (.cond dh .skip (.exit 0))) (.block 1 apo)))
abbrev apr:AC:= .seq (.run [.m 43 aW,(.c 44 di [iQ,(.k (.str [41]))])]) (.seq (.run [.m 45 aW,(.c 46 di [jV,(.k (.str [59]))])]) (.seq (.run [.o 47 (.load bJ true 13), .op none none (.store bU kG 13)]) .ret))
abbrev aps:AC:= .seq (.seq (.run [.m 13 aW, .c 14 cP [bY], .m 15 bN, .g 16 15 true (.mv aW),(.d 17 15 true fK [b7,(.k (.str [41]))]), .g 18 15 true (.un .not cJ), .o 19 (.pick cd cG (.k (.bool false)))]) (.cond cW apq .skip)) apr
abbrev apt:AC:= .seq (.run [.m 8 bc, .m 9 df,(.o 10 (.build [(.int .i64 0),(.int .i64 0),(.slice .full 0 []),(.str []),(.str []),(.int .i64 0),(.int .i64 0),(.str []),(.slice .full 0 []),(.bool false),(.slice .full 0 []),(.slice .full 0 []),(.slice .full 0 [])] [(1,(1,(.k (.int .i64 4)))),(3,(1,bS)),(4,(1,cb))])), .o 7 (.alloc [(.int .i64 0),(.int .i64 0),(.slice .full 0 []),(.str []),(.str []),(.int .i64 0),(.int .i64 0),(.str []),(.slice .full 0 []),(.bool false),(.slice .full 0 []),(.slice .full 0 []),(.slice .full 0 [])]), .op none none (.store bJ bP 13)]) (.seq (.run [.m 11 aW,(.c 12 di [bM,(.k (.str [40]))])]) aps)
abbrev apu:AC:= .seq (.run [.o 6 (.alloc [(.int .i64 0),(.int .i64 0),(.slice .full 0 []),(.str []),(.str []),(.int .i64 0),(.int .i64 0),(.str []),(.slice .full 0 []),(.bool false),(.slice .full 0 []),(.slice .full 0 []),(.slice .full 0 [])])]) apt
abbrev apv:AC:= .cond b7 (.run [.m 17 aW, .m 18 bQ,(.o 19 (.build [(.int .i64 0),(.int .i64 0)] [(0,(1,(.k (.int .i64 4)))),(1,(1,cG))])), .o 20 (.dB cJ), .o 21 (.av dd 2), .op none none (.store dh cW 2)]) .skip
abbrev apw:AC:= .seq (.seq (.run [.m 10 aW, .c 11 cP [bP], .m 12 bM, .g 13 12 true (.load cR true 4), .d 14 12 true lG [bY], .g 15 12 true (.bin .gtr bN (.k (.int .i64 20))), .o 16 (.pick bZ cd (.k (.bool false)))]) apv) (.seq (.run [.o 22 (.load cR true 4), .op none none (.store df dt 4)]) .ret)
abbrev apx:AC:= .seq (.run [.o 2 (.alloc [(.int .i64 0),(.int .i64 0),(.str []),(.slice .full 0 [])])]) (.seq (.run [.m 5 aW, .c 6 dE [bj], .o 7 (.sN bU 3 false 1), .m 3 bJ]) (.seq (.run [.m 8 aW, .c 9 iY [bS,(.k (.int .i64 1))], .o 4 (.alloc [(.int .i64 0),(.int .i64 0),(.str []),(.slice .full 0 [])]), .op none none (.store cR cb 4)]) apw))
abbrev apy:AC:= .seq (.run [.m 27 aW, .o 28 (.dB dM), .o 29 (.av ey 1), .o 30 (.load ez false 1), .o 31 (.bin .add eK (.k (.int .i64 1))), .o 32 (.dB dM), .o 33 (.av fh 1), .op none none (.store fc eU 1)]) (.seq (.run [.m 34 aW, .m 35 bJ, .o 36 (.bin .add fw (.k (.int .i64 1))), .c 37 iY [fA,fJ], .o 8 (.alloc [(.int .i64 0),(.int .i64 0),(.str []),(.slice .full 0 [])]), .op none none (.store bS gd 4)]) (.run [.m 38 bU, .o 39 (.load bj true 4), .o 40 (.load bS true 4), .o 41 (.cQ [(.int .i64 0),(.int .i64 0),(.str []),(.slice .full 0 [])] 4 2 [(0,gC),(1,gU)]), .o 42 (.build [(.int .i64 0),(.int .i64 0),(.str []),(.slice .full 0 [])] [(0,(1,gG)),(3,(1,gV))]), .op none none (.store bj ie 4)]))
abbrev apz:AC:= .seq (.seq (.run [.m 19 bJ, .m 20 bc, .o 21 (.bin .lss cW dd), .m 22 dh, .g 23 22 false (.mv bU), .g 24 22 false (.bin .eql dz (.k (.int .i64 0))), .o 25 (.pick dt (.k (.bool true)) da)]) (.cond db (.seq (.run [.o 26 (.load bj true 4), .op none none (.store cR dS 4)]) .ret) .skip)) apy
abbrev apA:AC:= .loop (.seq (.seq (.run [.m 11 aW, .c 12 cP [bM]]) (.cond bZ .skip (.exit 0))) (.block 1 (.seq (.run [.m 14 aW, .c 15 dE [bN], .c 16 ux [cd], .m 13 b7, .o 17 (.ext bY 0), .o 18 (.ext bY 1), .m 6 cJ, .m 7 cG]) apz)))
abbrev apB:AC:= .seq (.run [.o 4 (.alloc [(.int .i64 0),(.int .i64 0),(.str []),(.slice .full 0 [])])]) (.seq (.run [.m 9 aW, .c 10 jU [cb], .o 5 (.alloc [(.int .i64 0),(.int .i64 0),(.str []),(.slice .full 0 [])]), .op none none (.store bj bP 4)]) (.seq (.block 0 apA) (.seq (.run [.o 43 (.load bj true 4), .op none none (.store cR iQ 4)]) .ret)))
abbrev apC:AC:= .seq (.block 1 (.seq (.run [.o 11 (.b6 bJ cb 4), .o 12 (.load bM true 4), .o 5 (.alloc [(.int .i64 0),(.int .i64 0),(.str []),(.slice .full 0 [])]), .op none none (.store bj bZ 4)]) (.run [.m 13 bQ, .o 14 (.load bj true 4), .c 15 lG [bN], .o 16 (.mm true bY cd), .m 3 b7]))) (.run [.o 17 (.bin .add cb (.k (.int .i64 1))), .m 9 cJ])
abbrev apD:AC:= .block 0 (.loop (.seq (.run [.o 10 (.bin .lss cb bS)]) (.seq (.cond bP .skip (.exit 0)) apC)))
abbrev apE:AC:= .seq (.seq (.run [.o 6 (.av bc 3), .o 7 (.load bU false 1), .o 8 (.len bJ), .o 9 (.mv (.k (.int .i64 0)))]) apD) (.seq (.run [.m 18 bQ, .o 19 (.bin .add cG (.k (.int .i64 1))), .m 2 cW]) .ret)
abbrev apG:AC:= .seq (.run [.o 1 (.box aW), .o 2 (.mv (.k (.int .i64 0)))]) (.seq (.run [.o 3 (.mv (.k (.int .i64 0)))]) apE)
abbrev apH:AC:= .seq (.run [.m 7 aW, .c 8 cP [bJ], .o 9 (.un .not bS)]) (.cond cb (.seq (.run [.o 10 (.build [(.int .i64 0),(.int .i64 0),(.str []),(.slice .full 0 [])] []), .op none none (.store df bP 4)]) .ret) .skip)
abbrev apI:AC:= .seq (.run [.o 22 (.av bQ 2), .o 23 (.load dt false 1),(.o 24 (.build [(.int .i64 0),(.int .i64 0),(.str []),(.slice .full 0 [])] [(0,(1,(.k (.int .i64 1)))),(1,(1,dz))])), .op none none (.store df da 4)]) .ret
abbrev apJ:AC:= .seq (.run [.o 36 (.av bQ 1), .o 37 (.load fJ false 1),(.o 38 (.build [(.int .i64 0),(.int .i64 0),(.str []),(.slice .full 0 [])] [(0,(1,(.k (.int .i64 2)))),(2,(1,gd))])), .op none none (.store df gG 4)]) .ret
abbrev apK:AC:= .seq (.run [.m 42 aW, .c 43 iY [ie,(.k (.int .i64 1))], .o 4 (.alloc [(.int .i64 0),(.int .i64 0),(.str []),(.slice .full 0 [])]), .op none none (.store cR iQ 4)]) (.seq (.run [.m 44 aW,(.c 45 di [jj,(.k (.str [41]))])]) (.seq (.run [.o 46 (.load cR true 4), .op none none (.store df jW 4)]) .ret))
abbrev apL:AC:= .seq (.run [.m 50 aW, .c 51 jU [lh], .o 52 (.cQ [(.int .i64 0),(.int .i64 0),(.str []),(.slice .full 0 [])] 4 1 [(0,ko)]),(.o 53 (.build [(.int .i64 0),(.int .i64 0),(.str []),(.slice .full 0 [])] [(0,(1,(.k (.int .i64 3)))),(3,(1,kH))])), .op none none (.store df kI 4)]) .ret
abbrev apN:AC:= .seq (.run [.m 57 aW, .c 58 jU [nI], .o 59 (.cQ [(.int .i64 0),(.int .i64 0),(.str []),(.slice .full 0 [])] 4 1 [(0,mU)]),(.o 60 (.build [(.int .i64 0),(.int .i64 0),(.str []),(.slice .full 0 [])] [(0,(1,(.k (.int .i64 4)))),(3,(1,lk))])), .op none none (.store df oR 4)]) .ret
abbrev apO:AC:= .cond kG apL (.seq (.run [.m 55 aW,(.c 56 dD [lE,(.k (.str [33]))]), .m 54 mT]) (.cond lj apN .skip))
abbrev apP:AC:= .cond gC apK (.seq (.run [.m 48 aW,(.c 49 dD [jG,(.k (.str [45]))]), .m 47 jX]) apO)
abbrev apQ:AC:= .cond db (.seq (.run [.m 29 aW, .o 30 (.dB ez), .o 31 (.av eK 1), .o 32 (.load eU false 1), .o 33 (.bin .add fh (.k (.int .i64 1))), .o 34 (.dB ez), .o 35 (.av fA 1), .op none none (.store fw fc 1)]) apJ) (.seq (.run [.m 40 aW,(.c 41 dD [gU,(.k (.str [40]))]), .m 39 gV]) apP)
abbrev apR:AC:= .cond bM (.seq (.run [.m 15 aW, .o 16 (.dB cd), .o 17 (.av b7 1), .o 18 (.load cJ false 1), .o 19 (.bin .add cG (.k (.int .i64 1))), .o 20 (.dB cd), .o 21 (.av dd 1), .op none none (.store dh cW 1)]) apI) (.seq (.run [.o 26 (.av bQ 0), .o 27 (.load dS false 1), .o 28 (.bin .eql dM (.k (.int .i64 1))), .m 25 ey]) apQ)
abbrev apS:AC:= .block 0 (.seq (.run [.o 12 (.av bQ 0), .o 13 (.load bZ false 1), .o 14 (.bin .eql bY (.k (.int .i64 2))), .m 11 bN]) apR)
abbrev apT:AC:= .seq apS (.seq (.run [.m 61 aW, .c 62 e9 [qm,(.k (.int .i64 3))]]) (.seq (.run [.o 63 (.build [(.int .i64 0),(.int .i64 0),(.str []),(.slice .full 0 [])] []), .op none none (.store df qo 4)]) .ret))
abbrev apU:AC:= .seq (.run [.o 2 (.alloc [(.int .i64 0),(.int .i64 0),(.str []),(.slice .full 0 [])])]) (.seq (.run [.m 5 aW, .c 6 dE [bj], .o 3 (.alloc [(.int .i64 0),(.str []),(.int .i64 0),(.int .i64 0)]), .op none none (.store bQ bU 4)]) (.seq apH apT))
abbrev apV:AC:= .cond bU (.seq (.run [.o 2 (.mv (.k (.int .i64 0))), .o 3 (.mv (.k (.int .i64 0)))]) .ret) .skip
abbrev apW:AC:= .cond fc (.seq (.run [.o 2 (.mv (.k (.int .i64 7))), .o 3 (.mv (.k (.int .i64 6)))]) .ret) .skip
abbrev apX:AC:= .cond eU (.seq (.run [.o 2 (.mv (.k (.int .i64 6))), .o 3 (.mv (.k (.int .i64 6)))]) .ret) (.seq (.run [.o 34 (.bin .eql bS (.k (.str [37]))), .m 33 fA]) apW)
abbrev apY:AC:= .cond ez (.seq (.run [.o 2 (.mv (.k (.int .i64 5))), .o 3 (.mv (.k (.int .i64 6)))]) .ret) (.seq (.run [.o 32 (.bin .eql bS (.k (.str [47]))), .m 31 fh]) apX)
abbrev apZ:AC:= .cond dM (.seq (.run [.o 2 (.mv (.k (.int .i64 9))), .o 3 (.mv (.k (.int .i64 5)))]) .ret) (.seq (.run [.o 30 (.bin .eql bS (.k (.str [42]))), .m 29 eK]) apY)
abbrev ap0:AC:= .cond db (.seq (.run [.o 2 (.mv (.k (.int .i64 8))), .o 3 (.mv (.k (.int .i64 5)))]) .ret) (.seq (.run [.o 28 (.bin .eql bS (.k (.str [45]))), .m 27 ey]) apZ)
abbrev ap1:AC:= .cond dz (.seq (.run [.o 2 (.mv (.k (.int .i64 13))), .o 3 (.mv (.k (.int .i64 4)))]) .ret) (.seq (.run [.o 26 (.bin .eql bS (.k (.str [43]))), .m 25 dS]) ap0)
abbrev ap2:AC:= .cond dh (.seq (.run [.o 2 (.mv (.k (.int .i64 12))), .o 3 (.mv (.k (.int .i64 4)))]) .ret) (.seq (.run [.o 24 (.bin .eql bS (.k (.str [62,61]))), .m 23 da]) ap1)
abbrev ap3:AC:= .cond cW (.seq (.run [.o 2 (.mv (.k (.int .i64 11))), .o 3 (.mv (.k (.int .i64 4)))]) .ret) (.seq (.run [.o 22 (.bin .eql bS (.k (.str [62]))), .m 21 dt]) ap2)
abbrev ap4:AC:= .cond cJ (.seq (.run [.o 2 (.mv (.k (.int .i64 10))), .o 3 (.mv (.k (.int .i64 4)))]) .ret) (.seq (.run [.o 20 (.bin .eql bS (.k (.str [60,61]))), .m 19 dd]) ap3)
abbrev ap5:AC:= .cond cd (.seq (.run [.o 2 (.mv (.k (.int .i64 15))), .o 3 (.mv (.k (.int .i64 3)))]) .ret) (.seq (.run [.o 18 (.bin .eql bS (.k (.str [60]))), .m 17 cG]) ap4)
abbrev ap6:AC:= .cond bY (.seq (.run [.o 2 (.mv (.k (.int .i64 14))), .o 3 (.mv (.k (.int .i64 3)))]) .ret) (.seq (.run [.o 16 (.bin .eql bS (.k (.str [33,61]))), .m 15 b7]) ap5)
abbrev ap7:AC:= .cond bM (.seq (.run [.o 2 (.mv (.k (.int .i64 16))), .o 3 (.mv (.k (.int .i64 2)))]) .ret) (.seq (.run [.o 14 (.bin .eql bS (.k (.str [61,61]))), .m 13 bN]) ap6)
abbrev ap8:AC:= .cond cb (.seq (.run [.o 2 (.mv (.k (.int .i64 17))), .o 3 (.mv (.k (.int .i64 1)))]) .ret) (.seq (.run [.o 12 (.bin .eql bS (.k (.str [38,38]))), .m 11 bZ]) ap7)
abbrev ap9:AC:= .block 0 (.seq (.run [.o 10 (.bin .eql bS (.k (.str [124,124]))), .m 9 bP]) ap8)
abbrev aqa:AC:= .seq (.seq (.run [.o 7 (.av bc 1), .o 8 (.load bJ false 1)]) ap9) (.seq (.run [.o 2 (.mv (.k (.int .i64 0))), .o 3 (.mv (.k (.int .i64 0)))]) .ret)
abbrev aqb:AC:= .seq (.seq (.run [.o 4 (.av bc 0), .o 5 (.load cR false 1), .o 6 (.bin .neq bj (.k (.int .i64 4)))]) apV) aqa
abbrev aqc:AC:= .seq (.run [.o 1 (.box aW), .o 2 (.mv (.k (.int .i64 0))), .o 3 (.mv (.k (.int .i64 0)))]) aqb
end Go.Abs

/-! Have5 -/

namespace Go.Abs
open Go.Proofs
theorem xY:Has Tryz.prog oa 71 [(4,(some (true,13)))] an7:=⟨Tryz.f205,by kernel_rfl,by kernel_rfl⟩
theorem zR:Has Tryz.prog pP 36 [(4,none)] aod:=⟨Tryz.f206,by kernel_rfl,by kernel_rfl⟩
theorem HH:Has Tryz.prog pQ 60 [(2,none)] aok:=⟨Tryz.f207,by kernel_rfl,by kernel_rfl⟩
theorem FH:Has Tryz.prog vg 2 [(0,none)] aom:=⟨Tryz.f209,by kernel_rfl,by kernel_rfl⟩
theorem FI:Has Tryz.prog vh 24 [(2,none)] aos:=⟨Tryz.f210,by kernel_rfl,by kernel_rfl⟩
theorem zS:Has Tryz.prog pR 61 [(4,none)] aoF:=⟨Tryz.f219,by kernel_rfl,by kernel_rfl⟩
theorem vF:Has Tryz.prog mR 23 [(2,none)] aoT:=⟨Tryz.f226,by kernel_rfl,by kernel_rfl⟩
theorem xd:Has Tryz.prog nG 64 [(2,(some (true,13)))] aoZ:=⟨Tryz.f227,by kernel_rfl,by kernel_rfl⟩
theorem vG:Has Tryz.prog mS 20 [(4,(some (true,13)))] ao2:=⟨Tryz.f228,by kernel_rfl,by kernel_rfl⟩
theorem xZ:Has Tryz.prog lx 11 [(2,(some (true,4)))] ao4:=⟨Tryz.f229,by kernel_rfl,by kernel_rfl⟩
theorem xe:Has Tryz.prog ji 17 [(4,none)] ao6:=⟨Tryz.f230,by kernel_rfl,by kernel_rfl⟩
theorem xf:Has Tryz.prog nH 42 [(4,(some (true,13)))] apf:=⟨Tryz.f231,by kernel_rfl,by kernel_rfl⟩
theorem HI:Has Tryz.prog xa 24 [(2,none)] apl:=⟨Tryz.f237,by kernel_rfl,by kernel_rfl⟩
theorem x3:Has Tryz.prog ly 48 [(6,(some (true,13)))] apu:=⟨Tryz.f239,by kernel_rfl,by kernel_rfl⟩
theorem xg:Has Tryz.prog gy 23 [(2,(some (true,4)))] apx:=⟨Tryz.f240,by kernel_rfl,by kernel_rfl⟩
theorem yS:Has Tryz.prog iY 44 [(4,(some (true,4)))] apB:=⟨Tryz.f242,by kernel_rfl,by kernel_rfl⟩
theorem DZ:Has Tryz.prog lG 20 [(2,none)] apG:=⟨Tryz.f243,by kernel_rfl,by kernel_rfl⟩
theorem yT:Has Tryz.prog jU 64 [(2,(some (true,4)))] apU:=⟨Tryz.f244,by kernel_rfl,by kernel_rfl⟩
theorem JB:Has Tryz.prog ux 35 [(2,none),(3,none)] aqc:=⟨Tryz.f245,by kernel_rfl,by kernel_rfl⟩
end Go.Abs

/-! Have3 -/

namespace Go.Abs
open Go.Proofs
theorem FJ:Has Tryz.prog va 37 [(6,none)] akv:=⟨Tryz.f120,by kernel_rfl,by kernel_rfl⟩
theorem x4:Has Tryz.prog vb 28 [(4,none)] akC:=⟨Tryz.f121,by kernel_rfl,by kernel_rfl⟩
theorem B9:Has Tryz.prog ra 38 [(6,none),(7,none)] akJ:=⟨Tryz.f122,by kernel_rfl,by kernel_rfl⟩
theorem wb:Has Tryz.prog tB 15 [(4,none)] akK:=⟨Tryz.f123,by kernel_rfl,by kernel_rfl⟩
theorem HJ:Has Tryz.prog w7 40 [(4,none)] akQ:=⟨Tryz.f124,by kernel_rfl,by kernel_rfl⟩
theorem Ac:Has Tryz.prog mw 12 [(4,none)] akR:=⟨Tryz.f125,by kernel_rfl,by kernel_rfl⟩
theorem HK:Has Tryz.prog pO 9 [(2,none)] akS:=⟨Tryz.f128,by kernel_rfl,by kernel_rfl⟩
theorem A7:Has Tryz.prog yP 42 [(4,none)] ali:=⟨Tryz.f129,by kernel_rfl,by kernel_rfl⟩
theorem FK:Has Tryz.prog vd 28 [(2,none),(3,none)] alp:=⟨Tryz.f130,by kernel_rfl,by kernel_rfl⟩
theorem x5:Has Tryz.prog dD 21 [(4,none)] alu:=⟨Tryz.f131,by kernel_rfl,by kernel_rfl⟩
theorem xh:Has Tryz.prog jg 25 [(6,none)] aly:=⟨Tryz.f132,by kernel_rfl,by kernel_rfl⟩
theorem x6:Has Tryz.prog cP 9 [(2,none)] alz:=⟨Tryz.f133,by kernel_rfl,by kernel_rfl⟩
theorem Ad:Has Tryz.prog fK 22 [(4,none)] alB:=⟨Tryz.f134,by kernel_rfl,by kernel_rfl⟩
theorem yU:Has Tryz.prog e9 14 [] alC:=⟨Tryz.f135,by kernel_rfl,by kernel_rfl⟩
theorem x7:Has Tryz.prog n9 56 [(2,(some (true,5)))] alL:=⟨Tryz.f136,by kernel_rfl,by kernel_rfl⟩
theorem x8:Has Tryz.prog dE 13 [(2,(some (true,4)))] alN:=⟨Tryz.f137,by kernel_rfl,by kernel_rfl⟩
theorem vH:Has Tryz.prog gX 8 [(2,none)] alP:=⟨Tryz.f138,by kernel_rfl,by kernel_rfl⟩
theorem tG:Has Tryz.prog lg 8 [(2,none)] alR:=⟨Tryz.f139,by kernel_rfl,by kernel_rfl⟩
theorem D0:Has Tryz.prog kn 78 [(6,none),(7,none)] al1:=⟨Tryz.f140,by kernel_rfl,by kernel_rfl⟩
theorem zT:Has Tryz.prog ma 65 [(10,none)] al8:=⟨Tryz.f142,by kernel_rfl,by kernel_rfl⟩
theorem x9:Has Tryz.prog mP 7 [(2,none)] al9:=⟨Tryz.f144,by kernel_rfl,by kernel_rfl⟩
theorem JC:Has Tryz.prog nF 40 [(4,none)] amf:=⟨Tryz.f145,by kernel_rfl,by kernel_rfl⟩
theorem C2:Has Tryz.prog k8 45 [(2,(some (true,13)))] aml:=⟨Tryz.f146,by kernel_rfl,by kernel_rfl⟩
theorem FL:Has Tryz.prog ve 15 [(2,none)] amq:=⟨Tryz.f148,by kernel_rfl,by kernel_rfl⟩
theorem zU:Has Tryz.prog kQ 38 [(2,none)] amx:=⟨Tryz.f149,by kernel_rfl,by kernel_rfl⟩
theorem JD:Has Tryz.prog DQ 178 [(2,none)] amJ:=⟨Tryz.f150,by kernel_rfl,by kernel_rfl⟩
theorem FM:Has Tryz.prog oQ 18 [(4,none)] amK:=⟨Tryz.f158,by kernel_rfl,by kernel_rfl⟩
theorem FN:Has Tryz.prog rb 18 [(4,none)] amL:=⟨Tryz.f159,by kernel_rfl,by kernel_rfl⟩
theorem D1:Has Tryz.prog tC 27 [(2,none)] amR:=⟨Tryz.f160,by kernel_rfl,by kernel_rfl⟩
theorem HL:Has Tryz.prog mb 33 [(2,none)] amY:=⟨Tryz.f161,by kernel_rfl,by kernel_rfl⟩
theorem ya:Has Tryz.prog rf 8 [(2,none)] am1:=⟨Tryz.f162,by kernel_rfl,by kernel_rfl⟩
theorem qp:Has Tryz.prog gT 9 [(4,none)] am2:=⟨Tryz.f163,by kernel_rfl,by kernel_rfl⟩
theorem Ca:Has Tryz.prog om 8 [(3,none)] am3:=⟨Tryz.f164,by kernel_rfl,by kernel_rfl⟩
theorem D2:Has Tryz.prog tD 33 [(4,none)] am7:=⟨Tryz.f165,by kernel_rfl,by kernel_rfl⟩
end Go.Abs

/-! Prs -/

namespace Go.Abs
set_option maxRecDepth 8000
open Go.Proofs
@[go_sem] def cy (r:Rd):List D:= [.slice .shared 4 (r.l.map eC), .int .i64 r.i, .int .i64 r.code, .int .i64 r.vW, .int .i64 r.n]
theorem fP (r:Rd):D.bp 0 0 (cy r)=true:=by simp [cy,D.bp,D.ok,Tag.ok,Jk]
theorem sb {r:Rd} {t:fH} (h:r.pD=some t):r.i<4611686018427387904:=(Jn h).1
theorem is_lt {r:Rd} {s:aD} {t:Bool} (h:r.is s=some t):r.i<4611686018427387904:=by
 obtain⟨t,h1,h⟩:=Option.bind_eq_some_iff.1 h
 exact sb h1
-- good
theorem acw (l:List fH) (i c f n:Int):aB Tryz.prog cP [.ptr 0 0] ⟨[[.slice .shared 4 (l.map eC), .int .i64 i, .int .i64 c, .int .i64 f, .int .i64 n]],[]⟩ (.bool (c==0)) ⟨[[.slice .shared 4 (l.map eC), .int .i64 i, .int .i64 c, .int .i64 f, .int .i64 n]],[]⟩:=by
 refine aB.go x6 rfl fun B Q hB hQ=> ?_
 have⟨hF,hP,gA,gB⟩:=bF
 repeat' (first
 | simp only [go_sem,hF,hP,gA,gB,mM]
 | (with_reducible refine aC hQ ?_;simp only [ay,az,Option.some.injEq,exists_eq_left',go_sem,hF,hP,gA,gB];repeat' (first | exact Ok.out | with_reducible refine aH ?_ ?_ | (simp;done))))
theorem kz {l:List fH} {i c f n:Int} {s:St} {o:Nat} (ho:s.aw[o]? = some [.slice .shared 4 (l.map eC), .int .i64 i, .int .i64 c, .int .i64 f, .int .i64 n]):aB Tryz.prog cP [.ptr o 0] s (.bool (c==0)) ⟨s.aw.set o [.slice .shared 4 (l.map eC), .int .i64 i, .int .i64 c, .int .i64 f, .int .i64 n],s.aA⟩:=
 have hk:D.bp 0 0 [.slice .shared 4 (l.map eC), .int .i64 i, .int .i64 c, .int .i64 f, .int .i64 n] = true:=by simp [D.bp,D.ok,Tag.ok,Jk]
 aB.kl (acw l i c f n) rfl hk hk rfl ho
theorem acx {r:Rd} {t:fH} (h:r.pD=some t):aB Tryz.prog dE [.ptr 0 0] ⟨[cy r],[]⟩ (.agg (eC t)) ⟨[cy r],[]⟩:=by
 obtain⟨h2,h,_,_⟩:=Jn h
 refine aB.go x8 rfl fun B Q hB hQ=> ?_
 have⟨hF,hP,gA,gB⟩:=bF
 repeat' (first
 | simp only [go_sem,hF,hP,gA,gB,mM,h]
 | (with_reducible refine aC hQ ?_;simp only [ay,az,Option.some.injEq,exists_eq_left',go_sem,hF,hP,gA,gB];repeat' (first | exact Ok.out | with_reducible refine aH ?_ ?_ | (simp;done))))
theorem oT {r:Rd} {t:fH} (h:r.pD=some t) {s:St} {o:Nat} (ho:s.aw[o]? = some (cy r)):aB Tryz.prog dE [.ptr o 0] s (.agg (eC t)) ⟨s.aw.set o (cy r),s.aA⟩:=
 (acx h).kl rfl (fP r) (fP r) (HY t) ho
theorem aqd {r:Rd} {text:aD} {b:Bool} (h:r.is text=some b):aB Tryz.prog fK [.ptr 0 0, .str text] ⟨[cy r],[]⟩ (.bool b) ⟨[cy r],[]⟩:=by
 unfold Rd.is at h
 refine aB.go Ad rfl fun B Q hB hQ=> ?_
 have⟨hF,hP,gA,gB⟩:=bF
 repeat' (first
 | simp only [go_sem,hF,hP,gA,gB,mM]
 | (rw [Option.bind_eq_some_iff]at h;obtain⟨_,h1,h⟩:=h;first | (with_reducible refine CU (oT h1 (by with_unfolding_all rfl)) ?_))
 | (with_reducible first | refine bq fun hc=> ?_ | refine br fun hc=> ?_ | refine bt (fun hc=> ?_) fun hc=> ?_) <;> (try simp only [hc,bs, ↓reduceIte]at h) <;> try simp only [hc]
 | (with_reducible refine aC hQ ?_;(try cases h);simp only [ay,az,bu,bw,go_sem,hF,hP,gA,gB,mM];repeat' (first | exact Ok.out | with_reducible refine aH ?_ ?_ | (simp;done))))
theorem A8 {r:Rd} {text:aD} {b:Bool} (h:r.is text=some b) {s:St} {o:Nat} (ho:s.aw[o]? = some (cy r)):aB Tryz.prog fK [.ptr o 0, .str text] s (.bool b) ⟨s.aw.set o (cy r),s.aA⟩:=
 (aqd h).kl rfl (fP r) (fP r) rfl ho
theorem agh {r r':Rd} {c:Int} (h:r.bad c=some r'):aB Tryz.prog e9 [.ptr 0 0, .int .i64 c] ⟨[cy r],[]⟩ (.tuple []) ⟨[cy r'],[]⟩:=by
 unfold Rd.bad at h
 refine aB.go yU rfl fun B Q hB hQ=> ?_
 have⟨hF,hP,gA,gB⟩:=bF
 repeat' (first
 | simp only [go_sem,hF,hP,gA,gB,mM]
 | (rw [Option.bind_eq_some_iff]at h;obtain⟨_,h1,h⟩:=h;first | (with_reducible refine CU (oT h1 (by with_unfolding_all rfl)) ?_))
 | (with_reducible refine CU (kz (by with_unfolding_all rfl)) ?_)
 | (with_reducible first | refine bq fun hc=> ?_ | refine br fun hc=> ?_ | refine bt (fun hc=> ?_) fun hc=> ?_) <;> (try simp only [hc,bs, ↓reduceIte]at h) <;> try simp only [hc]
 | (with_reducible refine aC hQ ?_;(try cases h);simp only [ay,az,bu,bw,go_sem,hF,hP,gA,gB,mM];repeat' (first | exact Ok.out | with_reducible refine aH ?_ ?_ | (simp;done))))
theorem D3 {r r':Rd} {c:Int} (h:r.bad c=some r') {s:St} {o:Nat} (ho:s.aw[o]? = some (cy r)):aB Tryz.prog e9 [.ptr o 0, .int .i64 c] s (.tuple []) ⟨s.aw.set o (cy r'),s.aA⟩:=
 (agh h).kl rfl (fP r) (fP r') rfl ho
theorem acy {r:Rd} {text:aD} {p:Bool×Rd} (h:r.take text=some p):aB Tryz.prog dD [.ptr 0 0, .str text] ⟨[cy r],[]⟩ (.bool p.1) ⟨[cy p.2],[]⟩:=by
 unfold Rd.take at h
 refine aB.go x5 rfl fun B Q hB hQ=> ?_
 have⟨hF,hP,gA,gB⟩:=bF
 repeat' (first
 | simp only [go_sem,hF,hP,gA,gB,mM]
 | (rw [Option.bind_eq_some_iff]at h;obtain⟨_,h1,h⟩:=h;first | (with_reducible refine CU (A8 h1 (by with_unfolding_all rfl)) ?_;have hF:=is_lt h1))
 | (with_reducible refine CU (kz (by with_unfolding_all rfl)) ?_)
 | (with_reducible first | refine bq fun hc=> ?_ | refine br fun hc=> ?_ | refine bt (fun hc=> ?_) fun hc=> ?_) <;> (try simp only [hc,bs, ↓reduceIte]at h) <;> try simp only [hc]
 | (with_reducible refine aC hQ ?_;(try cases h);simp only [ay,az,bu,bw,go_sem,hF,hP,gA,gB,mM];repeat' (first | exact Ok.out | with_reducible refine aH ?_ ?_ | (simp;done))))
theorem s9 {r:Rd} {text:aD} {p:Bool×Rd} (h:r.take text=some p) {s:St} {o:Nat} (ho:s.aw[o]? = some (cy r)):aB Tryz.prog dD [.ptr o 0, .str text] s (.bool p.1) ⟨s.aw.set o (cy p.2),s.aA⟩:=
 (acy h).kl rfl (fP r) (fP p.2) rfl ho
theorem acz {r r':Rd} {text:aD} (h:r.want text=some r'):aB Tryz.prog di [.ptr 0 0, .str text] ⟨[cy r],[]⟩ (.tuple []) ⟨[cy r'],[]⟩:=by
 unfold Rd.want at h
 refine aB.go xX rfl fun B Q hB hQ=> ?_
 have⟨hF,hP,gA,gB⟩:=bF
 repeat' (first
 | simp only [go_sem,hF,hP,gA,gB,mM]
 | (rw [Option.bind_eq_some_iff]at h;obtain⟨_,h1,h⟩:=h;first | (with_reducible refine CU (s9 h1 (by with_unfolding_all rfl)) ?_))
 | (with_reducible refine CU (D3 h (by with_unfolding_all rfl)) ?_)
 | (with_reducible first | refine bq fun hc=> ?_ | refine br fun hc=> ?_ | refine bt (fun hc=> ?_) fun hc=> ?_) <;> (try simp only [hc,bs, ↓reduceIte]at h) <;> try simp only [hc]
 | (with_reducible refine aC hQ ?_;(try cases h);simp only [ay,az,bu,bw,go_sem,hF,hP,gA,gB,mM];repeat' (first | exact Ok.out | with_reducible refine aH ?_ ?_ | (simp;done))))
theorem pS {r r':Rd} {text:aD} (h:r.want text=some r') {s:St} {o:Nat} (ho:s.aw[o]? = some (cy r)):aB Tryz.prog di [.ptr o 0, .str text] s (.tuple []) ⟨s.aw.set o (cy r'),s.aA⟩:=
 (acz h).kl rfl (fP r) (fP r') rfl ho
theorem acA {r:Rd} {room:Bool} {p:aD×Rd} (h:r.name room=some p):aB Tryz.prog eJ [.ptr 0 0, .bool room] ⟨[cy r],[]⟩ (.str p.1) ⟨[cy p.2],[]⟩:=by
 unfold Rd.name at h
 refine aB.go xW rfl fun B Q hB hQ=> ?_
 have⟨hF,hP,gA,gB⟩:=bF
 repeat' (first
 | simp only [go_sem,hF,hP,gA,gB,mM]
 | (rw [Option.bind_eq_some_iff]at h;obtain⟨_,h1,h⟩:=h;first | (with_reducible refine CU (oT h1 (by with_unfolding_all rfl)) ?_;have hF:=sb h1) | (with_reducible refine CU (D3 h1 (by with_unfolding_all rfl)) ?_))
 | (with_reducible refine CU (kz (by with_unfolding_all rfl)) ?_)
 | (with_reducible first | refine bq fun hc=> ?_ | refine br fun hc=> ?_ | refine bt (fun hc=> ?_) fun hc=> ?_) <;> (try simp only [hc,bs, ↓reduceIte]at h) <;> try simp only [hc]
 | (with_reducible refine aC hQ ?_;(try cases h);simp only [ay,az,bu,bw,go_sem,hF,hP,gA,gB,mM];repeat' (first | exact Ok.out | with_reducible refine aH ?_ ?_ | (simp;done))))
theorem yc {r:Rd} {room:Bool} {p:aD×Rd} (h:r.name room=some p) {s:St} {o:Nat} (ho:s.aw[o]? = some (cy r)):aB Tryz.prog eJ [.ptr o 0, .bool room] s (.str p.1) ⟨s.aw.set o (cy p.2),s.aA⟩:=
 (acA h).kl rfl (fP r) (fP p.2) rfl ho
end Go.Abs

/-! Lex1 -/

namespace Go.Abs
set_option maxRecDepth 8000
open Go.Proofs
theorem iw (c:UInt8) (s:St):aB Tryz.prog oP [.int .u8 (c.toNat:Int)] s (.bool (qX c)) s:=by
 refine aB.pure ?_ rfl rfl s
 generalize h:qX c=b
 unfold qX at h
 unfold S0
 refine aB.go FC rfl fun B Q hB hQ=> ?_
 have⟨hF,hP,gA,gB⟩:=bF
 repeat' (first
 | simp only [go_sem,hF,hP,gA,gB]
 | (with_reducible first | refine bq fun hc=> ?_ | refine br fun hc=> ?_ | refine bt (fun hc=> ?_) fun hc=> ?_) <;> (try simp only [hc,bs, ↓reduceIte]at h) <;> try simp only [hc]
 | (with_reducible refine aC hQ ?_;(try cases h);simp only [ay,az,bu,bw,go_sem,hF,hP,gA,gB];repeat' (first | exact Ok.out | with_reducible refine aH ?_ ?_ | (simp;done))))
theorem jH (c:UInt8) (s:St):aB Tryz.prog pO [.int .u8 (c.toNat:Int)] s (.bool (pz c)) s:=by
 refine aB.pure ?_ rfl rfl s
 generalize h:pz c=b
 unfold pz at h
 unfold S0
 refine aB.go HK rfl fun B Q hB hQ=> ?_
 have⟨hF,hP,gA,gB⟩:=bF
 repeat' (first
 | simp only [go_sem,hF,hP,gA,gB]
 | (with_reducible first | refine bq fun hc=> ?_ | refine br fun hc=> ?_ | refine bt (fun hc=> ?_) fun hc=> ?_) <;> (try simp only [hc,bs, ↓reduceIte]at h) <;> try simp only [hc]
 | (with_reducible refine aC hQ ?_;(try cases h);simp only [ay,az,bu,bw,go_sem,hF,hP,gA,gB];repeat' (first | exact Ok.out | with_reducible refine aH ?_ ?_ | (simp;done))))
theorem vn (t:aD) (s:St):aB Tryz.prog uv [.str t] s (.bool (isWord t)) s:=by
 refine aB.pure ?_ rfl rfl s
 generalize h:isWord t=b
 unfold isWord at h
 unfold S0
 refine aB.go Jw rfl fun B Q hB hQ=> ?_
 have⟨hF,hP,gA,gB⟩:=bF
 repeat' (first
 | simp only [go_sem,hF,hP,gA,gB]
 | (with_reducible first | refine bq fun hc=> ?_ | refine br fun hc=> ?_ | refine bt (fun hc=> ?_) fun hc=> ?_) <;> (try simp only [hc,bs, ↓reduceIte]at h) <;> try simp only [hc]
 | (with_reducible refine aC hQ ?_;(try cases h);simp only [ay,az,bu,bw,go_sem,hF,hP,gA,gB];repeat' (first | exact Ok.out | with_reducible refine aH ?_ ?_ | (simp;done))))
theorem XM {text:aD} {pos:Nat} (hl:text.length<4611686018427387904) (s:St):aB Tryz.prog vZ [.str text, .int .i64 (pos:Int)] s (.int .i64 ((pos+lD (text.drop pos):Nat):Int)) s:=by
 refine aB.pure ?_ rfl rfl s
 unfold S0
 refine aB.go Lg rfl fun B Q hB hQ=> ?_
 have⟨hF,hP,gA,gB⟩:=bF
 repeat' (first
 | simp only [go_sem,hF,hP,gA,gB]
 | (with_reducible refine aC hQ ?_;simp only [ay,az,Option.some.injEq,exists_eq_left',go_sem,hF,hP,gA,gB];repeat' (first | exact Ok.out | with_reducible refine aH ?_ ?_ | (simp;done))))
 refine cO 0 0 (bh.ind (ι:=aD×Nat) (fun i=>text.drop i.2=i.1∧i.2+lD i.1=pos+lD (text.drop pos)) (fun i=>i.1.length)
  (fun i=> [(0, .str text),(1, .int .i64 (i.2:Int))]) (fun i=>⟨[],[]⟩) ?_ (text.drop pos,pos) ⟨rfl,rfl⟩)
 rintro⟨rest,k⟩ ⟨h1,h2⟩ IH
 dsimp only at h1 h2
 cases rest with
 | nil=>
  have hF:=drop_nil h1
  simp only [lD,Nat.add_zero]at h2
  rw [← h2]at hQ
  repeat' (first
 | simp only [go_sem,hF,hP,gA,gB]
 | (with_reducible refine aC hQ ?_;simp only [ay,az,Option.some.injEq,exists_eq_left',go_sem,hF,hP,gA,gB];repeat' (first | exact Ok.out | with_reducible refine aH ?_ ?_ | (simp;done))))
 | cons c rest=>
  obtain⟨hP,g2,hF,g4⟩:=drop_cons h1
  have gA:k<4611686018427387904:=by omega
  cases hb:(qX c || pz c)
  ·simp only [lD,hb,Bool.false_eq_true, ↓reduceIte,Nat.add_zero]at h2
   rw [← h2]at hQ
   simp only [Bool.or_eq_false_iff]at hb
   repeat' (first
 | simp only [go_sem,hF,hP,gA,gB,hb.1,hb.2]
 | (with_reducible refine CU (iw _ _) ?_)
 | (with_reducible refine CU (jH _ _) ?_)
 | (with_reducible refine aC hQ ?_;simp only [ay,az,Option.some.injEq,exists_eq_left',go_sem,hF,hP,gA,gB];repeat' (first | exact Ok.out | with_reducible refine aH ?_ ?_ | (simp;done))))
  ·simp only [lD,hb, ↓reduceIte]at h2
   cases IK:qX c
   ·rw [IK,Bool.false_or]at hb
    repeat' (first
 | simp only [go_sem,hF,hP,gA,gB,hb,IK]
 | (with_reducible refine CU (iw _ _) ?_)
 | (with_reducible refine CU (jH _ _) ?_)
 | (with_reducible refine aC hQ ?_;simp only [ay,az,Option.some.injEq,exists_eq_left',go_sem,hF,hP,gA,gB];repeat' (first | exact Ok.out | with_reducible refine aH ?_ ?_ | (simp;done))))
    refine cO 0 0 (IH (rest,k+1) ⟨g2,by dsimp only;omega⟩ (Nat.lt_succ_self _))
   ·repeat' (first
 | simp only [go_sem,hF,hP,gA,gB,IK]
 | (with_reducible refine CU (iw _ _) ?_)
 | (with_reducible refine CU (jH _ _) ?_)
 | (with_reducible refine aC hQ ?_;simp only [ay,az,Option.some.injEq,exists_eq_left',go_sem,hF,hP,gA,gB];repeat' (first | exact Ok.out | with_reducible refine aH ?_ ?_ | (simp;done))))
    refine cO 0 0 (IH (rest,k+1) ⟨g2,by dsimp only;omega⟩ (Nat.lt_succ_self _))
theorem yV (text:aD) (a b:Nat):(text.take (a+b)).drop a=(text.drop a).take b:=by rw [List.drop_take];congr 1;omega
set_option maxRecDepth 20000 in
theorem acB {text : aD} {pos : Nat} {c : UInt8} {r : aD} (hd : text.drop pos = c :: r) (hl : text.length < 4611686018427387904) (s : St) :
   aB Tryz.prog yP [.str text, .int .i64 (pos : Int)] s (.int .i64 ((sF (c :: r) : Nat) : Int)) s := by
 refine aB.pure ?_ rfl rfl s
 obtain ⟨hP, g2, g3, g4⟩ := drop_cons hd
 have gA : pos < 4611686018427387904 := by omega
 have gB : 0 < 1 := Nat.zero_lt_one
 generalize h : sF (c :: r) = k
 unfold S0
 cases r with
 | nil =>
   have hF : decide (((pos + 1 : Nat) : Int) < (text.length : Int)) = false := drop_nil g2
   simp only [sF, H0] at h
   refine aB.go A7 rfl fun B Q hB hQ => ?_
   repeat' (first
 | simp only [go_sem, hF, hP, gA, gB]
 | (with_reducible first | refine bq fun hc => ?_ | refine br fun hc => ?_ | refine bt (fun hc => ?_) fun hc => ?_) <;> (try simp only [hc, bs, ↓reduceIte] at h) <;> try simp only [hc]
 | (with_reducible refine aC hQ ?_; exact jR)
 | (cases h; done))
 | cons d r =>
   obtain ⟨_, _, hF, _⟩ := drop_cons g2
   have e1 : (text.take (pos + 2)).drop pos = [c, d] := by rw [yV, hd]; rfl
   have e2 : (0 : Int) ≤ (pos : Int) ∧ (pos : Int) ≤ ((pos + 2 : Nat) : Int) ∧ ((pos + 2 : Nat) : Int) ≤ (text.length : Int) := by omega
   simp only [sF, H0, WS] at h
   refine aB.go A7 rfl fun B Q hB hQ => ?_
   repeat' (first
 | simp only [go_sem, hF, hP, gA, gB, e1, e2]
 | (with_reducible first | refine bq fun hc => ?_ | refine br fun hc => ?_ | refine bt (fun hc => ?_) fun hc => ?_) <;> (try simp only [hc, bs, ↓reduceIte] at h) <;> try simp only [hc]
 | (with_reducible refine aC hQ ?_; (try cases h); simp only [ay, az, bu, bw, go_sem, hF, hP, gA, gB, e1, e2]; try exact kb)
 | (cases h; done))
theorem Rb {c:UInt8} (h:pz c=true):48≤(c.toNat:Int)∧(c.toNat:Int)≤57:=by
 simp only [pz,Bool.and_eq_true,decide_eq_true_eq]at h
 omega
def oU (s:aD):Int×Bool:=match vY 0 s with | some n=>(n,true) | none=>(0,false)
theorem UL {text:aD} (hd : ∀ c∈text,pz c=true) (hl:text.length<4611686018427387904) (s:St) :
 aB Tryz.prog vd [.str text] s (.tuple [.int .i64 (oU text).1, .bool (oU text).2]) s:=by
 refine aB.pure ?_ rfl rfl s
 generalize hw:oU text=p
 unfold S0
 refine aB.go FK rfl fun B Q hB hQ=> ?_
 have⟨hF,hP,gA,gB⟩:=bF
 repeat' (first
 | simp only [go_sem,hF,hP,gA,gB]
 | (with_reducible first | refine bq fun hc=> ?_ | refine br fun hc=> ?_ | refine bt (fun hc=> ?_) fun hc=> ?_) <;> (try simp only [hc,bs, ↓reduceIte]at h) <;> try simp only [hc]
 | (with_reducible refine aC hQ ?_;exact jR)
 | (cases h;done))
 refine cO 0 0 (bh.ind (ι:=aD×Nat×Int) (fun i=>text.drop i.2.1=i.1∧0≤i.2.2∧i.2.2≤9223372036854775807∧(match vY i.2.2 i.1 with | some n=>(n,true) | none=>(0,false))=p) (fun i=>i.1.length)
  (fun i=> [(0, .str text),(4, .int .i64 i.2.2),(5, .int .i64 (i.2.1:Int))]) (fun i=>⟨[],[]⟩) ?_ (text,0,0) ⟨rfl,Int.le_refl 0,by dsimp only;omega,hw⟩)
 rintro⟨rest,k,n⟩ ⟨h1,h2,h3,h⟩ IH
 dsimp only at h1 h2 h3 h
 cases rest with
 | nil=>
  have hF:=drop_nil h1
  simp only [vY]at h
  repeat' (first
 | simp only [go_sem,hF,hP,gA,gB]
 | (with_reducible first | refine bq fun hc=> ?_ | refine br fun hc=> ?_ | refine bt (fun hc=> ?_) fun hc=> ?_) <;> (try simp only [hc,bs, ↓reduceIte]at h) <;> try simp only [hc]
 | (with_reducible refine aC hQ ?_;exact jR)
 | (cases h;done))
 | cons c rest=>
  obtain⟨hP,g2,hF,g4⟩:=drop_cons h1
  have gA:k<4611686018427387904:=by omega
  have hc:=Rb (hd c (List.mem_of_getElem? hP))
  have w1:IntKind.wrap .u8 ((c.toNat:Int) - 48)=(c.toNat:Int) - 48:=by rw [IntKind.wrap_u8];omega
  have w2:IntKind.wrap .i64 ((c.toNat:Int) - 48)=(c.toNat:Int) - 48:=cV (by omega) (by omega)
  have w3:IntKind.wrap .i64 (9223372036854775807 - ((c.toNat:Int) - 48))=9223372036854775807 - ((c.toNat:Int) - 48):=cV (by omega) (by omega)
  have w4:IntKind.wrap .i64 ((9223372036854775807 - ((c.toNat:Int) - 48)).tdiv 10)=(9223372036854775807 - ((c.toNat:Int) - 48)) / 10:=by
   rw [Int.tdiv_eq_ediv_of_nonneg (by omega)];exact cV (by omega) (by omega)
  have t10:((10:Int)=0)=False:=by simp
  simp only [vY]at h
  by_cases hn:n > (9223372036854775807 - ((c.toNat:Int) - 48)) / 10
  ·have oe:decide (n > (9223372036854775807 - ((c.toNat:Int) - 48)) / 10)=true:=by simpa using hn
   rw [if_pos hn]at h
   repeat' (first
 | simp only [go_sem,hF,hP,gA,gB,w1,w2,w3,w4,t10,oe]
 | (with_reducible first | refine bq fun hc=> ?_ | refine br fun hc=> ?_ | refine bt (fun hc=> ?_) fun hc=> ?_) <;> (try simp only [hc,bs, ↓reduceIte]at h) <;> try simp only [hc]
 | (with_reducible refine aC hQ ?_;(try cases h);simp only [ay,az,bu,bw,go_sem,hF,hP,gA,gB,w1,w2,w3,w4,t10,oe];try exact kb)
 | (cases h;done))
  ·have oe:decide (n > (9223372036854775807 - ((c.toNat:Int) - 48)) / 10)=false:=by simpa using hn
   rw [if_neg hn]at h
   have w5:IntKind.wrap .i64 (n*10)=n*10:=cV (by omega) (by omega)
   have w6:IntKind.wrap .i64 (n*10+((c.toNat:Int) - 48))=n*10+((c.toNat:Int) - 48):=cV (by omega) (by omega)
   repeat' (first
 | simp only [go_sem,hF,hP,gA,gB,w1,w2,w3,w4,t10,oe,w5,w6]
 | (with_reducible first | refine bq fun hc=> ?_ | refine br fun hc=> ?_ | refine bt (fun hc=> ?_) fun hc=> ?_) <;> (try simp only [hc,bs, ↓reduceIte]at h) <;> try simp only [hc]
 | (with_reducible refine aC hQ ?_;(try cases h);simp only [ay,az,bu,bw,go_sem,hF,hP,gA,gB,w1,w2,w3,w4,t10,oe,w5,w6];try exact kb)
 | (cases h;done))
   refine cO 0 0 (IH (rest,k+1,n*10+((c.toNat:Int) - 48)) ⟨g2,by dsimp only;omega,by dsimp only;omega,h⟩ (Nat.lt_succ_self _))
end Go.Abs

/-! Lex2 -/

namespace Go.Abs
set_option maxRecDepth 8000
open Go.Proofs
theorem UM {c:UInt8} {r:aD} (h:qX c=true):0<lD (c::r):=by simp [lD,h]
theorem JE : ∀ s:aD,lD s≤s.length
 | []=>Nat.le_refl _
 | c::r=>by simp only [lD];split <;> simp only [List.length_cons] <;> have:=JE r <;> omega
theorem JF : ∀ s:aD,qY s≤s.length
 | []=>Nat.le_refl _
 | c::r=>by simp only [qY];split <;> simp only [List.length_cons] <;> have:=JF r <;> omega
theorem Gt : ∀ s:aD,p6 s≤s.length
 | []=>Nat.le_refl _
 | c::r=>by simp only [p6];split <;> simp only [List.length_cons] <;> have:=Gt r <;> omega
theorem Rc : ∀ s:aD,sF s≤s.length
 | []=>Nat.le_refl _
 | [c]=>by simp only [sF];split <;> simp
 | c::d::r=>by simp only [sF];(repeat' split) <;> simp
theorem JG : ∀ (s:aD),∀ c∈s.take (qY s),pz c=true
 | [],c,h=>by simp [qY]at h
 | d::r,c,h=>by
  simp only [qY]at h
  split at h
  ·rw [List.take_succ_cons]at h
   rcases List.mem_cons.1 h with rfl | h
   ·assumption
   ·exact JG r c h
  ·simp at h
def mW (f:Int×Int):List D:= [.int .i64 f.1, .int .i64 f.2]
def oo (text:aD) (out:List fH) (pos:Nat):Tm:= [(0, .str text),(3, .ptr 0 0),(4, .slice (.tok 0) 4 (out.map eC)),(5, .ptr 1 0),(6, .int .i64 (pos:Int))]
def pe (out:List fH):St:=⟨[[.int .i64 0, .int .i64 0],[.junk, .junk, .junk, .junk]],[some out.length]⟩
theorem Re {c:UInt8} {r:aD} (h:((c.toNat:Int)==35)=true):0<p6 (c::r):=by
 have:((c.toNat:Int) != 10)=true:=by simp only [beq_iff_eq]at h;simp [h]
 simp [p6,this]
def sI (text:aD) (B:fz) (Q:Exit→Tm→St→Prop) (p:List fH×Int×Int) (N:Nat):Prop:=
 ∀ (n pos:Nat) (rest:aD) (out:List fH),text.drop pos=rest→nD n pos rest out=p→rest.length<n→out.length≤2000→pos≤text.length→n<N→
  n7 Tryz.prog B 152 vl (.seq .skip A4) Q (oo text out pos) (pe out)
theorem sI.to {text:aD} {B:fz} {Q:Exit→Tm→St→Prop} {p:List fH×Int×Int} {N:Nat} (hB:B.s=S0) (IH:sI text B Q p N) {n pos:Nat} {rest:aD} {out:List fH} {tm:Tm} {s:St}
 (h1:text.drop pos=rest) (h:nD n pos rest out=p) (h2:rest.length<n) (h3:out.length≤2000) (h4:pos≤text.length) (h5:n<N)
 (ht:tX tm 2 1 (oo text out pos)) (ho:hO (s.cut 2 1).aw (pe out).aw) (hk:(s.cut 2 1).aA=(pe out).aA) :
 jM Tryz.prog B 152 vl Q (.goto 0) tm s:=by
 refine TH (l:=0) (r:= .seq .skip A4) rfl (n7.re _ _ 2 1 (by rw [hB];exact mq rfl) (by rw [hB];exact mq rfl) ht ho ?_)
 have:=IH n pos rest out h1 h h2 h3 h4 h5
 rw [hk]
 exact this
attribute [go_sem] oo pe mW
theorem lex_nil {text:aD} (hl:text.length≤100000) {B:fz} {Q:Exit→Tm→St→Prop} {p:List fH×Int×Int} (hB:B.s=S0)
 (hQ:iP 0 0 [(2,none),(3,some (true,2))] (.tuple [.slice .shared 4 (p.1.map eC), .agg (mW p.2)]) ⟨[],[]⟩=Q)
 {n pos:Nat} {out:List fH} (ho:out.length≤2000) (hp:pos≤text.length) (IH:sI text B Q p (n+1))
 (h1:text.drop pos = []) (h:nD (n+1) pos [] out=p):gD Tryz.prog B 152 A4 (jM Tryz.prog B 152 vl Q) (oo text out pos) (pe out):=by
 have⟨hF,hP,gA,gB⟩:=bF
 have dR:(out.length+1)*41≤bl:=by simp only [bl];omega
 have eQ:decide ((pos:Int)≥(text.length:Int))=true:=by have:=List.drop_eq_nil_iff.1 h1;simp;omega
 have:pos=text.length:=by have:=List.drop_eq_nil_iff.1 h1;omega
 subst this
 simp only [nD]at h
 repeat' (first
 | simp only [go_sem,hF,hP,gA,gB,eQ,dR]
 | (with_reducible first | refine bq fun hc=> ?_ | refine br fun hc=> ?_ | refine bt (fun hc=> ?_) fun hc=> ?_) <;> (try simp only [hc,bs, ↓reduceIte]at h) <;> try simp only [hc]
 | (with_reducible refine aC hQ ?_;(try cases h);simp only [ay,az,bu,bw,go_sem,hF,hP,gA,gB,eQ,dR];repeat' (first | exact Ok.out | with_reducible refine aH ?_ ?_ | (simp;done))))
theorem Rf {text:aD} (hl:text.length≤100000) {B:fz} {Q:Exit→Tm→St→Prop} {p:List fH×Int×Int} (hB:B.s=S0)
 (hQ:iP 0 0 [(2,none),(3,some (true,2))] (.tuple [.slice .shared 4 (p.1.map eC), .agg (mW p.2)]) ⟨[],[]⟩=Q)
 {n pos:Nat} {out:List fH} (ho:out.length≤2000) (hp:pos≤text.length) (IH:sI text B Q p (n+1))
 {c:UInt8} {r:aD} (h1:text.drop pos=c::r) (hb:zO c=true) (hn:(c::r).length<n+1) (h:nD (n+1) pos (c::r) out=p) :
 gD Tryz.prog B 152 A4 (jM Tryz.prog B 152 vl Q) (oo text out pos) (pe out):=by
 have gA:0<1:=Nat.zero_lt_one
 have gB:0<1:=Nat.zero_lt_one
 obtain⟨hP,g2,g3,g4⟩:=drop_cons h1
 have hF:pos<4611686018427387904:=by omega
 have eQ:decide ((pos:Int)≥(text.length:Int))=false:=by simp;omega
 simp only [nD,hb, ↓reduceIte]at h
 have oe:r.length<n:=by simp only [List.length_cons]at hn;omega
 have e : ∀ x y:Int,(x==y)=false→(x==y)=true→False:=fun x y a b=>by rw [a]at b;cases b
 simp only [zO]at hb
 repeat' (first
 | simp only [go_sem,hF,hP,gA,gB,eQ]
 | (refine IH.to hB g2 h oe ho g4 (Nat.lt_succ_self _) ?_ ?_ ?_ <;> ((try simp only [go_sem,hF,hP,gA,gB]);repeat' (first | exact Ok.out | with_reducible refine aH ?_ ?_ | omega | (simp;done)));done)
 | (with_reducible first | refine bq fun hc=> ?_ | refine br fun hc=> ?_ | refine bt (fun hc=> ?_) fun hc=> ?_) <;> (try simp only [hc,bs, ↓reduceIte]at h) <;> try simp only [hc]
 | (with_reducible refine aC hQ ?_;simp only [ay,az,bu,bw,go_sem,hF,hP,gA,gB];repeat' (first | exact Ok.out | with_reducible refine aH ?_ ?_ | (simp;done))))
 all_goals (exfalso;simp_all;done)
theorem OY {text:aD} (hl:text.length≤100000) {B:fz} {Q:Exit→Tm→St→Prop} {p:List fH×Int×Int} (hB:B.s=S0)
 (hQ:iP 0 0 [(2,none),(3,some (true,2))] (.tuple [.slice .shared 4 (p.1.map eC), .agg (mW p.2)]) ⟨[],[]⟩=Q)
 {n pos:Nat} {out:List fH} (ho:out.length≤2000) (hp:pos≤text.length) (IH:sI text B Q p (n+1))
 {c:UInt8} {r:aD} (h1:text.drop pos=c::r) (hb:zO c=false) (hc:((c.toNat:Int)==35)=true) (hn:(c::r).length<n+1) (h:nD (n+1) pos (c::r) out=p) :
 gD Tryz.prog B 152 A4 (jM Tryz.prog B 152 vl Q) (oo text out pos) (pe out):=by
 have gA:0<1:=Nat.zero_lt_one
 have gB:0<1:=Nat.zero_lt_one
 have yW:=(drop_cons h1).1
 have hP:=yW
 have g4:=(drop_cons h1).2.2.2
 have hF:pos<4611686018427387904:=by omega
 have eQ:decide ((pos:Int)≥(text.length:Int))=false:=by simp;omega
 simp only [nD,hb,Bool.false_eq_true, ↓reduceIte,hc]at h
 simp only [zO,Bool.or_eq_false_iff]at hb
 have hk:=Re (r:=r) hc
 have bW:=Gt (c::r)
 have qD:(c::r).length=text.length - pos:=by rw [← h1,List.length_drop]
 generalize hL:p6 (c::r)=L at h hk bW
 repeat' (first
 | simp only [go_sem,hF,hP,gA,gB,eQ,hb.1.1.1,hb.1.1.2,hb.1.2,hb.2,hc]
 | (with_reducible refine cj (l:=1) (by with_unfolding_all rfl) ?_)
 | (with_reducible refine aC hQ ?_;simp only [ay,az,Option.some.injEq,exists_eq_left',go_sem,hF,hP,gA,gB];repeat' (first | exact Ok.out | with_reducible refine aH ?_ ?_ | (simp;done))))
 refine cO 2 1 (bh.ind (ι:=aD×Nat) (fun i=>text.drop i.2=i.1∧i.2+p6 i.1=pos+L) (fun i=>i.1.length)
  (fun i=>oo text out i.2) (fun i=>pe out) ?_ (c::r,pos) ⟨h1,by dsimp only;omega⟩)
 rintro⟨rest,k⟩ ⟨j1,j2⟩ IHl
 dsimp only at j1 j2
 have fin:text.drop (pos+L)=(c::r).drop L:=by rw [← h1,List.drop_drop]
 have hlen:((c::r).drop L).length<n:=by rw [List.length_drop];omega
 cases rest with
 | nil=>
  have eQ:=drop_nil j1
  simp only [p6,Nat.add_zero]at j2
  subst j2
  repeat' (first
 | simp only [go_sem,hF,hP,gA,gB,eQ]
 | (refine IH.to hB fin h hlen ho (by omega) (Nat.lt_succ_self _) ?_ ?_ ?_ <;> ((try simp only [go_sem,hF,hP,gA,gB]);repeat' (first | exact Ok.out | with_reducible refine aH ?_ ?_ | omega | (simp;done)));done)
 | (with_reducible refine aC hQ ?_;simp only [ay,az,Option.some.injEq,exists_eq_left',go_sem,hF,hP,gA,gB];repeat' (first | exact Ok.out | with_reducible refine aH ?_ ?_ | (simp;done))))
 | cons d rest=>
  obtain⟨hP,g2,eQ,g5⟩:=drop_cons j1
  have hF:k<4611686018427387904:=by omega
  cases hd:((d.toNat:Int) != 10)
  ·simp only [p6,hd,Bool.false_eq_true, ↓reduceIte,Nat.add_zero]at j2
   subst j2
   repeat' (first
 | simp only [go_sem,hF,hP,gA,gB,eQ,hd]
 | (refine IH.to hB fin h hlen ho (by omega) (Nat.lt_succ_self _) ?_ ?_ ?_ <;> ((try simp only [go_sem,hF,hP,gA,gB]);repeat' (first | exact Ok.out | with_reducible refine aH ?_ ?_ | omega | (simp;done)));done)
 | (with_reducible refine aC hQ ?_;simp only [ay,az,Option.some.injEq,exists_eq_left',go_sem,hF,hP,gA,gB];repeat' (first | exact Ok.out | with_reducible refine aH ?_ ?_ | (simp;done))))
  ·simp only [p6,hd, ↓reduceIte]at j2
   repeat' (first
 | simp only [go_sem,hF,hP,gA,gB,eQ,hd]
 | (with_reducible refine aC hQ ?_;simp only [ay,az,Option.some.injEq,exists_eq_left',go_sem,hF,hP,gA,gB];repeat' (first | exact Ok.out | with_reducible refine aH ?_ ?_ | (simp;done))))
   refine cO 2 1 (IHl (rest,k+1) ⟨g2,by dsimp only;omega⟩ (Nat.lt_succ_self _))
theorem UN {text:aD} (hl:text.length≤100000) {B:fz} {Q:Exit→Tm→St→Prop} {p:List fH×Int×Int} (hB:B.s=S0)
 (hQ:iP 0 0 [(2,none),(3,some (true,2))] (.tuple [.slice .shared 4 (p.1.map eC), .agg (mW p.2)]) ⟨[],[]⟩=Q)
 {n pos:Nat} {out:List fH} (ho:out.length≤2000) (hp:pos≤text.length) (IH:sI text B Q p (n+1))
 {c:UInt8} {r:aD} (h1:text.drop pos=c::r) (hb:zO c=false) (hc:((c.toNat:Int)==35)=false) (hL:qX c=false) (hD:pz c=false) (hn:(c::r).length<n+1) (h:nD (n+1) pos (c::r) out=p) :
 gD Tryz.prog B 152 A4 (jM Tryz.prog B 152 vl Q) (oo text out pos) (pe out):=by
 have gA:0<1:=Nat.zero_lt_one
 have gB:0<1:=Nat.zero_lt_one
 have hP:=(drop_cons h1).1
 have g4:=(drop_cons h1).2.2.2
 have hF:pos<4611686018427387904:=by omega
 have eQ:decide ((pos:Int)≥(text.length:Int))=false:=by simp;omega
 have dR:(out.length+1)*41≤bl:=by simp only [bl];omega
 have H3:=fun s=>acB h1 (by omega) s
 have bW:=Rc (c::r)
 have qD:(c::r).length=text.length - pos:=by rw [← h1,List.length_drop]
 simp only [nD,hb,Bool.false_eq_true, ↓reduceIte,hc,OE,hL,hD]at h
 simp only [zO,Bool.or_eq_false_iff]at hb
 generalize hK:sF (c::r)=k at h H3 bW
 have e1:IntKind.wrap .i64 ((pos:Int)+(k:Int))=((pos+k:Nat):Int):=by rw [cV] <;> omega
 have e2:(0:Int)≤(pos:Int)∧(pos:Int)≤((pos+k:Nat):Int)∧((pos+k:Nat):Int)≤(text.length:Int):=by omega
 have e3:(text.take (pos+k)).drop pos=(c::r).take k:=by rw [yV,h1]
 by_cases hz:k=0
 ·have nX:decide (((pos+k:Nat):Int) > (pos:Int))=false:=by simp;omega
  simp only [hz, ↓reduceIte]at h
  repeat' (first
 | simp only [go_sem,hF,hP,gA,gB,eQ,hb.1.1.1,hb.1.1.2,hb.1.2,hb.2,hc,hL,hD,e1,e2,e3,nX]
 | (with_reducible refine CU (iw _ _) ?_)
 | (with_reducible refine CU (jH _ _) ?_)
 | (with_reducible refine CU (H3 _) ?_)
 | (with_reducible refine cj (l:=4) (by with_unfolding_all rfl) ?_)
 | (with_reducible refine cj (l:=5) (by with_unfolding_all rfl) ?_)
 | (with_reducible first | refine bq fun hc=> ?_ | refine br fun hc=> ?_ | refine bt (fun hc=> ?_) fun hc=> ?_) <;> (try simp only [hc,bs, ↓reduceIte]at h) <;> try simp only [hc]
 | (with_reducible refine aC hQ ?_;(try cases h);simp only [ay,az,bu,bw,go_sem,hF,hP,gA,gB,eQ,hb.1.1.1,hb.1.1.2,hb.1.2,hb.2,hc,hL,hD,e1,e2,e3,nX];repeat' (first | exact Ok.out | with_reducible refine aH ?_ ?_ | (simp;done))))
 ·have nX:decide (((pos+k:Nat):Int) > (pos:Int))=true:=by simp;omega
  have hlen:((c::r).take k).length=k:=by rw [List.length_take];omega
  have fin:text.drop (pos+k)=(c::r).drop k:=by rw [← h1,List.drop_drop]
  have uy:((c::r).drop k).length<n:=by rw [List.length_drop];omega
  simp only [hz, ↓reduceIte,hlen]at h
  by_cases rK:out.length=2000
  ·have j8:((out.length:Int)==2000)=true:=by simp [rK]
   simp only [rK, ↓reduceIte]at h
   repeat' (first
 | simp only [go_sem,hF,hP,gA,gB,eQ,hb.1.1.1,hb.1.1.2,hb.1.2,hb.2,hc,hL,hD,e1,e2,e3,nX,j8]
 | (with_reducible refine CU (iw _ _) ?_)
 | (with_reducible refine CU (jH _ _) ?_)
 | (with_reducible refine CU (H3 _) ?_)
 | (with_reducible refine cj (l:=4) (by with_unfolding_all rfl) ?_)
 | (with_reducible refine cj (l:=5) (by with_unfolding_all rfl) ?_)
 | (with_reducible first | refine bq fun hc=> ?_ | refine br fun hc=> ?_ | refine bt (fun hc=> ?_) fun hc=> ?_) <;> (try simp only [hc,bs, ↓reduceIte]at h) <;> try simp only [hc]
 | (with_reducible refine aC hQ ?_;(try cases h);simp only [ay,az,bu,bw,go_sem,hF,hP,gA,gB,eQ,hb.1.1.1,hb.1.1.2,hb.1.2,hb.2,hc,hL,hD,e1,e2,e3,nX,j8];repeat' (first | exact Ok.out | with_reducible refine aH ?_ ?_ | (simp;done))))
  ·have j8:((out.length:Int)==2000)=false:=by simp;omega
   have Cq : ∀ t:fH,(out++ [t]).length≤2000:=by intro t;simp;omega
   simp only [rK, ↓reduceIte]at h
   repeat' (first
 | simp only [go_sem,hF,hP,gA,gB,eQ,hb.1.1.1,hb.1.1.2,hb.1.2,hb.2,hc,hL,hD,e1,e2,e3,nX,j8,dR]
 | (with_reducible refine CU (iw _ _) ?_)
 | (with_reducible refine CU (jH _ _) ?_)
 | (with_reducible refine CU (H3 _) ?_)
 | (with_reducible refine cj (l:=4) (by with_unfolding_all rfl) ?_)
 | (with_reducible refine cj (l:=5) (by with_unfolding_all rfl) ?_)
 | (refine IH.to hB fin h uy (Cq _) (by omega) (Nat.lt_succ_self _) ?_ ?_ ?_ <;> ((try simp only [go_sem,hF,hP,gA,gB]);repeat' (first | exact Ok.out | with_reducible refine aH ?_ ?_ | omega | (simp;done)));done)
 | (with_reducible refine aC hQ ?_;simp only [ay,az,bu,bw,go_sem,hF,hP,gA,gB];repeat' (first | exact Ok.out | with_reducible refine aH ?_ ?_ | (simp;done))))
theorem UO {text:aD} (hl:text.length≤100000) {B:fz} {Q:Exit→Tm→St→Prop} {p:List fH×Int×Int} (hB:B.s=S0)
 (hQ:iP 0 0 [(2,none),(3,some (true,2))] (.tuple [.slice .shared 4 (p.1.map eC), .agg (mW p.2)]) ⟨[],[]⟩=Q)
 {n pos:Nat} {out:List fH} (ho:out.length≤2000) (hp:pos≤text.length) (IH:sI text B Q p (n+1))
 {c:UInt8} {r:aD} (h1:text.drop pos=c::r) (hb:zO c=false) (hc:((c.toNat:Int)==35)=false) (hL:qX c=true) (hn:(c::r).length<n+1) (h:nD (n+1) pos (c::r) out=p) :
 gD Tryz.prog B 152 A4 (jM Tryz.prog B 152 vl Q) (oo text out pos) (pe out):=by
 have gA:0<1:=Nat.zero_lt_one
 have gB:0<1:=Nat.zero_lt_one
 have hP:=(drop_cons h1).1
 have g4:=(drop_cons h1).2.2.2
 have hF:pos<4611686018427387904:=by omega
 have eQ:decide ((pos:Int)≥(text.length:Int))=false:=by simp;omega
 have dR:(out.length+1)*41≤bl:=by simp only [bl];omega
 have du:=fun s=>XM (text:=text) (pos:=pos) (by omega) s
 rw [h1]at du
 have bW:=JE (c::r)
 have uN:=UM (r:=r) hL
 have qD:(c::r).length=text.length - pos:=by rw [← h1,List.length_drop]
 simp only [nD,hb,Bool.false_eq_true, ↓reduceIte,hc,OE,hL]at h
 simp only [zO,Bool.or_eq_false_iff]at hb
 generalize hK:lD (c::r)=k at h du bW uN
 have hlen:((c::r).take k).length=k:=by rw [List.length_take];omega
 simp only [hlen]at h
 have e1:IntKind.wrap .i64 (((pos+k:Nat):Int) - (pos:Int))=(k:Int):=by rw [cV] <;> omega
 have e2:(0:Int)≤(pos:Int)∧(pos:Int)≤((pos+k:Nat):Int)∧((pos+k:Nat):Int)≤(text.length:Int):=by omega
 have e3:(text.take (pos+k)).drop pos=(c::r).take k:=by rw [yV,h1]
 by_cases hz:k > 8
 ·have nX:decide ((k:Int) > 8)=true:=by simp;omega
  simp only [hz, ↓reduceIte]at h
  cases hw:isWord ((c::r).take k)
  ·repeat' (first
 | simp only [go_sem,hF,hP,gA,gB,eQ,hb.1.1.1,hb.1.1.2,hb.1.2,hb.2,hc,hL,e1,e2,e3,nX,hw]
 | (with_reducible refine CU (iw _ _) ?_)
 | (with_reducible refine CU (du _) ?_)
 | (with_reducible refine CU (vn _ _) ?_)
 | (with_reducible refine cj (l:=2) (by with_unfolding_all rfl) ?_)
 | (with_reducible refine cj (l:=4) (by with_unfolding_all rfl) ?_)
 | (with_reducible refine cj (l:=5) (by with_unfolding_all rfl) ?_)
 | (with_reducible first | refine bq fun hc=> ?_ | refine br fun hc=> ?_ | refine bt (fun hc=> ?_) fun hc=> ?_) <;> (try simp only [hc,bs, ↓reduceIte]at h) <;> try simp only [hc]
 | (with_reducible refine aC hQ ?_;(try cases h);simp only [ay,az,bu,bw,go_sem,hF,hP,gA,gB,eQ,hb.1.1.1,hb.1.1.2,hb.1.2,hb.2,hc,hL,e1,e2,e3,nX,hw];repeat' (first | exact Ok.out | with_reducible refine aH ?_ ?_ | (simp;done))))
  ·repeat' (first
 | simp only [go_sem,hF,hP,gA,gB,eQ,hb.1.1.1,hb.1.1.2,hb.1.2,hb.2,hc,hL,e1,e2,e3,nX,hw]
 | (with_reducible refine CU (iw _ _) ?_)
 | (with_reducible refine CU (du _) ?_)
 | (with_reducible refine CU (vn _ _) ?_)
 | (with_reducible refine cj (l:=2) (by with_unfolding_all rfl) ?_)
 | (with_reducible refine cj (l:=4) (by with_unfolding_all rfl) ?_)
 | (with_reducible refine cj (l:=5) (by with_unfolding_all rfl) ?_)
 | (with_reducible first | refine bq fun hc=> ?_ | refine br fun hc=> ?_ | refine bt (fun hc=> ?_) fun hc=> ?_) <;> (try simp only [hc,bs, ↓reduceIte]at h) <;> try simp only [hc]
 | (with_reducible refine aC hQ ?_;(try cases h);simp only [ay,az,bu,bw,go_sem,hF,hP,gA,gB,eQ,hb.1.1.1,hb.1.1.2,hb.1.2,hb.2,hc,hL,e1,e2,e3,nX,hw];repeat' (first | exact Ok.out | with_reducible refine aH ?_ ?_ | (simp;done))))
 ·have nX:decide ((k:Int) > 8)=false:=by simp;omega
  have fin:text.drop (pos+k)=(c::r).drop k:=by rw [← h1,List.drop_drop]
  have uy:((c::r).drop k).length<n:=by rw [List.length_drop];omega
  simp only [hz, ↓reduceIte,hlen]at h
  by_cases rK:out.length=2000
  ·have j8:((out.length:Int)==2000)=true:=by simp [rK]
   simp only [rK, ↓reduceIte]at h
   cases hw:isWord ((c::r).take k)
   ·repeat' (first
 | simp only [go_sem,hF,hP,gA,gB,eQ,hb.1.1.1,hb.1.1.2,hb.1.2,hb.2,hc,hL,e1,e2,e3,nX,j8,hw]
 | (with_reducible refine CU (iw _ _) ?_)
 | (with_reducible refine CU (du _) ?_)
 | (with_reducible refine CU (vn _ _) ?_)
 | (with_reducible refine cj (l:=2) (by with_unfolding_all rfl) ?_)
 | (with_reducible refine cj (l:=4) (by with_unfolding_all rfl) ?_)
 | (with_reducible refine cj (l:=5) (by with_unfolding_all rfl) ?_)
 | (with_reducible first | refine bq fun hc=> ?_ | refine br fun hc=> ?_ | refine bt (fun hc=> ?_) fun hc=> ?_) <;> (try simp only [hc,bs, ↓reduceIte]at h) <;> try simp only [hc]
 | (with_reducible refine aC hQ ?_;(try cases h);simp only [ay,az,bu,bw,go_sem,hF,hP,gA,gB,eQ,hb.1.1.1,hb.1.1.2,hb.1.2,hb.2,hc,hL,e1,e2,e3,nX,j8,hw];repeat' (first | exact Ok.out | with_reducible refine aH ?_ ?_ | (simp;done))))
   ·repeat' (first
 | simp only [go_sem,hF,hP,gA,gB,eQ,hb.1.1.1,hb.1.1.2,hb.1.2,hb.2,hc,hL,e1,e2,e3,nX,j8,hw]
 | (with_reducible refine CU (iw _ _) ?_)
 | (with_reducible refine CU (du _) ?_)
 | (with_reducible refine CU (vn _ _) ?_)
 | (with_reducible refine cj (l:=2) (by with_unfolding_all rfl) ?_)
 | (with_reducible refine cj (l:=4) (by with_unfolding_all rfl) ?_)
 | (with_reducible refine cj (l:=5) (by with_unfolding_all rfl) ?_)
 | (with_reducible first | refine bq fun hc=> ?_ | refine br fun hc=> ?_ | refine bt (fun hc=> ?_) fun hc=> ?_) <;> (try simp only [hc,bs, ↓reduceIte]at h) <;> try simp only [hc]
 | (with_reducible refine aC hQ ?_;(try cases h);simp only [ay,az,bu,bw,go_sem,hF,hP,gA,gB,eQ,hb.1.1.1,hb.1.1.2,hb.1.2,hb.2,hc,hL,e1,e2,e3,nX,j8,hw];repeat' (first | exact Ok.out | with_reducible refine aH ?_ ?_ | (simp;done))))
  ·have j8:((out.length:Int)==2000)=false:=by simp;omega
   have Cq : ∀ t:fH,(out++ [t]).length≤2000:=by intro t;simp;omega
   simp only [rK, ↓reduceIte]at h
   cases hw:isWord ((c::r).take k)
   ·simp only [hw,Bool.false_eq_true, ↓reduceIte]at h
    repeat' (first
 | simp only [go_sem,hF,hP,gA,gB,eQ,hb.1.1.1,hb.1.1.2,hb.1.2,hb.2,hc,hL,e1,e2,e3,nX,j8,dR,hw]
 | (with_reducible refine CU (iw _ _) ?_)
 | (with_reducible refine CU (du _) ?_)
 | (with_reducible refine CU (vn _ _) ?_)
 | (with_reducible refine cj (l:=2) (by with_unfolding_all rfl) ?_)
 | (with_reducible refine cj (l:=4) (by with_unfolding_all rfl) ?_)
 | (with_reducible refine cj (l:=5) (by with_unfolding_all rfl) ?_)
 | (refine IH.to hB fin h uy (Cq _) (by omega) (Nat.lt_succ_self _) ?_ ?_ ?_ <;> ((try simp only [go_sem,hF,hP,gA,gB]);repeat' (first | exact Ok.out | with_reducible refine aH ?_ ?_ | omega | (simp;done)));done)
 | (with_reducible first | refine bq fun hc=> ?_ | refine br fun hc=> ?_ | refine bt (fun hc=> ?_) fun hc=> ?_) <;> (try simp only [hc,bs, ↓reduceIte]at h) <;> try simp only [hc]
 | (with_reducible refine aC hQ ?_;(try cases h);simp only [ay,az,bu,bw,go_sem,hF,hP,gA,gB,eQ,hb.1.1.1,hb.1.1.2,hb.1.2,hb.2,hc,hL,e1,e2,e3,nX,j8,dR,hw];repeat' (first | exact Ok.out | with_reducible refine aH ?_ ?_ | (simp;done))))
   ·simp only [hw, ↓reduceIte]at h
    repeat' (first
 | simp only [go_sem,hF,hP,gA,gB,eQ,hb.1.1.1,hb.1.1.2,hb.1.2,hb.2,hc,hL,e1,e2,e3,nX,j8,dR,hw]
 | (with_reducible refine CU (iw _ _) ?_)
 | (with_reducible refine CU (du _) ?_)
 | (with_reducible refine CU (vn _ _) ?_)
 | (with_reducible refine cj (l:=2) (by with_unfolding_all rfl) ?_)
 | (with_reducible refine cj (l:=4) (by with_unfolding_all rfl) ?_)
 | (with_reducible refine cj (l:=5) (by with_unfolding_all rfl) ?_)
 | (refine IH.to hB fin h uy (Cq _) (by omega) (Nat.lt_succ_self _) ?_ ?_ ?_ <;> ((try simp only [go_sem,hF,hP,gA,gB]);repeat' (first | exact Ok.out | with_reducible refine aH ?_ ?_ | omega | (simp;done)));done)
 | (with_reducible refine aC hQ ?_;simp only [ay,az,bu,bw,go_sem,hF,hP,gA,gB];repeat' (first | exact Ok.out | with_reducible refine aH ?_ ?_ | (simp;done))))
end Go.Abs

/-! RefLex1 -/

namespace Go.Abs
set_option maxRecDepth 8000
open Go.Proofs
theorem JH (c:UInt8) (s:St):aB Tryz.prog rh [.int .u8 (c.toNat:Int)] s (.bool (qX c)) s:=by
 refine aB.pure ?_ rfl rfl s
 generalize h:qX c=b
 unfold qX at h
 unfold S0
 refine aB.go FF rfl fun B Q hB hQ=> ?_
 have⟨hF,hP,gA,gB⟩:=bF
 repeat' (first
 | simp only [go_sem,hF,hP,gA,gB]
 | (with_reducible first | refine bq fun hc=> ?_ | refine br fun hc=> ?_ | refine bt (fun hc=> ?_) fun hc=> ?_) <;> (try simp only [hc,bs, ↓reduceIte]at h) <;> try simp only [hc]
 | (with_reducible refine aC hQ ?_;(try cases h);simp only [ay,az,bu,bw,go_sem,hF,hP,gA,gB];repeat' (first | exact Ok.out | with_reducible refine aH ?_ ?_ | (simp;done))))
theorem UP (c:UInt8) (s:St):aB Tryz.prog vf [.int .u8 (c.toNat:Int)] s (.bool (pz c)) s:=by
 refine aB.pure ?_ rfl rfl s
 generalize h:pz c=b
 unfold pz at h
 unfold S0
 refine aB.go FG rfl fun B Q hB hQ=> ?_
 have⟨hF,hP,gA,gB⟩:=bF
 repeat' (first
 | simp only [go_sem,hF,hP,gA,gB]
 | (with_reducible first | refine bq fun hc=> ?_ | refine br fun hc=> ?_ | refine bt (fun hc=> ?_) fun hc=> ?_) <;> (try simp only [hc,bs, ↓reduceIte]at h) <;> try simp only [hc]
 | (with_reducible refine aC hQ ?_;(try cases h);simp only [ay,az,bu,bw,go_sem,hF,hP,gA,gB];repeat' (first | exact Ok.out | with_reducible refine aH ?_ ?_ | (simp;done))))
theorem Y1 (s:St):aB Tryz.prog vg [] s (.slice .shared 1 [[.str [103,108,111,98,97,108]],[.str [112,114,111,99]],[.str [118,97,114]],[.str [114,101,102]],[.str [105,102]],[.str [101,108,115,101]],[.str [119,104,105,108,101]],[.str [98,114,101,97,107]],[.str [99,111,110,116,105,110,117,101]],[.str [114,101,116,117,114,110]],[.str [103,111,116,111]],[.str [114,101,97,100]],[.str [112,114,105,110,116]]]) s:=by
 refine aB.pure ?_ rfl rfl s
 unfold S0
 refine aB.go FH rfl fun B Q hB hQ=> ?_
 have⟨hF,hP,gA,gB⟩:=bF
 repeat' (first
 | simp only [go_sem,hF,hP,gA,gB]
 | (with_reducible refine aC hQ ?_;simp only [ay,az,Option.some.injEq,exists_eq_left',go_sem,hF,hP,gA,gB];repeat' (first | exact Ok.out | with_reducible refine aH ?_ ?_ | (simp;done))))
def BM (s:aD):Bool:=
 [103,108,111,98,97,108] == s || [112,114,111,99] == s || [118,97,114] == s || [114,101,102] == s || [105,102] == s || [101,108,115,101] == s || [119,104,105,108,101] == s || [98,114,101,97,107] == s || [99,111,110,116,105,110,117,101] == s || [114,101,116,117,114,110] == s || [103,111,116,111] == s || [114,101,97,100] == s || [112,114,105,110,116] == s
theorem OZ (s:aD):BM s=isWord s:=by
 have e : ∀ a:aD,(a==s)=(s==a):=fun a=>BEq.comm
 simp only [BM,isWord,e]
theorem Y2 (text:aD) (s:St):aB Tryz.prog w8 [.str text] s (.bool (isWord text)) s:=by
 refine aB.pure ?_ rfl rfl s
 rw [← OZ]
 generalize h:BM text=p
 unfold BM at h
 unfold S0
 refine aB.go HE rfl fun B Q hB hQ=> ?_
 have⟨hF,hP,gA,gB⟩:=bF
 repeat' (first
 | simp only [go_sem,hF,hP,gA,gB,Int.cast_ofNat_Int,cV,Int.reduceAdd,Int.reduceLT,Int.reduceNeg,decide_true,decide_false,Int.reduceToNat]
 | (with_reducible refine CU (Y1 _) ?_)
 | (with_reducible refine bh.o7 ?_)
 | (with_reducible first | refine bq fun hc=> ?_ | refine br fun hc=> ?_ | refine bt (fun hc=> ?_) fun hc=> ?_) <;> (try simp only [hc,bs, ↓reduceIte]at h) <;> try simp only [hc]
 | (with_reducible refine aC hQ ?_;(try cases h);simp only [ay,az,bu,bw,go_sem,hF,hP,gA,gB,Int.cast_ofNat_Int,cV,Int.reduceAdd,Int.reduceLT,Int.reduceNeg,decide_true,decide_false,Int.reduceToNat];repeat' (first | exact Ok.out | with_reducible refine aH ?_ ?_ | (simp;done))))
end Go.Abs

/-! Prs2 -/

namespace Go.Abs
set_option maxRecDepth 8000
open Go.Proofs
theorem aqe {t:fH} {p:Int×Int} (h:qW t=p):aB Tryz.prog ux [.agg (eC t)] S0 (.tuple [.int .i64 p.1, .int .i64 p.2]) S0:=by
 unfold qW at h
 unfold S0
 refine aB.go JB rfl fun B Q hB hQ=> ?_
 have⟨hF,hP,gA,gB⟩:=bF
 repeat' (first
 | simp only [go_sem,hF,hP,gA,gB]
 | (with_reducible first | refine bq fun hc=> ?_ | refine br fun hc=> ?_ | refine bt (fun hc=> ?_) fun hc=> ?_) <;> (try simp only [hc,bs, ↓reduceIte]at h) <;> try simp only [hc]
 | (with_reducible refine aC hQ ?_;(try cases h);simp only [ay,az,bu,bw,go_sem,hF,hP,gA,gB];repeat' (first | exact Ok.out | with_reducible refine aH ?_ ?_ | (simp;done))))
theorem Y3 : ∀ n,n<4611686018427387904→∀ x:Ex,x.size≤n→aB Tryz.prog lG [.agg (bx x)] S0 (.int .i64 (x.depth:Int)) S0:=by
 intro n
 induction n with
 | zero=>rintro _ ⟨op,m,name,kids⟩ h;simp only [Ex.size]at h;omega
 | succ n Rg=>
 rintro hn ⟨op,m,name,kids⟩ hx
 have hk : ∀ y∈kids,aB Tryz.prog lG [.agg (bx y)] S0 (.int .i64 (y.depth:Int)) S0:=fun y hy=>Rg (by omega) y (by simp only [Ex.size]at hx;have:=Ex.bT hy;omega)
 have hlen:kids.length<4611686018427387904:=by simp only [Ex.size]at hx;have:=Ex.cM kids;omega
 have Nh:Ex.gR kids<4611686018427387904:=by have:=Ex.OC _ _ hx;simp only [Ex.depth]at this;omega
 unfold S0
 refine aB.go DZ rfl fun B Q hB hQ=> ?_
 have⟨hF,hP,gA,gB⟩:=bF
 repeat' (first
 | simp only [go_sem,hF,hP,gA,gB]
 | (with_reducible first | refine bq fun hc=> ?_ | refine br fun hc=> ?_ | refine bt (fun hc=> ?_) fun hc=> ?_) <;> (try simp only [hc,bs, ↓reduceIte]at h) <;> try simp only [hc]
 | (with_reducible refine aC hQ ?_;simp only [ay,az,bu,bw,go_sem,hF,hP,gA,gB];repeat' (first | exact Ok.out | with_reducible refine aH ?_ ?_ | (simp;done))))
 refine cO 0 0 (bh.ind (ι:=List Ex×Nat×Nat) (fun i=>kids.drop i.2.1=i.1∧max i.2.2 (Ex.gR i.1)=Ex.gR kids) (fun i=>i.1.length)
  (fun i=> [(3, .int .i64 (i.2.2:Int)),(7, .slice .shared 4 (kids.map bx)),(8, .int .i64 (kids.length:Int)),(9, .int .i64 (i.2.1:Int))]) (fun _=>S0) ?_ (kids,0,0) ⟨rfl,by simp⟩)
 rintro⟨rest,k,acc⟩ ⟨h1,h2⟩ IH
 unfold S0
 cases rest with
 | nil=>
  have hF:=drop_nil h1
  simp only [Ex.gR,Nat.max_zero]at h2
  subst h2
  repeat' (first
 | simp only [go_sem,hF,hP,gA,gB,aJ Nh,Ex.depth]
 | (with_reducible first | refine bq fun hc=> ?_ | refine br fun hc=> ?_ | refine bt (fun hc=> ?_) fun hc=> ?_) <;> (try simp only [hc,bs, ↓reduceIte]at h) <;> try simp only [hc]
 | (with_reducible refine aC hQ ?_;simp only [ay,az,bu,bw,go_sem,hF,hP,gA,gB,aJ Nh,Ex.depth];repeat' (first | exact Ok.out | with_reducible refine aH ?_ ?_ | (simp;done))))
 | cons y rest=>
  obtain⟨g1,g2,hF,g4⟩:=drop_cons h1
  simp only [Ex.gR]at h2
  have hy:=fun s=>(hk y (List.mem_of_getElem? g1)).pure (by simp [D.bp,D.ok,gL]) rfl s
  dsimp only at g1 g2 hF g4 h2
  repeat' (first
 | simp only [go_sem,hF,hP,gA,gB,g1]
 | (with_reducible refine CU (hy _) ?_)
 | (with_reducible refine aC hQ ?_;simp only [ay,az,bu,bw,go_sem,hF,hP,gA,gB];repeat' (first | exact Ok.out | with_reducible refine aH ?_ ?_ | (simp;done))))
  refine dH 0 0 ?_ ?_ (IH (rest,k+1,max acc y.depth) ⟨g2,by dsimp only;omega⟩ (by simp))
  ·(simp only [go_sem,hF,hP,gA,gB,mx,aJ (show k<4611686018427387904 by omega)];try exact bH)
  ·(simp only [go_sem,hF,hP,gA,gB,mx,aJ (show k<4611686018427387904 by omega)];try exact bH)
theorem Y4 {x:Ex} {d:Int} (h:Jm x=some d) (s:St):aB Tryz.prog lG [.agg (bx x)] s (.int .i64 d) s:=by
 unfold Jm at h
 split at h
 ·cases h;exact(Y3 x.size ‹_› x (Nat.le_refl _)).pure (by simp [D.bp,D.ok,gL]) rfl s
 ·cases h
theorem aqf (t:fH) (s:St):aB Tryz.prog ux [.agg (eC t)] s (.tuple [.int .i64 (qW t).1, .int .i64 (qW t).2]) s:=(aqe rfl).pure rfl rfl s
theorem agi {c:Prop} [Decidable c] {α:Type} {P:α→Prop} {a b:α} (ha:P a) (hb:P b):P (if c then a else b):=by
 by_cases h:c
 ·rw [if_pos h];exact ha
 ·rw [if_neg h];exact hb
def OpR (p:Int×Int):Prop:=0≤p.2∧p.2≤6
theorem UQ (t:fH):OpR (qW t):=by
 unfold qW
 repeat' with_reducible refine agi (P:=OpR) ?_ ?_
 all_goals exact⟨by decide,by decide⟩
theorem LN (t:fH):IntKind.wrap .i64 ((qW t).2+1)=(qW t).2+1:=by
 have:0≤(qW t).2∧(qW t).2≤6:=UQ t
 rw [cV] <;> omega
abbrev H4 (m:Nat):Prop:=∀ {r:Rd} {p:Ex×Rd},Rd.one m r=some p→∀ {s:St} {o:Nat},s.aw[o]? = some (cy r)→aB Tryz.prog jU [.ptr o 0] s (.agg (bx p.1)) ⟨s.aw.set o (cy p.2),s.aA⟩
abbrev H5 (m:Nat):Prop:=∀ {k:Int} {r:Rd} {p:Ex×Rd},Rd.two m k r=some p→∀ {s:St} {o:Nat},s.aw[o]? = some (cy r)→aB Tryz.prog iY [.ptr o 0, .int .i64 k] s (.agg (bx p.1)) ⟨s.aw.set o (cy p.2),s.aA⟩
theorem UR {m:Nat} (H6:H4 m) (D4:H5 m):H4 (m+1):=by
 intro r p h s o ho
 refine aB.kl ?_ rfl (fP r) (fP p.2) (by simp [D.ok,gL]) ho
 unfold Rd.one at h
 refine aB.go yT rfl fun B Q hB hQ=> ?_
 have⟨hF,hP,gA,gB⟩:=bF
 repeat' (first
 | simp only [go_sem,hF,hP,gA,gB]
 | (rw [Option.bind_eq_some_iff]at h;obtain⟨_,h1,h⟩:=h;first | (with_reducible refine CU (oT h1 (by with_unfolding_all rfl)) ?_;have hF:=sb h1) | (with_reducible refine CU (s9 h1 (by with_unfolding_all rfl)) ?_) | (with_reducible refine CU (D4 h1 (by with_unfolding_all rfl)) ?_) | (with_reducible refine CU (pS h1 (by with_unfolding_all rfl)) ?_) | (with_reducible refine CU (H6 h1 (by with_unfolding_all rfl)) ?_) | (with_reducible refine CU (D3 h1 (by with_unfolding_all rfl)) ?_))
 | (with_reducible refine CU (kz (by with_unfolding_all rfl)) ?_)
 | (with_reducible first | refine bq fun hc=> ?_ | refine br fun hc=> ?_ | refine bt (fun hc=> ?_) fun hc=> ?_) <;> (try simp only [hc,bs, ↓reduceIte]at h) <;> try simp only [hc]
 | (with_reducible refine aC hQ ?_;(try cases h);simp only [ay,az,bu,bw,go_sem,hF,hP,gA,gB];repeat' (first | exact Ok.out | with_reducible refine aH ?_ ?_ | (simp;done))))
theorem US {m:Nat} (H6:H4 m) (D4 : ∀ j<m,H5 j):H5 (m+1):=by
 intro k r p h s o ho
 refine aB.kl ?_ rfl (fP r) (fP p.2) (by simp [D.ok,gL]) ho
 unfold Rd.two at h
 refine aB.go yS rfl fun B Q hB hQ=> ?_
 have⟨hF,hP,gA,gB⟩:=bF
 repeat' (first
 | simp only [go_sem,hF,hP,gA,gB]
 | (rw [Option.bind_eq_some_iff]at h;obtain⟨_,h1,h⟩:=h;first | (with_reducible refine CU (H6 h1 (by with_unfolding_all rfl)) ?_))
 | (with_reducible refine aC hQ ?_;simp only [ay,az,bu,bw,go_sem,hF,hP,gA,gB];repeat' (first | exact Ok.out | with_reducible refine aH ?_ ?_ | (simp;done))))
 refine cO 3 0 (bh.ind (ι:=Nat×Ex×Rd) (fun i=>Rd.Fq i.1 k i.2.1 i.2.2=some p∧i.1≤m) (fun i=>i.1)
  (fun i=> [(0, .ptr 0 0),(1, .int .i64 k),(4, .ptr 1 0),(5, .ptr 2 0)]) (fun i=>⟨[cy i.2.2,bx nu,bx i.2.1],[]⟩) ?_ (m,_,_) ⟨h,Nat.le_refl _⟩)
 rintro⟨n,x,r⟩ ⟨h,hn⟩ IH
 cases n with
 | zero=>simp only [Rd.Fq]at h;cases h
 | succ n=>
  have agj:=@D4 n (by omega)
  simp only [Rd.Fq]at h
  repeat' (first
 | simp only [go_sem,hF,hP,gA,gB,LN]
 | (rw [Option.bind_eq_some_iff]at h;obtain⟨_,h1,h⟩:=h;first | (with_reducible refine CU (oT h1 (by with_unfolding_all rfl)) ?_;have hF:=sb h1) | (with_reducible refine CU (agj h1 (by with_unfolding_all rfl)) ?_))
 | (with_reducible refine CU (kz (by with_unfolding_all rfl)) ?_)
 | (with_reducible refine CU (aqf _ _) ?_)
 | (with_reducible first | refine bq fun hc=> ?_ | refine br fun hc=> ?_ | refine bt (fun hc=> ?_) fun hc=> ?_) <;> (try simp only [hc,bs, ↓reduceIte]at h) <;> try simp only [hc]
 | (with_reducible refine aC hQ ?_;(try cases h);simp only [ay,az,bu,bw,go_sem,hF,hP,gA,gB,LN];repeat' (first | exact Ok.out | with_reducible refine aH ?_ ?_ | (simp;done))))
  refine cO 3 0 (IH (n,_,_) ⟨h,by dsimp only at hn ⊢;omega⟩ (Nat.lt_succ_self _))
theorem Y5 : ∀ n,∀ m<n,H4 m∧H5 m:=by
 intro n
 induction n with
 | zero=>intro m h;exact absurd h (Nat.not_lt_zero _)
 | succ n ih=>
  intro m h
  cases m with
  | zero=>
   refine⟨?_, ?_⟩
   ·intro r p h;simp only [Rd.one]at h;cases h
   ·intro k r p h;simp only [Rd.two]at h;cases h
  | succ m=>
   have hm:=ih m (by omega)
   exact⟨UR hm.1 hm.2,US hm.1 fun j hj=>(ih j (by omega)).2⟩
theorem D4 {m:Nat} {k:Int} {r:Rd} {p:Ex×Rd} (h:Rd.two m k r=some p) {s:St} {o:Nat} (ho:s.aw[o]? = some (cy r)) :
 aB Tryz.prog iY [.ptr o 0, .int .i64 k] s (.agg (bx p.1)) ⟨s.aw.set o (cy p.2),s.aA⟩:=(Y5 (m+1) m (Nat.lt_succ_self _)).2 h ho
theorem BN {n:Nat} {r:Rd} {p:Ex×Rd} (h:Rd.whole n r=some p) {s:St} {o:Nat} (ho:s.aw[o]? = some (cy r)) :
 aB Tryz.prog gy [.ptr o 0] s (.agg (bx p.1)) ⟨s.aw.set o (cy p.2),s.aA⟩:=by
 refine aB.kl ?_ rfl (fP r) (fP p.2) (by simp [D.ok,gL]) ho
 unfold Rd.whole at h
 refine aB.go xg rfl fun B Q hB hQ=> ?_
 have⟨hF,hP,gA,gB⟩:=bF
 repeat' (first
 | simp only [go_sem,hF,hP,gA,gB]
 | (rw [Option.bind_eq_some_iff]at h;obtain⟨_,h1,h⟩:=h;first | (with_reducible refine CU (oT h1 (by with_unfolding_all rfl)) ?_) | (with_reducible refine CU (Y4 h1 _) ?_) | (with_reducible refine CU (D4 h1 (by with_unfolding_all rfl)) ?_))
 | (with_reducible refine CU (kz (by with_unfolding_all rfl)) ?_)
 | (with_reducible first | refine bq fun hc=> ?_ | refine br fun hc=> ?_ | refine bt (fun hc=> ?_) fun hc=> ?_) <;> (try simp only [hc,bs, ↓reduceIte]at h) <;> try simp only [hc]
 | (with_reducible refine aC hQ ?_;(try cases h);simp only [ay,az,bu,bw,go_sem,hF,hP,gA,gB];repeat' (first | exact Ok.out | with_reducible refine aH ?_ ?_ | (simp;done))))
end Go.Abs

/-! Ref1 -/

namespace Go.Abs
set_option maxRecDepth 8000
open Go.Proofs
@[go_sem] def wc (z:D) (r:Rd):List D:= [.slice .shared 4 (r.l.map eC), .int .i64 r.i, .int .i64 r.code, .int .i64 r.vW,z]
class Cell (z:D):Prop where
 ok:D.ok 0 0 z=true
 fg : ∀ n m,D.fg n m z=z
instance (n:Int):Cell (.int .i64 n):=⟨rfl,fun _ _=>rfl⟩
instance:Cell .junk:=⟨rfl,fun _ _=>rfl⟩
theorem Y6 (z:D) [h:Cell z] (n m:Nat):D.fg n m z=z:=h.fg n m
attribute [go_sem] Y6
def Rd.isO (text:aD) (r:Rd):Option Bool:=if r.good then r.is text else some false
end Go.Abs

/-! Ref2 -/

namespace Go.Abs
set_option maxRecDepth 8000
open Go.Proofs
def acD (s:aD):Int×Int:=
 if [42] == s then(6,5)else if [47] == s then(6,6)else if [37] == s then(6,7)else if [43] == s then(5,8)else if [45] == s then(5,9)
 else if [60] == s then(4,10)else if [60,61] == s then(4,11)else if [62] == s then(4,12)else if [62,61] == s then(4,13)
 else if [61,61] == s then(3,14)else if [33,61] == s then(3,15)else if [38,38] == s then(2,16)else if [124,124] == s then(1,17)else(0,0)
abbrev aqZ (m:Nat):Prop:=∀ {z:D} [Cell z] {r:Rd} {p:Ex×Rd},Rd.one m r=some p→∀ {s:St} {o:Nat},s.aw[o]? = some (wc z r)→aB Tryz.prog Fv [.ptr o 0] s (.agg (bx p.1)) ⟨s.aw.set o (wc z p.2),s.aA⟩
abbrev awy (m:Nat):Prop:=∀ {z:D} [Cell z] {k:Int} {x:Ex} {r:Rd} {p:Ex×Rd},Rd.Fq m k x r=some p→∀ {s:St} {o:Nat},s.aw[o]? = some (wc z r)→aB Tryz.prog Hr [.ptr o 0, .agg (bx x), .int .i64 k] s (.agg (bx p.1)) ⟨s.aw.set o (wc z p.2),s.aA⟩
def BZ (p:Int×Int):Prop:=(p.2==0)=(p.1==0)
end Go.Abs

/-! Ref3 -/

namespace Go.Abs
set_option maxRecDepth 8000
open Go.Proofs
theorem acE : ∀ (gw:Nat),gw<1000000→∀ x:Ex,x.size<4611686018427387904→∀ s:St,aB Tryz.prog pP [.agg (bx x), .int .i64 (gw:Int)] s (.int .i64 ((min x.depth (gw+1):Nat):Int)) s:=by
 intro gw
 induction gw with
 | zero=>
  rintro _ ⟨op,m,name,kids⟩ hx s
  refine aB.pure ?_ (by simp [D.bp,D.ok,gL]) rfl s
  have hz:((0:Int)==0)=true:=rfl
  have e:min (Ex.depth ⟨op,m,name,kids⟩) (0+1)=1:=by simp only [Ex.depth];omega
  rw [e]
  unfold S0
  refine aB.go zR rfl fun B Q hB hQ=> ?_
  have⟨hF,hP,gA,gB⟩:=bF
  repeat' (first
 | simp only [go_sem,hF,hP,gA,gB,hz]
 | (with_reducible refine aC hQ ?_;simp only [ay,az,Option.some.injEq,exists_eq_left',go_sem,hF,hP,gA,gB];repeat' (first | exact Ok.out | with_reducible refine aH ?_ ?_ | (simp;done))))
 | succ gw ih=>
  rintro axY ⟨op,m,name,kids⟩ hx s
  refine aB.pure ?_ (by simp [D.bp,D.ok,gL]) rfl s
  have hlen:kids.length<4611686018427387904:=by simp only [Ex.size]at hx;have:=Ex.cM kids;omega
  have hk : ∀ y∈kids,∀ s,aB Tryz.prog pP [.agg (bx y), .int .i64 (gw:Int)] s (.int .i64 ((min y.depth (gw+1):Nat):Int)) s:=fun y hy s=>
   ih (by omega) y (by simp only [Ex.size]at hx;have:=Ex.bT hy;omega) s
  have hz:(((gw+1:Nat):Int)==0)=false:=by simp;omega
  have w1:IntKind.wrap .i64 (((gw+1:Nat):Int) - 1)=(gw:Int):=by rw [cV] <;> omega
  unfold S0
  refine aB.go zR rfl fun B Q hB hQ=> ?_
  have⟨hF,hP,gA,gB⟩:=bF
  repeat' (first
 | simp only [go_sem,hF,hP,gA,gB,hz]
 | (with_reducible refine aC hQ ?_;simp only [ay,az,Option.some.injEq,exists_eq_left',go_sem,hF,hP,gA,gB];repeat' (first | exact Ok.out | with_reducible refine aH ?_ ?_ | (simp;done))))
  refine cO 1 0 (bh.ind (ι:=List Ex×Nat×Nat) (fun i=>kids.drop i.2.1=i.1∧i.2.2≤gw+1∧min (max i.2.2 (Ex.gR i.1)) (gw+1)=min (Ex.gR kids) (gw+1)) (fun i=>i.1.length)
   (fun i=> [(1, .int .i64 ((gw+1:Nat):Int)),(2, .ptr 0 0),(5, .int .i64 (i.2.2:Int)),(6, .int .i64 (i.2.1:Int))]) (fun i=>⟨[bx ⟨op,m,name,kids⟩],[]⟩) ?_ (kids,0,0) ⟨rfl,Nat.zero_le _,by simp⟩)
  rintro⟨rest,k,d⟩ ⟨h1,h2,h3⟩ IH
  dsimp only at h1 h2 h3
  have hd:min (Ex.depth ⟨op,m,name,kids⟩) (gw+1+1)=min (Ex.gR kids) (gw+1)+1:=by simp only [Ex.depth];omega
  rw [hd, ← h3]at hQ
  have w2:IntKind.wrap .i64 ((d:Int)+1)=((d+1:Nat):Int):=by rw [cV] <;> omega
  by_cases ayg:d<gw+1
  ·have c2:decide ((d:Int)<((gw+1:Nat):Int))=true:=by simp;omega
   cases rest with
   | nil=>
    have hF:=drop_nil h1
    simp only [Ex.gR,Nat.max_zero]at hQ
    have e:min d (gw+1)=d:=by omega
    rw [e]at hQ
    repeat' (first
 | simp only [go_sem,hF,hP,gA,gB,c2,w2]
 | (with_reducible refine aC hQ ?_;simp only [ay,az,Option.some.injEq,exists_eq_left',go_sem,hF,hP,gA,gB];repeat' (first | exact Ok.out | with_reducible refine aH ?_ ?_ | (simp;done))))
   | cons y rest=>
    obtain⟨hP,g2,hF,g4⟩:=drop_cons h1
    have hy:=hk y (List.mem_of_getElem? hP)
    simp only [Ex.gR]at h3
    have bW:k<4611686018427387904:=by omega
    by_cases nX:min y.depth (gw+1) > d
    ·have c3:decide (((min y.depth (gw+1):Nat):Int) > (d:Int))=true:=by simp only [decide_eq_true_eq];omega
     repeat' (first
 | simp only [go_sem,hF,hP,gA,gB,c2,w1,c3]
 | (with_reducible refine CU (hy _) ?_)
 | (with_reducible refine aC hQ ?_;simp only [ay,az,Option.some.injEq,exists_eq_left',go_sem,hF,hP,gA,gB];repeat' (first | exact Ok.out | with_reducible refine aH ?_ ?_ | (simp;done))))
     refine dH 1 0 ?_ ?_ (IH (rest,k+1,min y.depth (gw+1)) ⟨g2,by dsimp only;omega,by dsimp only;omega⟩ (Nat.lt_succ_self _))
     ·(simp only [go_sem,hF,hP,gA,gB,aJ bW];try exact bH)
     ·(simp only [go_sem,hF,hP,gA,gB,aJ bW];try exact bH)
    ·have c3:decide (((min y.depth (gw+1):Nat):Int) > (d:Int))=false:=by simp only [decide_eq_false_iff_not];omega
     repeat' (first
 | simp only [go_sem,hF,hP,gA,gB,c2,w1,c3]
 | (with_reducible refine CU (hy _) ?_)
 | (with_reducible refine aC hQ ?_;simp only [ay,az,Option.some.injEq,exists_eq_left',go_sem,hF,hP,gA,gB];repeat' (first | exact Ok.out | with_reducible refine aH ?_ ?_ | (simp;done))))
     refine dH 1 0 ?_ ?_ (IH (rest,k+1,d) ⟨g2,h2,by dsimp only;omega⟩ (Nat.lt_succ_self _))
     ·(simp only [go_sem,hF,hP,gA,gB,aJ bW];try exact bH)
     ·(simp only [go_sem,hF,hP,gA,gB,aJ bW];try exact bH)
  ·have c2:decide ((d:Int)<((gw+1:Nat):Int))=false:=by simp;omega
   have e:min (max d (Ex.gR rest)) (gw+1)=d:=by omega
   rw [e]at hQ
   cases rest with
   | nil=>
    have hF:=drop_nil h1
    repeat' (first
 | simp only [go_sem,hF,hP,gA,gB,c2,w2]
 | (with_reducible refine aC hQ ?_;simp only [ay,az,Option.some.injEq,exists_eq_left',go_sem,hF,hP,gA,gB];repeat' (first | exact Ok.out | with_reducible refine aH ?_ ?_ | (simp;done))))
   | cons y rest=>
    obtain⟨hP,g2,hF,g4⟩:=drop_cons h1
    repeat' (first
 | simp only [go_sem,hF,hP,gA,gB,c2,w2]
 | (with_reducible refine aC hQ ?_;simp only [ay,az,Option.some.injEq,exists_eq_left',go_sem,hF,hP,gA,gB];repeat' (first | exact Ok.out | with_reducible refine aH ?_ ?_ | (simp;done))))
end Go.Abs

/-! RefMay1 -/

namespace Go.Abs
set_option maxRecDepth 8000
open Go.Proofs
theorem yd (text:aD) (hl:text.length<4611686018427387904) (s:St):aB Tryz.prog kQ [.str text] s (.bool (isName text)) s:=by
 refine aB.pure ?_ rfl rfl s
 unfold S0
 cases text with
 | nil=>
  have e:(([] : aD) == [])=true:=rfl
  refine aB.go zU rfl fun B Q hB hQ=> ?_
  have⟨hF,hP,gA,gB⟩:=bF
  repeat' (first
 | simp only [go_sem,hF,hP,gA,gB,e,isName]
 | (with_reducible first | refine bq fun hc=> ?_ | refine br fun hc=> ?_ | refine bt (fun hc=> ?_) fun hc=> ?_) <;> (try simp only [hc,bs, ↓reduceIte]at h) <;> try simp only [hc]
 | (with_reducible refine aC hQ ?_;simp only [ay,az,bu,bw,go_sem,hF,hP,gA,gB,e,isName];repeat' (first | exact Ok.out | with_reducible refine aH ?_ ?_ | (simp;done))))
 | cons c r=>
  have e:((c::r) == [])=false:=rfl
  generalize h:isName (c::r)=p
  simp only [isName]at h
  refine aB.go zU rfl fun B Q hB hQ=> ?_
  have⟨hF,hP,gA,gB⟩:=bF
  repeat' (first
 | simp only [go_sem,hF,hP,gA,gB,e]
 | (with_reducible refine CU (JH _ _) ?_)
 | (with_reducible first | refine bq fun hc=> ?_ | refine br fun hc=> ?_ | refine bt (fun hc=> ?_) fun hc=> ?_) <;> (try simp only [hc,bs, ↓reduceIte]at h) <;> try simp only [hc]
 | (with_reducible refine aC hQ ?_;(try cases h);simp only [ay,az,bu,bw,go_sem,hF,hP,gA,gB,e];repeat' (first | exact Ok.out | with_reducible refine aH ?_ ?_ | (simp;done))))
  refine cO 0 0 (bh.ind (ι:=aD×Nat) (fun i=>(c::r).drop i.2=i.1∧(if uq i.1 then !(isWord (c::r))else false)=p) (fun i=>i.1.length)
   (fun i=> [(0, .str (c::r)),(3, .int .i64 (i.2:Int))]) (fun i=>⟨[],[]⟩) ?_ (r,1) ⟨rfl,h⟩)
  rintro⟨rest,k⟩ ⟨h1,h⟩ IH
  dsimp only at h1 h
  cases rest with
  | nil=>
   have hF:=drop_nil h1
   simp only [List.length_cons]at hF
   simp only [uq, ↓reduceIte]at h
   repeat' (first
 | simp only [go_sem,hF,hP,gA,gB]
 | (with_reducible refine CU (Y2 _ _) ?_)
 | (with_reducible first | refine bq fun hc=> ?_ | refine br fun hc=> ?_ | refine bt (fun hc=> ?_) fun hc=> ?_) <;> (try simp only [hc,bs, ↓reduceIte]at h) <;> try simp only [hc]
 | (with_reducible refine aC hQ ?_;(try cases h);simp only [ay,az,bu,bw,go_sem,hF,hP,gA,gB];repeat' (first | exact Ok.out | with_reducible refine aH ?_ ?_ | (simp;done))))
  | cons d rest=>
   obtain⟨hP,g2,hF,g4⟩:=drop_cons h1
   simp only [List.length_cons]at hF
   have gA:k<4611686018427387904:=by omega
   simp only [uq]at h
   repeat' (first
 | simp only [go_sem,hF,hP,gA,gB]
 | (with_reducible refine CU (JH _ _) ?_)
 | (with_reducible refine CU (UP _ _) ?_)
 | (with_reducible first | refine bq fun hc=> ?_ | refine br fun hc=> ?_ | refine bt (fun hc=> ?_) fun hc=> ?_) <;> (try simp only [hc,bs, ↓reduceIte]at h) <;> try simp only [hc]
 | (with_reducible refine aC hQ ?_;(try cases h);simp only [ay,az,bu,bw,go_sem,hF,hP,gA,gB];repeat' (first | exact Ok.out | with_reducible refine aH ?_ ?_ | (simp;done)))
 | (cases h;done))
   all_goals
    refine cO 0 0 (IH (rest,k+1) ⟨g2,h⟩ (Nat.lt_succ_self _))
theorem Y7 (op:Int) (s:St):aB Tryz.prog vh [.int .i64 op] s (.int .i64 (mN op)) s:=by
 refine aB.pure ?_ rfl rfl s
 unfold S0
 generalize h:mN op=p
 unfold mN at h
 refine aB.go FI rfl fun B Q hB hQ=> ?_
 have⟨hF,hP,gA,gB⟩:=bF
 repeat' (first
 | simp only [go_sem,hF,hP,gA,gB]
 | (with_reducible first | refine bq fun hc=> ?_ | refine br fun hc=> ?_ | refine bt (fun hc=> ?_) fun hc=> ?_) <;> (try simp only [hc,bs, ↓reduceIte]at h) <;> try simp only [hc]
 | (with_reducible refine aC hQ ?_;(try cases h);simp only [ay,az,bu,bw,go_sem,hF,hP,gA,gB];repeat' (first | exact Ok.out | with_reducible refine aH ?_ ?_ | (simp;done))))
theorem UT {l:List aD} (hl:l.length<4611686018427387904) (hs : ∀ t∈l,t.length<4611686018427387904) (s:St):aB Tryz.prog ve [.slice .shared 1 (l.map encStr)] s (.bool (dk l)) s:=by
 refine aB.pure ?_ (by simp [D.bp,D.ok,eD,Tag.ok]) rfl s
 unfold S0
 generalize h:dk l=p
 refine aB.go FL rfl fun B Q hB hQ=> ?_
 have⟨hF,hP,gA,gB⟩:=bF
 repeat' (first
 | simp only [go_sem,hF,hP,gA,gB]
 | (with_reducible first | refine bq fun hc=> ?_ | refine br fun hc=> ?_ | refine bt (fun hc=> ?_) fun hc=> ?_) <;> (try simp only [hc,bs, ↓reduceIte]at h) <;> try simp only [hc]
 | (with_reducible refine aC hQ ?_;(try cases h);simp only [ay,az,bu,bw,go_sem,hF,hP,gA,gB];repeat' (first | exact Ok.out | with_reducible refine aH ?_ ?_ | (simp;done))))
 refine cO 0 0 (bh.ind (ι:=List aD×Nat) (fun i=>l.drop i.2=i.1∧dk i.1=p) (fun i=>i.1.length)
  (fun i=> [(5, .slice .shared 1 (l.map encStr)),(6, .int .i64 (l.length:Int)),(7, .int .i64 (i.2:Int))]) (fun i=>⟨[],[]⟩) ?_ (l,0) ⟨rfl,h⟩)
 rintro⟨rest,k⟩ ⟨h1,h⟩ IH
 dsimp only at h1 h
 cases rest with
 | nil=>
  have hF:=drop_nil h1
  simp only [dk]at h
  repeat' (first
 | simp only [go_sem,hF,hP,gA,gB]
 | (with_reducible first | refine bq fun hc=> ?_ | refine br fun hc=> ?_ | refine bt (fun hc=> ?_) fun hc=> ?_) <;> (try simp only [hc,bs, ↓reduceIte]at h) <;> try simp only [hc]
 | (with_reducible refine aC hQ ?_;(try cases h);simp only [ay,az,bu,bw,go_sem,hF,hP,gA,gB];repeat' (first | exact Ok.out | with_reducible refine aH ?_ ?_ | (simp;done))))
 | cons t rest=>
  obtain⟨hP,g2,hF,g4⟩:=drop_cons h1
  have gA:k<4611686018427387904:=by omega
  have hn:=yd t (hs t (List.mem_of_getElem? hP))
  simp only [dk]at h
  repeat' (first
 | simp only [go_sem,hF,hP,gA,gB]
 | (with_reducible refine CU (hn _) ?_)
 | (with_reducible first | refine bq fun hc=> ?_ | refine br fun hc=> ?_ | refine bt (fun hc=> ?_) fun hc=> ?_) <;> (try simp only [hc,bs, ↓reduceIte]at h) <;> try simp only [hc]
 | (with_reducible refine aC hQ ?_;(try cases h);simp only [ay,az,bu,bw,go_sem,hF,hP,gA,gB];repeat' (first | exact Ok.out | with_reducible refine aH ?_ ?_ | (simp;done))))
  refine cO 0 0 (IH (rest,k+1) ⟨g2,h⟩ (Nat.lt_succ_self _))
theorem acF : ∀ (n:Nat) (x:Ex),x.size≤n→x.size<4611686018427387904→x.texts→∀ s:St,aB Tryz.prog pQ [.agg (bx x)] s (.bool x.form) s:=by
 intro n
 induction n with
 | zero=>rintro⟨op,m,name,kids⟩ h;simp only [Ex.size]at h;omega
 | succ n ih=>
  rintro⟨op,m,name,kids⟩ h hx ht s
  refine aB.pure ?_ (by simp [D.bp,D.ok,gL]) rfl s
  have hlen:kids.length<4611686018427387904:=by simp only [Ex.size]at hx;have:=Ex.cM kids;omega
  have hk : ∀ y∈kids,∀ s,aB Tryz.prog pQ [.agg (bx y)] s (.bool y.form) s:=fun y hy s=>
   ih y (by simp only [Ex.size]at h;have:=Ex.bT hy;omega) (by simp only [Ex.size]at hx;have:=Ex.bT hy;omega) (Ex.Gs ht hy) s
  have hn:=yd name ht.1
  unfold S0
  generalize h:Ex.form ⟨op,m,name,kids⟩=p
  simp only [Ex.form]at h
  refine aB.go HH rfl fun B Q hB hQ=> ?_
  have⟨hF,hP,gA,gB⟩:=bF
  repeat' (first
 | simp only [go_sem,hF,hP,gA,gB]
 | (with_reducible refine CU (Y7 _ _) ?_)
 | (with_reducible refine CU (hn _) ?_)
 | (with_reducible first | refine bq fun hc=> ?_ | refine br fun hc=> ?_ | refine bt (fun hc=> ?_) fun hc=> ?_) <;> (try simp only [hc,bs, ↓reduceIte]at h) <;> try simp only [hc]
 | (with_reducible refine aC hQ ?_;(try cases h);simp only [ay,az,bu,bw,go_sem,hF,hP,gA,gB];repeat' (first | exact Ok.out | with_reducible refine aH ?_ ?_ | (simp;done))))
  all_goals
   refine cO 1 0 (bh.ind (ι:=List Ex×Nat) (fun i=>kids.drop i.2=i.1∧Ex.o8 i.1=p) (fun i=>i.1.length)
    (fun i=> [(1, .ptr 0 0),(48, .int .i64 (kids.length:Int)),(49, .int .i64 (i.2:Int))]) (fun i=>⟨[bx ⟨op,m,name,kids⟩],[]⟩) ?_ (kids,0) ⟨rfl,h⟩)
   rintro⟨rest,k⟩ ⟨h1,h⟩ IH
   dsimp only at h1 h
   cases rest with
   | nil=>
    have hF:=drop_nil h1
    simp only [Ex.o8]at h
    repeat' (first
 | simp only [go_sem,hF,hP,gA,gB]
 | (with_reducible first | refine bq fun hc=> ?_ | refine br fun hc=> ?_ | refine bt (fun hc=> ?_) fun hc=> ?_) <;> (try simp only [hc,bs, ↓reduceIte]at h) <;> try simp only [hc]
 | (with_reducible refine aC hQ ?_;exact jR)
 | (cases h;done))
   | cons y rest=>
    obtain⟨hP,g2,hF,g4⟩:=drop_cons h1
    have hy:=hk y (List.mem_of_getElem? hP)
    have gA:k<4611686018427387904:=by omega
    simp only [Ex.o8]at h
    repeat' (first
 | simp only [go_sem,hF,hP,gA,gB]
 | (with_reducible refine CU (hy _) ?_)
 | (with_reducible first | refine bq fun hc=> ?_ | refine br fun hc=> ?_ | refine bt (fun hc=> ?_) fun hc=> ?_) <;> (try simp only [hc,bs, ↓reduceIte]at h) <;> try simp only [hc]
 | (with_reducible refine aC hQ ?_;(try cases h);simp only [ay,az,bu,bw,go_sem,hF,hP,gA,gB];repeat' (first | exact Ok.out | with_reducible refine aH ?_ ?_ | (simp;done))))
    refine cO 1 0 (IH (rest,k+1) ⟨g2,h⟩ (Nat.lt_succ_self _))
theorem Gu {x:Ex} (hx:x.size<4611686018427387904) (ht:x.texts) (s:St):aB Tryz.prog o9 [.agg (bx x)] s (.bool x.may) s:=by
 refine aB.pure ?_ (by simp [D.bp,D.ok,gL]) rfl s
 have hd:=fun s=>acE 20 (by decide) x hx s
 have c20:((20:Nat):Int)=20:=rfl
 rw [c20]at hd
 have hf:=acF _ x (Nat.le_refl _) hx ht
 unfold S0
 generalize h:Ex.may x=p
 unfold Ex.may at h
 refine aB.go C0 rfl fun B Q hB hQ=> ?_
 have⟨hF,hP,gA,gB⟩:=bF
 repeat' (first
 | simp only [go_sem,hF,hP,gA,gB]
 | (with_reducible refine CU (hd _) ?_)
 | (with_reducible refine CU (hf _) ?_)
 | (with_reducible first | refine bq fun hc=> ?_ | refine br fun hc=> ?_ | refine bt (fun hc=> ?_) fun hc=> ?_) <;> (try simp only [hc,bs, ↓reduceIte]at h) <;> try simp only [hc]
 | (with_reducible refine aC hQ ?_;(try cases h);simp only [ay,az,bu,bw,go_sem,hF,hP,gA,gB];repeat' (first | exact Ok.out | with_reducible refine aH ?_ ?_ | (simp;done))))
theorem Rh (x:Ex) (s:St):aB Tryz.prog sH [.agg (bx x)] s (.bool x.none) s:=by
 refine aB.pure ?_ (by simp [D.bp,D.ok,gL]) rfl s
 unfold S0
 generalize h:Ex.none x=p
 unfold Ex.none at h
 refine aB.go HF rfl fun B Q hB hQ=> ?_
 have⟨hF,hP,gA,gB⟩:=bF
 repeat' (first
 | simp only [go_sem,hF,hP,gA,gB]
 | (with_reducible first | refine bq fun hc=> ?_ | refine br fun hc=> ?_ | refine bt (fun hc=> ?_) fun hc=> ?_) <;> (try simp only [hc,bs, ↓reduceIte]at h) <;> try simp only [hc]
 | (with_reducible refine aC hQ ?_;(try cases h);simp only [ay,az,bu,bw,go_sem,hF,hP,gA,gB];repeat' (first | exact Ok.out | with_reducible refine aH ?_ ?_ | (simp;done))))
theorem agk {a:Ar} (hx:a.x.size<4611686018427387904) (ht:a.x.texts) (hn:a.name.length<4611686018427387904) (s:St):aB Tryz.prog yQ [.agg (ej a)] s (.bool a.may) s:=by
 refine aB.pure ?_ (by simp [D.bp,D.ok,Jj]) rfl s
 have hm:=Gu hx ht
 have h1:=yd a.name hn
 unfold S0
 generalize h:Ar.may a=p
 simp only [Ar.may]at h
 refine aB.go JA rfl fun B Q hB hQ=> ?_
 have⟨hF,hP,gA,gB⟩:=bF
 repeat' (first
 | simp only [go_sem,hF,hP,gA,gB]
 | (with_reducible refine CU (hm _) ?_)
 | (with_reducible refine CU (h1 _) ?_)
 | (with_reducible refine CU (Rh _ _) ?_)
 | (with_reducible first | refine bq fun hc=> ?_ | refine br fun hc=> ?_ | refine bt (fun hc=> ?_) fun hc=> ?_) <;> (try simp only [hc,bs, ↓reduceIte]at h) <;> try simp only [hc]
 | (with_reducible refine aC hQ ?_;(try cases h);simp only [ay,az,bu,bw,go_sem,hF,hP,gA,gB];repeat' (first | exact Ok.out | with_reducible refine aH ?_ ?_ | (simp;done))))
end Go.Abs

/-! TMay1 -/

namespace Go.Abs
set_option maxRecDepth 8000
open Go.Proofs
theorem Gv {r:aD} : uq r=true↔lD r=r.length:=by
 induction r with
 | nil=>simp [uq,lD]
 | cons c r ih=>
  simp only [uq,lD]
  cases h1:qX c <;> cases h2:pz c <;> simp [ih]
theorem A9 (t:aD) (hl:t.length<4611686018427387904) (s:St):aB Tryz.prog nE [.str t] s (.bool (isName t)) s:=by
 refine aB.pure ?_ rfl rfl s
 have hr:=fun s=>XM (pos:=0) hl s
 simp only [List.drop_zero,Nat.zero_add]at hr
 unfold S0
 cases t with
 | nil=>
  have z:decide (((0:Nat):Int)<1)=true:=rfl
  have z':decide ((0:Int)<1)=true:=rfl
  have e:isName [] = false:=rfl
  rw [e]
  refine aB.go mV rfl fun B Q hB hQ=> ?_
  have⟨hF,hP,gA,gB⟩:=bF
  repeat' (first
 | simp only [go_sem,hF,hP,gA,gB,z,z']
 | (with_reducible refine aC hQ ?_;simp only [ay,az,Option.some.injEq,exists_eq_left',go_sem,hF,hP,gA,gB];repeat' (first | exact Ok.out | with_reducible refine aH ?_ ?_ | (simp;done))))
 | cons c r=>
  have l1:decide (((r.length+1:Nat):Int)<1)=false:=by simp;omega
  generalize h:isName (c::r)=p
  simp only [isName]at h
  cases hL:qX c
  ·simp only [hL,Bool.not_false,Bool.or_true, ↓reduceIte]at h
   subst h
   by_cases c8:decide (((r.length+1:Nat):Int) > 8)=true
   ·refine aB.go mV rfl fun B Q hB hQ=> ?_
    have⟨hF,hP,gA,gB⟩:=bF
    repeat' (first
 | simp only [go_sem,hF,hP,gA,gB,l1,c8]
 | (with_reducible refine aC hQ ?_;simp only [ay,az,Option.some.injEq,exists_eq_left',go_sem,hF,hP,gA,gB];repeat' (first | exact Ok.out | with_reducible refine aH ?_ ?_ | (simp;done))))
   ·have c8:decide (((r.length+1:Nat):Int) > 8)=false:=by simpa using c8
    refine aB.go mV rfl fun B Q hB hQ=> ?_
    have⟨hF,hP,gA,gB⟩:=bF
    repeat' (first
 | simp only [go_sem,hF,hP,gA,gB,l1,c8,hL]
 | (with_reducible refine CU (iw _ _) ?_)
 | (with_reducible refine aC hQ ?_;simp only [ay,az,Option.some.injEq,exists_eq_left',go_sem,hF,hP,gA,gB];repeat' (first | exact Ok.out | with_reducible refine aH ?_ ?_ | (simp;done))))
  ·simp only [hL,Bool.not_true,Bool.or_false]at h
   by_cases c8:decide (((r.length+1:Nat):Int) > 8)=true
   ·simp only [c8, ↓reduceIte]at h
    subst h
    refine aB.go mV rfl fun B Q hB hQ=> ?_
    have⟨hF,hP,gA,gB⟩:=bF
    repeat' (first
 | simp only [go_sem,hF,hP,gA,gB,l1,c8]
 | (with_reducible refine aC hQ ?_;simp only [ay,az,Option.some.injEq,exists_eq_left',go_sem,hF,hP,gA,gB];repeat' (first | exact Ok.out | with_reducible refine aH ?_ ?_ | (simp;done))))
   ·have c8:decide (((r.length+1:Nat):Int) > 8)=false:=by simpa using c8
    simp only [c8,Bool.false_eq_true, ↓reduceIte]at h
    have du:lD (c::r)=lD r+1:=by simp [lD,hL]
    cases hn:uq r
    ·simp only [hn,Bool.false_eq_true, ↓reduceIte]at h
     have:lD r≠r.length:=fun e=>by rw [Gv.2 e]at hn;cases hn
     have e:(((lD (c::r):Nat):Int)==((r.length+1:Nat):Int))=false:=by rw [du];simp;omega
     subst h
     refine aB.go mV rfl fun B Q hB hQ=> ?_
     have⟨hF,hP,gA,gB⟩:=bF
     repeat' (first
 | simp only [go_sem,hF,hP,gA,gB,l1,c8,hL,e]
 | (with_reducible refine CU (iw _ _) ?_)
 | (with_reducible refine CU (hr _) ?_)
 | (with_reducible refine aC hQ ?_;simp only [ay,az,Option.some.injEq,exists_eq_left',go_sem,hF,hP,gA,gB];repeat' (first | exact Ok.out | with_reducible refine aH ?_ ?_ | (simp;done))))
    ·simp only [hn, ↓reduceIte]at h
     have:=Gv.1 hn
     have e:(((lD (c::r):Nat):Int)==((r.length+1:Nat):Int))=true:=by rw [du];simp;omega
     subst h
     refine aB.go mV rfl fun B Q hB hQ=> ?_
     have⟨hF,hP,gA,gB⟩:=bF
     repeat' (first
 | simp only [go_sem,hF,hP,gA,gB,l1,c8,hL,e]
 | (with_reducible refine CU (iw _ _) ?_)
 | (with_reducible refine CU (hr _) ?_)
 | (with_reducible refine CU (vn _ _) ?_)
 | (with_reducible refine aC hQ ?_;simp only [ay,az,Option.some.injEq,exists_eq_left',go_sem,hF,hP,gA,gB];repeat' (first | exact Ok.out | with_reducible refine aH ?_ ?_ | (simp;done))))
theorem LO (op:Int) (s:St):aB Tryz.prog xa [.int .i64 op] s (.int .i64 (mN op)) s:=by
 refine aB.pure ?_ rfl rfl s
 unfold S0
 generalize h:mN op=p
 unfold mN at h
 refine aB.go HI rfl fun B Q hB hQ=> ?_
 have⟨hF,hP,gA,gB⟩:=bF
 repeat' (first
 | simp only [go_sem,hF,hP,gA,gB]
 | (with_reducible first | refine bq fun hc=> ?_ | refine br fun hc=> ?_ | refine bt (fun hc=> ?_) fun hc=> ?_) <;> (try simp only [hc,bs, ↓reduceIte]at h) <;> try simp only [hc]
 | (with_reducible refine aC hQ ?_;(try cases h);simp only [ay,az,bu,bw,go_sem,hF,hP,gA,gB];repeat' (first | exact Ok.out | with_reducible refine aH ?_ ?_ | (simp;done))))
theorem yX {l:List aD} (hl:l.length<4611686018427387904) (hs : ∀ t∈l,t.length<4611686018427387904) (s:St):aB Tryz.prog mO [.slice .shared 1 (l.map encStr)] s (.bool (dk l)) s:=by
 refine aB.pure ?_ (by simp [D.bp,D.ok,eD,Tag.ok]) rfl s
 unfold S0
 generalize h:dk l=p
 refine aB.go FB rfl fun B Q hB hQ=> ?_
 have⟨hF,hP,gA,gB⟩:=bF
 repeat' (first
 | simp only [go_sem,hF,hP,gA,gB]
 | (with_reducible first | refine bq fun hc=> ?_ | refine br fun hc=> ?_ | refine bt (fun hc=> ?_) fun hc=> ?_) <;> (try simp only [hc,bs, ↓reduceIte]at h) <;> try simp only [hc]
 | (with_reducible refine aC hQ ?_;(try cases h);simp only [ay,az,bu,bw,go_sem,hF,hP,gA,gB];repeat' (first | exact Ok.out | with_reducible refine aH ?_ ?_ | (simp;done))))
 refine cO 0 0 (bh.ind (ι:=List aD×Nat) (fun i=>l.drop i.2=i.1∧dk i.1=p) (fun i=>i.1.length)
  (fun i=> [(5, .slice .shared 1 (l.map encStr)),(6, .int .i64 (l.length:Int)),(7, .int .i64 (i.2:Int))]) (fun i=>⟨[],[]⟩) ?_ (l,0) ⟨rfl,h⟩)
 rintro⟨rest,k⟩ ⟨h1,h⟩ IH
 dsimp only at h1 h
 cases rest with
 | nil=>
  have hF:=drop_nil h1
  simp only [dk]at h
  repeat' (first
 | simp only [go_sem,hF,hP,gA,gB]
 | (with_reducible first | refine bq fun hc=> ?_ | refine br fun hc=> ?_ | refine bt (fun hc=> ?_) fun hc=> ?_) <;> (try simp only [hc,bs, ↓reduceIte]at h) <;> try simp only [hc]
 | (with_reducible refine aC hQ ?_;(try cases h);simp only [ay,az,bu,bw,go_sem,hF,hP,gA,gB];repeat' (first | exact Ok.out | with_reducible refine aH ?_ ?_ | (simp;done))))
 | cons t rest=>
  obtain⟨hP,g2,hF,g4⟩:=drop_cons h1
  have gA:k<4611686018427387904:=by omega
  have hn:=A9 t (hs t (List.mem_of_getElem? hP))
  simp only [dk]at h
  repeat' (first
 | simp only [go_sem,hF,hP,gA,gB]
 | (with_reducible refine CU (hn _) ?_)
 | (with_reducible first | refine bq fun hc=> ?_ | refine br fun hc=> ?_ | refine bt (fun hc=> ?_) fun hc=> ?_) <;> (try simp only [hc,bs, ↓reduceIte]at h) <;> try simp only [hc]
 | (with_reducible refine aC hQ ?_;(try cases h);simp only [ay,az,bu,bw,go_sem,hF,hP,gA,gB];repeat' (first | exact Ok.out | with_reducible refine aH ?_ ?_ | (simp;done))))
  refine cO 0 0 (IH (rest,k+1) ⟨g2,h⟩ (Nat.lt_succ_self _))
mutual
def Ex.dp (left:Int):Ex→Bool
 | ⟨op,n,name,kids⟩=>
  if decide (left<1) || (kids.length:Int) != mN op then false
  else if op==1 then decide (n≥0) && name == []
  else if op==2 then n==0 && isName name
  else if n != 0 || !(name == [])then false
  else Ex.D5 (left - 1) kids
def Ex.D5 (left:Int):List Ex→Bool
 | []=>true
 | x::l=>if !(Ex.dp left x)then false else Ex.D5 left l
end
theorem Y8 : ∀ (m:Nat) (x:Ex),x.size≤m→x.size<4611686018427387904→x.texts→∀ left:Int,0≤left→left≤100→∀ s:St,aB Tryz.prog pR [.agg (bx x), .int .i64 left] s (.bool (x.dp left)) s:=by
 intro m
 induction m with
 | zero=>rintro⟨op,v,name,kids⟩ h;simp only [Ex.size]at h;omega
 | succ m ih=>
  rintro⟨op,v,name,kids⟩ h hx ht left h0 ayh s
  refine aB.pure ?_ (by simp [D.bp,D.ok,gL]) rfl s
  have hlen:kids.length<4611686018427387904:=by simp only [Ex.size]at hx;have:=Ex.cM kids;omega
  have hn:=A9 name ht.1
  generalize hp:Ex.dp left ⟨op,v,name,kids⟩=p
  simp only [Ex.dp]at hp
  unfold S0
  by_cases D6:left<1
  ·have d1:decide (left<1)=true:=by simpa using D6
   simp only [d1,Bool.true_or, ↓reduceIte]at hp
   subst hp
   refine aB.go zS rfl fun B Q hB hQ=> ?_
   have⟨hF,hP,gA,gB⟩:=bF
   repeat' (first
 | simp only [go_sem,hF,hP,gA,gB,d1]
 | (with_reducible refine CU (LO _ _) ?_)
 | (with_reducible refine CU (hn _) ?_)
 | (with_reducible refine aC hQ ?_;simp only [ay,az,bu,bw,go_sem,hF,hP,gA,gB];repeat' (first | exact Ok.out | with_reducible refine aH ?_ ?_ | (simp;done))))
  ·have d1:decide (left<1)=false:=by simpa using D6
   have w1:IntKind.wrap .i64 (left - 1)=left - 1:=cV (by omega) (by omega)
   have hk : ∀ y∈kids,∀ s,aB Tryz.prog pR [.agg (bx y), .int .i64 (left - 1)] s (.bool (y.dp (left - 1))) s:=fun y hy s=>
    ih y (by simp only [Ex.size]at h;have:=Ex.bT hy;omega) (by simp only [Ex.size]at hx;have:=Ex.bT hy;omega) (Ex.Gs ht hy) (left - 1) (by omega) (by omega) s
   simp only [d1,Bool.false_or]at hp
   have h:=hp
   clear hp
   refine aB.go zS rfl fun B Q hB hQ=> ?_
   have⟨hF,hP,gA,gB⟩:=bF
   repeat' (first
 | simp only [go_sem,hF,hP,gA,gB,d1]
 | (with_reducible refine CU (LO _ _) ?_)
 | (with_reducible refine CU (hn _) ?_)
 | (with_reducible first | refine bq fun hc=> ?_ | refine br fun hc=> ?_ | refine bt (fun hc=> ?_) fun hc=> ?_) <;> (try simp only [hc,bs, ↓reduceIte]at h) <;> try simp only [hc]
 | (with_reducible refine aC hQ ?_;(try cases h);simp only [ay,az,bu,bw,go_sem,hF,hP,gA,gB,d1];repeat' (first | exact Ok.out | with_reducible refine aH ?_ ?_ | (simp;done))))
   all_goals
    refine cO 1 0 (bh.ind (ι:=List Ex×Nat) (fun i=>kids.drop i.2=i.1∧Ex.D5 (left - 1) i.1=p) (fun i=>i.1.length)
     (fun i=> [(1, .int .i64 left),(49, .slice .shared 4 (kids.map bx)),(50, .int .i64 (kids.length:Int)),(51, .int .i64 (i.2:Int))]) (fun i=>⟨[bx ⟨op,v,name,kids⟩],[]⟩) ?_ (kids,0) ⟨rfl,h⟩)
    rintro⟨rest,k⟩ ⟨h1,h⟩ IH
    dsimp only at h1 h
    cases rest with
    | nil=>
     have hF:=drop_nil h1
     simp only [Ex.D5]at h
     repeat' (first
 | simp only [go_sem,hF,hP,gA,gB]
 | (with_reducible first | refine bq fun hc=> ?_ | refine br fun hc=> ?_ | refine bt (fun hc=> ?_) fun hc=> ?_) <;> (try simp only [hc,bs, ↓reduceIte]at h) <;> try simp only [hc]
 | (with_reducible refine aC hQ ?_;exact jR)
 | (cases h;done))
    | cons y rest=>
     obtain⟨hP,g2,hF,g4⟩:=drop_cons h1
     have hy:=hk y (List.mem_of_getElem? hP)
     have gA:k<4611686018427387904:=by omega
     simp only [Ex.D5]at h
     repeat' (first
 | simp only [go_sem,hF,hP,gA,gB,w1]
 | (with_reducible refine CU (hy _) ?_)
 | (with_reducible first | refine bq fun hc=> ?_ | refine br fun hc=> ?_ | refine bt (fun hc=> ?_) fun hc=> ?_) <;> (try simp only [hc,bs, ↓reduceIte]at h) <;> try simp only [hc]
 | (with_reducible refine aC hQ ?_;(try cases h);simp only [ay,az,bu,bw,go_sem,hF,hP,gA,gB,w1];repeat' (first | exact Ok.out | with_reducible refine aH ?_ ?_ | (simp;done))))
     refine cO 1 0 (IH (rest,k+1) ⟨g2,h⟩ (Nat.lt_succ_self _))
end Go.Abs

/-! RefMay2 -/

namespace Go.Abs
set_option maxRecDepth 8000
open Go.Proofs
structure Sm.mX (s:Sm):Prop where
 lab : ∀ t∈s.labels,t.length<4611686018427387904
 acG:s.labels.length<4611686018427387904
 name:s.name.length<4611686018427387904
 proc:s.proc.length<4611686018427387904
 x:s.x.size<4611686018427387904
 xt:s.x.texts
 acH:s.args.length<4611686018427387904
 arg : ∀ a∈s.args,a.x.size<4611686018427387904∧a.x.texts∧a.name.length<4611686018427387904
section
variable {v:Sm} {B:fz} {Q:Exit→Tm→St→Prop} {p:Bool}
theorem agl (hf:v.mX) (hB:B.s = ⟨[],[]⟩) (hQ:iP 0 0 [(2,none)] (.bool p) ⟨[],[]⟩=Q)
 (h:(if !(Ar.eA v.args)then false else((v.aQ.length:Int)==0 || v.kind==5 || v.kind==6) && ((v.aM.length:Int)==0 || v.kind==5))=p) :
 Sem Tryz.prog B 178 aco Q [(1, .ptr 0 0)] ⟨[aU v],[]⟩:=by
 have axZ:=hf.acH
 have UU:=fun a ha s=>agk (hf.arg a ha).1 (hf.arg a ha).2.1 (hf.arg a ha).2.2 s
 have⟨hF,hP,gA,gB⟩:=bF
 refine iz ?_
 repeat' (first
 | simp only [go_sem,hF,hP,gA,gB]
 | (with_reducible refine aC hQ ?_;simp only [ay,az,bu,bw,go_sem,hF,hP,gA,gB];repeat' (first | exact Ok.out | with_reducible refine aH ?_ ?_ | (simp;done))))
 refine cO 1 0 (bh.ind (ι:=List Ar×Nat) (fun i=>v.args.drop i.2=i.1∧(if !(Ar.eA i.1)then false else((v.aQ.length:Int)==0 || v.kind==5 || v.kind==6) && ((v.aM.length:Int)==0 || v.kind==5))=p) (fun i=>i.1.length)
  (fun i=> [(1, .ptr 0 0),(143, .slice .shared 6 (v.args.map ej)),(144, .int .i64 (v.args.length:Int)),(145, .int .i64 (i.2:Int))]) (fun i=>⟨[aU v],[]⟩) ?_ (v.args,0) ⟨rfl,h⟩)
 rintro⟨rest,k⟩ ⟨h1,h⟩ IH
 dsimp only at h1 h
 cases rest with
 | nil=>
  have hF:=drop_nil h1
  simp only [Ar.eA,Bool.not_true,Bool.false_eq_true, ↓reduceIte]at h
  repeat' (first
 | simp only [go_sem,hF,hP,gA,gB]
 | (with_reducible first | refine bq fun hc=> ?_ | refine br fun hc=> ?_ | refine bt (fun hc=> ?_) fun hc=> ?_) <;> (try simp only [hc,bs, ↓reduceIte]at h) <;> try simp only [hc]
 | (with_reducible refine aC hQ ?_;(try cases h);simp only [ay,az,bu,bw,go_sem,hF,hP,gA,gB];repeat' (first | exact Ok.out | with_reducible refine aH ?_ ?_ | (simp;done))))
  all_goals
   simp only [*]
   exact Ok.out
 | cons a rest=>
  obtain⟨hP,g2,hF,g4⟩:=drop_cons h1
  have ha:=UU a (List.mem_of_getElem? hP)
  have gA:k<4611686018427387904:=by omega
  simp only [Ar.eA]at h
  repeat' (first
 | simp only [go_sem,hF,hP,gA,gB]
 | (with_reducible refine CU (ha _) ?_)
 | (with_reducible first | refine bq fun hc=> ?_ | refine br fun hc=> ?_ | refine bt (fun hc=> ?_) fun hc=> ?_) <;> (try simp only [hc,bs, ↓reduceIte]at h) <;> try simp only [hc]
 | (with_reducible refine aC hQ ?_;(try cases h);simp only [ay,az,bu,bw,go_sem,hF,hP,gA,gB];repeat' (first | exact Ok.out | with_reducible refine aH ?_ ?_ | (simp;done))))
  refine cO 1 0 (IH (rest,k+1) ⟨g2,h⟩ (Nat.lt_succ_self _))
theorem agm {cl:Bool} (hf:v.mX) (hB:B.s = ⟨[],[]⟩) (hQ:iP 0 0 [(2,none)] (.bool p) ⟨[],[]⟩=Q)
 (h:(if !(cl == !(v.proc == [])) || (cl && !(isName v.proc)) || (!cl && decide ((v.args.length:Int) > 0))then false
  else if !(Ar.eA v.args)then false else((v.aQ.length:Int)==0 || v.kind==5 || v.kind==6) && ((v.aM.length:Int)==0 || v.kind==5))=p) :
 Sem Tryz.prog B 178 acp Q [(1, .ptr 0 0),(5, .bool cl)] ⟨[aU v],[]⟩:=by
 have O0:=yd v.proc hf.proc
 have⟨hF,hP,gA,gB⟩:=bF
 refine Sem.kE ?_
 repeat' (first
 | simp only [go_sem,hF,hP,gA,gB]
 | (with_reducible refine CU (O0 _) ?_)
 | (with_reducible first | refine bq fun hc=> ?_ | refine br fun hc=> ?_ | refine bt (fun hc=> ?_) fun hc=> ?_) <;> (try simp only [hc,bs, ↓reduceIte]at h) <;> try simp only [hc]
 | (with_reducible refine aC hQ ?_;(try cases h);simp only [ay,az,bu,bw,go_sem,hF,hP,gA,gB];repeat' (first | exact Ok.out | with_reducible refine aH ?_ ?_ | (simp;done))))
 all_goals
  refine Sem.re _ _ 1 0 (by rw [hB];exact mq rfl) (by rw [hB];exact mq rfl) ?_ ?_ (agl hf hB hQ h)
  ·(simp only [go_sem,hF,hP,gA,gB];repeat' (first | exact Ok.out | with_reducible refine aH ?_ ?_))
  ·(simp only [go_sem,hF,hP,gA,gB];repeat' (first | exact Ok.out | with_reducible refine aH ?_ ?_))
theorem agn {hn cl:Bool} (hf:v.mX) (hB:B.s = ⟨[],[]⟩) (hQ:iP 0 0 [(2,none)] (.bool p) ⟨[],[]⟩=Q)
 (h:(if(hn && !(isName v.name)) || (!hn && !(v.name == []) && !(cl && isName v.name))then false
  else if !(cl == !(v.proc == [])) || (cl && !(isName v.proc)) || (!cl && decide ((v.args.length:Int) > 0))then false
  else if !(Ar.eA v.args)then false else((v.aQ.length:Int)==0 || v.kind==5 || v.kind==6) && ((v.aM.length:Int)==0 || v.kind==5))=p) :
 Sem Tryz.prog B 178 acq Q [(1, .ptr 0 0),(4, .bool hn),(5, .bool cl)] ⟨[aU v],[]⟩:=by
 have MB:=yd v.name hf.name
 have⟨hF,hP,gA,gB⟩:=bF
 have k:=@agm v B Q p cl hf hB hQ
 cases cl
 all_goals
  refine Sem.kE ?_
  repeat' (first
 | simp only [go_sem,hF,hP,gA,gB]
 | (with_reducible refine CU (MB _) ?_)
 | (with_reducible first | refine bq fun hc=> ?_ | refine br fun hc=> ?_ | refine bt (fun hc=> ?_) fun hc=> ?_) <;> (try simp only [hc,bs, ↓reduceIte]at h) <;> try simp only [hc]
 | (with_reducible refine aC hQ ?_;(try cases h);simp only [ay,az,bu,bw,go_sem,hF,hP,gA,gB];repeat' (first | exact Ok.out | with_reducible refine aH ?_ ?_ | (simp;done))))
 all_goals
  refine Sem.re _ _ 1 0 (by rw [hB];exact mq rfl) (by rw [hB];exact mq rfl) ?_ ?_ (k (by simpa only [bs, ↓reduceIte]using h))
  ·(simp only [go_sem,hF,hP,gA,gB];repeat' (first | exact Ok.out | with_reducible refine aH ?_ ?_))
  ·(simp only [go_sem,hF,hP,gA,gB];repeat' (first | exact Ok.out | with_reducible refine aH ?_ ?_))
theorem ago {hx hn cl:Bool} (hf:v.mX) (hB:B.s = ⟨[],[]⟩) (hQ:iP 0 0 [(2,none)] (.bool p) ⟨[],[]⟩=Q)
 (h:(if decide (v.kind<1) || decide (v.kind > 10) || !(dk v.labels) || (hx && !(v.x.may)) || (!hx && !(v.x.none)) || (v.has && v.kind != 9)then false
  else if(hn && !(isName v.name)) || (!hn && !(v.name == []) && !(cl && isName v.name))then false
  else if !(cl == !(v.proc == [])) || (cl && !(isName v.proc)) || (!cl && decide ((v.args.length:Int) > 0))then false
  else if !(Ar.eA v.args)then false else((v.aQ.length:Int)==0 || v.kind==5 || v.kind==6) && ((v.aM.length:Int)==0 || v.kind==5))=p) :
 Sem Tryz.prog B 178 acr Q [(1, .ptr 0 0),(3, .bool hx),(4, .bool hn),(5, .bool cl)] ⟨[aU v],[]⟩:=by
 have hns:=fun s=>UT hf.acG hf.lab s
 have hm:=Gu hf.x hf.xt
 have⟨hF,hP,gA,gB⟩:=bF
 refine Sem.kE ?_
 repeat' (first
 | simp only [go_sem,hF,hP,gA,gB]
 | (with_reducible refine CU (hns _) ?_)
 | (with_reducible refine CU (hm _) ?_)
 | (with_reducible refine CU (Rh _ _) ?_)
 | (with_reducible first | refine bq fun hc=> ?_ | refine br fun hc=> ?_ | refine bt (fun hc=> ?_) fun hc=> ?_) <;> (try simp only [hc,bs, ↓reduceIte]at h) <;> try simp only [hc]
 | (with_reducible refine aC hQ ?_;(try cases h);simp only [ay,az,bu,bw,go_sem,hF,hP,gA,gB];repeat' (first | exact Ok.out | with_reducible refine aH ?_ ?_ | (simp;done))))
 all_goals
  refine Sem.re _ _ 1 0 (by rw [hB];exact mq rfl) (by rw [hB];exact mq rfl) ?_ ?_ (agn hf hB hQ h)
  ·(simp only [go_sem,hF,hP,gA,gB];repeat' (first | exact Ok.out | with_reducible refine aH ?_ ?_))
  ·(simp only [go_sem,hF,hP,gA,gB];repeat' (first | exact Ok.out | with_reducible refine aH ?_ ?_))
theorem agp {hx hn:Bool} (hf:v.mX) (hB:B.s = ⟨[],[]⟩) (hQ:iP 0 0 [(2,none)] (.bool p) ⟨[],[]⟩=Q) (ex:v.wS=hx) (en:v.hasName=hn) (h:v.one=p) :
 Sem Tryz.prog B 178 acs Q [(1, .ptr 0 0),(3, .bool hx),(4, .bool hn)] ⟨[aU v],[]⟩:=by
 unfold Sm.one at h
 rw [ex,en]at h
 have⟨hF,hP,gA,gB⟩:=bF
 refine Sem.kE ?_
 repeat' (first
 | simp only [go_sem,hF,hP,gA,gB]
 | (with_reducible refine aC hQ ?_;simp only [ay,az,Option.some.injEq,exists_eq_left',go_sem,hF,hP,gA,gB];repeat' (first | exact Ok.out | with_reducible refine aH ?_ ?_ | (simp;done))))
 refine Sem.re _ _ 1 0 (by rw [hB];exact mq rfl) (by rw [hB];exact mq rfl) ?_ ?_ (ago hf hB hQ h)
 ·(simp only [go_sem,hF,hP,gA,gB,Sm.pJ];repeat' (first | exact Ok.out | with_reducible refine aH ?_ ?_))
 ·(simp only [go_sem,hF,hP,gA,gB,Sm.pJ];repeat' (first | exact Ok.out | with_reducible refine aH ?_ ?_))
theorem agq {hx:Bool} (hf:v.mX) (hB:B.s = ⟨[],[]⟩) (hQ:iP 0 0 [(2,none)] (.bool p) ⟨[],[]⟩=Q) (ex:v.wS=hx) (hp:v.one=p) :
 Sem Tryz.prog B 178 acu Q [(1, .ptr 0 0),(3, .bool hx)] ⟨[aU v],[]⟩:=by
 generalize h:v.hasName=hn
 have hn:=h
 unfold Sm.hasName at h
 have⟨hF,hP,gA,gB⟩:=bF
 refine Sem.kE ?_
 repeat' (first
 | simp only [go_sem,hF,hP,gA,gB]
 | (with_reducible first | refine bq fun hc=> ?_ | refine br fun hc=> ?_ | refine bt (fun hc=> ?_) fun hc=> ?_) <;> (try simp only [hc,bs, ↓reduceIte]at h) <;> try simp only [hc]
 | (with_reducible refine aC hQ ?_;simp only [ay,az,bu,bw,go_sem,hF,hP,gA,gB];repeat' (first | exact Ok.out | with_reducible refine aH ?_ ?_ | (simp;done))))
 all_goals
  refine Sem.re _ _ 1 0 (by rw [hB];exact mq rfl) (by rw [hB];exact mq rfl) ?_ ?_ (agp hf hB hQ ex hn hp)
  ·(simp only [go_sem,hF,hP,gA,gB,h];repeat' (first | exact Ok.out | with_reducible refine aH ?_ ?_))
  ·(simp only [go_sem,hF,hP,gA,gB,h];repeat' (first | exact Ok.out | with_reducible refine aH ?_ ?_))
theorem agr (hf:v.mX) (hB:B.s = ⟨[],[]⟩) (hQ:iP 0 0 [(2,none)] (.bool p) ⟨[],[]⟩=Q) (hp:v.one=p) :
 Sem Tryz.prog B 178 acv Q [(1, .ptr 0 0)] ⟨[aU v],[]⟩:=by
 generalize h:v.wS=hx
 have ex:=h
 unfold Sm.wS at h
 have⟨hF,hP,gA,gB⟩:=bF
 refine Sem.kE ?_
 repeat' (first
 | simp only [go_sem,hF,hP,gA,gB]
 | (with_reducible first | refine bq fun hc=> ?_ | refine br fun hc=> ?_ | refine bt (fun hc=> ?_) fun hc=> ?_) <;> (try simp only [hc,bs, ↓reduceIte]at h) <;> try simp only [hc]
 | (with_reducible refine aC hQ ?_;simp only [ay,az,bu,bw,go_sem,hF,hP,gA,gB];repeat' (first | exact Ok.out | with_reducible refine aH ?_ ?_ | (simp;done))))
 all_goals
  refine Sem.re _ _ 1 0 (by rw [hB];exact mq rfl) (by rw [hB];exact mq rfl) ?_ ?_ (agq hf hB hQ ex hp)
  ·(simp only [go_sem,hF,hP,gA,gB,h];repeat' (first | exact Ok.out | with_reducible refine aH ?_ ?_))
  ·(simp only [go_sem,hF,hP,gA,gB,h];repeat' (first | exact Ok.out | with_reducible refine aH ?_ ?_))
end
theorem aB.goS {P:Program} {f:FuncId} {nt:Nat} {res:List (Nat×Option (Bool×Nat))} {body:AC} {args:List D} {s:St} {d:D} {s':St} (h0:Has P f nt res body) (hl:Nat.ble args.length nt=true)
 (h : ∀ (B:fz) (Q:Exit→Tm→St→Prop),B.s=s→iP s.aw.length s.aA.length res d s'=Q→Sem P B nt body Q (oh 0 args) s):aB P f args s d s':=by
 obtain⟨fn,hf,hc⟩:=h0
 exact aB.intro ⟨fn,hf,hc⟩ (Nat.le_of_ble_eq_true hl) fun B hB=>h B _ hB rfl
theorem H6 {v:Sm} (hf:v.mX) (s:St):aB Tryz.prog DQ [.agg (aU v)] s (.bool v.one) s:=by
 refine aB.pure ?_ (by simp [D.bp,D.ok,km]) rfl s
 unfold S0
 refine aB.goS JD rfl fun B Q hB hQ=> ?_
 have⟨hF,hP,gA,gB⟩:=bF
 refine Sem.kE ?_
 repeat' (first
 | simp only [go_sem,hF,hP,gA,gB]
 | (with_reducible refine aC hQ ?_;simp only [ay,az,Option.some.injEq,exists_eq_left',go_sem,hF,hP,gA,gB];repeat' (first | exact Ok.out | with_reducible refine aH ?_ ?_ | (simp;done))))
 refine Sem.re _ _ 1 0 (by rw [hB];exact mq rfl) (by rw [hB];exact mq rfl) ?_ ?_ (agr hf hB hQ rfl)
 ·(simp only [go_sem,hF,hP,gA,gB];repeat' (first | exact Ok.out | with_reducible refine aH ?_ ?_))
 ·(simp only [go_sem,hF,hP,gA,gB];repeat' (first | exact Ok.out | with_reducible refine aH ?_ ?_))
end Go.Abs

/-! TMay2 -/

namespace Go.Abs
set_option maxRecDepth 8000
open Go.Proofs
theorem D7 {x:Ex} (hx:x.size<4611686018427387904) (ht:x.texts) (s:St):aB Tryz.prog pb [.agg (bx x)] s (.bool (x.dp 20)) s:=by
 refine aB.pure ?_ (by simp [D.bp,D.ok,gL]) rfl s
 have hd:=fun s=>Y8 _ x (Nat.le_refl _) hx ht 20 (by omega) (by omega) s
 unfold S0
 refine aB.go C1 rfl fun B Q hB hQ=> ?_
 have⟨hF,hP,gA,gB⟩:=bF
 repeat' (first
 | simp only [go_sem,hF,hP,gA,gB]
 | (with_reducible refine CU (hd _) ?_)
 | (with_reducible refine aC hQ ?_;simp only [ay,az,Option.some.injEq,exists_eq_left',go_sem,hF,hP,gA,gB];repeat' (first | exact Ok.out | with_reducible refine aH ?_ ?_ | (simp;done))))
theorem Y9 (x:Ex) (s:St):aB Tryz.prog w9 [.agg (bx x)] s (.bool x.none) s:=by
 refine aB.pure ?_ (by simp [D.bp,D.ok,gL]) rfl s
 unfold S0
 generalize h:Ex.none x=p
 unfold Ex.none at h
 refine aB.go HG rfl fun B Q hB hQ=> ?_
 have⟨hF,hP,gA,gB⟩:=bF
 repeat' (first
 | simp only [go_sem,hF,hP,gA,gB]
 | (with_reducible first | refine bq fun hc=> ?_ | refine br fun hc=> ?_ | refine bt (fun hc=> ?_) fun hc=> ?_) <;> (try simp only [hc,bs, ↓reduceIte]at h) <;> try simp only [hc]
 | (with_reducible refine aC hQ ?_;(try cases h);simp only [ay,az,bu,bw,go_sem,hF,hP,gA,gB];repeat' (first | exact Ok.out | with_reducible refine aH ?_ ?_ | (simp;done))))
def rm (t:aD) (is:Bool):Bool:=(is && isName t) || (!is && t == [])
theorem C3 (t:aD) (is:Bool) (hl:t.length<4611686018427387904) (s:St):aB Tryz.prog oQ [.str t, .bool is] s (.bool (rm t is)) s:=by
 refine aB.pure ?_ rfl rfl s
 have hn:=A9 t hl
 unfold S0
 generalize h:rm t is=p
 unfold rm at h
 refine aB.go FM rfl fun B Q hB hQ=> ?_
 have⟨hF,hP,gA,gB⟩:=bF
 repeat' (first
 | simp only [go_sem,hF,hP,gA,gB]
 | (with_reducible refine CU (hn _) ?_)
 | (with_reducible first | refine bq fun hc=> ?_ | refine br fun hc=> ?_ | refine bt (fun hc=> ?_) fun hc=> ?_) <;> (try simp only [hc,bs, ↓reduceIte]at h) <;> try simp only [hc]
 | (with_reducible refine aC hQ ?_;(try cases h);simp only [ay,az,bu,bw,go_sem,hF,hP,gA,gB];repeat' (first | exact Ok.out | with_reducible refine aH ?_ ?_ | (simp;done))))
def vo (x:Ex) (is:Bool):Bool:=(is && x.dp 20) || (!is && x.none)
theorem LP {x:Ex} (is:Bool) (hx:x.size<4611686018427387904) (ht:x.texts) (s:St):aB Tryz.prog rb [.agg (bx x), .bool is] s (.bool (vo x is)) s:=by
 refine aB.pure ?_ (by simp [D.bp,D.ok,gL]) rfl s
 have hm:=D7 hx ht
 unfold S0
 generalize h:vo x is=p
 unfold vo at h
 refine aB.go FN rfl fun B Q hB hQ=> ?_
 have⟨hF,hP,gA,gB⟩:=bF
 repeat' (first
 | simp only [go_sem,hF,hP,gA,gB]
 | (with_reducible refine CU (hm _) ?_)
 | (with_reducible refine CU (Y9 _ _) ?_)
 | (with_reducible first | refine bq fun hc=> ?_ | refine br fun hc=> ?_ | refine bt (fun hc=> ?_) fun hc=> ?_) <;> (try simp only [hc,bs, ↓reduceIte]at h) <;> try simp only [hc]
 | (with_reducible refine aC hQ ?_;(try cases h);simp only [ay,az,bu,bw,go_sem,hF,hP,gA,gB];repeat' (first | exact Ok.out | with_reducible refine aH ?_ ?_ | (simp;done))))
def pf:List Ar→Bool
 | []=>true
 | a::l=>if !(rm a.name a.ref) || !(vo a.x !a.ref)then false else pf l
theorem UW {l:List Ar} (hl:l.length<4611686018427387904) (hs : ∀ a∈l,a.x.size<4611686018427387904∧a.x.texts∧a.name.length<4611686018427387904) (s:St) :
 aB Tryz.prog tC [.slice .shared 6 (l.map ej)] s (.bool (pf l)) s:=by
 refine aB.pure ?_ (by simp [D.bp,D.ok,HZ,Tag.ok]) rfl s
 unfold S0
 generalize h:pf l=p
 refine aB.go D1 rfl fun B Q hB hQ=> ?_
 have⟨hF,hP,gA,gB⟩:=bF
 repeat' (first
 | simp only [go_sem,hF,hP,gA,gB]
 | (with_reducible first | refine bq fun hc=> ?_ | refine br fun hc=> ?_ | refine bt (fun hc=> ?_) fun hc=> ?_) <;> (try simp only [hc,bs, ↓reduceIte]at h) <;> try simp only [hc]
 | (with_reducible refine aC hQ ?_;(try cases h);simp only [ay,az,bu,bw,go_sem,hF,hP,gA,gB];repeat' (first | exact Ok.out | with_reducible refine aH ?_ ?_ | (simp;done))))
 refine cO 0 0 (bh.ind (ι:=List Ar×Nat) (fun i=>l.drop i.2=i.1∧pf i.1=p) (fun i=>i.1.length)
  (fun i=> [(5, .slice .shared 6 (l.map ej)),(6, .int .i64 (l.length:Int)),(7, .int .i64 (i.2:Int))]) (fun i=>⟨[],[]⟩) ?_ (l,0) ⟨rfl,h⟩)
 rintro⟨rest,k⟩ ⟨h1,h⟩ IH
 dsimp only at h1 h
 cases rest with
 | nil=>
  have hF:=drop_nil h1
  simp only [pf]at h
  repeat' (first
 | simp only [go_sem,hF,hP,gA,gB]
 | (with_reducible first | refine bq fun hc=> ?_ | refine br fun hc=> ?_ | refine bt (fun hc=> ?_) fun hc=> ?_) <;> (try simp only [hc,bs, ↓reduceIte]at h) <;> try simp only [hc]
 | (with_reducible refine aC hQ ?_;(try cases h);simp only [ay,az,bu,bw,go_sem,hF,hP,gA,gB];repeat' (first | exact Ok.out | with_reducible refine aH ?_ ?_ | (simp;done))))
 | cons a rest=>
  obtain⟨hP,g2,hF,g4⟩:=drop_cons h1
  have gA:k<4611686018427387904:=by omega
  obtain⟨a1,a2,a3⟩:=hs a (List.mem_of_getElem? hP)
  have hn:=fun b s=>C3 a.name b a3 s
  have hw:=fun b s=>LP b a1 a2 s
  simp only [pf]at h
  repeat' (first
 | simp only [go_sem,hF,hP,gA,gB]
 | (with_reducible refine CU (hn _ _) ?_)
 | (with_reducible refine CU (hw _ _) ?_)
 | (with_reducible first | refine bq fun hc=> ?_ | refine br fun hc=> ?_ | refine bt (fun hc=> ?_) fun hc=> ?_) <;> (try simp only [hc,bs, ↓reduceIte]at h) <;> try simp only [hc]
 | (with_reducible refine aC hQ ?_;(try cases h);simp only [ay,az,bu,bw,go_sem,hF,hP,gA,gB];repeat' (first | exact Ok.out | with_reducible refine aH ?_ ?_ | (simp;done))))
  refine cO 0 0 (IH (rest,k+1) ⟨g2,h⟩ (Nat.lt_succ_self _))
def Sm.flags (s:Sm):Option (Bool×Bool×Bool×Bool×Bool×Bool):=
 if s.kind==1 then some (true,false,true,s.has,false,false)
 else if s.kind==2 || s.kind==10 then some (true,false,false,s.has,false,false)
 else if s.kind==3 then some (false,false,true,s.has,false,false)
 else if s.kind==4 then some (!(s.name == []),true,false,s.has,false,false)
 else if s.kind==5 then some (false,false,true,s.has,true,true)
 else if s.kind==6 then some (false,false,true,s.has,true,false)
 else if s.kind==9 then some (false,false,s.has,false,false,false)
 else if s.kind==7 || s.kind==8 then some (false,false,false,s.has,false,false)
 else none
def Sm.H7 (s:Sm) (nm pr x:Bool):Bool:=if !(rm s.name nm) || !(rm s.proc pr) || !(vo s.x x)then false else pf s.args
def Sm.H8 (s:Sm) (f:Bool×Bool×Bool×Bool×Bool×Bool):Bool:=
 if f.2.2.2.1 || (!f.2.2.2.2.1 && decide ((s.aQ.length:Int) > 0)) || (!f.2.2.2.2.2 && decide ((s.aM.length:Int) > 0)) || (!(s.kind==4) && decide ((s.args.length:Int) > 0))then false
 else s.H7 f.1 f.2.1 f.2.2.1
def Sm.fields (s:Sm):Bool:=match s.flags with
 | none=>false
 | some f=>s.H8 f
section
variable {v:Sm} {B:fz} {Q:Exit→Tm→St→Prop} {p:Bool}
theorem UX {nm pr x:Bool} (hf:v.mX) (hB:B.s = ⟨[],[]⟩) (hQ:iP 0 0 [(2,none)] (.bool p) ⟨[],[]⟩=Q) (h:v.H7 nm pr x=p) :
 Sem Tryz.prog B 93 acg Q [(1, .ptr 0 0),(3, .bool nm),(4, .bool pr),(5, .bool x)] ⟨[aU v],[]⟩:=by
 have h1:=fun b s=>C3 v.name b hf.name s
 have h2:=fun b s=>C3 v.proc b hf.proc s
 have h3:=fun b s=>LP b hf.x hf.xt s
 have h4:=fun s=>UW hf.acH hf.arg s
 unfold Sm.H7 at h
 have⟨hF,hP,gA,gB⟩:=bF
 refine iz ?_
 repeat' (first
 | simp only [go_sem,hF,hP,gA,gB]
 | (with_reducible refine CU (h1 _ _) ?_)
 | (with_reducible refine CU (h2 _ _) ?_)
 | (with_reducible refine CU (h3 _ _) ?_)
 | (with_reducible refine CU (h4 _) ?_)
 | (with_reducible first | refine bq fun hc=> ?_ | refine br fun hc=> ?_ | refine bt (fun hc=> ?_) fun hc=> ?_) <;> (try simp only [hc,bs, ↓reduceIte]at h) <;> try simp only [hc]
 | (with_reducible refine aC hQ ?_;(try cases h);simp only [ay,az,bu,bw,go_sem,hF,hP,gA,gB];repeat' (first | exact Ok.out | with_reducible refine aH ?_ ?_ | (simp;done))))
theorem UY {nm pr x has th ot ar:Bool} (hf:v.mX) (hB:B.s = ⟨[],[]⟩) (hQ:iP 0 0 [(2,none)] (.bool p) ⟨[],[]⟩=Q) (e:(v.kind==4)=ar) (h:v.H8 (nm,pr,x,has,th,ot)=p) :
 Sem Tryz.prog B 93 ach Q [(1, .ptr 0 0),(3, .bool nm),(4, .bool pr),(5, .bool x),(6, .bool has),(7, .bool th),(8, .bool ot),(9, .bool ar)] ⟨[aU v],[]⟩:=by
 simp only [Sm.H8,e]at h
 have⟨hF,hP,gA,gB⟩:=bF
 refine Sem.kE ?_
 repeat' (first
 | simp only [go_sem,hF,hP,gA,gB]
 | (with_reducible first | refine bq fun hc=> ?_ | refine br fun hc=> ?_ | refine bt (fun hc=> ?_) fun hc=> ?_) <;> (try simp only [hc,bs, ↓reduceIte]at h) <;> try simp only [hc]
 | (with_reducible refine aC hQ ?_;(try cases h);simp only [ay,az,bu,bw,go_sem,hF,hP,gA,gB];repeat' (first | exact Ok.out | with_reducible refine aH ?_ ?_ | (simp;done))))
 all_goals
  refine Sem.re _ _ 1 0 (by rw [hB];exact mq rfl) (by rw [hB];exact mq rfl) ?_ ?_ (UX hf hB hQ h)
  ·(simp only [go_sem,hF,hP,gA,gB];repeat' (first | exact Ok.out | with_reducible refine aH ?_ ?_))
  ·(simp only [go_sem,hF,hP,gA,gB];repeat' (first | exact Ok.out | with_reducible refine aH ?_ ?_))
theorem UZ {ar:Bool} (hf:v.mX) (hB:B.s = ⟨[],[]⟩) (hQ:iP 0 0 [(2,none)] (.bool p) ⟨[],[]⟩=Q) (e:(v.kind==4)=ar) (h:v.fields=p) :
 Sem Tryz.prog B 93 UK Q [(1, .ptr 0 0),(3, .bool false),(4, .bool false),(5, .bool false),(6, .bool v.has),(7, .bool false),(8, .bool false),(9, .bool ar)] ⟨[aU v],[]⟩:=by
 simp only [Sm.fields,Sm.flags]at h
 have⟨hF,hP,gA,gB⟩:=bF
 refine Sem.kE ?_
 repeat' (first
 | simp only [go_sem,hF,hP,gA,gB]
 | (with_reducible first | refine bq fun hc=> ?_ | refine br fun hc=> ?_ | refine bt (fun hc=> ?_) fun hc=> ?_) <;> (try simp only [hc,bs, ↓reduceIte]at h) <;> try simp only [hc]
 | (with_reducible refine aC hQ ?_;(try cases h);simp only [ay,az,bu,bw,go_sem,hF,hP,gA,gB];repeat' (first | exact Ok.out | with_reducible refine aH ?_ ?_ | (simp;done))))
 all_goals
  refine Sem.re _ _ 1 0 (by rw [hB];exact mq rfl) (by rw [hB];exact mq rfl) ?_ ?_ (UY hf hB hQ e h)
  ·(simp only [go_sem,hF,hP,gA,gB];repeat' (first | exact Ok.out | with_reducible refine aH ?_ ?_))
  ·(simp only [go_sem,hF,hP,gA,gB];repeat' (first | exact Ok.out | with_reducible refine aH ?_ ?_))
end
theorem U0 {v:Sm} (hf:v.mX) (s:St):aB Tryz.prog tA [.agg (aU v)] s (.bool v.fields) s:=by
 refine aB.pure ?_ (by simp [D.bp,D.ok,km]) rfl s
 unfold S0
 refine aB.goS DY rfl fun B Q hB hQ=> ?_
 have⟨hF,hP,gA,gB⟩:=bF
 refine Sem.seq (b:=acj) (iz ?_)
 repeat' (first
 | simp only [go_sem,hF,hP,gA,gB]
 | (with_reducible refine aC hQ ?_;simp only [ay,az,Option.some.injEq,exists_eq_left',go_sem,hF,hP,gA,gB];repeat' (first | exact Ok.out | with_reducible refine aH ?_ ?_ | (simp;done))))
 refine Sem.seq (b:=aci) (iz ?_)
 repeat' (first
 | simp only [go_sem,hF,hP,gA,gB]
 | (with_reducible refine aC hQ ?_;simp only [ay,az,Option.some.injEq,exists_eq_left',go_sem,hF,hP,gA,gB];repeat' (first | exact Ok.out | with_reducible refine aH ?_ ?_ | (simp;done))))
 refine Sem.seq (b:=UK) (iz ?_)
 repeat' (first
 | simp only [go_sem,hF,hP,gA,gB]
 | (with_reducible refine aC hQ ?_;simp only [ay,az,Option.some.injEq,exists_eq_left',go_sem,hF,hP,gA,gB];repeat' (first | exact Ok.out | with_reducible refine aH ?_ ?_ | (simp;done))))
 refine Sem.re _ _ 1 0 (by rw [hB];exact mq rfl) (by rw [hB];exact mq rfl) ?_ ?_ (UZ hf hB hQ rfl rfl)
 ·(simp only [go_sem,hF,hP,gA,gB];repeat' (first | exact Ok.out | with_reducible refine aH ?_ ?_))
 ·(simp only [go_sem,hF,hP,gA,gB];repeat' (first | exact Ok.out | with_reducible refine aH ?_ ?_))
end Go.Abs

/-! RefMay3 -/

namespace Go.Abs
set_option maxRecDepth 8000
open Go.Proofs
def fB (i:It):List D:= [.int .i64 i.s.id, .int .i64 i.s.kind, .slice .shared 1 (i.s.labels.map encStr), .str i.s.name, .str i.s.proc,
 .int .i64 i.s.x.op, .int .i64 i.s.x.n, .str i.s.x.name, .slice .shared 4 (i.s.x.kids.map bx), .bool i.s.has, .slice .shared 6 (i.s.args.map ej), .slice .shared 13 (i.s.aQ.map aU), .slice .shared 13 (i.s.aM.map aU), .int .i64 i.deep, .int .i64 i.bO, .bool i.aM]
theorem O1 (i:It):D.bp 0 0 (fB i)=true:=by simp [fB,D.bp,D.ok,Tag.ok,eD,WO,HZ,iH]
theorem D9 (l:List It):D.gZ 0 0 (l.map fB)=true:=gW O1 l
theorem ags (n m:Nat) (l:List It):D.kx n m (l.map fB)=l.map fB:=mL O1 n m l
theorem agt (n m:Nat) (i:It):D.gF n m (fB i)=fB i:=il n m _ (O1 i)
theorem agu (x:It):(fB x).length=16:=nd rfl
theorem JI (x:It):List.take 13 (fB x)=aU x.s:=by simp only [fB,cv];rfl
theorem U1 (x:It):(fB x)[0]? = some (.int .i64 x.s.id):=nd rfl
theorem Ri (x:It):(fB x)[13]? = some (.int .i64 x.deep):=nd rfl
theorem FQ (s:Sm) (d n:Int) (e:Bool):fB ⟨s,d,n,e⟩ = [.int .i64 s.id, .int .i64 s.kind, .slice .shared 1 (s.labels.map encStr), .str s.name, .str s.proc,
 .int .i64 s.x.op, .int .i64 s.x.n, .str s.x.name, .slice .shared 4 (s.x.kids.map bx), .bool s.has, .slice .shared 6 (s.args.map ej), .slice .shared 13 (s.aQ.map aU), .slice .shared 13 (s.aM.map aU), .int .i64 d, .int .i64 n, .bool e]:=nd rfl
attribute [go_sem] ags agt agu JI U1 Ri
theorem JJ (deep bO:Int) (aM:Bool) (out:List It) (s:Sm) :
 fT deep bO aM out s=if decide (deep≤12)then dw (deep+1) s.id true (dw (deep+1) s.id false (out++ [⟨s,deep,bO,aM⟩]) s.aQ) s.aM else out++ [⟨s,deep,bO,aM⟩]:=by
 cases s;simp only [fT]
mutual
theorem Rj (deep bO:Int) (aM:Bool) (out:List It) (h:out.length≤200) : ∀ s:Sm,(fT deep bO aM out s).length≤201
 | ⟨id,kind,labels,name,proc,x,has,args,aQ,e⟩=>by
  simp only [fT]
  have h1:(out++ [(⟨⟨id,kind,labels,name,proc,x,has,args,aQ,e⟩,deep,bO,aM⟩:It)]).length≤201:=by simp;omega
  split
  ·exact kR _ _ _ _ (kR _ _ _ _ h1 aQ) e
  ·exact h1
theorem kR (deep bO:Int) (aM:Bool) (out:List It) (h:out.length≤201) : ∀ l:List Sm,(dw deep bO aM out l).length≤201
 | []=>by simpa only [dw]using h
 | s::l=>by
  simp only [dw]
  split
  ·rename_i hc
   simp only [decide_eq_true_eq]at hc
   exact kR deep bO aM _ (Rj _ _ _ _ (by omega) s) l
  ·exact h
end
abbrev Rk (N:Nat):Prop:=∀ (l:List Sm) (deep bO:Int) (aM:Bool) (out:List It),Sm.aR l<N→0≤deep→deep≤13→out.length≤201→∀ {s:St} {t:Nat},s.aA[t]? = some (some out.length)→
 aB Tryz.prog ma [.slice .shared 13 (l.map aU), .int .i64 deep, .int .i64 bO, .bool aM, .slice (.tok t) 16 (out.map fB)] s (.slice (.tok t) 16 ((dw deep bO aM out l).map fB)) ⟨s.aw,s.aA.set t (some (dw deep bO aM out l).length)⟩
theorem acJ {N:Nat} (hN:N<4611686018427387904) (ih:Rk N) {l:List Sm} {deep bO:Int} {aM:Bool} {out:List It} (hs:Sm.aR l<N+1) (Ba:0≤deep) (hd:deep≤13) (ho:out.length≤201) :
 aB Tryz.prog ma [.slice .shared 13 (l.map aU), .int .i64 deep, .int .i64 bO, .bool aM, .slice (.tok 0) 16 (out.map fB)] ⟨[],[some out.length]⟩ (.slice (.tok 0) 16 ((dw deep bO aM out l).map fB)) ⟨[],[some (dw deep bO aM out l).length]⟩:=by
 generalize hR:dw deep bO aM out l=R
 refine aB.go zT rfl fun B Q hB hQ=> ?_
 have⟨hF,hP,gA,gB⟩:=bF
 repeat' (first
 | simp only [go_sem,hF,hP,gA,gB]
 | (with_reducible refine aC hQ ?_;simp only [ay,az,Option.some.injEq,exists_eq_left',go_sem,hF,hP,gA,gB];repeat' (first | exact Ok.out | with_reducible refine aH ?_ ?_ | (simp;done))))
 refine cO 0 1 (bh.ind (ι:=List Sm×Nat×List It×Nat) (fun i=>l.drop i.2.1=i.1∧dw deep bO aM i.2.2.1 i.1=R∧i.2.2.1.length≤201∧i.2.2.2=i.2.2.1.length) (fun i=>i.1.length)
  (fun i=> [(0, .slice .shared 13 (l.map aU)),(1, .int .i64 deep),(2, .int .i64 bO),(3, .bool aM),(4, .slice (.tok 0) 16 (i.2.2.1.map fB)),(11, .int .i64 (i.2.1:Int))]) (fun i=>⟨[],[some i.2.2.2]⟩) ?_ (l,0,out,out.length) ⟨rfl,hR,ho,rfl⟩)
 rintro⟨rest,k,out,n⟩ ⟨h1,h2,h3,h4⟩ IH
 dsimp only at h1 h2 h3 h4
 subst h4
 have hlen:l.length<4611686018427387904:=by have:=Sm.cM l;omega
 cases rest with
 | nil=>
  have hF:=drop_nil h1
  simp only [dw]at h2
  subst h2
  repeat' (first
 | simp only [go_sem,hF,hP,gA,gB]
 | (with_reducible refine aC hQ ?_;simp only [ay,az,Option.some.injEq,exists_eq_left',go_sem,hF,hP,gA,gB];repeat' (first | exact Ok.out | with_reducible refine aH ?_ ?_ | (simp;done))))
 | cons v rest=>
  obtain⟨hP,g2,hF,g4⟩:=drop_cons h1
  have bW:k<4611686018427387904:=by omega
  have hv:=Sm.bT (List.mem_of_getElem? hP)
  have oG:Sm.aR v.aQ<N∧Sm.aR v.aM<N:=by
   obtain⟨_,_,_,_,_,_,_,_,_,_⟩:=v
   simp only [Sm.size]at hv ⊢;omega
  simp only [dw]at h2
  by_cases hc:out.length≤200
  ·have c1:decide ((out.length:Int)≤200)=true:=by simp;omega
   simp only [c1, ↓reduceIte,JJ]at h2
   have gA:(out.length+1)*233≤bl:=by unfold bl;omega
   have ml:(out++ [(⟨v,deep,bO,aM⟩:It)]).length≤201:=by simp;omega
   have hw:IntKind.wrap .i64 (deep+1)=deep+1:=cV (by omega) (by omega)
   by_cases aqh:deep≤12
   ·have c2:decide (deep≤12)=true:=by simp;omega
    simp only [c2, ↓reduceIte]at h2
    have f1:=fun {s:St} {t:Nat} (ht:s.aA[t]? = some (some (out++ [(⟨v,deep,bO,aM⟩:It)]).length))=>ih v.aQ (deep+1) v.id false _ oG.1 (by omega) (by omega) ml ht
    have f2:=fun {s:St} {t:Nat} (ht:s.aA[t]? = some (some (dw (deep+1) v.id false (out++ [(⟨v,deep,bO,aM⟩:It)]) v.aQ).length))=>ih v.aM (deep+1) v.id true _ oG.2 (by omega) (by omega) (kR _ _ _ _ ml _) ht
    simp only [List.map_append,List.map_cons,List.map_nil,FQ,List.length_append,List.length_cons,List.length_nil]at f1
    repeat' (first
 | simp only [go_sem,hF,hP,gA,gB,c1,c2,hw,cv]
 | (with_reducible refine CU (f1 (by with_unfolding_all rfl)) ?_)
 | (with_reducible refine CU (f2 (by with_unfolding_all rfl)) ?_)
 | (with_reducible refine aC hQ ?_;simp only [ay,az,Option.some.injEq,exists_eq_left',go_sem,hF,hP,gA,gB];repeat' (first | exact Ok.out | with_reducible refine aH ?_ ?_ | (simp;done))))
    refine dH 0 1 ?_ ?_ (IH (rest,k+1,_,_) ⟨g2,h2,kR _ _ _ _ (kR _ _ _ _ ml _) _,rfl⟩ (Nat.lt_succ_self _))
    ·(simp only [go_sem,hF,hP,gA,gB,aJ bW];try exact bH)
    ·(simp only [go_sem,hF,hP,gA,gB,aJ bW];try exact bH)
   ·have c2:decide (deep≤12)=false:=by simp;omega
    simp only [c2,Bool.false_eq_true, ↓reduceIte]at h2
    repeat' (first
 | simp only [go_sem,hF,hP,gA,gB,c1,c2,cv]
 | (with_reducible refine aC hQ ?_;simp only [ay,az,Option.some.injEq,exists_eq_left',go_sem,hF,hP,gA,gB];repeat' (first | exact Ok.out | with_reducible refine aH ?_ ?_ | (simp;done))))
    refine dH 0 1 ?_ ?_ (IH (rest,k+1,out++ [⟨v,deep,bO,aM⟩],out.length+1) ⟨g2,h2,ml,by simp⟩ (Nat.lt_succ_self _))
    ·(simp only [go_sem,hF,hP,gA,gB,aJ bW,FQ,List.map_append,List.map_cons,List.map_nil];try exact bH)
    ·(simp only [go_sem,hF,hP,gA,gB,aJ bW,FQ,List.map_append,List.map_cons,List.map_nil];try exact bH)
  ·have c1:decide ((out.length:Int)≤200)=false:=by simp;omega
   simp only [c1,Bool.false_eq_true, ↓reduceIte]at h2
   subst h2
   repeat' (first
 | simp only [go_sem,hF,hP,gA,gB,c1]
 | (with_reducible refine aC hQ ?_;simp only [ay,az,Option.some.injEq,exists_eq_left',go_sem,hF,hP,gA,gB];repeat' (first | exact Ok.out | with_reducible refine aH ?_ ?_ | (simp;done))))
theorem U2 : ∀ N,N<4611686018427387904→Rk N:=by
 intro N
 induction N with
 | zero=>exact fun _ l deep bO aM out h=>absurd h (Nat.not_lt_zero _)
 | succ N ih=>
  intro h l deep bO aM out hs Ba hd ho s t ht
  exact(acJ (by omega) (ih (by omega)) hs Ba hd ho).abj (pre:= [_,_,_,_]) (post:= []) (by simp [D.bp,D.ok,Tag.ok,iH]) rfl (D9 out) (D9 _) ht
theorem U3 {l:List Sm} (hs:Sm.aR l<4611686018427387000) (s:St) :
 aB Tryz.prog ma [.slice .shared 13 (l.map aU), .int .i64 1, .int .i64 0, .bool false, .slice .full 0 []] s (.slice .shared 16 ((dw 1 0 false [] l).map fB)) s:=by
 refine aB.pure ?_ (by simp [D.bp,D.ok,Tag.ok,iH,D.gZ]) (by simp [D.ok,Tag.ok,D9]) s
 obtain⟨N,hN⟩ : ∃ N,N=Sm.aR l:=⟨_,rfl⟩
 have ih:=U2 N (by omega)
 replace hs:Sm.aR l<N+1∧N<4611686018427387000:=by omega
 obtain⟨hs,hN⟩:=hs
 generalize hR:dw 1 0 false [] l=R
 obtain⟨deep,O2⟩ : ∃ d:Int,d=1:=⟨_,rfl⟩
 obtain⟨bO,U4⟩ : ∃ d:Int,d=0:=⟨_,rfl⟩
 obtain⟨aM,U5⟩ : ∃ d:Bool,d=false:=⟨_,rfl⟩
 rw [← O2, ← U4, ← U5]at hR
 rw [← O2, ← U4, ← U5]
 have Ba:0≤deep:=by omega
 have hd:deep≤13:=by omega
 clear O2 U4 U5
 have ho:([] : List It).length≤201:=Nat.zero_le _
 unfold S0
 refine aB.go zT rfl fun B Q hB hQ=> ?_
 have⟨hF,hP,gA,gB⟩:=bF
 repeat' (first
 | simp only [go_sem,hF,hP,gA,gB]
 | (with_reducible refine aC hQ ?_;simp only [ay,az,Option.some.injEq,exists_eq_left',go_sem,hF,hP,gA,gB];repeat' (first | exact Ok.out | with_reducible refine aH ?_ ?_ | (simp;done))))
 refine bh.l6 4 16 rfl ?_
 simp only [go_sem,hF,hP,gA,gB]
 refine cO 0 1 (bh.ind (ι:=List Sm×Nat×List It×Nat) (fun i=>l.drop i.2.1=i.1∧dw deep bO aM i.2.2.1 i.1=R∧i.2.2.1.length≤201∧i.2.2.2=i.2.2.1.length) (fun i=>i.1.length)
  (fun i=> [(0, .slice .shared 13 (l.map aU)),(1, .int .i64 deep),(2, .int .i64 bO),(3, .bool aM),(4, .slice (.tok 0) 16 (i.2.2.1.map fB)),(11, .int .i64 (i.2.1:Int))]) (fun i=>⟨[],[some i.2.2.2]⟩) ?_ (l,0,[],0) ⟨rfl,hR,ho,rfl⟩)
 rintro⟨rest,k,out,n⟩ ⟨h1,h2,h3,h4⟩ IH
 dsimp only at h1 h2 h3 h4
 subst h4
 have hlen:l.length<4611686018427387904:=by have:=Sm.cM l;omega
 cases rest with
 | nil=>
  have hF:=drop_nil h1
  simp only [dw]at h2
  subst h2
  repeat' (first
 | simp only [go_sem,hF,hP,gA,gB]
 | (with_reducible refine aC hQ ?_;simp only [ay,az,Option.some.injEq,exists_eq_left',go_sem,hF,hP,gA,gB];repeat' (first | exact Ok.out | with_reducible refine aH ?_ ?_ | (simp;done))))
 | cons v rest=>
  obtain⟨hP,g2,hF,g4⟩:=drop_cons h1
  have bW:k<4611686018427387904:=by omega
  have hv:=Sm.bT (List.mem_of_getElem? hP)
  have oG:Sm.aR v.aQ<N∧Sm.aR v.aM<N:=by
   obtain⟨_,_,_,_,_,_,_,_,_,_⟩:=v
   simp only [Sm.size]at hv ⊢;omega
  simp only [dw]at h2
  by_cases hc:out.length≤200
  ·have c1:decide ((out.length:Int)≤200)=true:=by simp;omega
   simp only [c1, ↓reduceIte,JJ]at h2
   have gA:(out.length+1)*233≤bl:=by unfold bl;omega
   have ml:(out++ [(⟨v,deep,bO,aM⟩:It)]).length≤201:=by simp;omega
   have hw:IntKind.wrap .i64 (deep+1)=deep+1:=cV (by omega) (by omega)
   by_cases aqh:deep≤12
   ·have c2:decide (deep≤12)=true:=by simp;omega
    simp only [c2, ↓reduceIte]at h2
    have f1:=fun {s:St} {t:Nat} (ht:s.aA[t]? = some (some (out++ [(⟨v,deep,bO,aM⟩:It)]).length))=>ih v.aQ (deep+1) v.id false _ oG.1 (by omega) (by omega) ml ht
    have f2:=fun {s:St} {t:Nat} (ht:s.aA[t]? = some (some (dw (deep+1) v.id false (out++ [(⟨v,deep,bO,aM⟩:It)]) v.aQ).length))=>ih v.aM (deep+1) v.id true _ oG.2 (by omega) (by omega) (kR _ _ _ _ ml _) ht
    simp only [List.map_append,List.map_cons,List.map_nil,FQ,List.length_append,List.length_cons,List.length_nil]at f1
    repeat' (first
 | simp only [go_sem,hF,hP,gA,gB,c1,c2,hw,cv]
 | (with_reducible refine CU (f1 (by with_unfolding_all rfl)) ?_)
 | (with_reducible refine CU (f2 (by with_unfolding_all rfl)) ?_)
 | (with_reducible refine aC hQ ?_;simp only [ay,az,Option.some.injEq,exists_eq_left',go_sem,hF,hP,gA,gB];repeat' (first | exact Ok.out | with_reducible refine aH ?_ ?_ | (simp;done))))
    refine dH 0 1 ?_ ?_ (IH (rest,k+1,_,_) ⟨g2,h2,kR _ _ _ _ (kR _ _ _ _ ml _) _,rfl⟩ (Nat.lt_succ_self _))
    ·(simp only [go_sem,hF,hP,gA,gB,aJ bW];try exact bH)
    ·(simp only [go_sem,hF,hP,gA,gB,aJ bW];try exact bH)
   ·have c2:decide (deep≤12)=false:=by simp;omega
    simp only [c2,Bool.false_eq_true, ↓reduceIte]at h2
    repeat' (first
 | simp only [go_sem,hF,hP,gA,gB,c1,c2,cv]
 | (with_reducible refine aC hQ ?_;simp only [ay,az,Option.some.injEq,exists_eq_left',go_sem,hF,hP,gA,gB];repeat' (first | exact Ok.out | with_reducible refine aH ?_ ?_ | (simp;done))))
    refine dH 0 1 ?_ ?_ (IH (rest,k+1,out++ [⟨v,deep,bO,aM⟩],out.length+1) ⟨g2,h2,ml,by simp⟩ (Nat.lt_succ_self _))
    ·(simp only [go_sem,hF,hP,gA,gB,aJ bW,FQ,List.map_append,List.map_cons,List.map_nil];try exact bH)
    ·(simp only [go_sem,hF,hP,gA,gB,aJ bW,FQ,List.map_append,List.map_cons,List.map_nil];try exact bH)
  ·have c1:decide ((out.length:Int)≤200)=false:=by simp;omega
   simp only [c1,Bool.false_eq_true, ↓reduceIte]at h2
   subst h2
   repeat' (first
 | simp only [go_sem,hF,hP,gA,gB,c1]
 | (with_reducible refine aC hQ ?_;simp only [ay,az,Option.some.injEq,exists_eq_left',go_sem,hF,hP,gA,gB];repeat' (first | exact Ok.out | with_reducible refine aH ?_ ?_ | (simp;done))))
theorem Rl {f:Pc} (hs:Sm.aR f.body<4611686018427387000) (s:St):aB Tryz.prog sG [.agg (bG f)] s (.slice .shared 16 (f.flat.map fB)) s:=by
 refine aB.pure ?_ (by simp only [D.bp,D.ok,uY];rfl) (by simp [D.ok,Tag.ok,D9]) s
 have h:=fun s=>U3 hs s
 unfold S0
 refine aB.go Hz rfl fun B Q hB hQ=> ?_
 have⟨hF,hP,gA,gB⟩:=bF
 repeat' (first
 | simp only [go_sem,hF,hP,gA,gB,Pc.flat]
 | (with_reducible refine CU (h _) ?_)
 | (with_reducible first | refine bq fun hc=> ?_ | refine br fun hc=> ?_ | refine bt (fun hc=> ?_) fun hc=> ?_) <;> (try simp only [hc,bs, ↓reduceIte]at h) <;> try simp only [hc]
 | (with_reducible refine aC hQ ?_;simp only [ay,az,bu,bw,go_sem,hF,hP,gA,gB,Pc.flat];repeat' (first | exact Ok.out | with_reducible refine aH ?_ ?_ | (simp;done))))
end Go.Abs

/-! RefMay4 -/

namespace Go.Abs
set_option maxRecDepth 8000
open Go.Proofs
theorem Pc.JK (f:Pc):f.flat.length≤201:=kR _ _ _ _ (Nat.zero_le _) _
theorem XN {p:Pg} (hs:Pc.aR p.procs<4611686018427387000) (s:St):aB Tryz.prog uu [.agg (bA p)] s (.slice .shared 16 (p.all.map fB)) s:=by
 refine aB.pure ?_ (by simp only [D.bp,D.ok,gv];rfl) (by simp [D.ok,Tag.ok,D9]) s
 have hlen:p.procs.length<4611686018427387904:=by have:=Pc.cM p.procs;omega
 generalize hR:p.all=R
 unfold Pg.all at hR
 unfold S0
 refine aB.go Ju rfl fun B Q hB hQ=> ?_
 have⟨hF,hP,gA,gB⟩:=bF
 repeat' (first
 | simp only [go_sem,hF,hP,gA,gB]
 | (with_reducible refine aC hQ ?_;simp only [ay,az,bu,bw,go_sem,hF,hP,gA,gB];repeat' (first | exact Ok.out | with_reducible refine aH ?_ ?_ | (simp;done))))
 refine bh.l6 3 16 rfl ?_
 simp only [go_sem,hF,hP,gA,gB]
 refine cO 1 1 (bh.ind (ι:=List Pc×Nat×List It×Nat) (fun i=>p.procs.drop i.2.1=i.1∧allM i.2.2.1 i.1=R∧i.2.2.1.length≤200∧i.2.2.2=i.2.2.1.length) (fun i=>i.1.length)
  (fun i=> [(1, .ptr 0 0),(3, .slice (.tok 0) 16 (i.2.2.1.map fB)),(7, .slice .shared 5 (p.procs.map bG)),(8, .int .i64 (p.procs.length:Int)),(9, .int .i64 (i.2.1:Int))]) (fun i=>⟨[bA p],[some i.2.2.2]⟩) ?_ (p.procs,0,[],0) ⟨rfl,hR,Nat.zero_le _,rfl⟩)
 rintro⟨rest,k,out,n⟩ ⟨h1,h,h3,h4⟩ IH
 dsimp only at h1 h h3 h4
 subst h4
 cases rest with
 | nil=>
  have hF:=drop_nil h1
  simp only [allM]at h
  subst h
  repeat' (first
 | simp only [go_sem,hF,hP,gA,gB]
 | (with_reducible refine aC hQ ?_;simp only [ay,az,bu,bw,go_sem,hF,hP,gA,gB];repeat' (first | exact Ok.out | with_reducible refine aH ?_ ?_ | (simp;done))))
 | cons f rest=>
  obtain⟨hP,g2,hF,g4⟩:=drop_cons h1
  have bW:k<4611686018427387904:=by omega
  have hf:=Pc.bT (List.mem_of_getElem? hP)
  have hb:Sm.aR f.body<4611686018427387000:=by simp only [Pc.size]at hf;omega
  have iU:=fun s=>Rl hb s
  have ayi:=f.JK
  have gA:(out.length+f.flat.length)*233≤bl:=by unfold bl;omega
  simp only [allM,List.length_append]at h
  have fV:=fun(o:List (List D))=>Je (size:=16) (bytes:=232) (t:=0) (rows:=out.map fB) (new:=f.flat.map fB) (g:= .shared) (s:=⟨o,[some out.length]⟩) (by simpa using gA) (by simp)
  repeat' (first
 | simp only [go_sem,hF,hP,gA,gB,fV]
 | (with_reducible refine CU (iU _) ?_)
 | (with_reducible first | refine bq fun hc=> ?_ | refine br fun hc=> ?_ | refine bt (fun hc=> ?_) fun hc=> ?_) <;> (try simp only [hc,bs, ↓reduceIte]at h) <;> try simp only [hc]
 | (with_reducible refine aC hQ ?_;(try cases h);simp only [ay,az,bu,bw,go_sem,hF,hP,gA,gB,fV];repeat' (first | exact Ok.out | with_reducible refine aH ?_ ?_ | (simp;done))))
  refine dH 1 1 ?_ ?_ (IH (rest,k+1,out++f.flat,out.length+f.flat.length) ⟨g2,h,by rename_i hc;simp only [decide_eq_false_iff_not]at hc;simp only [List.length_append];omega,by simp⟩ (Nat.lt_succ_self _))
  ·(simp only [go_sem,hF,hP,gA,gB,aJ bW];try exact bH)
  ·(simp only [go_sem,hF,hP,gA,gB,aJ bW];try exact bH)
structure Pg.mX (p:Pg):Prop where
 sz:p.size<4611686018427387000
 yY : ∀ t∈p.globals,t.length<4611686018427387904
 lQ : ∀ f∈p.procs,f.name.length<4611686018427387904∧(∀ t∈f.vars,t.length<4611686018427387904)∧(∀ t∈f.fin,t.length<4611686018427387904)∧∀ a∈f.params,a.name.length<4611686018427387904
 items : ∀ i∈p.all,i.s.mX
end Go.Abs
